import Derived.Test.YtmmfimkbcnfgfaaGreatEvRel
import Derived.Laws.Cells
/- What the model's memory does where the abstract heap stands for it. -/
namespace Go.Ev

theorem onO_some {α β : Type} (x : α) (c : α → β) (d : β) : onO (some x) c d = c x := rfl
theorem onO_none {α β : Type} (c : α → β) (d : β) : onO none c d = d := rfl
theorem onB_true {β : Type} (x y : β) : onB true x y = x := rfl
theorem onB_false {β : Type} (x y : β) : onB false x y = y := rfl
theorem not_good_bad (w : String) : ¬ (bad w).Good := fun h => h
theorem onO_good {α : Type} {o : Option α} {c : α → R} {w : String} {r : R} (h : onO o c (bad w) = r) (hr : r.Good) : ∃ x, o = some x ∧ c x = r := by
  cases o with
  | some x => exact ⟨x, rfl, h⟩
  | none => subst h; exact hr.elim
theorem onB_good {b : Bool} {x : R} {w : String} {r : R} (h : onB b x (bad w) = r) (hr : r.Good) : b = true ∧ x = r := by
  cases b with
  | true => exact ⟨rfl, h⟩
  | false => subst h; exact hr.elim
theorem asInt_good {x : AV} {c : IntKind → Int → R} {w : String} {r : R} (h : asInt x c (bad w) = r) (hr : r.Good) : ∃ k n, x = .int k n ∧ c k n = r := by
  cases x with
  | int k n => exact ⟨k, n, rfl, h⟩
  | _ => subst h; exact hr.elim
theorem asBool_good {x : AV} {c : Bool → R} {w : String} {r : R} (h : asBool x c (bad w) = r) (hr : r.Good) : ∃ b, x = .bool b ∧ c b = r := by
  cases x with
  | bool b => exact ⟨b, rfl, h⟩
  | _ => subst h; exact hr.elim
theorem asPtr_good {x : AV} {c : Nat → Nat → R} {w : String} {r : R} (h : asPtr x c (bad w) = r) (hr : r.Good) : ∃ b o, x = .ptr b o ∧ c b o = r := by
  cases x with
  | ptr b o => exact ⟨b, o, rfl, h⟩
  | _ => subst h; exact hr.elim
theorem asSlice_good {x : AV} {c : Nat → Nat → Nat → Nat → R} {w : String} {r : R} (h : asSlice x c (bad w) = r) (hr : r.Good) : ∃ b o l n, x = .slice b o l n ∧ c b o l n = r := by
  cases x with
  | slice b o l n => exact ⟨b, o, l, n, rfl, h⟩
  | _ => subst h; exact hr.elim
theorem asTup_good {x : AV} {c : List AV → R} {w : String} {r : R} (h : asTup x c (bad w) = r) (hr : r.Good) : ∃ l, x = .tup l ∧ c l = r := by
  cases x with
  | tup l => exact ⟨l, rfl, h⟩
  | _ => subst h; exact hr.elim
theorem aggOf_good {x : AV} {c : List AV → R} {w : String} {r : R} (h : aggOf x c (bad w) = r) (hr : r.Good) : ∃ l, x = .agg l ∧ c l = r := by
  cases x with
  | agg l => exact ⟨l, rfl, h⟩
  | _ => subst h; exact hr.elim
theorem strOf_good {x : AV} {c : List UInt8 → R} {w : String} {r : R} (h : strOf x c (bad w) = r) (hr : r.Good) : ∃ l, x = .str l ∧ c l = r := by
  cases x with
  | str l => exact ⟨l, rfl, h⟩
  | _ => subst h; exact hr.elim
theorem natOf_good {x : AV} {c : Nat → R} {w : String} {r : R} (h : natOf x c (bad w) = r) (hr : r.Good) : ∃ k n, x = .int k (.ofNat n) ∧ c n = r := by
  cases x with
  | int k n =>
    cases n with
    | ofNat n => exact ⟨k, n, rfl, h⟩
    | negSucc n => subst h; exact hr.elim
  | _ => subst h; exact hr.elim
theorem natF_eq {β : Type} (n : Nat) (k : Nat → β) : natF n k = k n := by cases n <;> rfl
theorem intF_eq {β : Type} (n : Int) (k : Int → β) : intF n k = k n := by
  cases n with
  | ofNat m => exact natF_eq m fun m => k (.ofNat m)
  | negSucc m => exact natF_eq m fun m => k (.negSucc m)
theorem cellsAt_good {w : String} {H : AH} {b : Nat} {k : List AV → TypeId → Bool → R} {r : R} (h : cellsAt w H b k = r) (hr : r.Good) :
    ∃ c e z, H.m.get b = some (.cells c e z) ∧ k c e z = r := by
  unfold cellsAt at h
  obtain ⟨o, ho, h⟩ := onO_good h hr
  cases o with
  | cells c e z => exact ⟨c, e, z, ho, h⟩
  | map => subst h; exact hr.elim
  | strIter => subst h; exact hr.elim
theorem wcellsAt_good {w : String} {H : AH} {b : Nat} {k : List AV → TypeId → R} {r : R} (h : wcellsAt w H b k = r) (hr : r.Good) :
    ∃ c e, H.m.get b = some (.cells c e true) ∧ k c e = r := by
  obtain ⟨c, e, z, hg, h⟩ := cellsAt_good h hr
  obtain ⟨hz, h⟩ := onB_good h hr
  subst hz
  exact ⟨c, e, hg, h⟩
theorem lenL_eq {α : Type} (l : List α) : lenL l = l.length := by
  induction l with
  | nil => rfl
  | cons x l ih => show Nat.succ (lenL l) = _; rw [ih]; rfl

theorem ofCell_rel {ι : Inj} {v : Value} {x : AV} (h : ofCell v = some x) : AVRel ι x v := by
  unfold ofCell at h
  split at h <;> first | (cases h; constructor; done) | (cases h; exact .str _) | cases h
theorem ofCells_rel {ι : Inj} : ∀ {l : List Value} {m : List AV}, ofCells l = some m → LRel ι m l
  | [], m, h => by simp only [ofCells] at h; cases h; exact LRel.nil ι
  | v :: r, m, h => by
    simp only [ofCells] at h
    split at h
    · rename_i x l hx hl
      cases h
      exact LRel.cons (ofCell_rel hx) (ofCells_rel hl)
    · cases h
theorem ofV_rel {ι : Inj} {v : Value} {x : AV} (h : ofV v = some x) : AVRel ι x v := by
  unfold ofV at h
  split at h
  · rename_i cs
    split at h
    · rename_i l hl
      cases h
      obtain ⟨cs⟩ := cs
      exact .agg (ofCells_rel (ι := ι) hl).1 (ofCells_rel (ι := ι) hl).2
    · cases h
  · split at h
    · rename_i hx; cases h; exact .iface (ofCell_rel hx)
    · cases h
  · rename_i cs
    obtain ⟨cs⟩ := cs
    split at h
    · rename_i e; cases h; simp at e; subst e; exact undef_rel ι
    · cases h
  · exact ofCell_rel h

section
variable {n : Nat} {ι : Inj} {T : Tm} {a : Act}
theorem tmp_rel (ht : TRel n ι T a) (t : Tmp) : AVRel ι ((T.t.get t).getD undefA) (a.eval (.tmp t)) := by
  show AVRel ι _ (a.tmps.getD t undef)
  rcases Nat.lt_or_ge t n with h | h
  · exact ht.get t h
  · rw [ht.out t h, show a.tmps.getD t undef = undef from by simp [Array.getD, ht.size, Nat.not_lt.2 h]]
    exact undef_rel ι
theorem withO_good {x : Operand} {k : AV → R} {r : R} (h : withO (px x) T k = r) (hr : r.Good) (ht : TRel n ι T a) : ∃ v, k v = r ∧ AVRel ι v (a.eval x) := by
  cases x with
  | tmp t =>
    refine ⟨(T.t.get t).getD undefA, ?_, tmp_rel ht t⟩
    rw [← h]
    show _ = Option.rec (motive := fun _ => R) (k undefA) k (T.t.getP (pathOf t))
    rw [Fr.getP_pathOf]
    cases T.t.get t <;> rfl
  | const v =>
    simp only [px] at h
    split at h
    · rename_i x hx; exact ⟨x, h, ofV_rel hx⟩
    · subst h; exact hr.elim
  | global g =>
    have h' : withO (Bool.rec .none (.const (.ptr g 0)) (Nat.ble (Nat.succ g) gN)) T k = r := h
    by_cases hg : g < gN
    · rw [ble_t hg] at h'
      obtain ⟨s, q, e⟩ := ht.glob g hg
      exact ⟨.ptr g 0, h', .ptr (o := 0) e⟩
    · rw [ble_f hg] at h'
      have : bad "operand" = r := h'
      subst this; exact hr.elim
  | func f => exact ⟨_, h, .func trivial rfl (fun i x y h => by simp at h) rfl (fun i x y h => by simp at h)⟩
theorem withAll_good : ∀ {xs : List Operand} {k : List AV → R} {r : R}, withAll (pxs xs) T k = r → r.Good → TRel n ι T a → ∃ l, k l = r ∧ LRel ι l (xs.map a.eval)
  | [], k, r, h, _, _ => ⟨[], h, LRel.nil ι⟩
  | x :: xs, k, r, h, hr, ht => by
    have h' : withO (px x) T (fun v => withAll (pxs xs) T fun l => k (v :: l)) = r := h
    obtain ⟨v, h', hv⟩ := withO_good h' hr ht
    obtain ⟨l, h', hl⟩ := withAll_good h' hr ht
    exact ⟨v :: l, h', LRel.cons hv hl⟩
theorem withOpt_good {x : Option Operand} {k : Option AV → R} {r : R} (h : withOpt (optX x) T k = r) (hr : r.Good) (ht : TRel n ι T a) :
    (x = none ∧ k none = r) ∨ ∃ y v, x = some y ∧ k (some v) = r ∧ AVRel ι v (a.eval y) := by
  cases x with
  | none => exact .inl ⟨rfl, h⟩
  | some y =>
    obtain ⟨v, h, hv⟩ := withO_good (x := y) (k := fun v => k (some v)) h hr ht
    exact .inr ⟨y, v, rfl, h, hv⟩
theorem withParts_good : ∀ {xs : List (Nat × Operand)} {k : List (Nat × AV) → R} {r : R}, withParts (pxParts xs) T k = r → r.Good → TRel n ι T a →
    ∃ l, k l = r ∧ l.map (·.1) = xs.map (·.1) ∧ LRel ι (l.map (·.2)) (xs.map fun x => a.eval x.2)
  | [], k, r, h, _, _ => ⟨[], h, rfl, LRel.nil ι⟩
  | (i, x) :: xs, k, r, h, hr, ht => by
    have h' : withO (px x) T (fun v => withParts (pxParts xs) T fun l => k ((i, v) :: l)) = r := h
    obtain ⟨v, h', hv⟩ := withO_good h' hr ht
    obtain ⟨l, h', hi, hl⟩ := withParts_good h' hr ht
    exact ⟨(i, v) :: l, h', by simp [hi], LRel.cons hv hl⟩
end

section
variable {P : Program} {ι : Inj} {H : AH} {w : World}
/-- A block that a pointer leads to. -/
theorem cells_of {b : Nat} {c : List AV} {e : TypeId} {z : Bool} {x : Loc} (h : HRel ι H w) (hg : H.m.get b = some (.cells c e z)) (hx : ι b = some x) :
    ∃ c' e' fz, w.heap[x.1]? = some (.cells c' e' fz) ∧ (∀ (i : Nat) v, c[i]? = some v → ∃ y, c'[x.2 + i]? = some y ∧ AVRel ι v y) ∧ (z = true → (x.ro = false ∧ e' = e) ∧ FzOk c'.size fz) ∧ c'.size = x.3 := by
  obtain ⟨y, o', hy, hw, hr⟩ := h.get b _ hg
  rw [hx] at hy; cases hy
  cases hr with
  | cells hn hc hk hf => exact ⟨_, _, _, hw, hc, fun e => ⟨hk e, hf e⟩, hn⟩
theorem cell_at {b' o : Nat} {c' : Array Value} {e : TypeId} {fz : Nat × Nat} (hw : w.heap[b']? = some (.cells c' e fz)) : w.cell? ⟨b', o, none⟩ = c'[o]? := by
  simp [World.cell?, hw]
theorem frozen_at {b' o : Nat} {c' : Array Value} {e : TypeId} {fz : Nat × Nat} (hw : w.heap[b']? = some (.cells c' e fz)) (ho : o < c'.size)
    (hf : ∀ i, i < c'.size → ¬(fz.1 ≤ i ∧ i < fz.2)) : w.frozen? ⟨b', o, none⟩ = false := by
  have h := hf o ho
  obtain ⟨lo, hi⟩ := fz
  simp only [World.frozen?, hw]
  simpa using h
theorem addr_add (b o j : Nat) : (⟨b, o, none⟩ : Addr).add j = ⟨b, o + j, none⟩ := by unfold Addr.add; split <;> simp_all

theorem shapeA_none {t : TypeId} (h : shapeA P t = some none) : (∀ w, (isAgg t).run P w = .ok false w) ∧ ∃ i, P.info? t = some i := by
  unfold shapeA at h
  split at h
  · simp at h
  · rename_i n ha hs
    unfold isAggA at ha
    unfold szA at hs
    split at ha
    · cases ha
    · cases ha
    · rename_i d h1 h2 hd
      refine ⟨fun w => ?_, ?_⟩
      · simp only [isAgg, Sem.run_bind, run_underlying hd, Result.andThen_ok]
        cases d <;> first | rfl | (exact (h1 _ rfl).elim) | (exact (h2 _ _ rfl).elim)
      · split at hs
        · rename_i i hi; exact ⟨i, hi⟩
        · cases hs
    · cases ha
  · cases h
theorem run_sizeOf' {t : TypeId} {n : Nat} (h : szA P t = some n) (w : World) : (sizeOf t).run P w = .ok n w := by
  unfold szA at h
  split at h
  · rename_i i hi; cases h; simp [sizeOf, typeInfo, hi]
  · cases h
theorem shapeA_some {t : TypeId} {n : Nat} (h : shapeA P t = some (some n)) : (∀ w, (isAgg t).run P w = .ok true w) ∧ szA P t = some n := by
  unfold shapeA at h
  split at h
  · rename_i m ha hs
    cases h
    refine ⟨fun w => ?_, hs⟩
    unfold isAggA at ha
    split at ha
    · rename_i fs hd; simp only [isAgg, Sem.run_bind, run_underlying hd, Result.andThen_ok]; rfl
    · rename_i k e hd; simp only [isAgg, Sem.run_bind, run_underlying hd, Result.andThen_ok]; rfl
    · cases ha
    · cases ha
  · simp at h
  · cases h
theorem run_loadVar1 {t : TypeId} (hs : shapeA P t = some none) {b' o : Nat} {c' : Array Value} {e : TypeId} {fz : Nat × Nat} (hw : w.heap[b']? = some (.cells c' e fz)) {y : Value}
    (hy : c'[o]? = some y) : (loadVar t ⟨b', o, none⟩).run P w = .ok y w := by
  simp only [loadVar, Sem.run_bind, (shapeA_none hs).1 w, Result.andThen_ok, Bool.false_eq_true, if_false, run_load, cell_at hw, hy]
theorem run_loadVarN {t : TypeId} {n : Nat} (hs : shapeA P t = some (some n)) {b' o : Nat} {c' : Array Value} {e : TypeId} {fz : Nat × Nat} (hw : w.heap[b']? = some (.cells c' e fz))
    {l : List Value} (hl : l.length = n) (h : ∀ (j : Nat) v, l[j]? = some v → c'[o + j]? = some v) : (loadVar t ⟨b', o, none⟩).run P w = .ok (.agg ⟨l⟩) w := by
  subst hl
  simp only [loadVar, Sem.run_bind, (shapeA_some hs).1 w, Result.andThen_ok, if_true, run_sizeOf' (shapeA_some hs).2 w,
    run_loadCells_list (P := P) w ⟨b', o, none⟩ l (fun j v hv => by rw [addr_add, cell_at hw]; exact h j v hv), Sem.run_pure]
/-- Cells that stand one behind the other, read. -/
theorem row_rel {c : List AV} {c' : Array Value} {s o n : Nat} {l : List AV} (hc : ∀ (i : Nat) v, c[i]? = some v → ∃ y, c'[s + i]? = some y ∧ AVRel ι v y) (h : takeL n (dropL o c) = some l) :
    ∃ l' : List Value, l'.length = n ∧ LRel ι l l' ∧ ∀ (j : Nat) v, l'[j]? = some v → c'[s + o + j]? = some v := by
  rw [takeL_eq, dropL_eq] at h
  split at h
  · rename_i hn
    cases h
    simp only [List.length_drop] at hn
    have hget : ∀ j, j < n → ∃ x y, c[o + j]? = some x ∧ c'[s + o + j]? = some y ∧ AVRel ι x y := by
      intro j hj
      have hlt : o + j < c.length := by omega
      obtain ⟨y, hy, hr⟩ := hc (o + j) _ (List.getElem?_eq_getElem hlt)
      exact ⟨_, y, List.getElem?_eq_getElem hlt, by rw [← hy, Nat.add_assoc], hr⟩
    refine ⟨(List.range n).map fun j => (c'[s + o + j]?).getD undef, by simp, ⟨by simp; omega, fun i x y hx hy => ?_⟩, fun j v hv => ?_⟩
    · rw [List.getElem?_take] at hx
      split at hx
      · rename_i hi
        rw [List.getElem?_drop] at hx
        obtain ⟨x', y', e1, e2, r⟩ := hget i hi
        rw [e1] at hx; cases hx
        rw [List.getElem?_map, List.getElem?_range hi] at hy
        simp only [Option.map_some, e2, Option.getD_some] at hy
        cases hy; exact r
      · cases hx
    · have hj : j < n := by
        rcases Nat.lt_or_ge j n with h | h
        · exact h
        · rw [List.getElem?_eq_none (by simpa using h)] at hv; cases hv
      obtain ⟨x', y', e1, e2, r⟩ := hget j hj
      rw [List.getElem?_map, List.getElem?_range hj] at hv
      simp only [Option.map_some, e2, Option.getD_some] at hv
      rw [e2, hv]
  · cases h
/-- Cells are stored one behind the other. -/
theorem run_storeCells {b o : Nat} {e : TypeId} {fz : Nat × Nat} : ∀ (vs : List Value) (i : Nat) (cur : Array Value) (w : World), w.heap[b]? = some (.cells cur e fz) → (vs ≠ [] → o + i + vs.length ≤ cur.size) →
    (∀ v ∈ vs, v.oneCell' = true) → (∀ i, i < cur.size → ¬(fz.1 ≤ i ∧ i < fz.2)) →
    ∃ w1 cur1, (storeCells ⟨b, o, none⟩ vs i).run P w = .ok () w1 ∧ w1.heap = w.heap.setIfInBounds b (.cells cur1 e fz) ∧ cur1.size = cur.size ∧
      (∀ (j : Nat), cur1[j]? = if o + i ≤ j ∧ j < o + i + vs.length then vs[j - (o + i)]? else cur[j]?) ∧ w1.os = w.os ∧ w1.output = w.output ∧ w1.tape = w.tape
  | [], i, cur, w, hw, _, _, _ => by
    refine ⟨w, cur, rfl, ?_, rfl, fun j => ?_, rfl, rfl, rfl⟩
    · apply Array.ext_getElem?
      intro k
      by_cases hk : b = k
      · subst hk
        have hlt : b < w.heap.size := by
          rcases Nat.lt_or_ge b w.heap.size with h | h
          · exact h
          · rw [Array.getElem?_eq_none h] at hw; cases hw
        rw [hw]; simp [hlt]
      · rw [Array.getElem?_setIfInBounds_ne hk]
    · rw [if_neg (by simp)]
  | v :: vs, i, cur, w, hw, hle, hone, hf => by
    have hle := hle (by simp)
    simp only [List.length_cons] at hle
    have hi : o + i < cur.size := by omega
    have hv : v.oneCell' = true := hone v (by simp)
    have hcell : w.cell? ⟨b, o + i, none⟩ = some cur[o + i] := by rw [cell_at hw, Array.getElem?_eq_getElem hi]
    have hlt : b < w.heap.size := by
      rcases Nat.lt_or_ge b w.heap.size with h | h
      · exact h
      · rw [Array.getElem?_eq_none h] at hw; cases hw
    have hset : (w.setCell ⟨b, o + i, none⟩ v).heap = w.heap.setIfInBounds b (.cells (cur.setIfInBounds (o + i) v) e fz) := by
      apply Array.ext_getElem?
      intro k
      by_cases hk : b = k
      · subst hk; simp only [World.setCell, Array.getElem?_modify, if_true, hw]; simp [hlt]
      · rw [Array.getElem?_setIfInBounds_ne hk]; simp only [World.setCell, Array.getElem?_modify, if_neg hk]
    obtain ⟨w1, cur1, hrun, hheap, hsz, hg, h1, h2, h3⟩ := run_storeCells (b := b) (o := o) (e := e) (fz := fz) vs (i + 1) (cur.setIfInBounds (o + i) v) (w.setCell ⟨b, o + i, none⟩ v)
      (by rw [hset]; simp [hlt]) (fun _ => by simp; omega) (fun x hx => hone x (by simp [hx])) (by simpa using hf)
    refine ⟨w1, cur1, ?_, ?_, by simpa using hsz, fun j => ?_, h1, h2, h3⟩
    · simp only [storeCells, Sem.run_bind, addr_add]
      rw [run_store P w _ v .plain hv, hcell]
      simp only [frozen_at hw hi hf, Bool.false_eq_true, if_false, Result.andThen_ok]
      exact hrun
    · rw [hheap, hset]
      apply Array.ext_getElem?
      intro k
      by_cases hk : b = k
      · subst hk; simp [hlt]
      · rw [Array.getElem?_setIfInBounds_ne hk, Array.getElem?_setIfInBounds_ne hk, Array.getElem?_setIfInBounds_ne hk]
    · rw [hg j]
      simp only [List.length_cons]
      by_cases hj : o + (i + 1) ≤ j ∧ j < o + (i + 1) + vs.length
      · rw [if_pos hj, if_pos (by omega), show j - (o + i) = (j - (o + (i + 1))) + 1 from by omega]; simp
      · rw [if_neg hj]
        by_cases hj' : j = o + i
        · subst hj'; rw [if_pos (by omega)]; simp [hi]
        · rw [if_neg (by omega), Array.getElem?_setIfInBounds_ne (fun e => hj' e.symm)]
theorem oneCell_of {v : AV} {v' : Value} (h : isOne v = true) (r : AVRel ι v v') : v'.oneCell' = true := by cases r <;> first | rfl | cases h
theorem cellsV_rel {v : AV} {v' : Value} (r : AVRel ι v v') : LRel ι (cellsV v) v'.cells.toList := by
  cases r with
  | agg hl h => exact ⟨hl, h⟩
  | ptr h => exact LRel.cons (.ptr h) (LRel.nil ι)
  | slice h hc => exact LRel.cons (.slice h hc) (LRel.nil ι)
  | map h h0 => exact LRel.cons (.map h h0) (LRel.nil ι)
  | func hp lf hf lc hc => exact LRel.cons (.func hp lf hf lc hc) (LRel.nil ι)
  | iface h => exact LRel.cons (.iface h) (LRel.nil ι)
  | tup hl h => exact LRel.cons (.tup hl h) (LRel.nil ι)
  | _ => exact LRel.cons (by constructor) (LRel.nil ι)
theorem allOne_rel {l : List AV} {l' : List Value} (h : allOne l = true) (r : LRel ι l l') : ∀ v ∈ l', v.oneCell' = true := by
  induction l generalizing l' with
  | nil => rw [r.nil_inv]; simp
  | cons x l ih =>
    obtain ⟨y, t, rfl, hx, hl⟩ := r.head
    have h' : Bool.rec (motive := fun _ => Bool) false (allOne l) (isOne x) = true := h
    cases h1 : isOne x with
    | false => rw [h1] at h'; cases h'
    | true =>
      rw [h1] at h'
      intro v hv
      rcases List.mem_cons.1 hv with rfl | hv
      · exact oneCell_of h1 hx
      · exact ih h' hl v hv
/-- Cells written over in a block of both heaps. -/
theorem put_splice (hr : HRel ι H w) {b o : Nat} {c c1 : List AV} {e : TypeId} {x : Loc} (hg : H.m.get b = some (.cells c e true)) (hx : ι b = some x) {vs : List AV} {vs' : List Value}
    (hs : splice o vs c = some c1) (hv : LRel ι vs vs') (hone : ∀ v ∈ vs', v.oneCell' = true) (l : List Nat) (hl : l = b :: H.log := by rfl) :
    ∃ w1, (storeCells ⟨x.1, x.2 + o, none⟩ vs' 0).run P w = .ok () w1 ∧ St ι H w ι ⟨H.m.upd b (some (.cells c1 e true)), H.nxt, l⟩ w1 := by
  obtain ⟨c', e', fz, hw, hc, hrf, hn⟩ := cells_of hr hg hx
  obtain ⟨⟨hro, he2⟩, hf⟩ := hrf rfl
  have he2 := he2.symm
  subst he2
  rw [splice_eq] at hs
  split at hs
  · rename_i hle
    cases hs
    have hlast : ∀ i, i < c.length → x.2 + i < c'.size := by
      intro i hi
      obtain ⟨y, hy, _⟩ := hc i _ (List.getElem?_eq_getElem hi)
      rcases Nat.lt_or_ge (x.2 + i) c'.size with h | h
      · exact h
      · rw [Array.getElem?_eq_none h] at hy; cases hy
    have hsz : vs' ≠ [] → x.2 + o + 0 + vs'.length ≤ c'.size := by
      intro hne
      have hpos : 0 < vs'.length := List.length_pos_iff.2 hne
      rw [← hv.1] at hpos ⊢
      have := hlast (o + vs.length - 1) (by omega)
      omega
    obtain ⟨w1, cur1, hrun, hheap, hsz1, hg1, h1, h2, h3⟩ := run_storeCells (P := P) (b := x.1) (o := x.2 + o) (e := e) (fz := fz) vs' 0 c' w hw hsz hone hf.free
    refine ⟨w1, hrun, St.put hr hg hx hro (.cells (c' := cur1) (fz := fz) (hsz1.trans hn) (fun i v hi => ?_) (fun _ => ⟨hro, rfl⟩) (fun _ => by rw [hsz1]; exact hf)) hheap h1 h2 h3 l hl⟩
    rw [hg1]
    have hil : i < (c.take o ++ vs ++ c.drop (o + vs.length)).length := by
      rcases Nat.lt_or_ge i (c.take o ++ vs ++ c.drop (o + vs.length)).length with h | h
      · exact h
      · rw [List.getElem?_eq_none h] at hi; cases hi
    have hlen : (c.take o ++ vs ++ c.drop (o + vs.length)).length = c.length := by simp; omega
    by_cases hin : o ≤ i ∧ i < o + vs.length
    · rw [if_pos (by rw [← hv.1]; omega)]
      have : vs[i - o]? = some v := by
        rw [List.append_assoc, List.getElem?_append_right (by simp; omega)] at hi
        simp only [List.length_take] at hi
        rw [List.getElem?_append_left (by omega), show i - min o c.length = i - o from by omega] at hi
        exact hi
      obtain ⟨y, hy, hyr⟩ := hv.get this
      exact ⟨y, by rw [← hy]; congr 1; omega, hyr⟩
    · rw [if_neg (by rw [← hv.1]; omega)]
      refine hc i v ?_
      rw [← hi]
      by_cases h : i < o
      · rw [List.append_assoc, List.getElem?_append_left (by simp; omega), List.getElem?_take, if_pos h]
      · rw [List.getElem?_append_right (by simp; omega), List.getElem?_drop]
        congr 1
        simp
        omega
  · cases hs
end
end Go.Ev
