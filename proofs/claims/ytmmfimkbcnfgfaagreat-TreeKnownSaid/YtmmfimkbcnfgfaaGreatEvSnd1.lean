import Derived.Test.YtmmfimkbcnfgfaaGreatEvMem
/- Each operation of the abstract evaluator does what the model's does: memory, addresses. -/
namespace Go.Ev

/-- What an operation does on the abstract heap it does in the model. -/
def OpSnd (P : Program) (f : F) (o : Oper) : Prop :=
  ∀ (n : Nat) (T : Tm) (H : AH) (k : AV → AH → R) (r : R), f T H k = r → r.Good → ∀ (ι : Inj) (a : Act) (w : World), TRel n ι T a → HRel ι H w →
    ∃ v H1 κ v' w1, k v H1 = r ∧ St ι H w κ H1 w1 ∧ AVRel κ v v' ∧
      ((execOp a.eval o).run P w = .ok (.value v') w1 ∨ (v' = undef ∧ (execOp a.eval o).run P w = .ok .skip w1))
section
variable {P : Program} {f : F} {o : Oper}
theorem OpSnd.quiet (h : ∀ (n : Nat) (T : Tm) (H : AH) (k : AV → AH → R) (r : R), f T H k = r → r.Good → ∀ (ι : Inj) (a : Act) (w : World), TRel n ι T a → HRel ι H w →
    ∃ v v', k v H = r ∧ AVRel ι v v' ∧ (execOp a.eval o).run P w = .ok (.value v') w) : OpSnd P f o :=
  fun n T H k r e hr ι a w ht hh => let ⟨v, v', hk, hv, hx⟩ := h n T H k r e hr ι a w ht hh; ⟨v, H, ι, v', w, hk, .refl hh, hv, .inl hx⟩

theorem snd_move {x : Operand} (ho : o.op = .move x ∨ o.op = .assign x) : OpSnd P (moveF (px x)) o := .quiet fun n T H k r e hr ι a w ht _ => by
  obtain ⟨v, hk, hv⟩ := withO_good e hr ht
  refine ⟨v, _, hk, hv, ?_⟩
  rcases ho with ho | ho <;> simp [execOp, ho]
theorem snd_pick {s : String} {c x y : Operand} (ho : o.op = .pick c x y) : OpSnd P (pickF s (px c) (px x) (px y)) o := .quiet fun n T H k r e hr ι a w ht _ => by
  obtain ⟨v, hk, hv⟩ := withO_good e hr ht
  obtain ⟨b, rfl, hk⟩ := asBool_good hk hr
  generalize hc : a.eval c = c' at hv
  cases hv
  cases b with
  | true =>
    obtain ⟨u, hk, hu⟩ := withO_good hk hr ht
    exact ⟨u, _, hk, hu, by simp [execOp, ho, Go.asBool, hc]⟩
  | false =>
    obtain ⟨u, hk, hu⟩ := withO_good hk hr ht
    exact ⟨u, _, hk, hu, by simp [execOp, ho, Go.asBool, hc]⟩
/-- A new row of cells. -/
theorem new_row {ι : Inj} {H : AH} {w : World} (hh : HRel ι H w) {e : TypeId} {c : List AV} {c' : Array Value} {z : Bool} (hl : LRel ι c c'.toList) {k : Nat → AH → R} {r : R}
    (hk : H.new (.cells c e z) k = r) : ∃ κ H1, k H.nxt H1 = r ∧ St ι H w κ H1 { w with heap := w.heap.push (.cells c' e) } ∧ κ H.nxt = some ⟨w.heap.size, 0, c'.size, false⟩ := by
  obtain ⟨m, n, l⟩ := H
  have hk' : natF n (fun n => k n ⟨m.upd n (some (.cells c e z)), n + 1, l⟩) = r := hk
  rw [natF_eq] at hk'
  refine ⟨_, _, hk', St.new (w' := { w with heap := w.heap.push (.cells c' e) }) hh (.cells (c' := c') (fz := (0, 0)) rfl (fun i x hx => ?_) (fun _ => ⟨rfl, rfl⟩) (fun _ => .inl rfl)) rfl rfl rfl rfl l, Inj.ext_self _ _ _⟩
  obtain ⟨y, hy, hr⟩ := hl.get hx
  exact ⟨y, by rw [Nat.zero_add, ← Array.getElem?_toList]; exact hy, hr⟩
theorem zeroA_of {t : TypeId} {z : AV} (h : zeroA P t = some z) : ∃ i zv, P.info? t = some i ∧ i.zero = some zv ∧ ofV zv = some z := by
  unfold zeroA at h
  split at h
  · rename_i i hi
    split at h
    · rename_i zv hz; exact ⟨i, zv, hi, hz, h⟩
    · cases h
  · cases h
theorem run_zeroValue' {t : TypeId} {i : TypeInfo} {zv : Value} (hi : P.info? t = some i) (hz : i.zero = some zv) (w : World) : (zeroValue t).run P w = .ok zv w := by
  simp [zeroValue, typeInfo, hi, hz]
theorem snd_alloc {e : TypeId} {z : AV} (ho : o.op = .alloc e) (hz : zeroA P e = some z) : OpSnd P (allocF e (cellsV z)) o := fun n T H k r h hr ι a w ht hh => by
  obtain ⟨i, zv, hi, hzv, hof⟩ := zeroA_of hz
  obtain ⟨κ, H1, hk, hst, hκ⟩ := new_row hh (c' := zv.cells) (cellsV_rel (ofV_rel hof)) (show H.new (.cells (cellsV z) e true) (fun n H => k (.ptr n 0) H) = r from h)
  refine ⟨_, H1, κ, _, _, hk, hst, .ptr hκ, .inl ?_⟩
  simp [execOp, ho, Instr.alloc, run_zeroValue' hi hzv, newVar, newRow]
theorem snd_box {e : TypeId} {x : Operand} (ho : o.op = .box e x) : OpSnd P (boxF e (px x)) o := fun n T H k r h hr ι a w ht hh => by
  obtain ⟨v, h, hv⟩ := withO_good h hr ht
  obtain ⟨κ, H1, hk, hst, hκ⟩ := new_row hh (c' := (a.eval x).cells) (cellsV_rel hv) (show H.new (.cells (cellsV v) e true) (fun n H => k (.ptr n 0) H) = r from h)
  refine ⟨_, H1, κ, _, _, hk, hst, .ptr hκ, .inl ?_⟩
  simp [execOp, ho, Instr.box, newVar, newRow]

theorem ptr_inv {ι : Inj} {b o : Nat} {v : Value} (h : AVRel ι (.ptr b o) v) : ∃ x, ι b = some x ∧ v = .pointer (some ⟨x.1, x.2 + o, none⟩) := by
  cases h with
  | ptr h => exact ⟨_, h, rfl⟩
theorem snd_load1 {s : String} {t : TypeId} {x : Operand} (ho : o.op = .load t x) (hs : shapeA P t = some none) : OpSnd P (load1F s (px x)) o := .quiet fun n T H k r h hr ι a w ht hh => by
  obtain ⟨v, h, hv⟩ := withO_good h hr ht
  obtain ⟨b, off, e0, h1'⟩ := asPtr_good h hr; clear h; subst e0; have h := h1'; clear h1'
  obtain ⟨c, e, z, hg, h⟩ := cellsAt_good h hr
  obtain ⟨u, hu, h⟩ := onO_good h hr
  obtain ⟨y, hy, hev⟩ := ptr_inv hv
  obtain ⟨c', e1, fz, hw, hc, hf, hn⟩ := cells_of hh hg hy
  rw [nth_eq] at hu
  obtain ⟨u', hu', hur⟩ := hc off u hu
  refine ⟨u, u', h, hur, ?_⟩
  simp only [execOp, ho, Instr.loadAt, hev, Instr.sureAddr, Sem.run_bind, Sem.run_pure, Result.andThen_ok, run_loadVar1 hs hw hu']
theorem snd_loadN {s : String} {t : TypeId} {x : Operand} {m : Nat} (ho : o.op = .load t x) (hs : shapeA P t = some (some m)) : OpSnd P (loadNF s m (px x)) o := .quiet fun n T H k r h hr ι a w ht hh => by
  obtain ⟨v, h, hv⟩ := withO_good h hr ht
  obtain ⟨b, off, e0, h1'⟩ := asPtr_good h hr; clear h; subst e0; have h := h1'; clear h1'
  obtain ⟨c, e, z, hg, h⟩ := cellsAt_good h hr
  obtain ⟨l, hl, h⟩ := onO_good h hr
  obtain ⟨y, hy, hev⟩ := ptr_inv hv
  obtain ⟨c', e1, fz, hw, hc, hf, hn⟩ := cells_of hh hg hy
  obtain ⟨l', hn, hlr, hcell⟩ := row_rel hc hl
  refine ⟨.agg l, .agg ⟨l'⟩, h, .agg hlr.1 hlr.2, ?_⟩
  simp only [execOp, ho, Instr.loadAt, hev, Instr.sureAddr, Sem.run_bind, Sem.run_pure, Result.andThen_ok, run_loadVarN hs hw hn hcell]

theorem put_eq {H : AH} {b : Nat} {o : AObj} {k : AH → R} : H.put b o k = k ⟨H.m.upd b (some o), H.nxt, b :: H.log⟩ := by cases H; rfl
theorem setNth_eq {α : Type} (n : Nat) (v : α) (l : List α) : setNth n v l = splice n [v] l := by
  induction n generalizing l with
  | zero => cases l <;> rfl
  | succ n ih =>
    cases l with
    | nil => rfl
    | cons x l =>
      rw [splice_succ_cons, ← ih]
      show Option.rec (motive := fun _ => Option (List α)) none (fun y => some (x :: y)) (setNth n v l) = _
      cases setNth n v l <;> rfl
theorem szA_of_shape1 {t : TypeId} (hs : shapeA P t = some none) : ∃ m, szA P t = some m := by
  unfold shapeA at hs
  split at hs
  · cases hs
  · rename_i hz; exact ⟨_, hz⟩
  · cases hs
theorem run_storeVar {t : TypeId} {m : Nat} {b off : Nat} {v : Value} {w w1 : World} (hz : szA P t = some m) (hn : v.cells.size = m)
    (hrun : (storeCells ⟨b, off, none⟩ v.cells.toList 0).run P w = .ok () w1) : (storeVar t ⟨b, off, none⟩ v).run P w = .ok () w1 := by
  simp only [storeVar, Sem.run_bind, run_sizeOf' hz w, Result.andThen_ok, hn, ne_eq, not_true_eq_false, if_false, Sem.run_ite]
  exact hrun
theorem snd_store1 {s : String} {t : TypeId} {x y : Operand} (ho : o.op = .store t x y) (hz : szA P t = some 1) : OpSnd P (store1F s (px x) (px y)) o := fun n T H k r h hr ι a w ht hh => by
  obtain ⟨v, h, hv⟩ := withO_good h hr ht
  obtain ⟨u, h, hu⟩ := withO_good h hr ht
  obtain ⟨b, off, e0, h1'⟩ := asPtr_good h hr; clear h; subst e0; have h := h1'; clear h1'
  obtain ⟨c, e, hg, h⟩ := wcellsAt_good h hr
  obtain ⟨h1, h⟩ := onB_good h hr
  obtain ⟨c1, hc1, h⟩ := onO_good h hr
  obtain ⟨y', hy, hev⟩ := ptr_inv hv
  rw [setNth_eq] at hc1
  have hone := oneCell_of h1 hu
  have hcells : (a.eval y).cells = #[a.eval y] := by
    generalize a.eval y = y1 at hone
    cases y1 <;> first | rfl | cases hone
  obtain ⟨w1, hrun, hst⟩ := put_splice (P := P) hh hg hy hc1 (LRel.cons hu (LRel.nil ι)) (by simpa using hone) (b :: H.log)
  rw [put_eq] at h
  refine ⟨undefA, _, ι, undef, w1, h, hst, undef_rel ι, .inr ⟨rfl, ?_⟩⟩
  simp only [execOp, ho, Instr.storeAt, hev, Instr.sureAddr, Sem.run_bind, Sem.run_pure, Result.andThen_ok,
    run_storeVar (v := a.eval y) hz (by rw [hcells]; rfl) (by rw [hcells]; exact hrun)]
theorem snd_storeN {s : String} {t : TypeId} {x y : Operand} {m : Nat} (ho : o.op = .store t x y) (hs : shapeA P t = some (some m)) : OpSnd P (storeNF s m (px x) (px y)) o := fun n T H k r h hr ι a w ht hh => by
  obtain ⟨v, h, hv⟩ := withO_good h hr ht
  obtain ⟨u, h, hu⟩ := withO_good h hr ht
  obtain ⟨b, off, e0, h1'⟩ := asPtr_good h hr; clear h; subst e0; have h := h1'; clear h1'
  obtain ⟨c, e, hg, h⟩ := wcellsAt_good h hr
  obtain ⟨h0, h⟩ := onB_good h hr
  obtain ⟨h1, h⟩ := onB_good h hr
  obtain ⟨c1, hc1, h⟩ := onO_good h hr
  obtain ⟨y', hy, hev⟩ := ptr_inv hv
  have hl := cellsV_rel hu
  rw [Nat.beq_eq, lenL_eq, hl.1] at h0
  obtain ⟨w1, hrun, hst⟩ := put_splice (P := P) hh hg hy hc1 hl (allOne_rel h1 hl) (b :: H.log)
  rw [put_eq] at h
  refine ⟨undefA, _, ι, undef, w1, h, hst, undef_rel ι, .inr ⟨rfl, ?_⟩⟩
  simp only [execOp, ho, Instr.storeAt, hev, Instr.sureAddr, Sem.run_bind, Sem.run_pure, Result.andThen_ok,
    run_storeVar (v := a.eval y) (shapeA_some hs).2 (by simpa using h0) hrun]

theorem fieldOf_of {t : TypeId} {f : Nat} {fd : Field} (h : fieldOf P t f = some fd) : ∃ fs, P.underlying t = some (.struct fs) ∧ fs[f]? = some fd := by
  unfold fieldOf at h
  split at h
  · rename_i fs hu; refine ⟨fs, hu, ?_⟩; rw [nth_eq] at h; simpa using h
  · cases h
theorem snd_fieldAddr {s : String} {t : TypeId} {x : Operand} {i m : Nat} {fd : Field} (ho : o.op = .fieldAddr t x i) (hf : fieldOf P t i = some fd) (hz : szA P fd.type = some m) (hm : m ≠ 0) :
    OpSnd P (fieldAddrF s fd.offset (px x)) o := .quiet fun n T H k r h hr ι a w ht hh => by
  obtain ⟨v, h, hv⟩ := withO_good h hr ht
  obtain ⟨b, off, e0, h1'⟩ := asPtr_good h hr; clear h; subst e0; have h := h1'; clear h1'
  rw [natF_eq] at h
  obtain ⟨y, hy, hev⟩ := ptr_inv hv
  obtain ⟨fs, hu, hfs⟩ := fieldOf_of hf
  refine ⟨_, _, h, .ptr hy, ?_⟩
  simp only [execOp, ho, Instr.fieldAt, Sem.run_bind, run_underlying hu, Result.andThen_ok, hfs, hev, Instr.sureAddr, Sem.run_pure, fieldPlace, run_sizeOf' hz w, hm, if_false, addr_add, Sem.run_ite]
  rw [Nat.add_assoc]; rfl
theorem part1 {t : TypeId} (hs : shapeA P t = some none) {cs : Array Value} {off : Nat} {y : Value} (hy : cs[off]? = some y) (w : World) : (part t cs off).run P w = .ok y w := by
  simp only [part, Sem.run_bind, (shapeA_none hs).1 w, Result.andThen_ok, Bool.false_eq_true, if_false, hy, Sem.run_pure]
theorem partN {t : TypeId} {m : Nat} (hs : shapeA P t = some (some m)) {cs : Array Value} {off : Nat} (w : World) : (part t cs off).run P w = .ok (.agg (cs.extract off (off + m))) w := by
  simp only [part, Sem.run_bind, (shapeA_some hs).1 w, Result.andThen_ok, if_true, run_sizeOf' (shapeA_some hs).2 w, Sem.run_pure]
theorem readS_part {ι : Inj} {t : TypeId} {sh : Option Nat} (hs : shapeA P t = some sh) {c : List AV} {cs : List Value} (hl : LRel ι c cs) {off : Nat} {v : AV} (h : readS sh c off = some v) (w : World) :
    ∃ v', (part t ⟨cs⟩ off).run P w = .ok v' w ∧ AVRel ι v v' := by
  cases sh with
  | none =>
    have h' : nth c off = some v := h
    rw [nth_eq] at h'
    obtain ⟨y, hy, hr⟩ := hl.get h'
    exact ⟨y, part1 hs (by simpa using hy) w, hr⟩
  | some m =>
    have h' : Option.rec (motive := fun _ => Option AV) none (fun l => some (.agg l)) (takeL m (dropL off c)) = some v := h
    rw [takeL_eq, dropL_eq] at h'
    by_cases hn : m ≤ (c.drop off).length
    · rw [if_pos hn] at h'
      cases h'
      refine ⟨_, partN hs w, ?_⟩
      have e : (⟨cs⟩ : Array Value).extract off (off + m) = ⟨(cs.drop off).take m⟩ := by
        apply Array.ext'
        simp [List.extract_eq_take_drop]
      rw [e]
      have := (hl.drop off).take m
      exact .agg this.1 this.2
    · rw [if_neg hn] at h'; cases h'
theorem snd_field {s : String} {t : TypeId} {x : Operand} {i : Nat} {fd : Field} {sh : Option Nat} (ho : o.op = .field t x i) (hf : fieldOf P t i = some fd) (hs : shapeA P fd.type = some sh) :
    OpSnd P (fieldF s sh fd.offset (px x)) o := .quiet fun n T H k r h hr ι a w ht hh => by
  obtain ⟨v, h, hv⟩ := withO_good h hr ht
  obtain ⟨c, e0, h1'⟩ := aggOf_good h hr; clear h; subst e0; have h := h1'; clear h1'
  obtain ⟨u, hu, h⟩ := onO_good h hr
  obtain ⟨fs, hus, hfs⟩ := fieldOf_of hf
  generalize hev : a.eval x = x' at hv
  cases hv with
  | agg hl hh' =>
    rename_i l'
    obtain ⟨v', hrun, hr'⟩ := readS_part hs (cs := l') ⟨hl, hh'⟩ hu w
    refine ⟨u, v', h, hr', ?_⟩
    simp only [execOp, ho, Instr.field, Sem.run_bind, run_underlying hus, Result.andThen_ok, hfs, hev, asAgg, Sem.run_pure, hrun]
theorem intOf_inv {ι : Inj} {k : IntKind} {m : Nat} {v : Value} (h : AVRel ι (.int k (.ofNat m)) v) : v = .int k m := by cases h; rfl
theorem slice_inv {ι : Inj} {b o l c : Nat} {v : Value} (h : AVRel ι (.slice b o l c) v) : ∃ x c', ι b = some x ∧ v = .slice (some ⟨x.1, x.2 + o, none⟩) l c' ∧ capOk c c' (x.2 + o) x.3 := by
  cases h with
  | slice h hc => exact ⟨_, _, h, rfl, hc⟩
theorem snd_indexSl {s : String} {t e : TypeId} {x i : Operand} {m : Nat} (ho : o.op = .indexAddr t x i) (hu : P.underlying t = some (.slice e)) (hz : szA P e = some m) :
    OpSnd P (indexSlF s m (px x) (px i)) o := .quiet fun n T H k r h hr ι a w ht hh => by
  obtain ⟨v, h, hv⟩ := withO_good h hr ht
  obtain ⟨j, h, hj⟩ := withO_good h hr ht
  obtain ⟨b, off, l, c, e0, h1'⟩ := asSlice_good h hr; clear h; subst e0; have h := h1'; clear h1'
  obtain ⟨kk, q, e0, h1'⟩ := natOf_good h hr; clear h; subst e0; have h := h1'; clear h1'
  obtain ⟨h1, h⟩ := onB_good h hr
  rw [natF_eq] at h
  obtain ⟨y, c', hy, hev, _⟩ := slice_inv hv
  have hq : q < l := Nat.le_of_ble_eq_true h1
  refine ⟨_, _, h, .ptr hy, ?_⟩
  simp only [execOp, ho, Instr.indexAt, intOf_inv hj, asIntOf, Sem.run_bind, Sem.run_pure, Result.andThen_ok, run_underlying hu, hev, run_sizeOf' hz w, addr_add, Sem.run_ite]
  rw [if_pos ⟨Int.natCast_nonneg q, by exact_mod_cast hq⟩]
  simp [Nat.add_assoc]
theorem snd_indexArr {s : String} {t e : TypeId} {x i : Operand} {len m : Nat} (ho : o.op = .indexAddr t x i) (hu : P.underlying t = some (.array len e)) (hz : szA P e = some m) :
    OpSnd P (indexArrF s len m (px x) (px i)) o := .quiet fun n T H k r h hr ι a w ht hh => by
  obtain ⟨v, h, hv⟩ := withO_good h hr ht
  obtain ⟨j, h, hj⟩ := withO_good h hr ht
  obtain ⟨b, off, e0, h1'⟩ := asPtr_good h hr; clear h; subst e0; have h := h1'; clear h1'
  obtain ⟨kk, q, e0, h1'⟩ := natOf_good h hr; clear h; subst e0; have h := h1'; clear h1'
  obtain ⟨h1, h⟩ := onB_good h hr
  rw [natF_eq] at h
  obtain ⟨y, hy, hev⟩ := ptr_inv hv
  have hq : q < len := Nat.le_of_ble_eq_true h1
  refine ⟨_, _, h, .ptr hy, ?_⟩
  simp only [execOp, ho, Instr.indexAt, intOf_inv hj, asIntOf, Sem.run_bind, Sem.run_pure, Result.andThen_ok, run_underlying hu, hev, Instr.sureAddr, run_sizeOf' hz w, addr_add, Sem.run_ite]
  rw [if_pos ⟨Int.natCast_nonneg q, by exact_mod_cast hq⟩]
  simp [Nat.add_assoc]
theorem snd_indexVal {s : String} {t e : TypeId} {x i : Operand} {len m : Nat} {sh : Option Nat} (ho : o.op = .index t x i) (hu : P.underlying t = some (.array len e)) (hz : szA P e = some m) (hs : shapeA P e = some sh) :
    OpSnd P (indexValF s len m sh (px x) (px i)) o := .quiet fun n T H k r h hr ι a w ht hh => by
  obtain ⟨v, h, hv⟩ := withO_good h hr ht
  obtain ⟨j, h, hj⟩ := withO_good h hr ht
  obtain ⟨c, e0, h1'⟩ := aggOf_good h hr; clear h; subst e0; have h := h1'; clear h1'
  obtain ⟨kk, q, e0, h1'⟩ := natOf_good h hr; clear h; subst e0; have h := h1'; clear h1'
  obtain ⟨h1, h⟩ := onB_good h hr
  obtain ⟨u, hru, h⟩ := onO_good h hr
  have hq : q < len := Nat.le_of_ble_eq_true h1
  generalize hev : a.eval x = x' at hv
  cases hv with
  | agg hl hh' =>
    rename_i l'
    obtain ⟨v', hrun, hr'⟩ := readS_part hs (cs := l') ⟨hl, hh'⟩ hru w
    refine ⟨u, v', h, hr', ?_⟩
    simp only [execOp, ho, Instr.index, intOf_inv hj, asIntOf, Sem.run_bind, Sem.run_pure, Result.andThen_ok, run_underlying hu, hev, run_sizeOf' hz w, Sem.run_ite]
    rw [if_pos ⟨Int.natCast_nonneg q, by exact_mod_cast hq⟩]
    have : (part e ⟨l'⟩ (Int.toNat (q : Int) * m)).run P w = .ok v' w := by simpa using hrun
    simp only [this, Result.andThen_ok]
theorem str_inv {ι : Inj} {l : List UInt8} {v : Value} (h : AVRel ι (.str l) v) : v = .string ⟨⟨l⟩⟩ := by cases h; rfl
theorem snd_indexStr {s : String} {t : TypeId} {x i : Operand} (ho : o.op = .index t x i) (hu : P.underlying t = some .string) : OpSnd P (indexStrF s (px x) (px i)) o := .quiet fun n T H k r h hr ι a w ht hh => by
  obtain ⟨v, h, hv⟩ := withO_good h hr ht
  obtain ⟨j, h, hj⟩ := withO_good h hr ht
  obtain ⟨c, e0, h1'⟩ := strOf_good h hr; clear h; subst e0; have h := h1'; clear h1'
  obtain ⟨kk, q, e0, h1'⟩ := natOf_good h hr; clear h; subst e0; have h := h1'; clear h1'
  obtain ⟨u, hru, h⟩ := onO_good h hr
  rw [nth_eq] at hru
  refine ⟨_, _, h, .int _ _, ?_⟩
  have hb : (⟨⟨c⟩⟩ : ByteArray)[Int.toNat (q : Int)]? = some u := by
    have hlt : q < c.length := by
      rcases Nat.lt_or_ge q c.length with h | h
      · exact h
      · rw [List.getElem?_eq_none h] at hru; cases hru
    rw [List.getElem?_eq_getElem hlt] at hru
    cases hru
    have h0 : Int.toNat (q : Int) < (⟨⟨c⟩⟩ : ByteArray).size := hlt
    exact getElem?_pos (⟨⟨c⟩⟩ : ByteArray) (Int.toNat (q : Int)) h0
  simp only [execOp, ho, Instr.index, intOf_inv hj, asIntOf, Sem.run_bind, Sem.run_pure, Result.andThen_ok, run_underlying hu, str_inv hv]
  rw [if_pos (Int.natCast_nonneg q), hb]
  rfl
theorem snd_extract {s : String} {x : Operand} {i : Nat} (ho : o.op = .extract x i) : OpSnd P (extractF s i (px x)) o := .quiet fun n T H k r h hr ι a w ht hh => by
  obtain ⟨v, h, hv⟩ := withO_good h hr ht
  obtain ⟨l, e0, h1'⟩ := asTup_good h hr; clear h; subst e0; have h := h1'; clear h1'
  obtain ⟨u, hu, h⟩ := onO_good h hr
  rw [nth_eq] at hu
  generalize hev : a.eval x = x' at hv
  cases hv with
  | tup hl hh' =>
    rename_i l'
    obtain ⟨y, hy, hr'⟩ := LRel.get (l' := l') ⟨hl, hh'⟩ hu
    refine ⟨u, y, h, hr', ?_⟩
    simp [execOp, ho, Instr.extract, hev, hy]
theorem snd_makeInterface {t : TypeId} {x : Operand} {d : TypeDesc} (ho : o.op = .makeInterface t x) (hu : P.underlying t = some d) (hd : ∀ ms, d ≠ .interface ms) : OpSnd P (makeInterfaceF t (px x)) o := .quiet fun n T H k r h hr ι a w ht hh => by
  obtain ⟨v, h, hv⟩ := withO_good h hr ht
  refine ⟨_, _, h, .iface hv, ?_⟩
  simp only [execOp, ho, Instr.makeInterface, Sem.run_bind, run_underlying hu, Result.andThen_ok]
  cases d <;> first | rfl | (exact (hd _ rfl).elim)
theorem snd_makeFunc {fn : Fn} {x y : Array Operand} (ho : o.op = .makeFunc fn x y) (hp : fnPlain fn) : OpSnd P (makeFuncF fn (pxs x.toList) (pxs y.toList)) o := .quiet fun n T H k r h hr ι a w ht hh => by
  obtain ⟨l, h, hl⟩ := withAll_good h hr ht
  obtain ⟨m, h, hm⟩ := withAll_good h hr ht
  refine ⟨_, _, h, .func hp hl.1 hl.2 hm.1 hm.2, ?_⟩
  have e : ∀ z : Array Operand, Array.map a.eval z = ⟨z.toList.map a.eval⟩ := fun z => by apply Array.ext'; simp
  simp only [execOp, ho, Instr.makeFunc, Sem.run_bind, Sem.run_pure, Result.andThen_ok, e]
theorem snd_nilCheck {s : String} {x : Operand} (ho : o.op = .nilCheck x) : OpSnd P (nilCheckF s (px x)) o := .quiet fun n T H k r h hr ι a w ht hh => by
  obtain ⟨v, h, hv⟩ := withO_good h hr ht
  generalize hev : a.eval x = x' at hv
  cases hv with
  | ptr hb => exact ⟨_, _, h, .ptr hb, by simp [execOp, ho, hev]⟩
  | iface hb => exact ⟨_, _, h, .iface hb, by simp [execOp, ho, hev]⟩
  | func hp lf hf lc hc =>
    rename_i fn f c f' c'
    cases fn with
    | func g => exact ⟨_, _, h, .func hp lf hf lc hc, by simp [execOp, ho, hev]⟩
    | _ => exact (not_good_bad s (by have h' : bad s = r := h; rw [h']; exact hr)).elim
  | _ => exact (not_good_bad s (by have h' : bad s = r := h; rw [h']; exact hr)).elim
end
end Go.Ev
