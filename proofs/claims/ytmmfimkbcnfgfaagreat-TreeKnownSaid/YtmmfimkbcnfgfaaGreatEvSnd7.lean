import Derived.Test.YtmmfimkbcnfgfaaGreatEvSnd6
/- Each operation of the abstract evaluator does what the model's does: append. -/
namespace Go.Ev

section
variable {P : Program} {o : Oper}
theorem growA_good {w : String} {e : TypeId} {size bytes need : Nat} {c : List AV} {H : AH} {k : AV → AH → R} {r : R} (h : growA w e size bytes need c H k = r) (hr : r.Good) :
    need * (2 * (bytes + 1)) ≤ 140737488355328 ∧ (H.new (.cells c e true) fun n H => k (.slice n 0 need (capOpen size need)) H) = r := by
  unfold growA at h
  obtain ⟨h1, h⟩ := onB_good h hr
  refine ⟨Nat.le_of_ble_eq_true h1, ?_⟩
  rw [← h]
  congr 1
  funext n H
  rw [natF_eq]
theorem capOpen_eq (size need : Nat) : capOpen size need = (size + 1) * 4611686018427387904 + need := rfl
theorem capOk_open {size need N s n : Nat} (h1 : need < 4611686018427387904) (h2 : need ≤ N) (h3 : s + N * size ≤ n) : capOk (capOpen size need) N s n := by
  unfold capOk
  rw [capOpen_eq]
  have e1 : ((size + 1) * 4611686018427387904 + need) % 4611686018427387904 = need := by
    rw [Nat.mul_comm, Nat.mul_add_mod, Nat.mod_eq_of_lt h1]
  have e2 : ((size + 1) * 4611686018427387904 + need) / 4611686018427387904 = size + 1 := by
    rw [Nat.mul_comm, Nat.mul_add_div (by decide), Nat.div_eq_of_lt h1, Nat.add_zero]
  rw [if_neg (by omega), e1, e2]
  exact ⟨h2, by simpa using h3⟩
/-- A new row behind a draw, longer than what is known of it. -/
theorem new_row_open {ι : Inj} {H : AH} {w w1 : World} (hh : HRel ι H w) {e : TypeId} {c : List AV} {c' : Array Value} {z : Bool} {l : List Value} (hl : LRel ι c l) (hc : ∀ (i : Nat) v, l[i]? = some v → c'[i]? = some v)
    (hw : w1.heap = w.heap.push (.cells c' e)) (h1 : w1.os = w.os) (h2 : w1.output = w.output) (h3 : w1.tape = w.tape) {k : Nat → AH → R} {r : R}
    (hk : H.new (.cells c e z) k = r) : ∃ κ H1, k H.nxt H1 = r ∧ St ι H w κ H1 w1 ∧ κ H.nxt = some ⟨w.heap.size, 0, c'.size, false⟩ := by
  obtain ⟨m, n, lg⟩ := H
  have hk' : natF n (fun n => k n ⟨m.upd n (some (.cells c e z)), n + 1, lg⟩) = r := hk
  rw [natF_eq] at hk'
  refine ⟨_, _, hk', St.new (w' := w1) hh (.cells (c' := c') (fz := (0, 0)) rfl (fun i x hx => ?_) (fun _ => ⟨rfl, rfl⟩) (fun _ => .inl rfl)) hw h1 h2 h3 lg, Inj.ext_self _ _ _⟩
  obtain ⟨y, hy, hr⟩ := hl.get hx
  exact ⟨y, by rw [Nat.zero_add]; exact hc _ _ hy, hr⟩
theorem kill_eq {H : AH} {b : Nat} {k : AH → R} : H.kill b k = k ⟨H.m.upd b none, H.nxt, b :: H.log⟩ := by cases H; rfl
theorem append_list {l1 l2 : List Value} {rest : Array Value} {i : Nat} {v : Value} (h : (l1 ++ l2)[i]? = some v) : ((⟨l1⟩ : Array Value) ++ ⟨l2⟩ ++ rest)[i]? = some v := by
  have hlt : i < (l1 ++ l2).length := by
    rcases Nat.lt_or_ge i (l1 ++ l2).length with h' | h'
    · exact h'
    · rw [List.getElem?_eq_none h'] at h; cases h
  rw [← Array.getElem?_toList]
  simp only [Array.toList_append]
  rw [List.getElem?_append_left hlt]; exact h
theorem snd_append {s : String} {t u e : TypeId} {x y : Operand} {i : TypeInfo} {z : AV} (ho : o.op = .call ⟨.builtin .append, ⟨[x, y]⟩, ⟨[t, u]⟩⟩) (hu : P.underlying t = some (.slice e))
    (hx : ∃ d, P.underlying u = some d ∧ ∀ k, d ≠ .int k) (hi : P.info? e = some i) (hz : zeroA P e = some z) (hzm : (cellsV z).length = i.size) :
    OpSnd P (appendF s e i.size i.bytes (px x) (px y)) o := fun n T H k r h hr ι a w ht hh => by
  obtain ⟨v, h, hv⟩ := withO_good h hr ht
  obtain ⟨vx, h, hvx⟩ := withO_good h hr ht
  obtain ⟨m, h, hlen, hcase⟩ := lenA_good (P := P) h hr hvx
  obtain ⟨new, new', h, hnew, hfirst, hlnew, hnil⟩ := firstA_good (P := P) h hr hvx hh
  obtain ⟨hone, h⟩ := onB_good h hr
  obtain ⟨i', zv, hi', hzv, hof⟩ := zeroA_of hz
  rw [hi] at hi'; cases hi'
  have hzs : zv.cells.size = i.size := by rw [← hzm, (cellsV_rel (ofV_rel (ι := ι) hof)).1]; simp
  have hlen2 : new.length = m * i.size := by
    by_cases hn : vx = .nil .slice
    · rw [hnil hn]
      rcases hcase with ⟨_, h0⟩ | ⟨b, o, c, e⟩ | ⟨l, e, _⟩ | ⟨e, _⟩
      · rw [h0]; simp
      · rw [hn] at e; cases e
      · rw [hn] at e; cases e
      · rw [hn] at e; cases e
    · exact hlnew hn
  have hrun : ∀ w' v1, (Builtin.append_ ⟨[t, u]⟩ o.type ⟨[a.eval x, a.eval y]⟩).run P w = .ok v1 w' → (execOp a.eval o).run P w = .ok (.value v1) w' := by
    intro w' v1 hr1
    rw [run_builtin ho]
    show ((do pure (Next.value (← Builtin.append_ ⟨[t, u]⟩ o.type ⟨[a.eval x, a.eval y]⟩))) : Sem Next).run P w = _
    simp only [Sem.run_bind, hr1, Result.andThen_ok, Sem.run_pure]
  -- a new row
  have hgrow : ∀ (base : Option Addr) (len cap' : Nat) (old : List AV) (old' : List Value) (H0 : AH), a.eval x = .slice base len cap' → ¬ (len + m ≤ cap') → LRel ι old old' → old.length = len * i.size →
      (∀ W : World, W.heap = w.heap → (Builtin.firstCells i.size len (a.eval x)).run P W = .ok ⟨old'⟩ W) → St ι H w ι H0 w → growA s e i.size i.bytes (len + m) (old ++ new) H0 k = r →
      ∃ v H1 κ v' w1, k v H1 = r ∧ St ι H w κ H1 w1 ∧ AVRel κ v v' ∧ ((execOp a.eval o).run P w = .ok (.value v') w1 ∨ (v' = undef ∧ (execOp a.eval o).run P w = .ok .skip w1)) := by
    intro base len cap' old old' H0 hev hno hold hol hf1 hst hg
    obtain ⟨hmax, hg⟩ := growA_good hg hr
    obtain ⟨N, rest, w1, hN, hr1, hheap, hrest, e1, e2, e3⟩ := run_append_grow (P := P) (ty := o.type) (w := w) (l1 := old') (l2 := new') hu hx hi hzv hev hlen hno hmax hf1 (fun W hW => hfirst W hW)
    obtain ⟨κ, H1, hk, hst1, hκ⟩ := new_row_open hst.rel (l := old' ++ new') (hold.append hnew) (fun j v hv => append_list (rest := rest) hv) hheap e1 e2 e3 hg
    have hsmall : len + m < 4611686018427387904 := by
      have : (len + m) * 1 ≤ (len + m) * (2 * (i.bytes + 1)) := Nat.mul_le_mul_left _ (by omega)
      omega
    refine ⟨_, H1, κ, .slice (some ⟨w.heap.size, 0 + 0, none⟩) (len + m) N, w1, hk, hst.trans hst1, .slice hκ (capOk_open hsmall hN ?_), .inl (hrun _ _ hr1)⟩
    show 0 + 0 + N * i.size ≤ ((⟨old'⟩ : Array Value) ++ ⟨new'⟩ ++ rest).size
    have ho' : old'.length = len * i.size := hold.1 ▸ hol
    have hn' : new'.length = m * i.size := hnew.1 ▸ hlen2
    have : ((⟨old'⟩ : Array Value) ++ ⟨new'⟩ ++ rest).size = old'.length + new'.length + rest.size := by simp
    rw [this, ho', hn', hrest, hzs, ← Nat.add_mul, ← Nat.add_mul]
    have : len + m + (N - (len + m)) = N := by omega
    rw [this]; omega
  cases v with
  | nil nw =>
    cases nw with
    | slice =>
      have h' : onB (Nat.beq m 0) (k (.nil .slice) H) (growA s e i.size i.bytes m new H k) = r := h
      generalize hev : a.eval x = x' at hv
      cases hv
      cases h0 : Nat.beq m 0 with
      | true =>
        rw [h0, onB_true] at h'
        rw [Nat.beq_eq] at h0
        subst h0
        have hnew0 : new' = [] := by
          have h1 := hnew.1
          rw [hlen2] at h1
          have : new'.length = 0 := by omega
          exact List.length_eq_zero_iff.1 this
        subst hnew0
        have hr1 := run_append_room (P := P) (ty := o.type) (w := w) (w1 := w) (s := a.eval x) (x := a.eval y) hu hx hi hev hlen (Nat.le_refl _) (hfirst w rfl) rfl
        exact ⟨_, H, ι, _, w, h', .refl hh, .nilSlice, .inl (hrun _ _ hr1)⟩
      | false =>
        rw [h0, onB_false] at h'
        have hm : 0 < m := by
          rcases Nat.eq_zero_or_pos m with e | e
          · subst e; cases h0
          · exact e
        exact hgrow none 0 0 [] [] H hev (by omega) (LRel.nil ι) (by simp) (fun W _ => by rw [hev]; rfl) (.refl hh) (by rw [Nat.zero_add]; exact h')
    | _ => exact bad_elim (w := s) h hr
  | hollow =>
    obtain ⟨h0, h'⟩ := onB_good (b := Nat.beq m 0) (x := k .hollow H) (w := s) h hr
    rw [Nat.beq_eq] at h0
    subst h0
    generalize hev : a.eval x = x' at hv
    cases hv with
    | hollow p c' =>
    have hnew0 : new' = [] := by
      have h1 := hnew.1
      rw [hlen2] at h1
      have : new'.length = 0 := by omega
      exact List.length_eq_zero_iff.1 this
    subst hnew0
    have hr1 := run_append_room (P := P) (ty := o.type) (w := w) (w1 := w) (s := a.eval x) (x := a.eval y) hu hx hi hev hlen (Nat.zero_le _) (hfirst w rfl) rfl
    exact ⟨_, H, ι, _, w, h', .refl hh, .hollow _ _, .inl (hrun _ _ hr1)⟩
  | slice b off len cap =>
    obtain ⟨yl, cap', hy, hev, hcap⟩ := slice_inv hv
    have hlow := capLow_le hcap
    have h' : natF (Nat.add len m) (fun need => onB (Nat.ble need (capLow cap))
      (onB (Nat.beq m 0) (k (.slice b off need cap) H)
        (wcellsAt s H b fun c e' => onO (splice (Nat.add off (Nat.mul len i.size)) new c) (fun c => H.put b (.cells c e' true) (k (.slice b off need cap))) (bad s)))
      (firstA s i.size len (.slice b off len cap) H fun old => onB (capKnown cap) (growA s e i.size i.bytes need (old ++ new) H k)
        (wcellsAt s H b fun _ e' => onB (Bool.rec false (Nat.beq (capCells cap) i.size) (Nat.beq e' e)) (H.kill b fun H => growA s e i.size i.bytes need (old ++ new) H k) (bad s)))) = r := h
    rw [natF_eq] at h'
    cases hroom : Nat.ble (Nat.add len m) (capLow cap) with
    | true =>
      rw [hroom, onB_true] at h'
      have hle := ble_le hroom
      cases h0 : Nat.beq m 0 with
      | true =>
        rw [h0, onB_true] at h'
        rw [Nat.beq_eq] at h0
        subst h0
        have hnew0 : new' = [] := by
          have h1 := hnew.1
          rw [hlen2] at h1
          have : new'.length = 0 := by omega
          exact List.length_eq_zero_iff.1 this
        subst hnew0
        have hr1 := run_append_room (P := P) (ty := o.type) (w := w) (w1 := w) (s := a.eval x) (x := a.eval y) hu hx hi hev hlen (show len + 0 ≤ cap' from Nat.le_trans hle hlow) (hfirst w rfl) rfl
        exact ⟨_, H, ι, _, w, h', .refl hh, .slice hy hcap, .inl (hrun _ _ hr1)⟩
      | false =>
        rw [h0, onB_false] at h'
        obtain ⟨c, e', hg, h'⟩ := wcellsAt_good h' hr
        obtain ⟨c1, hc1, h'⟩ := onO_good h' hr
        obtain ⟨w1, hst1, hst⟩ := put_splice (P := P) hh hg hy hc1 hnew (allOne_rel hone hnew) (b :: H.log)
        rw [put_eq] at h'
        have hr1 := run_append_room (P := P) (ty := o.type) (w := w) (w1 := w1) (s := a.eval x) (x := a.eval y) hu hx hi hev hlen (show len + m ≤ cap' from Nat.le_trans hle hlow) (hfirst w rfl)
          (by show (storeCells ((⟨yl.1, yl.2 + off, none⟩ : Addr).add (len * i.size)) new' 0).run P w = _; rw [addr_add, Nat.add_assoc]; exact hst1)
        exact ⟨_, _, ι, _, w1, h', hst, .slice hy hcap, .inl (hrun _ _ hr1)⟩
    | false =>
      rw [hroom, onB_false] at h'
      have hno : ¬ (len + m ≤ capLow cap) := fun e => by rw [Nat.ble_eq_true_of_le (show Nat.add len m ≤ capLow cap from e)] at hroom; cases hroom
      obtain ⟨old, old', h', hold, hf1, hol, _⟩ := firstA_good (P := P) h' hr hv hh
      have hol' := hol (by simp)
      cases hk : capKnown cap with
      | true =>
        rw [hk, onB_true] at h'
        have hlt := capKnown_iff.1 hk
        have : capLow cap = cap := Nat.mod_eq_of_lt hlt
        have hc := capOk_exact' hlt hcap
        exact hgrow _ len cap' old old' H hev (by omega) hold hol' hf1 (.refl hh) h'
      | false =>
        rw [hk, onB_false] at h'
        obtain ⟨c, e', hg, h'⟩ := wcellsAt_good h' hr
        obtain ⟨hb, h'⟩ := onB_good h' hr
        obtain ⟨he, hcc⟩ := and_rec hb
        rw [Nat.beq_eq] at he hcc
        subst he
        rw [kill_eq] at h'
        by_cases hin : len + m ≤ cap'
        · -- in place
          obtain ⟨hmax, hg2⟩ := growA_good h' hr
          obtain ⟨c', e2, fz, hw, hc, hrf, hn⟩ := cells_of hh hg hy
          obtain ⟨⟨hro, he2⟩, hf⟩ := hrf rfl
          have he2 := he2.symm
          subst he2
          have hfit : yl.2 + off + cap' * i.size ≤ c'.size := by
            have h2 := hcap
            unfold capOk at h2
            rw [if_neg (fun hlt => by rw [capKnown_iff.2 hlt] at hk; cases hk)] at h2
            have h3 := h2.2
            have : cap / 4611686018427387904 - 1 = i.size := hcc
            rw [this] at h3
            rw [hn]; exact h3
          have hmul : (len + m) * i.size ≤ cap' * i.size := Nat.mul_le_mul_right _ hin
          have hn' : new'.length = m * i.size := hnew.1 ▸ hlen2
          have ho' : old'.length = len * i.size := hold.1 ▸ hol'
          obtain ⟨w1, cur1, hst1, hheap, hsz1, hg1, e1, e2, e3⟩ := run_storeCells (P := P) (b := yl.1) (o := yl.2 + off + len * i.size) (e := e') (fz := fz) new' 0 c' w hw
            (fun _ => by rw [hn']; rw [Nat.add_mul] at hmul; omega) (allOne_rel hone hnew) hf.free
          have hr1 := run_append_room (P := P) (ty := o.type) (w := w) (w1 := w1) (s := a.eval x) (x := a.eval y) hu hx hi hev hlen hin (hfirst w rfl)
            (by show (storeCells ((⟨yl.1, yl.2 + off, none⟩ : Addr).add (len * i.size)) new' 0).run P w = _; rw [addr_add]; exact hst1)
          have hmax' : (len + m) * (2 * (i.bytes + 1)) ≤ 140737488355328 := hmax
          have hsmall : len + m < 4611686018427387904 := by
            have : (len + m) * 1 ≤ (len + m) * (2 * (i.bytes + 1)) := Nat.mul_le_mul_left _ (by omega)
            omega
          -- the cells of the old part
          have hold1 : ∀ (j : Nat) v, old'[j]? = some v → c'[yl.2 + off + j]? = some v := by
            intro j v hj
            have hfc := hf1 w rfl
            have hev' := hev
            rw [hev'] at hfc
            have hjl : j < len * i.size := by
              rw [← ho']
              rcases Nat.lt_or_ge j old'.length with h | h
              · exact h
              · rw [List.getElem?_eq_none h] at hj; cases hj
            have hjc : yl.2 + off + j < c'.size := by rw [Nat.add_mul] at hmul; omega
            have hcells := run_loadCells (P := P) w ⟨yl.1, yl.2 + off, none⟩ (len * i.size) (fun j => (c'[yl.2 + off + j]?).getD undef) (fun j hj => by
              rw [addr_add, cell_at hw]
              have : yl.2 + off + j < c'.size := by rw [Nat.add_mul] at hmul; omega
              rw [Array.getElem?_eq_getElem this]; rfl)
            simp only [Builtin.firstCells] at hfc
            rw [hcells] at hfc
            have e : ((List.range (len * i.size)).map fun j => (c'[yl.2 + off + j]?).getD undef).toArray = (⟨old'⟩ : Array Value) := by injection hfc
            have e' : ((List.range (len * i.size)).map fun j => (c'[yl.2 + off + j]?).getD undef) = old' := congrArg Array.toList e
            rw [← e', List.getElem?_map, List.getElem?_range hjl] at hj
            simp only [Option.map_some, Option.some.injEq] at hj
            rw [Array.getElem?_eq_getElem hjc] at hj ⊢
            exact congrArg some hj
          have hst := St.rename (H := H) (w' := w1) (s := yl.2 + off) (o1 := .cells (old ++ new) e' true) (o1' := .cells cur1 e' fz) hh hg hy hro
            (.cells (hsz1.trans hn) (fun j v hj => by
              obtain ⟨v', hv', hvr⟩ := (hold.append hnew).get hj
              refine ⟨v', ?_, hvr⟩
              show cur1[yl.2 + off + j]? = some v'
              rw [hg1]
              by_cases hjl : j < old'.length
              · rw [List.getElem?_append_left hjl] at hv'
                rw [if_neg (by rw [ho'] at hjl; omega)]
                exact hold1 j v' hv'
              · rw [List.getElem?_append_right (by omega), ho'] at hv'
                have hjn : j - len * i.size < new'.length := by
                  rcases Nat.lt_or_ge (j - len * i.size) new'.length with h | h
                  · exact h
                  · rw [List.getElem?_eq_none h] at hv'; cases hv'
                rw [if_pos (by rw [ho'] at hjl; omega), ← hv']
                congr 1
                omega) (fun _ => ⟨rfl, rfl⟩) (fun _ => by rw [hsz1]; exact hf)) hheap e1 e2 e3 (b :: H.log)
          have hk' : natF H.nxt (fun nn => k (.slice nn 0 (len + m) (capOpen i.size (len + m))) ⟨(H.m.upd b none).upd nn (some (.cells (old ++ new) e' true)), nn + 1, b :: H.log⟩) = r := hg2
          rw [natF_eq] at hk'
          refine ⟨_, _, _, .slice (some ⟨yl.1, yl.2 + off + 0, none⟩) (len + m) cap', w1, hk', hst, .slice (x := ⟨yl.1, yl.2 + off, yl.3, false⟩) (Inj.ext_self _ _ _) (capOk_open hsmall hin ?_), .inl ?_⟩
          · show yl.2 + off + 0 + cap' * i.size ≤ yl.3
            rw [← hn]; omega
          · exact hrun _ _ hr1
        · exact hgrow _ len cap' old old' _ hev hin hold hol' hf1 (St.kill hh b (hh.lt hg) (b :: H.log)) h'
  | _ => exact bad_elim (w := s) h hr
end
end Go.Ev
