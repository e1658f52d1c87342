import Derived.Test.YtmmfimkbcnfgfaaGreatEvSnd4
/- Each operation of the abstract evaluator does what the model's does: slices. -/
namespace Go.Ev

section
variable {P : Program} {o : Oper}
def OptRel (ι : Inj) : Option AV → Option Value → Prop
  | none, none => True
  | some v, some v' => AVRel ι v v'
  | _, _ => False
theorem withOpt_rel {n : Nat} {ι : Inj} {T : Tm} {a : Act} {x : Option Operand} {k : Option AV → R} {r : R} (h : withOpt (optX x) T k = r) (hr : r.Good) (ht : TRel n ι T a) :
    ∃ u, k u = r ∧ OptRel ι u (x.map a.eval) := by
  rcases withOpt_good h hr ht with ⟨rfl, h⟩ | ⟨y, v, rfl, h, hv⟩
  · exact ⟨none, h, trivial⟩
  · exact ⟨some v, h, hv⟩
theorem optNat_good {u : Option AV} {d : Nat} {c : Nat → R} {w : String} {r : R} (h : optNat u d c (bad w) = r) (hr : r.Good) : ∃ m, c m = r ∧ ((u = none ∧ m = d) ∨ ∃ k, u = some (.int k (.ofNat m))) := by
  cases u with
  | none => exact ⟨d, h, .inl ⟨rfl, rfl⟩⟩
  | some v =>
    obtain ⟨k, m, e, h⟩ := natOf_good (x := v) h hr
    exact ⟨m, h, .inr ⟨k, by rw [e]⟩⟩
/-- A bound as the model has it: not said, or a number. -/
def Bound (v : Option Value) (d m : Nat) : Prop := (v = none ∧ m = d) ∨ ∃ k, v = some (.int k m)
theorem bound_of {ι : Inj} {u : Option AV} {v : Option Value} {d m : Nat} (h : (u = none ∧ m = d) ∨ ∃ k, u = some (.int k (.ofNat m))) (hr : OptRel ι u v) : Bound v d m := by
  rcases h with ⟨rfl, rfl⟩ | ⟨k, rfl⟩
  · cases v with
    | none => exact .inl ⟨rfl, rfl⟩
    | some v => exact hr.elim
  · cases v with
    | none => exact hr.elim
    | some v => exact .inr ⟨k, by rw [intOf_inv hr]⟩
theorem run_sliceBound {k : IntKind} {m y : Nat} (h : m ≤ y) (c : BoundsCode) (w : World) : (Instr.sliceBound (.int k m) y c).run P w = .ok m w := by
  unfold Instr.sliceBound
  simp only [asIntOf, Sem.run_bind, Sem.run_pure, Result.andThen_ok, Sem.run_ite]
  rw [if_pos ⟨by omega, by omega⟩]
  simp
theorem run_bounds2 {isS : Bool} {len cap l h : Nat} {lo hi : Option Value} (hl : Bound lo 0 l) (hh : Bound hi len h) (h1 : l ≤ h) (h2 : h ≤ cap) (w : World) :
    (Instr.sliceBounds isS len cap lo hi none).run P w = .ok (l, h, cap) w := by
  rcases hl with ⟨rfl, rfl⟩ | ⟨k, rfl⟩ <;> rcases hh with ⟨rfl, rfl⟩ | ⟨k', rfl⟩
  · simp [Instr.sliceBounds]
  · simp [Instr.sliceBounds, run_sliceBound h2]
  · simp [Instr.sliceBounds, run_sliceBound h1]
  · simp [Instr.sliceBounds, run_sliceBound h2, run_sliceBound h1]
theorem run_bounds3 {isS : Bool} {len cap l h m : Nat} {lo : Option Value} {k1 k2 : IntKind} (hl : Bound lo 0 l) (h1 : l ≤ h) (h2 : h ≤ m) (h3 : m ≤ cap) (w : World) :
    (Instr.sliceBounds isS len cap lo (some (.int k1 h)) (some (.int k2 m))).run P w = .ok (l, h, m) w := by
  rcases hl with ⟨rfl, rfl⟩ | ⟨k, rfl⟩
  · simp [Instr.sliceBounds, run_sliceBound h3, run_sliceBound h2]
  · simp [Instr.sliceBounds, run_sliceBound h3, run_sliceBound h2, run_sliceBound h1]
theorem and_rec {a b : Bool} (h : (Bool.rec false b a : Bool) = true) : a = true ∧ b = true := by cases a <;> simp_all
theorem ble_le {a b : Nat} (h : Nat.ble a b = true) : a ≤ b := Nat.le_of_ble_eq_true h
theorem capLow_le {c c' s n : Nat} (h : capOk c c' s n) : capLow c ≤ c' := by
  unfold capOk at h
  show c % 4611686018427387904 ≤ c'
  split at h
  · rename_i hlt; rw [h, Nat.mod_eq_of_lt hlt]; exact Nat.le_refl _
  · exact h.1
theorem capKnown_iff {c : Nat} : capKnown c = true ↔ c < 4611686018427387904 := by unfold capKnown; rw [Nat.ble_eq]; exact Iff.rfl
theorem capOk_exact' {c n m : Nat} (h : c < 4611686018427387904) {c' : Nat} (hc : capOk c c' n m) : c' = c := by unfold capOk at hc; rwa [if_pos h] at hc
theorem capOk_cut {c c' s n l z : Nat} (h : capOk c c' s n) (hc : c < 4611686018427387904 ∨ (c / 4611686018427387904 - 1 = z ∧ l < c % 4611686018427387904)) : capOk (c - l) (c' - l) (s + l * z) n := by
  unfold capOk at h ⊢
  rcases hc with hk | ⟨hz, hl⟩
  · rw [if_pos hk] at h
    rw [if_pos (by omega), h]
  · by_cases hk : c < 4611686018427387904
    · rw [if_pos hk] at h
      rw [if_pos (by omega), h]
    · rw [if_neg hk] at h
      have hd := Nat.div_add_mod c 4611686018427387904
      have e1 : (c - l) / 4611686018427387904 = c / 4611686018427387904 := by
        have : c - l = 4611686018427387904 * (c / 4611686018427387904) + (c % 4611686018427387904 - l) := by omega
        rw [this, Nat.mul_add_div (by decide), Nat.div_eq_of_lt (show c % 4611686018427387904 - l < 4611686018427387904 from Nat.lt_of_le_of_lt (Nat.sub_le _ _) (Nat.mod_lt _ (by decide)))]; rfl
      have e2 : (c - l) % 4611686018427387904 = c % 4611686018427387904 - l := by
        have : c - l = 4611686018427387904 * (c / 4611686018427387904) + (c % 4611686018427387904 - l) := by omega
        rw [this, Nat.mul_add_mod, Nat.mod_eq_of_lt (show c % 4611686018427387904 - l < 4611686018427387904 from Nat.lt_of_le_of_lt (Nat.sub_le _ _) (Nat.mod_lt _ (by decide)))]
      have hge : 1 ≤ c / 4611686018427387904 := by
        rcases Nat.eq_zero_or_pos (c / 4611686018427387904) with h0 | h0
        · rw [h0] at hd; omega
        · exact h0
      rw [if_neg (by omega), e1, e2, hz]
      refine ⟨by omega, ?_⟩
      rw [hz] at h
      have h2 := h.2
      have hle : l ≤ c' := by omega
      have : s + l * z + (c' - l) * z = s + c' * z := by rw [Nat.sub_mul]; have := Nat.mul_le_mul_right z hle; omega
      omega
theorem capOk_any {c s n : Nat} (h : c < 4611686018427387904) : capOk c c s n := capOk_exact h
theorem snd_sliceSl {s : String} {t e : TypeId} {x : Operand} {lo hi mx : Option Operand} {m : Nat} (ho : o.op = .slice t x lo hi mx) (hu : P.underlying t = some (.slice e)) (hz : szA P e = some m) :
    OpSnd P (sliceSlF s m (px x) (optX lo) (optX hi) (optX mx)) o := .quiet fun n T H k r h hr ι a w ht hh => by
  obtain ⟨v, h, hv⟩ := withO_good h hr ht
  obtain ⟨ul, h, hl⟩ := withOpt_rel h hr ht
  obtain ⟨uh, h, hhi⟩ := withOpt_rel h hr ht
  obtain ⟨um, h, hm⟩ := withOpt_rel h hr ht
  have hun := run_underlying (P := P) hu w
  have hop : (execOp a.eval o).run P w = ((Instr.slice t (a.eval x) (lo.map a.eval) (hi.map a.eval) (mx.map a.eval)).run P w).andThen fun v w => .ok (.value v) w := by
    simp only [execOp, ho, Instr.sliceAt, Sem.run_bind, hun, Result.andThen_ok, Sem.run_pure]
  cases v with
  | nil nw =>
    cases nw with
    | slice =>
      cases um with
      | some => exact (not_good_bad s (by have h' : bad s = r := h; rw [h']; exact hr)).elim
      | none =>
        have h' : optNat ul 0 (fun l => optNat uh 0 (fun h => onB (Bool.rec false (Nat.beq h 0) (Nat.beq l 0)) (k (.nil .slice) H) (bad s)) (bad s)) (bad s) = r := h
        obtain ⟨l, h', bl⟩ := optNat_good h' hr
        obtain ⟨hh', h', bh⟩ := optNat_good h' hr
        obtain ⟨hb, h'⟩ := onB_good h' hr
        obtain ⟨hb1, hb2⟩ := and_rec hb
        rw [Nat.beq_eq] at hb1 hb2
        subst hb1; subst hb2
        generalize a.eval x = x' at hv hop
        cases hv
        have em : mx.map a.eval = none := by cases hmx : mx.map a.eval <;> simp_all [OptRel]
        refine ⟨_, _, h', .nilSlice, ?_⟩
        rw [hop]
        simp only [Instr.slice, Sem.run_bind, hun, Result.andThen_ok, em, run_bounds2 (bound_of bl hl) (bound_of bh hhi) (Nat.le_refl _) (Nat.le_refl _), run_sizeOf' hz w, Sem.run_pure, if_true, Nat.sub_self]
    | _ => exact (not_good_bad s (by have h' : bad s = r := h; rw [h']; exact hr)).elim
  | hollow =>
      cases um with
      | some => exact (not_good_bad s (by have h' : bad s = r := h; rw [h']; exact hr)).elim
      | none =>
        have h' : optNat ul 0 (fun l => optNat uh 0 (fun h => onB (Bool.rec false (Nat.beq h 0) (Nat.beq l 0)) (k .hollow H) (bad s)) (bad s)) (bad s) = r := h
        obtain ⟨l, h', bl⟩ := optNat_good h' hr
        obtain ⟨hh', h', bh⟩ := optNat_good h' hr
        obtain ⟨hb, h'⟩ := onB_good h' hr
        obtain ⟨hb1, hb2⟩ := and_rec hb
        rw [Nat.beq_eq] at hb1 hb2
        subst hb1; subst hb2
        generalize a.eval x = x' at hv hop
        cases hv with
        | hollow p c' =>
        have em : mx.map a.eval = none := by cases hmx : mx.map a.eval <;> simp_all [OptRel]
        have hbounds := run_bounds2 (P := P) (isS := true) (len := 0) (cap := c') (bound_of bl hl) (bound_of bh hhi) (Nat.le_refl _) (Nat.zero_le _) w
        refine ⟨_, .slice (some p) 0 c', h', .hollow _ _, ?_⟩
        rw [hop]
        by_cases hcl : c' = 0
        · simp only [Instr.slice, Sem.run_bind, hun, Result.andThen_ok, em, hbounds, run_sizeOf' hz w, Sem.run_pure, if_pos hcl, Nat.sub_zero]
        · simp only [Instr.slice, Sem.run_bind, hun, Result.andThen_ok, em, hbounds, run_sizeOf' hz w, Sem.run_pure, if_neg hcl, Option.map_some, Addr.add, Nat.zero_mul, if_true, Nat.sub_zero]
  | slice b off len cap =>
    obtain ⟨y, c', hy, hev, hcap⟩ := slice_inv hv
    have hlow := capLow_le hcap
    cases um with
    | none =>
      have em : mx.map a.eval = none := by cases hmx : mx.map a.eval <;> simp_all [OptRel]
      have h' : slice2 s m b off len cap ul uh (fun v => k v H) = r := h
      unfold slice2 at h'
      obtain ⟨l, h', bl⟩ := optNat_good h' hr
      obtain ⟨hi1, h', bh⟩ := optNat_good h' hr
      obtain ⟨hb, h'⟩ := onB_good h' hr
      obtain ⟨hb1, hb2⟩ := and_rec hb
      have h1 := ble_le hb1
      have h2 := ble_le hb2
      have hbounds := run_bounds2 (P := P) (isS := true) (len := len) (cap := c') (bound_of bl hl) (bound_of bh hhi) h1 (Nat.le_trans h2 hlow) w
      cases hk : (Bool.rec false (Nat.beq cap l) (capKnown cap) : Bool) with
      | true =>
        rw [hk] at h'
        obtain ⟨hk1, hk2⟩ := and_rec hk
        rw [Nat.beq_eq] at hk2
        have hlt := capKnown_iff.1 hk1
        have hc := capOk_exact' hlt hcap
        subst hk2
        have hhl : hi1 = cap := by
          have : capLow cap = cap := Nat.mod_eq_of_lt hlt
          omega
        subst hhl
        refine ⟨_, _, h', .slice hy (capOk_exact (by decide)), ?_⟩
        rw [hc] at hbounds
        rw [hop, hev, hc]
        simp only [Instr.slice, Sem.run_bind, hun, Result.andThen_ok, em, hbounds, run_sizeOf' hz w, Sem.run_pure, if_true, Nat.sub_self]
      | false =>
        rw [hk] at h'
        cases hb3 : (Bool.rec (Bool.rec false (Nat.beq (capCells cap) m) (Nat.ble (Nat.succ l) (capLow cap))) true (capKnown cap) : Bool) with
        | false =>
          rw [hb3] at h'
          have h2' : onB (Nat.beq hi1 l) (k .hollow H) (bad s) = r := h'
          obtain ⟨hz0, h3'⟩ := onB_good h2' hr
          rw [Nat.beq_eq] at hz0
          subst hz0
          refine ⟨_, .slice (some (if c' = hi1 then ⟨y.1, y.2 + off, none⟩ else ⟨y.1, y.2 + (off + hi1 * m), none⟩)) 0 (c' - hi1), h3', ?_, ?_⟩
          · split <;> exact .hollow _ _
          rw [hop, hev]
          by_cases hcl : c' = hi1
          · simp only [Instr.slice, Sem.run_bind, hun, Result.andThen_ok, em, hbounds, run_sizeOf' hz w, Sem.run_pure, if_pos hcl, Nat.sub_self]
          · simp only [Instr.slice, Sem.run_bind, hun, Result.andThen_ok, em, hbounds, run_sizeOf' hz w, Sem.run_pure, if_neg hcl, Option.map_some, addr_add, Nat.add_assoc, Nat.sub_self]
        | true =>
        rw [hb3, onB_true] at h'
        rw [natF_eq, natF_eq, natF_eq] at h'
        have hne : c' ≠ l := by
          cases hkn : capKnown cap with
          | true =>
            rw [hkn] at hk
            have hlt := capKnown_iff.1 hkn
            rw [capOk_exact' hlt hcap]
            intro e; subst e; rw [show (Bool.rec false (Nat.beq cap cap) true : Bool) = Nat.beq cap cap from rfl, Nat.beq_refl] at hk; cases hk
          | false =>
            rw [hkn] at hb3
            obtain ⟨h3, _⟩ := and_rec hb3
            have := ble_le h3
            omega
        refine ⟨_, .slice (some ⟨y.1, y.2 + (off + l * m), none⟩) (hi1 - l) (c' - l), h', .slice hy ?_, ?_⟩
        · have := capOk_cut (l := l) (z := m) hcap (by
            cases hkn : capKnown cap with
            | true => exact .inl (capKnown_iff.1 hkn)
            | false =>
              rw [hkn] at hb3
              obtain ⟨h3, h4⟩ := and_rec hb3
              rw [Nat.beq_eq] at h4
              exact .inr ⟨h4, ble_le h3⟩)
          rw [Nat.add_assoc] at this
          exact this
        · rw [hop, hev]
          simp only [Instr.slice, Sem.run_bind, hun, Result.andThen_ok, em, hbounds, run_sizeOf' hz w, Sem.run_pure, if_neg hne, Option.map_some, addr_add, Nat.add_assoc]
    | some vm =>
      cases uh with
      | none => exact (not_good_bad s (by have h' : bad s = r := h; rw [h']; exact hr)).elim
      | some vh =>
        have h' : slice3 s m b off cap ul vh vm (fun v => k v H) = r := h
        unfold slice3 at h'
        obtain ⟨l, h', bl⟩ := optNat_good h' hr
        obtain ⟨k1, hi1, e1, h'⟩ := natOf_good h' hr
        obtain ⟨k2, mx1, e2, h'⟩ := natOf_good h' hr
        subst e1; subst e2
        obtain ⟨hb, h'⟩ := onB_good h' hr
        obtain ⟨hb1, hb⟩ := and_rec hb
        obtain ⟨hb2, hb3⟩ := and_rec hb
        have h1 := ble_le hb1
        have h2 := ble_le hb2
        have h3 := ble_le hb3
        rw [natF_eq, natF_eq, natF_eq] at h'
        have eh : hi.map a.eval = some (.int k1 hi1) := by
          cases hq : hi.map a.eval with
          | none => rw [hq] at hhi; exact hhi.elim
          | some q => rw [hq] at hhi; rw [intOf_inv hhi]
        have em : mx.map a.eval = some (.int k2 mx1) := by
          cases hq : mx.map a.eval with
          | none => rw [hq] at hm; exact hm.elim
          | some q => rw [hq] at hm; rw [intOf_inv hm]
        have hmB : mx1 < 4611686018427387904 := by
          have : capLow cap < 4611686018427387904 := Nat.mod_lt _ (by decide)
          omega
        have hbounds := run_bounds3 (P := P) (isS := true) (len := len) (cap := c') (k1 := k1) (k2 := k2) (bound_of bl hl) h1 h2 (Nat.le_trans h3 hlow) w
        by_cases hml : mx1 = l
        · subst hml
          have e0 : off + (Bool.rec mx1 0 (Nat.beq mx1 mx1) : Nat) * m = off := by rw [Nat.beq_refl]; simp
          refine ⟨_, .slice (some ⟨y.1, y.2 + (off + (Bool.rec mx1 0 (Nat.beq mx1 mx1) : Nat) * m), none⟩) (hi1 - mx1) (mx1 - mx1), h', .slice hy (capOk_exact (show mx1 - mx1 < 4611686018427387904 by omega)), ?_⟩
          rw [hop, hev, e0]
          simp only [Instr.slice, Sem.run_bind, hun, Result.andThen_ok, eh, em, hbounds, run_sizeOf' hz w, Sem.run_pure, if_true]
        · have e0 : (Bool.rec l 0 (Nat.beq mx1 l) : Nat) = l := by
            have : Nat.beq mx1 l = false := by rw [← Bool.not_eq_true, Nat.beq_eq]; exact hml
            rw [this]
          refine ⟨_, .slice (some ⟨y.1, y.2 + (off + (Bool.rec l 0 (Nat.beq mx1 l) : Nat) * m), none⟩) (hi1 - l) (mx1 - l), h', .slice hy (capOk_exact (show mx1 - l < 4611686018427387904 by omega)), ?_⟩
          rw [hop, hev, e0]
          simp only [Instr.slice, Sem.run_bind, hun, Result.andThen_ok, eh, em, hbounds, run_sizeOf' hz w, Sem.run_pure, if_neg hml, Option.map_some, addr_add, Nat.add_assoc]
  | _ => exact (not_good_bad s (by have h' : bad s = r := h; rw [h']; exact hr)).elim
end
end Go.Ev
