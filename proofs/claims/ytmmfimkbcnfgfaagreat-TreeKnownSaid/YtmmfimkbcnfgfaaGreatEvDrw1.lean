import Derived.Test.YtmmfimkbcnfgfaaGreatEvCode6
/- Regions whose order is drawn: what the records of the abstract evaluator say. -/
namespace Go.Ev

theorem memN_iff (b : Nat) : ∀ (l : List Nat), memN b l = true ↔ b ∈ l
  | [] => by simp [memN]
  | x :: l => by
    show (Bool.rec (memN b l) true (Nat.beq x b) : Bool) = true ↔ _
    cases h : Nat.beq x b with
    | true => rw [Nat.beq_eq] at h; subst h; simp
    | false =>
      have hne : x ≠ b := fun e => by rw [e, Nat.beq_refl] at h; cases h
      rw [List.mem_cons, memN_iff b l]
      constructor
      · exact .inr
      · rintro (e | e)
        · exact (hne e.symm).elim
        · exact e
theorem rec_and (a b : Bool) : (Bool.rec false b a : Bool) = true ↔ a = true ∧ b = true := by cases a <;> simp
theorem rec_or (a b : Bool) : (Bool.rec b true a : Bool) = true ↔ a = true ∨ b = true := by cases a <;> simp
theorem rec_not_and (a b : Bool) : (Bool.rec b false a : Bool) = true ↔ a = false ∧ b = true := by cases a <;> simp
theorem succ_ble (a b : Nat) : Nat.ble (Nat.succ a) b = true ↔ a < b := by rw [Nat.ble_eq]; exact Iff.rfl
def DRec.tch (r : DRec) (b : Nat) : Prop := b ∈ r.log ∨ (r.lo ≤ b ∧ b < r.hi)
theorem touch_iff (r : DRec) (b : Nat) : r.touch b = true ↔ r.tch b := by
  show (Bool.rec (Bool.rec false (Nat.ble (Nat.succ b) r.hi) (Nat.ble r.lo b)) true (memN b r.log) : Bool) = true ↔ _
  rw [rec_or, rec_and, memN_iff, succ_ble, Nat.ble_eq]
  exact Iff.rfl
theorem touchAny_iff (b : Nat) : ∀ (rs : List DRec), touchAny b rs = true ↔ ∃ r ∈ rs, r.tch b
  | [] => by simp [touchAny]
  | r :: rs => by
    show (Bool.rec (touchAny b rs) true (r.touch b) : Bool) = true ↔ _
    rw [rec_or, touchAny_iff b rs, touch_iff]
    simp
theorem untouched_iff (rs : List DRec) : ∀ (l : List Nat), untouched l rs = true ↔ ∀ b ∈ l, ∀ r ∈ rs, ¬ r.tch b
  | [] => by simp [untouched]
  | b :: l => by
    show (Bool.rec (untouched l rs) false (touchAny b rs) : Bool) = true ↔ _
    rw [rec_not_and, untouched_iff rs l, ← Bool.not_eq_true, touchAny_iff]
    simp
theorem unordered_mem (bef : Nat) (r : DRec) : ∀ (rs : List DRec), r ∈ unordered bef rs ↔ r ∈ rs ∧ Nat.testBit bef r.i = false
  | [] => by simp [unordered]
  | x :: rs => by
    show r ∈ (Bool.rec (x :: unordered bef rs) (unordered bef rs) (Nat.testBit bef x.i) : List DRec) ↔ _
    cases h : Nat.testBit bef x.i with
    | true =>
      rw [unordered_mem bef r rs, List.mem_cons]
      constructor
      · exact fun ⟨h1, h2⟩ => ⟨.inr h1, h2⟩
      · rintro ⟨rfl | h1, h2⟩
        · rw [h] at h2; cases h2
        · exact ⟨h1, h2⟩
    | false =>
      show r ∈ x :: unordered bef rs ↔ _
      rw [List.mem_cons, unordered_mem bef r rs, List.mem_cons]
      constructor
      · rintro (rfl | ⟨h1, h2⟩)
        · exact ⟨.inl rfl, h⟩
        · exact ⟨.inr h1, h2⟩
      · rintro ⟨rfl | h1, h2⟩
        · exact .inl rfl
        · exact .inr ⟨h1, h2⟩
theorem restrict_get (H : AH) : ∀ (ids : List Nat) (b : Nat), (restrictTo H ids).m.get b = if b ∈ ids then H.m.get b else none
  | [], b => by rw [if_neg (by simp)]; exact Tr.get_nil b
  | x :: ids, b => by
    have ih := restrict_get H ids b
    have e : (restrictTo H (x :: ids)).m = (Option.rec (motive := fun _ => Tr AObj) (restrictTo H ids).m (fun o => (restrictTo H ids).m.upd x (some o)) (H.m.get x)) := rfl
    rw [e]
    cases hx : H.m.get x with
    | none =>
      show (restrictTo H ids).m.get b = _
      rw [ih]
      by_cases hb : b = x
      · subst hb
        rw [hx]
        simp
      · simp [hb]
    | some o =>
      show ((restrictTo H ids).m.upd x (some o)).get b = _
      rw [Tr.get_upd, ih]
      by_cases hb : b = x
      · subst hb
        rw [if_pos rfl, if_pos (List.mem_cons_self ..), hx]
      · rw [if_neg hb]
        simp [hb]
theorem eraseL_get (t : Tr AObj) : ∀ (ids : List Nat) (b : Nat), (eraseL t ids).get b = if b ∈ ids then none else t.get b
  | [], b => by rw [if_neg (by simp)]; rfl
  | x :: ids, b => by
    show ((eraseL t ids).upd x none).get b = _
    rw [Tr.get_upd, eraseL_get t ids b]
    by_cases hb : b = x
    · rw [if_pos hb, if_pos (by simp [hb])]
    · rw [if_neg hb]; simp [hb]
theorem eraseR_get (t : Tr AObj) (lo : Nat) : ∀ (n b : Nat), (eraseR t lo n).get b = if lo ≤ b ∧ b < lo + n then none else t.get b
  | 0, b => by rw [if_neg (by omega)]; rfl
  | n + 1, b => by
    show ((eraseR t lo n).upd (lo + n) none).get b = _
    rw [Tr.get_upd, eraseR_get t lo n b]
    by_cases hb : b = lo + n
    · rw [if_pos hb, if_pos (by omega)]
    · rw [if_neg hb]
      by_cases h : lo ≤ b ∧ b < lo + n
      · rw [if_pos h, if_pos (by omega)]
      · rw [if_neg h, if_neg (by omega)]
open Classical in
theorem minusAll_get (t : Tr AObj) : ∀ (rs : List DRec) (b : Nat), (minusAll t rs).get b = if ∃ r ∈ rs, r.tch b then none else t.get b
  | [], b => by rw [if_neg (by simp)]; rfl
  | r :: rs, b => by
    show (eraseR (eraseL (minusAll t rs) r.log) r.lo (r.hi - r.lo)).get b = _
    rw [eraseR_get, eraseL_get, minusAll_get t rs b]
    by_cases h1 : r.lo ≤ b ∧ b < r.lo + (r.hi - r.lo)
    · rw [if_pos h1, if_pos ⟨r, by simp, .inr ⟨h1.1, by omega⟩⟩]
    · rw [if_neg h1]
      by_cases h2 : b ∈ r.log
      · rw [if_pos h2, if_pos ⟨r, by simp, .inl h2⟩]
      · rw [if_neg h2]
        by_cases h3 : ∃ r ∈ rs, r.tch b
        · obtain ⟨q, hq, hb⟩ := h3
          rw [if_pos ⟨q, hq, hb⟩, if_pos ⟨q, by simp [hq], hb⟩]
        · rw [if_neg h3, if_neg]
          rintro ⟨q, hq, hb⟩
          rcases List.mem_cons.1 hq with rfl | hq
          · rcases hb with hb | hb
            · exact h2 hb
            · exact h1 (by omega)
          · exact h3 ⟨q, hq, hb⟩
theorem copyL_get (t u : Tr AObj) : ∀ (ids : List Nat) (b : Nat), (copyL t u ids).get b = if b ∈ ids then u.get b else t.get b
  | [], b => by rw [if_neg (by simp)]; rfl
  | x :: ids, b => by
    show ((copyL t u ids).upd x (u.get x)).get b = _
    rw [Tr.get_upd, copyL_get t u ids b]
    by_cases hb : b = x
    · subst hb; rw [if_pos rfl, if_pos (by simp)]
    · rw [if_neg hb]; simp [hb]
theorem copyR_get (t u : Tr AObj) (lo : Nat) : ∀ (n b : Nat), (copyR t u lo n).get b = if lo ≤ b ∧ b < lo + n then u.get b else t.get b
  | 0, b => by rw [if_neg (by omega)]; rfl
  | n + 1, b => by
    show ((copyR t u lo n).upd (lo + n) (u.get (lo + n))).get b = _
    rw [Tr.get_upd, copyR_get t u lo n b]
    by_cases hb : b = lo + n
    · subst hb; rw [if_pos rfl, if_pos (by omega)]
    · rw [if_neg hb]
      by_cases h : lo ≤ b ∧ b < lo + n
      · rw [if_pos h, if_pos (by omega)]
      · rw [if_neg h, if_neg (by omega)]
theorem merged_get (H E : AH) (b : Nat) : (merged H E).m.get b = if (b ∈ E.log ∨ (H.nxt ≤ b ∧ b < E.nxt)) then E.m.get b else H.m.get b := by
  show (copyR (copyL H.m E.m E.log) E.m H.nxt (E.nxt - H.nxt)).get b = _
  rw [copyR_get, copyL_get]
  by_cases h1 : H.nxt ≤ b ∧ b < H.nxt + (E.nxt - H.nxt)
  · rw [if_pos h1, if_pos (.inr (by omega))]
  · rw [if_neg h1]
    by_cases h2 : b ∈ E.log
    · rw [if_pos h2, if_pos (.inl h2)]
    · rw [if_neg h2, if_neg]
      rintro (h | h)
      · exact h2 h
      · exact h1 (by omega)
theorem writeOk_iff (nxt b : Nat) : ∀ (rs : List DRec), writeOk nxt b rs = true ↔ ∀ r ∈ rs, (r.all = true → nxt ≤ b) ∧ (r.all = false → b ∉ r.fp)
  | [] => by simp [writeOk]
  | r :: rs => by
    show (Bool.rec (Bool.rec (writeOk nxt b rs) false (memN b r.fp)) (Bool.rec false (writeOk nxt b rs) (Nat.ble nxt b)) r.all : Bool) = true ↔ _
    have ih := writeOk_iff nxt b rs
    cases h : r.all with
    | true =>
      show (Bool.rec false (writeOk nxt b rs) (Nat.ble nxt b) : Bool) = true ↔ _
      rw [rec_and, ih, Nat.ble_eq]
      simp [h]
    | false =>
      show (Bool.rec (writeOk nxt b rs) false (memN b r.fp) : Bool) = true ↔ _
      rw [rec_not_and, ih, ← Bool.not_eq_true, memN_iff]
      simp [h]
theorem writesOk_iff (nxt : Nat) (rs : List DRec) : ∀ (log : List Nat), writesOk nxt log rs = true ↔ ∀ b ∈ log, (∀ r ∈ rs, (r.all = true → nxt ≤ b) ∧ (r.all = false → b ∉ r.fp)) ∧ ∀ r ∈ rs, ¬ r.tch b
  | [] => by simp [writesOk]
  | b :: log => by
    show (Bool.rec false (Bool.rec (writesOk nxt log rs) false (touchAny b rs)) (writeOk nxt b rs) : Bool) = true ↔ _
    rw [rec_and, rec_not_and, writesOk_iff nxt rs log, writeOk_iff, ← Bool.not_eq_true, touchAny_iff]
    simp only [List.forall_mem_cons]
    constructor
    · rintro ⟨h1, h2, h3⟩
      exact ⟨⟨h1, fun r hr ht => h2 ⟨r, hr, ht⟩⟩, h3⟩
    · rintro ⟨⟨h1, h2⟩, h3⟩
      exact ⟨h1, fun ⟨r, hr, ht⟩ => h2 r hr ht, h3⟩
theorem still_iff (n : Nat) (E : AH) : still n E = true ↔ E.log = [] ∧ E.nxt = n := by
  show (Bool.rec false (Nat.beq E.nxt n) (isNilL E.log) : Bool) = true ↔ _
  rw [rec_and, Nat.beq_eq]
  have : isNilL E.log = true ↔ E.log = [] := by
    cases E.log with
    | nil => simp [isNilL]
    | cons x l => simp [isNilL]
  rw [this]
end Go.Ev
