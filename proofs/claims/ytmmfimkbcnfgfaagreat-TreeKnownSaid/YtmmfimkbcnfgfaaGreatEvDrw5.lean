import Derived.Test.YtmmfimkbcnfgfaaGreatEvDrw4
/- Regions whose order is drawn: what stands ahead. -/
namespace Go.Ev

def befOne (acc : Array Nat) (o : Oper) : Nat := o.after.foldl (fun s e => if Region.binds .any e then s ||| 2 ^ e.on ||| acc.getD e.on 0 else s) 0
theorem before_snoc (ops : List Oper) (o : Oper) : Region.before ⟨ops ++ [o]⟩ = (Region.before ⟨ops⟩).push (befOne (Region.before ⟨ops⟩) o) := by
  unfold Region.before
  rw [← Array.foldl_toList, ← Array.foldl_toList, List.foldl_append]
  rfl
theorem befOne_bit (acc : Array Nat) (o : Oper) (j : Nat) (h : Nat.testBit (befOne acc o) j = true) : ∃ e ∈ o.after.toList, Region.binds .any e = true ∧ (e.on = j ∨ Nat.testBit (acc.getD e.on 0) j = true) := by
  unfold befOne at h
  rw [← Array.foldl_toList] at h
  have key : ∀ (l : List _) (s : Nat), Nat.testBit (l.foldl (fun s e => if Region.binds .any e then s ||| 2 ^ e.on ||| acc.getD e.on 0 else s) s) j = true →
      Nat.testBit s j = true ∨ ∃ e ∈ l, Region.binds .any e = true ∧ (e.on = j ∨ Nat.testBit (acc.getD e.on 0) j = true) := by
    intro l
    induction l with
    | nil => intro s h; exact .inl h
    | cons e l ih =>
      intro s h
      rw [List.foldl_cons] at h
      rcases ih _ h with h1 | ⟨e', he, h2⟩
      · split at h1
        · rename_i hb
          rw [Nat.testBit_or, Nat.testBit_or, Bool.or_eq_true, Bool.or_eq_true, Nat.testBit_two_pow] at h1
          rcases h1 with (h1 | h1) | h1
          · exact .inl h1
          · exact .inr ⟨e, by simp, hb, .inl (by simpa using h1)⟩
          · exact .inr ⟨e, by simp, hb, .inr h1⟩
        · exact .inl h1
      · exact .inr ⟨e', by simp [he], h2⟩
  rcases key _ 0 h with h1 | h1
  · simp at h1
  · exact h1
theorem before_spec : ∀ (n : Nat) (ops : List Oper), ops.length = n → (Region.before ⟨ops⟩).size = ops.length ∧ ∀ i o, ops[i]? = some o → (∀ e ∈ o.after.toList, Region.binds .any e = true → e.on < i) →
    ∀ j, Nat.testBit ((Region.before ⟨ops⟩).getD i 0) j = true → ∃ e ∈ o.after.toList, Region.binds .any e = true ∧ (e.on = j ∨ Nat.testBit ((Region.before ⟨ops⟩).getD e.on 0) j = true)
  | 0, ops, h => by
    have : ops = [] := List.length_eq_zero_iff.1 h
    subst this
    exact ⟨rfl, fun i o ho => by simp at ho⟩
  | n + 1, ops, h => by
    obtain ⟨ops, o, rfl⟩ : ∃ l x, ops = l ++ [x] := by
      refine ⟨ops.dropLast, ops.getLast (by intro e; subst e; simp at h), (List.dropLast_concat_getLast _).symm⟩
    have hl : ops.length = n := by simpa using h
    obtain ⟨h1, h2⟩ := before_spec n ops hl
    rw [before_snoc]
    have hget : ∀ i, i < ops.length → ((Region.before ⟨ops⟩).push (befOne (Region.before ⟨ops⟩) o)).getD i 0 = (Region.before ⟨ops⟩).getD i 0 := by
      intro i hi
      simp only [Array.getD_eq_getD_getElem?]
      rw [Array.getElem?_push, if_neg (by omega)]
    refine ⟨by simp [h1], fun i o' ho' he j hj => ?_⟩
    by_cases hi : i < ops.length
    · rw [List.getElem?_append_left hi] at ho'
      rw [hget i hi] at hj
      obtain ⟨e, h3, h4, h5⟩ := h2 i o' ho' he j hj
      refine ⟨e, h3, h4, ?_⟩
      rw [hget e.on (by have := he e h3 h4; omega)]
      exact h5
    · have hi' : i = ops.length := by
        have := (List.getElem?_eq_some_iff.1 ho').1
        simp at this
        omega
      subst hi'
      rw [List.getElem?_append_right (by omega)] at ho'
      simp at ho'
      subst ho'
      have hj' : Nat.testBit (befOne (Region.before ⟨ops⟩) o) j = true := by
        simp only [Array.getD_eq_getD_getElem?] at hj
        rw [Array.getElem?_push, if_pos (by omega)] at hj
        exact hj
      obtain ⟨e, h3, h4, h5⟩ := befOne_bit _ o j hj'
      refine ⟨e, h3, h4, ?_⟩
      rw [hget e.on (he e h3 h4)]
      exact h5
end Go.Ev
