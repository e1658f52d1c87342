import Derived.Test.YtmmfimkbcnfgfaaGreatEvDrw7
/- Regions whose order is drawn: the temporaries when some of the operations are done. -/
namespace Go.Ev

section
variable {all : List Oper} {bef : List Nat}
theorem dstsOnce_spec (h : dstsOnce all = true) {i j : Nat} {o p : Oper} (ho : all[i]? = some o) (hp : all[j]? = some p) {t : Tmp} (h1 : o.dst = some t) (h2 : p.dst = some t) : i = j := by
  have hi : (o, i) ∈ all.zipIdx := by rw [List.mem_zipIdx_iff_getElem?]; exact ho
  have hj : (p, j) ∈ all.zipIdx := by rw [List.mem_zipIdx_iff_getElem?]; exact hp
  have h3 := List.all_eq_true.1 (List.all_eq_true.1 h _ hi) _ hj
  simp only [h1, h2, Bool.or_eq_true, Bool.not_eq_true'] at h3
  rcases h3 with h3 | h3
  · exact beq_of h3
  · rw [Nat.beq_refl] at h3; cases h3
theorem tmpsOk_spec (h : tmpsOk all bef = true) {i j : Nat} {o p : Oper} (ho : all[i]? = some o) (hp : all[j]? = some p) (hne : i ≠ j) {t : Tmp} (h1 : p.dst = some t) (h2 : t ∈ looksA all o) : ahead bef (max i j) (min i j) = true := by
  have hi : (o, i) ∈ all.zipIdx := by rw [List.mem_zipIdx_iff_getElem?]; exact ho
  have hj : (p, j) ∈ all.zipIdx := by rw [List.mem_zipIdx_iff_getElem?]; exact hp
  have h3 := List.all_eq_true.1 (List.all_eq_true.1 h _ hi) _ hj
  simp only [h1, Bool.or_eq_true, Bool.not_eq_true'] at h3
  rcases h3 with h3 | h3 | h3
  · exact (hne (beq_of h3)).elim
  · rw [(memN_iff t _).2 h2] at h3; cases h3
  · unfold ordered at h3
    unfold ahead
    split at h3
    · rename_i b hb; rw [show nth bef (max i j) = some b from hb]; exact h3
    · cases h3
theorem delOf_spec (i : Nat) : ∃ D : List Nat, delOf all bef i = D.map pathOf ∧ ∀ t, t ∈ D ↔ ∃ j p, all[j]? = some p ∧ j < i ∧ ahead bef i j = false ∧ p.dst = some t := by
  refine ⟨all.zipIdx.filterMap fun x => match x.1.dst, Nat.ble (Nat.succ x.2) i && !(Nat.testBit ((nth bef i).getD 0) x.2) with | some d, true => some d | _, _ => none, ?_, fun t => ?_⟩
  · unfold delOf
    rw [List.map_filterMap]
    congr 1
    funext x
    obtain ⟨y, j⟩ := x
    simp only
    cases y.dst with
    | none => rfl
    | some d => cases Nat.ble (Nat.succ j) i && !(Nat.testBit ((nth bef i).getD 0) j) <;> rfl
  · rw [List.mem_filterMap]
    constructor
    · rintro ⟨⟨p, j⟩, hm, he⟩
      rw [List.mem_zipIdx_iff_getElem?] at hm
      simp only at he
      split at he
      · rename_i d hd hb
        cases he
        rw [Bool.and_eq_true, Bool.not_eq_true', succ_ble] at hb
        exact ⟨j, p, hm, hb.1, hb.2, hd⟩
      · cases he
    · rintro ⟨j, p, hm, h1, h2, h3⟩
      refine ⟨(p, j), by rw [List.mem_zipIdx_iff_getElem?]; exact hm, ?_⟩
      have hb : (Nat.ble (Nat.succ j) i && !(Nat.testBit ((nth bef i).getD 0) j)) = true := by
        rw [Bool.and_eq_true, Bool.not_eq_true', succ_ble]; exact ⟨h1, h2⟩
      simp only [h3, hb]
theorem erasedT_get (T : Tm) (t : Nat) : ∀ (D : List Nat), (erasedT T (D.map pathOf)).t.get t = if t ∈ D then none else T.t.get t
  | [] => by rw [if_neg (by simp)]; obtain ⟨t, ds, rm⟩ := T; rfl
  | d :: D => by
    have ih := erasedT_get T t D
    obtain ⟨tr, ds, rm⟩ := T
    show ((erasedT ⟨tr, ds, rm⟩ (D.map pathOf)).t.updP (pathOf d) none).get t = _
    rw [Fr.updP_pathOf, Fr.get_upd, ih]
    by_cases h : t = d
    · rw [if_pos h, if_pos (by simp [h])]
    · rw [if_neg h]; simp [h]
theorem erasedT_ds (T : Tm) (l : List Pth) : (erasedT T l).ds = T.ds ∧ (erasedT T l).rm = T.rm := by obtain ⟨t, ds, rm⟩ := T; exact ⟨rfl, rfl⟩
end
section
variable {P : Program} {call : CallT} {all : List Oper} {bef : List Nat} {st : Nat → Stp} {rs : List DRec} (F : Facts P call all bef all.length st rs) (hO : dstsOnce all = true)
include F hO
theorem Facts.T_hit {j : Nat} {p : Oper} {t : Tmp} (hp : all[j]? = some p) (hd : p.dst = some t) : ∀ (d : Nat), j + 1 + d ≤ all.length → (st (j + 1 + d)).T.t.get t = some (st j).v
  | 0, h => by
    have e : j + 1 + 0 = j + 1 := rfl
    rw [e, F.tm j (by omega) p hp, hd]
    show ((st j).T.t.upd t (some (st j).v)).get t = _
    rw [Fr.get_upd, if_pos rfl]
  | d + 1, h => by
    have ih := Facts.T_hit hp hd d (by omega)
    obtain ⟨o, ho⟩ : ∃ o, all[j + 1 + d]? = some o := ⟨_, List.getElem?_eq_getElem (by omega)⟩
    rw [← Nat.add_assoc, F.tm (j + 1 + d) (by omega) o ho]
    cases hdo : o.dst with
    | none => exact ih
    | some t' =>
      show ((st (j + 1 + d)).T.t.upd t' (some (st (j + 1 + d)).v)).get t = _
      rw [Fr.get_upd, if_neg]
      · exact ih
      · intro e
        subst e
        have := dstsOnce_spec hO hp ho hd hdo
        omega
omit hO in
theorem Facts.T_miss {t : Tmp} : ∀ (i : Nat), i ≤ all.length → (∀ j, j < i → ∀ p, all[j]? = some p → p.dst ≠ some t) → (st i).T.t.get t = (st 0).T.t.get t
  | 0, _, _ => rfl
  | i + 1, h, hn => by
    have ih := Facts.T_miss i (by omega) fun j hj => hn j (by omega)
    obtain ⟨o, ho⟩ : ∃ o, all[i]? = some o := ⟨_, List.getElem?_eq_getElem (by omega)⟩
    rw [F.tm i (by omega) o ho, ← ih]
    cases hdo : o.dst with
    | none => rfl
    | some t' =>
      show ((st i).T.t.upd t' (some (st i).v)).get t = _
      rw [Fr.get_upd, if_neg]
      intro e
      subst e
      exact hn i (by omega) o ho hdo
omit hO in
theorem Facts.T_ds : ∀ (i : Nat), i ≤ all.length → (st i).T.ds = (st 0).T.ds ∧ (st i).T.rm = (st 0).T.rm
  | 0, _ => ⟨rfl, rfl⟩
  | i + 1, h => by
    have ih := Facts.T_ds i (by omega)
    obtain ⟨o, ho⟩ : ∃ o, all[i]? = some o := ⟨_, List.getElem?_eq_getElem (by omega)⟩
    rw [F.tm i (by omega) o ho]
    cases hdo : o.dst with
    | none => exact ih
    | some t' => exact ih
end
end Go.Ev
