import Derived.Test.YtmmfimkbcnfgfaaGreatEvDrw3
/- Regions whose order is drawn: what two operations that may change places have to do with each other. -/
namespace Go.Ev

def cut (κ : Inj) (m : Nat) : Inj := fun b => if b < m then κ b else none
theorem cut_some {κ : Inj} {m b : Nat} {x : Loc} (h : cut κ m b = some x) : b < m ∧ κ b = some x := by
  unfold cut at h
  split at h
  · rename_i hb; exact ⟨hb, h⟩
  · cases h
theorem cut_lt {κ : Inj} {m b : Nat} (h : b < m) : cut κ m b = κ b := if_pos h
theorem cut_le {κ : Inj} {m k : Nat} (h : m ≤ k) : (cut κ m).le (cut κ k) := fun b x e => by
  obtain ⟨h1, h2⟩ := cut_some e
  rw [cut_lt (Nat.lt_of_lt_of_le h1 h)]; exact h2
theorem cut_le_self {κ : Inj} {m : Nat} : (cut κ m).le κ := fun _ _ e => (cut_some e).2
theorem cut_glob {κ : Inj} {m : Nat} (h : gN ≤ m) (r : Gl κ) : Gl (cut κ m) := fun g hg => by
  obtain ⟨s, q, e⟩ := r g hg
  exact ⟨s, q, by rw [cut_lt (Nat.lt_of_lt_of_le hg h)]; exact e⟩
/-- A value whose names one injection knows, and that another relates to something. -/
theorem AVRel.recut {μ κ ν : Inj} (h : ∀ b x, μ b = some x → ν b = κ b) {v : AV} {y : Value} (r : AVRel μ v y) : ∀ {z : Value}, AVRel κ v z → AVRel ν v z := by
  induction r with
  | int => intro z q; cases q; exact .int _ _
  | bool => intro z q; cases q; exact .bool _
  | str => intro z q; cases q; exact .str _
  | nilPtr => intro z q; cases q; exact .nilPtr
  | nilSlice => intro z q; cases q; exact .nilSlice
  | nilMap => intro z q; cases q; exact .nilMap
  | nilFunc => intro z q; cases q; exact .nilFunc
  | nilIface => intro z q; cases q; exact .nilIface
  | ptr e => intro z q; cases q with | ptr e' => exact .ptr ((h _ _ e).trans e')
  | slice e hc => intro z q; cases q with | slice e' hc' => exact .slice ((h _ _ e).trans e') hc'
  | map e h0 => intro z q; cases q with | map e' h0' => exact .map ((h _ _ e).trans e') h0'
  | func hp lf hf lc hc ihf ihc =>
    intro z q
    cases q with
    | func hp' lf' hf' lc' hc' =>
      refine .func hp' lf' (fun i x y hx hy => ?_) lc' (fun i x y hx hy => ?_)
      · rename_i f c f' c' f2 c2
        have hi : i < f'.length := by rw [← lf]; exact (List.getElem?_eq_some_iff.1 hx).1
        exact ihf i x _ hx (List.getElem?_eq_getElem hi) (hf' i x y hx hy)
      · rename_i f c f' c' f2 c2
        have hi : i < c'.length := by rw [← lc]; exact (List.getElem?_eq_some_iff.1 hx).1
        exact ihc i x _ hx (List.getElem?_eq_getElem hi) (hc' i x y hx hy)
  | iface _ ih => intro z q; cases q with | iface q' => exact .iface (ih q')
  | hollow => intro z q; cases q; exact .hollow _ _
  | agg hl hr ih =>
    intro z q
    cases q with
    | agg hl' hr' =>
      refine .agg hl' (fun i x y hx hy => ?_)
      rename_i l l' l2
      have hi : i < l'.length := by rw [← hl]; exact (List.getElem?_eq_some_iff.1 hx).1
      exact ih i x _ hx (List.getElem?_eq_getElem hi) (hr' i x y hx hy)
  | tup hl hr ih =>
    intro z q
    cases q with
    | tup hl' hr' =>
      refine .tup hl' (fun i x y hx hy => ?_)
      rename_i l l' l2
      have hi : i < l'.length := by rw [← hl]; exact (List.getElem?_eq_some_iff.1 hx).1
      exact ih i x _ hx (List.getElem?_eq_getElem hi) (hr' i x y hx hy)
theorem modesOf_get {all : List Oper} {bef : List Nat} {i : Nat} {o : Oper} (h : all[i]? = some o) : (modesOf all bef)[i]? = some (modeOf all bef o i) := by
  unfold modesOf
  simp [List.getElem?_map, List.getElem?_zipIdx, h]
theorem modesOk_pair {all : List Oper} {bef : List Nat} (hM : modesOk (modesOf all bef) bef = true) {i j : Nat} {o p : Oper} (hoi : all[i]? = some o) (hpj : all[j]? = some p) (hji : j < i) (hun : ahead bef i j = false) :
    apartOk (modeOf all bef p j) (modeOf all bef o i) = true := by
  have hi : (modeOf all bef o i, i) ∈ (modesOf all bef).zipIdx := by rw [List.mem_zipIdx_iff_getElem?]; exact modesOf_get hoi
  have hj : (modeOf all bef p j, j) ∈ (modesOf all bef).zipIdx := by rw [List.mem_zipIdx_iff_getElem?]; exact modesOf_get hpj
  have h1 := List.all_eq_true.1 hM _ hi
  simp only [Bool.and_eq_true] at h1
  have h2 := List.all_eq_true.1 h1.2 _ hj
  simp only [Bool.or_eq_true, Bool.not_eq_true'] at h2
  rcases h2 with (h2 | h2) | h2
  · rw [(succ_ble j i).2 hji] at h2; cases h2
  · unfold ahead at hun; rw [hun] at h2; cases h2
  · exact h2
theorem modeOf_apart {all : List Oper} {bef : List Nat} {o : Oper} {i : Nat} {rd : Bool} {b : Nat} (h : modeOf all bef o i = .apart rd b) : b = (nth bef i).getD 0 := by
  unfold modeOf at h
  split at h
  · cases h
  · split at h
    · cases h; rfl
    · split at h <;> cases h
section
variable {P : Program} {call : CallT} {all : List Oper} {bef : List Nat} {st : Nat → Stp} {rs : List DRec}
theorem Stp.still_tch {s : Stp} (h1 : s.K.log = []) (h2 : s.E.log = []) (h3 : s.E.nxt = s.H.nxt) (b : Nat) : ¬ s.tch b := by
  unfold Stp.tch
  rw [Stp.lg_nil h1, h2, h3]
  rintro (h | h)
  · cases h
  · omega
/-- Two operations that may change places. -/
theorem Facts.pair (F : Facts P call all bef all.length st rs) (hM : modesOk (modesOf all bef) bef = true) {i j : Nat} (hi : i < all.length) (hji : j < i) (hun : ahead bef i j = false) :
    (∀ b x, (st i).K.m.get b = some x → ¬ (st j).tch b) ∧ (∀ b, b ∈ (st i).lg → ¬ (st j).tch b ∧ ((st j).K.m.get b = none ∨ (st i).H.nxt ≤ b)) ∧
    ((st (j + 1)).H = (st j).E → (st j).K = (st j).H → (∀ p, all[j]? = some p → modeOf all bef p j = .more) → ∀ b, (st i).K.m.get b = none) := by
  obtain ⟨o, ho⟩ : ∃ o, all[i]? = some o := ⟨_, List.getElem?_eq_getElem hi⟩
  obtain ⟨p, hp⟩ : ∃ p, all[j]? = some p := ⟨_, List.getElem?_eq_getElem (Nat.lt_trans hji hi)⟩
  have hpair := modesOk_pair hM ho hp hji hun
  have hun' : Nat.testBit ((nth bef i).getD 0) j = false := hun
  rcases F.cs i hi o ho with ⟨h1, h2, h3, h4, h5, h6⟩ | ⟨h1, h2, h3, h4, h5, h6⟩ | ⟨h1, h2, h3⟩ | ⟨rd, b, h1, h2, h3, h4, h5, h6⟩
  · refine ⟨fun b x hb => ?_, fun b hb => ?_, fun _ _ _ b => ?_⟩
    · rw [h2, Tr.get_nil] at hb; cases hb
    · rw [Stp.lg_nil h3, h4] at hb; cases hb
    · rw [h2, Tr.get_nil]
  all_goals rcases F.cs j (Nat.lt_trans hji hi) p hp with ⟨g1, g2, g3, g4, g5, g6⟩ | ⟨g1, g2, g3, g4, g5, g6⟩ | ⟨g1, g2, g3⟩ | ⟨rd', b', g1, g2, g3, g4, g5, g6⟩
  all_goals rw [h1, g1] at hpair
  -- reads
  · refine ⟨fun b x _ => Stp.still_tch g3 g4 g5 b, fun b hb => ?_, fun _ _ hm => by have := hm p hp; rw [g1] at this; cases this⟩
    rw [Stp.lg_nil h3, h4] at hb; cases hb
  · refine ⟨fun b x _ => Stp.still_tch g3 g4 g5 b, fun b hb => ?_, fun _ _ hm => by have := hm p hp; rw [g1] at this; cases this⟩
    rw [Stp.lg_nil h3, h4] at hb; cases hb
  · cases hpair
  · cases rd' with
    | false => cases hpair
    | true =>
      refine ⟨fun b x _ => Stp.still_tch g2 (g4 rfl).1 (g4 rfl).2 b, fun b hb => ?_, fun _ _ hm => by have := hm p hp; rw [g1] at this; cases this⟩
      rw [Stp.lg_nil h3, h4] at hb; cases hb
  -- more
  · exact ⟨fun b x _ => Stp.still_tch g3 g4 g5 b, fun b _ => ⟨Stp.still_tch g3 g4 g5 b, .inl (by rw [g2, Tr.get_nil])⟩, fun _ _ hm => by have := hm p hp; rw [g1] at this; cases this⟩
  · cases hpair
  · cases hpair
  · cases hpair
  -- apart
  · exact ⟨fun b x _ => Stp.still_tch g3 g4 g5 b, fun b _ => ⟨Stp.still_tch g3 g4 g5 b, .inl (by rw [g2, Tr.get_nil])⟩, fun _ _ hm => by have := hm p hp; rw [g1] at this; cases this⟩
  · cases rd with
    | false => cases hpair
    | true =>
      refine ⟨fun b x _ => Stp.still_tch g3 g4 g5 b, fun b hb => ?_, fun _ _ hm => by have := hm p hp; rw [g1] at this; cases this⟩
      rw [Stp.lg_nil h2, (h4 rfl).1] at hb; cases hb
  · cases hpair
  · have hb := modeOf_apart h1
    subst hb
    refine ⟨fun c x hc => (h3 c x hc).2 j hji hun' p rd' b' hp g1, fun c hc => ?_, fun _ _ hm => by have := hm p hp; rw [g1] at this; cases this⟩
    rw [Stp.lg_nil h2] at hc
    exact h5 c hc j hji hun' p rd' b' hp g1
end
end Go.Ev
