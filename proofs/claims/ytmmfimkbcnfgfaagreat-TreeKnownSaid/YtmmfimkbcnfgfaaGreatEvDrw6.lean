import Derived.Test.YtmmfimkbcnfgfaaGreatEvDrw5
/- Regions whose order is drawn: the state when some of the operations are done. -/
namespace Go.Ev

/-- What is known of an operation that is done. -/
structure Done (s : Stp) : Prop where
  log : s.E.log = s.lg ++ s.K.log
  stay : ∀ b, b < s.K.nxt → b ∉ s.lg → s.E.m.get b = s.K.m.get b
  lt : ∀ b x, s.E.m.get b = some x → b < s.E.nxt
  lgs : ∀ b, b ∈ s.lg → b < s.E.nxt
  klt : ∀ b x, s.K.m.get b = some x → b < s.K.nxt
theorem Done.of {s : Stp} {ι κ : Inj} {w w' : World} (hh : HRel ι s.K w) (h : St ι s.K w κ s.E w') : Done s := by
  obtain ⟨l, h1, h2, h3⟩ := h.log
  have hl : s.lg = l := by
    unfold Stp.lg
    rw [h1]
    simp
  exact ⟨by rw [hl]; exact h1, fun b hb hn => h2 b hb (by rw [← hl]; exact hn), fun b x hb => h.rel.lt hb, fun b hb => h3 b (by rw [← hl]; exact hb), fun b x hb => hh.lt hb⟩
open Classical in
/-- The heap when the operations of S are done. -/
noncomputable def ov (H0 : AH) (st : Nat → Stp) (S : Nat → Bool) : Nat → Nat → Option AObj
  | 0, b => H0.m.get b
  | m + 1, b => if S m = true ∧ (st m).tch b then (st m).E.m.get b else ov H0 st S m b
section
variable {H0 : AH} {st : Nat → Stp}
theorem ov_hit {S : Nat → Bool} {m b : Nat} (h1 : S m = true) (h2 : (st m).tch b) : ov H0 st S (m + 1) b = (st m).E.m.get b := by rw [ov, if_pos ⟨h1, h2⟩]
theorem ov_miss {S : Nat → Bool} {m b : Nat} (h : S m = true → ¬ (st m).tch b) : ov H0 st S (m + 1) b = ov H0 st S m b := by rw [ov, if_neg (fun e => h e.1 e.2)]
theorem ov_skip {S : Nat → Bool} {b m : Nat} : ∀ k, (∀ j, m ≤ j → j < m + k → S j = true → ¬ (st j).tch b) → ov H0 st S (m + k) b = ov H0 st S m b
  | 0, _ => rfl
  | k + 1, h => by
    rw [← Nat.add_assoc, ov_miss (h (m + k) (by omega) (by omega)), ov_skip k fun j h1 h2 => h j h1 (by omega)]
theorem ov_skip' {S : Nat → Bool} {b m k : Nat} (hk : m ≤ k) (h : ∀ j, m ≤ j → j < k → S j = true → ¬ (st j).tch b) : ov H0 st S k b = ov H0 st S m b := by
  obtain ⟨d, rfl⟩ : ∃ d, k = m + d := ⟨k - m, by omega⟩
  exact ov_skip d h
/-- Operations at which both sets agree. -/
theorem ov_congr {S S' : Nat → Bool} {b : Nat} : ∀ m, (∀ j, j < m → (st j).tch b → S j = S' j) → ov H0 st S m b = ov H0 st S' m b
  | 0, _ => rfl
  | m + 1, h => by
    have ih := ov_congr m fun j hj => h j (by omega)
    by_cases ht : (st m).tch b
    · have hs := h m (by omega) ht
      cases hS : S m with
      | true => rw [ov_hit hS ht, ov_hit (hs ▸ hS) ht]
      | false => rw [ov_miss (by rw [hS]; intro e; cases e), ov_miss (by rw [← hs, hS]; intro e; cases e), ih]
    · rw [ov_miss fun _ => ht, ov_miss fun _ => ht, ih]
end
section
variable {P : Program} {call : CallT} {all : List Oper} {bef : List Nat} {st : Nat → Stp} {rs : List DRec} (F : Facts P call all bef all.length st rs)
include F
theorem Facts.lo_le : ∀ (d i : Nat), i + d ≤ all.length → (st i).H.nxt ≤ (st (i + d)).H.nxt
  | 0, i, _ => Nat.le_refl _
  | d + 1, i, h => Nat.le_trans (Facts.lo_le d i (by omega)) (by rw [← Nat.add_assoc, F.hn (i + d) (by omega)]; exact F.up (i + d) (by omega))
theorem Facts.lo_mono {i j : Nat} (hij : i ≤ j) (hj : j ≤ all.length) : (st i).H.nxt ≤ (st j).H.nxt := by
  obtain ⟨d, rfl⟩ : ∃ d, j = i + d := ⟨j - i, by omega⟩
  exact F.lo_le d i hj
theorem Facts.hi_le {i j : Nat} (hij : i < j) (hj : j ≤ all.length) : (st i).E.nxt ≤ (st j).H.nxt := by
  rw [← F.hn i (by omega)]; exact F.lo_mono hij hj
theorem Facts.ov_lt {S : Nat → Bool} (hd : ∀ j, j < all.length → S j = true → Done (st j)) {H0 : AH} (h0 : (st 0).H = H0) (hlt : ∀ b x, H0.m.get b = some x → b < H0.nxt) : ∀ (m b : Nat) (x : AObj), m ≤ all.length → ov H0 st S m b = some x → b < (st m).H.nxt
  | 0, b, x, _, h => by rw [h0]; exact hlt b x h
  | m + 1, b, x, hm, h => by
    by_cases ht : S m = true ∧ (st m).tch b
    · rw [ov_hit ht.1 ht.2] at h
      rw [F.hn m (by omega)]
      exact (hd m (by omega) ht.1).lt b x h
    · rw [ov_miss fun e t => ht ⟨e, t⟩] at h
      exact Nat.lt_of_lt_of_le (Facts.ov_lt hd h0 hlt m b x (by omega) h) (F.lo_mono (by omega) hm)
/-- The heaps in the written order are overlays, as far as S reaches. -/
theorem Facts.is_ov {S : Nat → Bool} (hd : ∀ j, j < all.length → S j = true → Done (st j)) {H0 : AH} (h0 : (st 0).H = H0) {b : Nat} : ∀ m, m ≤ all.length → (∀ j, j < m → (st j).tch b → S j = true) →
    (∀ j, j < m → (∀ p, all[j]? = some p → modeOf all bef p j = .more) → (st (j + 1)).H = (st j).E → (st j).K = (st j).H → S j = true) → (st m).H.m.get b = ov H0 st S m b
  | 0, _, _, _ => by rw [h0]; rfl
  | m + 1, hm, ht, hmo => by
    have ih := Facts.is_ov hd h0 m (by omega) (fun j hj => ht j (by omega)) (fun j hj => hmo j (by omega))
    obtain ⟨o, ho⟩ : ∃ o, all[m]? = some o := ⟨_, List.getElem?_eq_getElem (by omega)⟩
    rcases F.cs m (by omega) o ho with ⟨g1, g2, g3, g4, g5, g6⟩ | ⟨g1, g2, g3, g4, g5, g6⟩ | ⟨g1, g2, g3⟩ | ⟨rd, bb, g1, g2, g3, g4, g5, g6⟩
    · rw [g6, ih, ov_miss fun _ => Stp.still_tch g3 g4 g5 b]
    · rw [g6, ih, ov_miss fun _ => Stp.still_tch g3 g4 g5 b]
    · have hS := hmo m (by omega) (fun p hp => by rw [ho] at hp; cases hp; exact g1) g3 g2
      have hD := hd m (by omega) hS
      rw [g3]
      by_cases htc : (st m).tch b
      · rw [ov_hit hS htc]
      · rw [ov_miss fun _ => htc, ← ih]
        have hkn := F.kn m (by omega)
        rcases Nat.lt_or_ge b (st m).K.nxt with hb | hb
        · rw [hD.stay b hb fun hl => htc (.inl hl), g2]
        · have h1 : (st m).E.m.get b = none := by
            cases hg : (st m).E.m.get b with
            | none => rfl
            | some x => exact (htc (.inr ⟨hkn ▸ hb, hD.lt b x hg⟩)).elim
          have h2 : (st m).K.m.get b = none := by
            cases hg : (st m).K.m.get b with
            | none => rfl
            | some x => have := hD.klt b x hg; omega
          rw [h1, ← g2, h2]
    · rw [g6, merged_get]
      have hl : (st m).lg = (st m).E.log := Stp.lg_nil g2
      by_cases htc : (st m).tch b
      · rw [ov_hit (ht m (by omega) htc) htc]
        unfold Stp.tch at htc
        rw [hl] at htc
        rw [if_pos htc]
      · rw [ov_miss fun _ => htc]
        have htc' := htc
        unfold Stp.tch at htc'
        rw [hl] at htc'
        rw [if_neg htc', ih]
/-- What an operation sees is there, and what is done behind it in the written order leaves it alone. -/
theorem Facts.view (hM : modesOk (modesOf all bef) bef = true) {S : Nat → Bool} (hd : ∀ j, j < all.length → S j = true → Done (st j)) {H0 : AH} (h0 : (st 0).H = H0) (hlt : ∀ b x, H0.m.get b = some x → b < H0.nxt)
    {i : Nat} (hi : i < all.length) (hSi : S i = false) (hup : ∀ j, j < i → ahead bef i j = true → S j = true) (hdown : ∀ j, j < all.length → S j = true → ahead bef j i = false) {b : Nat} {x : AObj} (hb : (st i).K.m.get b = some x) :
    ov H0 st S i b = some x ∧ b < (st i).H.nxt ∧ ∀ j, i ≤ j → j < all.length → S j = true → ¬ (st j).tch b := by
  have h1 : (st i).H.m.get b = some x := by
    obtain ⟨o, ho⟩ : ∃ o, all[i]? = some o := ⟨_, List.getElem?_eq_getElem hi⟩
    rcases F.cs i hi o ho with ⟨g1, g2, g3, g4, g5, g6⟩ | ⟨g1, g2, g3, g4, g5, g6⟩ | ⟨g1, g2, g3⟩ | ⟨rd, bb, g1, g2, g3, g4, g5, g6⟩
    · rw [g2, Tr.get_nil] at hb; cases hb
    · rw [← g2]; exact hb
    · rw [← g2]; exact hb
    · exact (g3 b x hb).1
  have h2 : (st i).H.m.get b = ov H0 st S i b := F.is_ov hd h0 i (Nat.le_of_lt hi) (fun j hj ht => by
      cases ha : ahead bef i j with
      | true => exact hup j hj ha
      | false => exact ((F.pair hM hi hj ha).1 b x hb ht).elim) (fun j hj hm h3 h4 => by
      cases ha : ahead bef i j with
      | true => exact hup j hj ha
      | false => have := (F.pair hM hi hj ha).2.2 h3 h4 hm b; rw [this] at hb; cases hb)
  have h3 : ov H0 st S i b = some x := h2 ▸ h1
  have h4 := F.ov_lt hd h0 hlt i b x (Nat.le_of_lt hi) h3
  refine ⟨h3, h4, fun j hij hj hS ht => ?_⟩
  have hne : i ≠ j := fun e => by rw [e, hS] at hSi; cases hSi
  have hlt' : i < j := by omega
  have hlo := F.lo_mono hij (Nat.le_of_lt hj)
  rcases ht with ht | ht
  · rcases ((F.pair hM hj hlt' (hdown j hj hS)).2.1 b ht).2 with h5 | h5
    · rw [h5] at hb; cases hb
    · omega
  · omega
end
end Go.Ev
