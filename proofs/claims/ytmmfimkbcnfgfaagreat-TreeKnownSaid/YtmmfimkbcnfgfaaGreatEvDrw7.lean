import Derived.Test.YtmmfimkbcnfgfaaGreatEvDrw6
/- Regions whose order is drawn: what holds when some of the operations are done, and one more. -/
namespace Go.Ev

/-- What holds of memory when the operations of S are done. -/
structure Inv (N : Nat) (st : Nat → Stp) (ι0 : Inj) (H0 : AH) (w0 : World) (S : Nat → Bool) (κ : Inj) (w : World) : Prop where
  own : ∀ b, b < H0.nxt → κ b = ι0 b
  glob : Gl κ
  low : gN ≤ H0.nxt
  inn : ∀ b x, κ b = some x → b < H0.nxt ∨ ∃ j, j < N ∧ S j = true ∧ (st j).H.nxt ≤ b ∧ b < (st j).E.nxt
  get : ∀ m, m ≤ N → ∀ b o, (∀ j, m ≤ j → j < N → S j = true → ¬ (st j).tch b) → ov H0 st S m b = some o → ∃ x o', κ b = some x ∧ w.heap[x.1]? = some o' ∧ ORel (cut κ (st m).H.nxt) x o o'
  sep : ∀ c d p q x y, ov H0 st S N c = some p → ov H0 st S N d = some q → κ c = some x → κ d = some y → x.1 = y.1 → c = d ∨ x.ro = true
  ro : ∀ b x a o y, κ b = some x → x.ro = true → ov H0 st S N a = some o → κ a = some y → x.1 = y.1 → y.ro = true
  rod : ∀ b x, κ b = some x → x.ro = true → x.1 < w.heap.size
  roh : ∀ b x, ι0 b = some x → x.ro = true → w.heap[x.1]? = w0.heap[x.1]?
  nro : ∀ b x, H0.nxt ≤ b → κ b = some x → x.ro = false
  frs : ∀ b, H0.nxt ≤ b → ι0 b = none
  done : ∀ j, j < N → S j = true → Done (st j)
  size : w0.heap.size ≤ w.heap.size
  frame : ∀ b', b' < w0.heap.size → (∀ b o x, H0.m.get b = some o → ι0 b = some x → x.1 ≠ b') → w.heap[b']? = w0.heap[b']?
  img : ∀ b o x, ov H0 st S N b = some o → κ b = some x → (∃ c p y, H0.m.get c = some p ∧ ι0 c = some y ∧ y.1 = x.1) ∨ w0.heap.size ≤ x.1
  os : w.os = w0.os
  out : w.output = w0.output
  tape : w.tape = w0.tape
theorem ORel.recut {μ κ ν : Inj} (h : ∀ b x, μ b = some x → ν b = κ b) {x : Loc} {o : AObj} {o1 o2 : Obj} (r : ORel μ x o o1) (q : ORel κ x o o2) : ORel ν x o o2 := by
  cases q with
  | cells hn hc hk hf =>
    cases r with
    | cells hn' hc' hk' hf' => exact .cells hn (fun i v hi => by
        obtain ⟨y, hy, hr⟩ := hc i v hi
        obtain ⟨y', hy', hr'⟩ := hc' i v hi
        exact ⟨y, hy, hr'.recut h hr⟩) hk hf
  | map hk hs hl he =>
    cases r with
    | map hk' hs' hl' he' =>
      rename_i es clock es2 es1
      refine .map hk hs hl fun i p q hp hq => ?_
      obtain ⟨h1, h2, h3⟩ := he i p q hp hq
      have hi : i < es1.toList.length := by rw [← hl']; exact (List.getElem?_eq_some_iff.1 hp).1
      obtain ⟨g1, g2, g3⟩ := he' i p _ hp (List.getElem?_eq_getElem hi)
      exact ⟨g1.recut h h1, g2.recut h h2, h3⟩
  | strIter hk hs => exact .strIter hk hs
section
variable {P : Program} {call : CallT} {all : List Oper} {bef : List Nat} {st : Nat → Stp} {rs : List DRec} (F : Facts P call all bef all.length st rs) (hM : modesOk (modesOf all bef) bef = true)
variable {ι0 : Inj} {H0 : AH} {w0 w : World} {S : Nat → Bool} {κ : Inj} (hI : Inv all.length st ι0 H0 w0 S κ w) (h0 : (st 0).H = H0) (hlt : ∀ b x, H0.m.get b = some x → b < H0.nxt)
variable {i : Nat} (hi : i < all.length) (hSi : S i = false) (hup : ∀ j, j < i → ahead bef i j = true → S j = true) (hdown : ∀ j, j < all.length → S j = true → ahead bef j i = false)
include F hM hI h0 hlt hi hSi hup hdown
theorem Inv.view_get {b : Nat} {x : AObj} (hb : (st i).K.m.get b = some x) : ov H0 st S i b = some x ∧ b < (st i).H.nxt ∧ ov H0 st S all.length b = some x ∧
    ∃ y o', κ b = some y ∧ w.heap[y.1]? = some o' ∧ ORel (cut κ (st i).H.nxt) y x o' := by
  obtain ⟨h1, h2, h3⟩ := F.view hM hI.done h0 hlt hi hSi hup hdown hb
  exact ⟨h1, h2, (ov_skip' (Nat.le_of_lt hi) h3).trans h1, hI.get i (Nat.le_of_lt hi) b x h3 h1⟩
/-- The heap that an operation sees, in the state in which it is run. -/
theorem Inv.hrel : HRel (cut κ (st i).H.nxt) (st i).K w := by
  have hkn := F.kn i hi
  have hlo : gN ≤ (st i).H.nxt := Nat.le_trans hI.low (by rw [← h0]; exact F.lo_mono (Nat.zero_le i) (Nat.le_of_lt hi))
  refine ⟨fun b x hb => ?_, fun c d p q x y hc hd ex ey e => ?_, fun b x c o y ex hx hc ey e => ?_, fun b x e q => hI.rod b x (cut_some e).2 q, fun b hb => ?_, cut_glob hlo hI.glob, by rw [hkn]; exact hlo⟩
  · obtain ⟨h1, h2, h3, y, o', h4, h5, h6⟩ := hI.view_get F hM h0 hlt hi hSi hup hdown hb
    exact ⟨y, o', by rw [cut_lt h2]; exact h4, h5, h6⟩
  · obtain ⟨_, _, h3, _⟩ := hI.view_get F hM h0 hlt hi hSi hup hdown hc
    obtain ⟨_, _, g3, _⟩ := hI.view_get F hM h0 hlt hi hSi hup hdown hd
    exact hI.sep c d p q x y h3 g3 (cut_some ex).2 (cut_some ey).2 e
  · obtain ⟨_, _, h3, _⟩ := hI.view_get F hM h0 hlt hi hSi hup hdown hc
    exact hI.ro b x c o y (cut_some ex).2 hx h3 (cut_some ey).2 e
  · exact if_neg (by omega)
variable {κ' : Inj} {w' : World} (hst : St (cut κ (st i).H.nxt) (st i).K w κ' (st i).E w')
include hst
omit hM h0 hlt hSi hup hdown hI in
theorem new_old {b : Nat} (hb : b < (st i).H.nxt) : κ' b = κ b := by
  rw [hst.old b (by rw [F.kn i hi]; exact hb), cut_lt hb]
def glue (κ κ' : Inj) (lo hi : Nat) : Inj := fun b => if lo ≤ b ∧ b < hi then κ' b else κ b
omit hM hup hdown hst hlt in
theorem Inv.not_new {b : Nat} {x : Loc} (h : κ b = some x) : ¬ ((st i).H.nxt ≤ b ∧ b < (st i).E.nxt) := by
  rintro ⟨h1, h2⟩
  rcases hI.inn b x h with h3 | ⟨j, hj, hS, h3, h4⟩
  · have := F.lo_mono (Nat.zero_le i) (Nat.le_of_lt hi)
    rw [h0] at this
    omega
  · have hne : j ≠ i := fun e => by rw [e, hSi] at hS; cases hS
    rcases Nat.lt_or_ge j i with h5 | h5
    · have := F.hi_le h5 (Nat.le_of_lt hi); omega
    · have := F.hi_le (show i < j by omega) (Nat.le_of_lt hj); omega
omit hM hup hdown hst hlt in
theorem Inv.glue_le : κ.le (glue κ κ' (st i).H.nxt (st i).E.nxt) := fun b x e => by
  unfold glue
  rw [if_neg (hI.not_new F h0 hi hSi e)]
  exact e
omit hM hlt hSi hup hdown h0 hI in
theorem glue_new {b : Nat} (hb : b < (st i).E.nxt) : glue κ κ' (st i).H.nxt (st i).E.nxt b = κ' b := by
  unfold glue
  by_cases h : (st i).H.nxt ≤ b
  · rw [if_pos ⟨h, hb⟩]
  · rw [if_neg (fun e => h e.1), new_old F hi hst (by omega)]
omit hM hlt hSi hup hdown h0 hI in
theorem new_le {m : Nat} (hm : (st i).E.nxt ≤ m) : κ'.le (cut (glue κ κ' (st i).H.nxt (st i).E.nxt) m) := fun b x e => by
  have hb : b < (st i).E.nxt := by
    rcases Nat.lt_or_ge b (st i).E.nxt with h | h
    · exact h
    · rw [hst.rel.fresh b h] at e; cases e
  rw [cut_lt (by omega), glue_new F hi hst hb]; exact e
/-- What an operation does not touch stays. -/
theorem Inv.kept {b : Nat} {x : Loc} {o : AObj} {o' : Obj} {B : Nat} (hn : ¬ (st i).tch b) (hb : ov H0 st S all.length b = some o) (hk : κ b = some x) (hw : w.heap[x.1]? = some o') (hr : ORel (cut κ B) x o o') :
    ∃ o1, w'.heap[x.1]? = some o1 ∧ ORel (cut (glue κ κ' (st i).H.nxt (st i).E.nxt) B) x o o1 := by
  have hle := hI.glue_le (κ' := κ') F h0 hi hSi
  have hcut : ∀ m, (cut κ m).le (cut (glue κ κ' (st i).H.nxt (st i).E.nxt) m) := fun m c y e => by
    obtain ⟨h1, h2⟩ := cut_some e
    rw [cut_lt h1]; exact hle c y h2
  have hD : Done (st i) := Done.of (hI.hrel F hM h0 hlt hi hSi hup hdown) hst
  by_cases hv : ∃ c q y, (st i).K.m.get c = some q ∧ κ c = some y ∧ y.1 = x.1
  · obtain ⟨c, q, y, hc, hy, he⟩ := hv
    obtain ⟨h1, h2, h3, y1, o2, h4, h5, h6⟩ := hI.view_get F hM h0 hlt hi hSi hup hdown hc
    rcases hI.sep c b q o y x h3 hb hy hk he with hcb | hyr
    case inr =>
      refine ⟨o', ?_, hr.mono (hcut B)⟩
      rw [← he, hst.ro c y (by rw [cut_lt h2]; exact hy) hyr, he]
      exact hw
    subst hcb
    rw [hb] at h3
    cases h3
    rw [hk] at h4; cases h4
    rw [hw] at h5; cases h5
    have hE : (st i).E.m.get c = some o := by
      rw [hD.stay c (by rw [F.kn i hi]; exact h2) fun hl => hn (.inl hl)]; exact hc
    obtain ⟨x1, o1, hx1, hw1, hr1⟩ := hst.rel.get c o hE
    rw [new_old F hi hst h2, hk] at hx1
    cases hx1
    refine ⟨o1, hw1, ?_⟩
    have hre : ∀ m, m ≤ (st i).H.nxt → ORel (cut κ m) x o o' → ORel (cut (glue κ κ' (st i).H.nxt (st i).E.nxt) m) x o o1 := fun m hm hrm =>
      hrm.recut (fun d z e => by
        obtain ⟨g1, g2⟩ := cut_some e
        rw [cut_lt g1, hle d z g2, new_old F hi hst (by omega), g2]) hr1
    rcases Nat.le_total B (st i).H.nxt with hB | hB
    · exact hre B hB hr
    · exact (hre _ (Nat.le_refl _) h6).mono (cut_le hB)
  · refine ⟨o', ?_, hr.mono (hcut B)⟩
    rw [hst.frame x.1 (Array.getElem?_eq_some_iff.1 hw).1 fun c q y hc hy e => hv ⟨c, q, y, hc, (cut_some hy).2, e⟩]
    exact hw
/-- One operation more. -/
theorem Inv.step {S' : Nat → Bool} (hS' : ∀ j, S' j = true ↔ (S j = true ∨ j = i)) : Inv all.length st ι0 H0 w0 S' (glue κ κ' (st i).H.nxt (st i).E.nxt) w' := by
  have hle := hI.glue_le (κ' := κ') F h0 hi hSi
  have hh := hI.hrel F hM h0 hlt hi hSi hup hdown
  have hD : Done (st i) := Done.of hh hst
  have hSi' : S' i = true := (hS' i).2 (.inr rfl)
  have hsub : ∀ j, S j = true → S' j = true := fun j h => (hS' j).2 (.inl h)
  have h0lo : H0.nxt ≤ (st i).H.nxt := by rw [← h0]; exact F.lo_mono (Nat.zero_le i) (Nat.le_of_lt hi)
  -- behind it nothing that is done touches what it touches
  have hlater : ∀ b, (st i).tch b → ∀ j, i < j → j < all.length → S j = true → ¬ (st j).tch b := by
    intro b ht j hij hj hS ht'
    have hbhi : b < (st i).E.nxt := by
      rcases ht with ht | ht
      · exact hD.lgs b ht
      · exact ht.2
    have := F.hi_le hij (Nat.le_of_lt hj)
    rcases ht' with ht' | ht'
    · exact ((F.pair hM hj hij (hdown j hj hS)).2.1 b ht').1 ht
    · omega
  have hovhit : ∀ m, i < m → m ≤ all.length → ∀ b, (st i).tch b → ov H0 st S' m b = (st i).E.m.get b := by
    intro m him hm b ht
    rw [ov_skip' (show i + 1 ≤ m by omega) fun j h1 h2 h3 => ?_, ov_hit hSi' ht]
    rcases (hS' j).1 h3 with h | h
    · exact hlater b ht j (by omega) (by omega) h
    · omega
  have hovmiss : ∀ m b, ¬ (st i).tch b → ov H0 st S' m b = ov H0 st S m b := by
    intro m b hn
    refine ov_congr m fun j hj ht => ?_
    have hne : j ≠ i := fun e => by rw [e] at ht; exact hn ht
    have : S' j = true ↔ S j = true := (hS' j).trans ⟨fun h => h.resolve_right hne, .inl⟩
    cases h1 : S' j <;> cases h2 : S j <;> simp_all
  have hovS' : ∀ m, m ≤ i → ∀ b, (¬ (st i).tch b) → ov H0 st S' m b = ov H0 st S m b := fun m _ b hn => hovmiss m b hn
  -- where a name of what it left lies
  have hEg : ∀ b x, (st i).E.m.get b = some x → glue κ κ' (st i).H.nxt (st i).E.nxt b = κ' b := fun b x hb => glue_new F hi hst (hD.lt b x hb)
  have hovc : ∀ d q y, ¬ (st i).tch d → ov H0 st S' all.length d = some q → glue κ κ' (st i).H.nxt (st i).E.nxt d = some y → ov H0 st S all.length d = some q ∧ κ d = some y ∧ y.1 < w.heap.size := by
    intro d q y htd hd ey
    rw [hovmiss _ d htd] at hd
    obtain ⟨y2, o2, hy2, hw2, _⟩ := hI.get all.length (Nat.le_refl _) d q (fun j h1 h2 => by omega) hd
    have := hle d y2 hy2
    rw [ey] at this; cases this
    exact ⟨hd, hy2, (Array.getElem?_eq_some_iff.1 hw2).1⟩
  have hnro : ∀ b x, H0.nxt ≤ b → glue κ κ' (st i).H.nxt (st i).E.nxt b = some x → x.ro = false := by
    intro b x hb e
    unfold glue at e
    split at e
    · rename_i h; exact hst.nro b x (by rw [F.kn i hi]; exact h.1) e
    · exact hI.nro b x hb e
  have hlow : ∀ b x, glue κ κ' (st i).H.nxt (st i).E.nxt b = some x → x.ro = true → b < (st i).H.nxt ∧ κ b = some x ∧ κ' b = some x := by
    intro b x e hx
    have hb : b < H0.nxt := by
      rcases Nat.lt_or_ge b H0.nxt with h | h
      · exact h
      · rw [hnro b x h e] at hx; cases hx
    have hb2 : b < (st i).H.nxt := by omega
    have hk : κ b = some x := by
      unfold glue at e
      rw [if_neg (by omega)] at e; exact e
    exact ⟨hb2, hk, by rw [new_old F hi hst hb2]; exact hk⟩
  have hroS : ∀ b x a o y, glue κ κ' (st i).H.nxt (st i).E.nxt b = some x → x.ro = true → ov H0 st S' all.length a = some o → glue κ κ' (st i).H.nxt (st i).E.nxt a = some y → x.1 = y.1 → y.ro = true := by
    intro b x a o y ex hx ha ey e
    obtain ⟨_, hk, hk'⟩ := hlow b x ex hx
    by_cases hta : (st i).tch a
    · rw [hovhit _ hi (Nat.le_refl _) a hta] at ha
      rw [hEg a o ha] at ey
      exact hst.rel.ro b x a o y hk' hx ha ey e
    · obtain ⟨ha, ey, _⟩ := hovc a o y hta ha ey
      exact hI.ro b x a o y hk hx ha ey e
  refine ⟨fun b hb => ?_, hI.glob.mono hle, hI.low, fun b x e => ?_, fun m hm b o hno ho => ?_, fun c d p q x y hc hd ex ey e => ?_, hroS, fun b x e hx => Nat.lt_of_lt_of_le (hI.rod b x (hlow b x e hx).2.1 hx) hst.size, fun b x e hx => ?_, hnro, hI.frs, fun j hj hS => ?_, Nat.le_trans hI.size hst.size, fun b' hb' hn => ?_, fun b o x hb hk => ?_,
    hst.os.trans hI.os, hst.out.trans hI.out, hst.tape.trans hI.tape⟩
  · unfold glue
    rw [if_neg (by omega)]; exact hI.own b hb
  · unfold glue at e
    split at e
    · rename_i h; exact .inr ⟨i, hi, hSi', h.1, h.2⟩
    · rcases hI.inn b x e with h | ⟨j, hj, hS, h⟩
      · exact .inl h
      · exact .inr ⟨j, hj, hsub j hS, h⟩
  · by_cases ht : (st i).tch b
    · have him : i < m := by
        rcases Nat.lt_or_ge i m with h | h
        · exact h
        · exact (hno i h hi hSi' ht).elim
      rw [hovhit m him hm b ht] at ho
      obtain ⟨x, o', hx, hw, hr⟩ := hst.rel.get b o ho
      exact ⟨x, o', by rw [hEg b o ho]; exact hx, hw, hr.mono (new_le F hi hst (F.hi_le him hm))⟩
    · rw [hovmiss m b ht] at ho
      have hno' : ∀ j, m ≤ j → j < all.length → S j = true → ¬ (st j).tch b := fun j h1 h2 h3 => hno j h1 h2 (hsub j h3)
      obtain ⟨x, o', hx, hw, hr⟩ := hI.get m hm b o hno' ho
      obtain ⟨o1, hw1, hr1⟩ := hI.kept F hM h0 hlt hi hSi hup hdown hst ht ((ov_skip' hm hno').trans ho) hx hw hr
      exact ⟨x, o1, hle b x hx, hw1, hr1⟩
  · -- no two lie in one block
    have hone : ∀ c d p q x y, ov H0 st S' all.length c = some p → ov H0 st S' all.length d = some q → glue κ κ' (st i).H.nxt (st i).E.nxt c = some x → glue κ κ' (st i).H.nxt (st i).E.nxt d = some y → x.1 = y.1 →
        (st i).tch c → ¬ (st i).tch d → c = d ∨ x.ro = true := by
      intro c d p q x y hc hd ex ey e htc htd
      rw [hovhit _ hi (Nat.le_refl _) c htc] at hc
      rw [hEg c p hc] at ex
      obtain ⟨hd, hy2, hyl⟩ := hovc d q y htd hd ey
      rcases hst.img c p x hc ex with ⟨c2, q2, z, h1, h2, h3⟩ | h
      · obtain ⟨_, g2, g3, _⟩ := hI.view_get F hM h0 hlt hi hSi hup hdown h1
        have hz2 : κ' c2 = some z := by rw [new_old F hi hst g2]; exact (cut_some h2).2
        rcases hI.sep c2 d q2 q z y g3 hd (cut_some h2).2 hy2 (h3.trans e) with hcd | hzr
        · subst hcd
          have hE : (st i).E.m.get c2 = some q2 := by
            rw [hD.stay c2 (by rw [F.kn i hi]; exact g2) fun hl => htd (.inl hl)]; exact h1
          exact hst.rel.sep c c2 p q2 x z hc hE ex hz2 h3.symm
        · exact .inr (hst.rel.ro c2 z c p x hz2 hzr hc ex h3)
      · omega
    by_cases htc : (st i).tch c <;> by_cases htd : (st i).tch d
    · rw [hovhit _ hi (Nat.le_refl _) c htc] at hc
      rw [hovhit _ hi (Nat.le_refl _) d htd] at hd
      rw [hEg c p hc] at ex
      rw [hEg d q hd] at ey
      exact hst.rel.sep c d p q x y hc hd ex ey e
    · exact hone c d p q x y hc hd ex ey e htc htd
    · rcases hone d c q p y x hd hc ey ex e.symm htd htc with h | h
      · exact .inl h.symm
      · exact .inr (hroS d y c p x ey h hc ex e.symm)
    · obtain ⟨hc, ex, _⟩ := hovc c p x htc hc ex
      obtain ⟨hd, ey, _⟩ := hovc d q y htd hd ey
      exact hI.sep c d p q x y hc hd ex ey e
  · have hb : b < H0.nxt := by
      rcases Nat.lt_or_ge b H0.nxt with h | h
      · exact h
      · rw [hI.frs b h] at e; cases e
    rw [hst.ro b x (by rw [cut_lt (by omega), hI.own b hb]; exact e) hx]
    exact hI.roh b x e hx
  · rcases (hS' j).1 hS with h | h
    · exact hI.done j hj h
    · subst h; exact hD
  · rw [hst.frame b' (Nat.lt_of_lt_of_le hb' hI.size) fun c q y hc hy e => ?_]
    · exact hI.frame b' hb' hn
    · obtain ⟨_, _, g3, _⟩ := hI.view_get F hM h0 hlt hi hSi hup hdown hc
      rcases hI.img c q y g3 (cut_some hy).2 with ⟨c2, p2, z, h1, h2, h3⟩ | h
      · exact hn c2 p2 z h1 h2 (h3.trans e)
      · omega
  · by_cases ht : (st i).tch b
    · rw [hovhit _ hi (Nat.le_refl _) b ht] at hb
      rw [hEg b o hb] at hk
      rcases hst.img b o x hb hk with ⟨c, q, y, h1, h2, h3⟩ | h
      · obtain ⟨_, _, g3, _⟩ := hI.view_get F hM h0 hlt hi hSi hup hdown h1
        rcases hI.img c q y g3 (cut_some h2).2 with ⟨c2, p2, z, h4, h5, h6⟩ | h
        · exact .inl ⟨c2, p2, z, h4, h5, h6.trans h3⟩
        · exact .inr (h3 ▸ h)
      · exact .inr (Nat.le_trans hI.size h)
    · rw [hovmiss _ b ht] at hb
      obtain ⟨x2, _, hx2, _⟩ := hI.get all.length (Nat.le_refl _) b o (fun j h1 h2 => by omega) hb
      have h1 := hle b x2 hx2
      rw [hk] at h1
      cases h1
      exact hI.img b o x hb hx2
end
end Go.Ev
