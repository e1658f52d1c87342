import Derived.Test.YtmmfimkbcnfgfaaGreatEvCode2
/- The abstract evaluator's code in a plain frame. -/
namespace Go.Ev

/-- How code ends, here and there. -/
def ERel (n : Nat) (ι : Inj) (H : AH) (w : World) (r : R) (e : Exit) (a : Act) (w' : World) : Prop := match r, e with
  | .ok .normal T' H', .normal => ∃ κ, T'.rm = .no ∧ TRel n κ T' a ∧ St ι H w κ H' w'
  | .ok (.exit i) T' H', .exit j => i = j ∧ ∃ κ, T'.rm = .no ∧ TRel n κ T' a ∧ St ι H w κ H' w'
  | .ok .ret T' H', .ret => ∃ κ, T'.rm = .no ∧ TRel n κ T' a ∧ St ι H w κ H' w'
  | .panic v T' H', .panic ch => ∃ κ v', ch = [{ v := v', recovered := false }] ∧ AVRel κ v v' ∧ T'.rm = .no ∧ TRel n κ T' a ∧ St ι H w κ H' w'
  | _, _ => False
theorem ERel.from {n : Nat} {ι κ : Inj} {H H1 : AH} {w w1 : World} (h : St ι H w κ H1 w1) {r : R} {e : Exit} {a : Act} {w' : World} (q : ERel n κ H1 w1 r e a w') : ERel n ι H w r e a w' := by
  unfold ERel at q ⊢
  split at q
  · obtain ⟨μ, h1, h2, h3⟩ := q; exact ⟨μ, h1, h2, h.trans h3⟩
  · obtain ⟨e, μ, h1, h2, h3⟩ := q; exact ⟨e, μ, h1, h2, h.trans h3⟩
  · obtain ⟨μ, h1, h2, h3⟩ := q; exact ⟨μ, h1, h2, h.trans h3⟩
  · obtain ⟨μ, v', h0, hv, h1, h2, h3⟩ := q; exact ⟨μ, v', h0, hv, h1, h2, h.trans h3⟩
  · exact q.elim
/-- What a code of the evaluator does the model's code does. -/
def CodeSnd (P : Program) (n : Nat) (f : CodeT) (c : Code) (call : CallT) : Prop :=
  ∀ (fuel : Nat) (T : Tm) (H : AH) (k : Tm → AH → R) (r : R), f call fuel T H k = r → r.Good → T.rm = .no → ∀ (ι : Inj) (a : Act) (w : World), TRel n ι T a → HRel ι H w → ∀ (Q : Exit → Act → World → Prop),
    (∀ e a' w', e ≠ .normal → ERel n ι H w r e a' w' → Q e a' w') →
    (∀ T' H' κ a' w', k T' H' = r → T'.rm = .no → TRel n κ T' a' → St ι H w κ H' w' → Q .normal a' w') → c.wp P Q a w

section
variable {P : Program} {n : Nat} {call : CallT}
/-- A code whose end is looked at. -/
theorem CodeSnd.ended {f : CodeT} {c : Code} (h : CodeSnd P n f c call) {fuel : Nat} {T : Tm} {H : AH} {r0 : R} (h0 : f call fuel T H nrm = r0) (hr : r0.Good) (hrm : T.rm = .no) {ι : Inj} {a : Act} {w : World} (ht : TRel n ι T a) (hh : HRel ι H w) :
    c.wp P (ERel n ι H w r0) a w :=
  h fuel T H nrm r0 h0 hr hrm ι a w ht hh _ (fun _ _ _ _ q => q) (fun T' H' κ a' w' hk hrm' ht' hst => by
    have : r0 = .ok .normal T' H' := hk.symm
    subst this
    exact ⟨κ, hrm', ht', hst⟩)
theorem plainFrame_eq {T : Tm} (h : T.rm = .no) (r : R) : plainFrame T r = r := by unfold plainFrame; rw [h]
theorem plainFrame_good {T : Tm} {x r : R} (h : plainFrame T x = r) (hr : r.Good) : T.rm = .no ∧ x = r := by
  unfold plainFrame at h
  cases hrm : T.rm with
  | no => rw [hrm] at h; exact ⟨rfl, h⟩
  | _ => rw [hrm] at h; exact bad_elim h hr
theorem snd_seq {f g : CodeT} {x y : Code} {c d : CC} (hx : CodeSnd P n f x call) (hy : CodeSnd P n g y call) : CodeSnd P n (seqK c d f g) (.seq x y) call := fun fuel T H k r h hr hrm ι a w ht hh Q hQ hN =>
  wp_seq (hx fuel T H _ r h hr hrm ι a w ht hh _ (fun e a' w' hne q => by
      cases e with
      | normal => exact (hne rfl).elim
      | _ => exact hQ _ a' w' hne q)
    fun T' H' κ a' w' hk hrm' ht' hst => hy fuel T' H' k r hk hr hrm' κ a' w' ht' hst.rel Q (fun e a2 w2 hne q => hQ e a2 w2 hne (q.from hst)) fun T2 H2 μ a2 w2 hk2 hrm2 ht2 hst2 => hN T2 H2 μ a2 w2 hk2 hrm2 ht2 (hst.trans hst2))
theorem snd_cond {f g : CodeT} {x y : Code} {o : Operand} {c d : CC} (hx : CodeSnd P n f x call) (hy : CodeSnd P n g y call) : CodeSnd P n (condK (px o) c d f g) (.cond o x y) call := fun fuel T H k r h hr hrm ι a w ht hh Q hQ hN => by
  obtain ⟨v, h, hv⟩ := withO_good h hr ht
  obtain ⟨b, e0, h1'⟩ := asBool_good h hr; clear h; subst e0; have h := h1'; clear h1'
  refine wp_cond (bool_inv hv) ?_
  cases b with
  | true => exact hx fuel T H k r h hr hrm ι a w ht hh Q hQ hN
  | false => exact hy fuel T H k r h hr hrm ι a w ht hh Q hQ hN
theorem snd_block {f : CodeT} {x : Code} {i : Nat} {c : CC} (hx : CodeSnd P n f x call) : CodeSnd P n (blockK i c f) (.block i x) call := fun fuel T H k r h hr hrm ι a w ht hh Q hQ hN => by
  have h' : afterBlock i k (f call fuel T H nrm) = r := by
    have h0 : plainFrame T (afterBlock i k (f call fuel T H nrm)) = r := h
    rwa [plainFrame_eq hrm] at h0
  generalize h0 : f call fuel T H nrm = r0 at h'
  refine wp_block ?_
  have hg : r0.Good := by
    cases r0 with
    | fail l => have : R.fail l = r := h'; subst this; exact hr
    | _ => trivial
  refine wp_mono (hx.ended h0 hg hrm ht hh) fun e a' w' q => ?_
  unfold ERel at q
  split at q
  · obtain ⟨κ, h1, h2, h3⟩ := q
    exact hN _ _ κ a' w' h' h1 h2 h3
  · rename_i j T' H' j'
    obtain ⟨rfl, κ, h1, h2, h3⟩ := q
    have h2' : onB (Nat.beq j i) (k T' H') (.ok (.exit j) T' H') = r := h'
    show if j = i then Q .normal a' w' else Q (.exit j) a' w'
    by_cases hji : j = i
    · rw [if_pos hji]
      have : Nat.beq j i = true := by rw [Nat.beq_eq]; exact hji
      rw [this, onB_true] at h2'
      exact hN _ _ κ a' w' h2' h1 h2 h3
    · rw [if_neg hji]
      have : Nat.beq j i = false := by rw [← Bool.not_eq_true, Nat.beq_eq]; exact hji
      rw [this, onB_false] at h2'
      subst h2'
      exact hQ _ a' w' (by simp) ⟨rfl, κ, h1, h2, h3⟩
  · rename_i T' H'
    obtain ⟨κ, h1, h2, h3⟩ := q
    have h2' : R.ok .ret T' H' = r := h'
    subst h2'
    exact hQ _ a' w' (by simp) ⟨κ, h1, h2, h3⟩
  · rename_i v T' H' ch
    obtain ⟨κ, v', rfl, hv, h1, h2, h3⟩ := q
    have h2' : R.panic v T' H' = r := h'
    subst h2'
    exact hQ _ a' w' (by simp) ⟨κ, v', rfl, hv, h1, h2, h3⟩
  · exact q.elim
noncomputable def rounds (f : CodeT) (call : CallT) (fuel m : Nat) : Tm → AH → R :=
  Nat.rec (motive := fun _ => Tm → AH → R) (fun _ _ => bad "a loop's rounds") (fun _ again T H => afterLoop again (f call fuel T H nrm)) m
theorem exists_min {p : Nat → Prop} (h : ∃ m, p m) : ∃ m, p m ∧ ∀ i, i < m → ¬ p i := by
  obtain ⟨m, hm⟩ := h
  induction m using Nat.strongRecOn with
  | _ m ih =>
    by_cases hx : ∃ i, i < m ∧ p i
    · obtain ⟨i, hi, hp⟩ := hx; exact ih i hi hp
    · exact ⟨m, hm, fun i hi hp => hx ⟨i, hi, hp⟩⟩
open Classical in
noncomputable def leastOf (p : Nat → Prop) : Nat := if h : ∃ m, p m then Classical.choose (exists_min h) else 0
theorem leastOf_spec {p : Nat → Prop} (h : ∃ m, p m) : p (leastOf p) ∧ ∀ m, p m → leastOf p ≤ m := by
  unfold leastOf
  rw [dif_pos h]
  obtain ⟨h1, h2⟩ := Classical.choose_spec (exists_min h)
  exact ⟨h1, fun m hm => Nat.not_lt.1 fun hl => h2 m hl hm⟩
theorem snd_loop {f : CodeT} {x : Code} {c : CC} (hx : CodeSnd P n f x call) : CodeSnd P n (loopK c f) (.loop x) call := fun fuel T H k r h hr hrm ι a w ht hh Q hQ hN => by
  have h' : rounds f call fuel fuel T H = r := by
    have h0 : plainFrame T (rounds f call fuel fuel T H) = r := h
    rwa [plainFrame_eq hrm] at h0
  let J : Act → World → Nat → Prop := fun a' w' m => ∃ T' H' κ, rounds f call fuel m T' H' = r ∧ T'.rm = .no ∧ TRel n κ T' a' ∧ St ι H w κ H' w'
  refine wp_loop (fun a' w' => ∃ m, J a' w' m) (fun a' w' => leastOf (J a' w')) ⟨fuel, T, H, ι, h', hrm, ht, .refl hh⟩ fun a1 w1 hI => ?_
  obtain ⟨⟨T1, H1, κ, hr1, hrm1, ht1, hst1⟩, _⟩ := leastOf_spec hI
  generalize hm : leastOf (J a1 w1) = m at hr1
  cases m with
  | zero => exact bad_elim (w := "a loop's rounds") hr1 hr
  | succ m =>
    have h2 : afterLoop (rounds f call fuel m) (f call fuel T1 H1 nrm) = r := hr1
    generalize h0 : f call fuel T1 H1 nrm = r0 at h2
    have hg : r0.Good := by
      cases r0 with
      | fail l => have : R.fail l = r := h2; subst this; exact hr
      | _ => trivial
    refine wp_mono (hx.ended h0 hg hrm1 ht1 hst1.rel) fun e a' w' q => ?_
    unfold ERel at q
    split at q
    · rename_i T' H'
      obtain ⟨μ, h3, h4, h5⟩ := q
      have h2' : rounds f call fuel m T' H' = r := h2
      have hJ : J a' w' m := ⟨T', H', μ, h2', h3, h4, hst1.trans h5⟩
      exact ⟨⟨m, hJ⟩, Nat.lt_succ_of_le ((leastOf_spec ⟨m, hJ⟩).2 m hJ)⟩
    · rename_i j T' H' j'
      obtain ⟨rfl, μ, h3, h4, h5⟩ := q
      have h2' : R.ok (.exit j) T' H' = r := h2
      subst h2'
      exact hQ _ a' w' (by simp) ⟨rfl, μ, h3, h4, hst1.trans h5⟩
    · rename_i T' H'
      obtain ⟨μ, h3, h4, h5⟩ := q
      have h2' : R.ok .ret T' H' = r := h2
      subst h2'
      exact hQ _ a' w' (by simp) ⟨μ, h3, h4, hst1.trans h5⟩
    · rename_i v T' H' ch
      obtain ⟨μ, v', rfl, hv, h3, h4, h5⟩ := q
      have h2' : R.panic v T' H' = r := h2
      subst h2'
      exact hQ _ a' w' (by simp) ⟨μ, v', rfl, hv, h3, h4, hst1.trans h5⟩
    · exact q.elim
theorem dstsOk_of {ops : List Oper} (h : dstsOk n ops = true) : ∀ o ∈ ops, ∀ d, o.dst = some d → d < n := by
  intro o ho d hd
  have := List.all_eq_true.1 h o ho
  simp only [hd] at this
  exact Nat.le_of_ble_eq_true this
theorem snd_region (hP : ProgOk P) (hC : CallSnd P call) {id : Nat} {ops : Array Oper} (hd : dstsOk n ops.toList = true) : CodeSnd P n (regionK P (prepAll P ops.toList ops.toList)) (.region id ops false) call := fun fuel T H k r h hr hrm ι a w ht hh Q hQ hN => by
  obtain ⟨ops⟩ := ops
  refine wp_region ?_
  have : List.range (⟨ops⟩ : Array Oper).size = List.range' 0 ops.length := by rw [List.range_eq_range']; rfl
  rw [this]
  refine evOps_snd hP hC hr ops 0 rfl (dstsOk_of hd) ι H w T a h hrm ht hh ⟨fun T' H' κ a' w' hk hrm' ht' hst => hN T' H' κ a' w' hk hrm' ht' hst, fun v T' H' κ v' a' w' e hv hrm' ht' hst => ?_⟩
  refine hQ _ a' w' (by simp) ?_
  subst e
  exact ⟨κ, v', rfl, hv, hrm', ht', hst⟩
end
end Go.Ev
