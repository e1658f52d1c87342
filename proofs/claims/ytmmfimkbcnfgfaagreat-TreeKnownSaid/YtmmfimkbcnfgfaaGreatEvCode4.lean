import Derived.Test.YtmmfimkbcnfgfaaGreatEvCode3
import Derived.Scope
/- The abstract evaluator's code, in a plain frame and in one that a defer called; functions. -/
namespace Go.Ev

section
variable {P : Program} {n : Nat} {call : CallT}
theorem snd_scope {f : CodeT} {x : Code} (hx : CodeSnd P n f x call) : CodeSnd P n (fun call fuel T H k => plainFrame T (f call fuel T H k)) (.scope x) call := fun fuel T H k r h hr hrm ι a w ht hh Q hQ hN => by
  have h' : f call fuel T H k = r := by
    have h0 : plainFrame T (f call fuel T H k) = r := h
    rwa [plainFrame_eq hrm] at h0
  refine wp_scope_straight (hx fuel T H k r h' hr hrm ι a w ht hh _ (fun e a' w' hne q => ?_) fun T' H' κ a' w' hk hrm' ht' hst => hN T' H' κ a' w' hk hrm' ht' hst)
  cases e with
  | goto l => unfold ERel at q; cases r with
    | ok ex _ _ => cases ex <;> exact q.elim
    | _ => exact q.elim
  | _ => exact hQ _ a' w' hne q
/-- What is asked of drawn regions. -/
def DrawnSnd (P : Program) (n : Nat) (call : CallT) : Prop := ∀ (id : Nat) (ops : Array Oper), drawnOk ops = true → dstsOk n ops.toList = true →
  CodeSnd P n (drawnK P (prepD P ops.toList (Region.before ops).toList ops.toList 0)) (.region id ops true) call
variable (hP : ProgOk P) (hC : CallSnd P call) (hD : DrawnSnd P n call)
include hP hC hD
theorem evC_snd : ∀ (c : Code), codeOk c = true → CodeSnd P n (evC P (prepC P n c)) c call
  | .skip, _ => fun fuel T H k r h hr hrm ι a w ht hh Q hQ hN => wp_skip (hN T H ι a w h hrm ht (.refl hh))
  | .label l, _ => fun fuel T H k r h hr hrm ι a w ht hh Q hQ hN => by
    have h0 : plainFrame T (k T H) = r := h
    rw [plainFrame_eq hrm] at h0
    exact wp_label (hN T H ι a w h0 hrm ht (.refl hh))
  | .ret, _ => fun fuel T H k r h hr hrm ι a w ht hh Q hQ hN => by
    have h0 : R.ok .ret T H = r := h
    subst h0
    exact wp_ret (hQ _ a w (by simp) ⟨ι, hrm, ht, .refl hh⟩)
  | .exit i, _ => fun fuel T H k r h hr hrm ι a w ht hh Q hQ hN => by
    have h0 : plainFrame T (R.ok (.exit i) T H) = r := h
    rw [plainFrame_eq hrm] at h0
    subst h0
    exact wp_exit (hQ _ a w (by simp) ⟨rfl, ι, hrm, ht, .refl hh⟩)
  | .region id ops false, _ => by
    show CodeSnd P n (evC P (match dstsOk n ops.toList, false with
      | true, false => .region (prepAll P ops.toList ops.toList)
      | true, true => .drawn (prepD P ops.toList (Region.before ops).toList ops.toList 0)
      | false, _ => .bad)) _ call
    cases hd : dstsOk n ops.toList with
    | true => exact snd_region hP hC hd
    | false => exact fun fuel T H k r h hr => bad_elim (w := "no such code") h hr
  | .region id ops true, hc => by
    show CodeSnd P n (evC P (match dstsOk n ops.toList, true with
      | true, false => .region (prepAll P ops.toList ops.toList)
      | true, true => .drawn (prepD P ops.toList (Region.before ops).toList ops.toList 0)
      | false, _ => .bad)) _ call
    cases hd : dstsOk n ops.toList with
    | true => exact hD id ops hc hd
    | false => exact fun fuel T H k r h hr => bad_elim (w := "no such code") h hr
  | .seq x y, hc => by
    have hc' : (codeOk x && codeOk y) = true := hc
    rw [Bool.and_eq_true] at hc'
    have h1 := evC_snd x hc'.1
    have h2 := evC_snd y hc'.2
    show CodeSnd P n (seqK (prepC P n x) (prepC P n y) (evC P (prepC P n x)) (evC P (prepC P n y))) _ call
    exact snd_seq h1 h2
  | .cond o x y, hc => by
    have hc' : (codeOk x && codeOk y) = true := hc
    rw [Bool.and_eq_true] at hc'
    have h1 := evC_snd x hc'.1
    have h2 := evC_snd y hc'.2
    show CodeSnd P n (condK (px o) (prepC P n x) (prepC P n y) (evC P (prepC P n x)) (evC P (prepC P n y))) _ call
    exact snd_cond h1 h2
  | .block i x, hc => by
    have h1 := evC_snd x hc
    show CodeSnd P n (blockK i (prepC P n x) (evC P (prepC P n x))) _ call
    exact snd_block h1
  | .loop x, hc => by
    have h1 := evC_snd x hc
    show CodeSnd P n (loopK (prepC P n x) (evC P (prepC P n x))) _ call
    exact snd_loop h1
  | .scope x, hc => by
    have h1 := evC_snd x hc
    show CodeSnd P n (fun call fuel T H k => plainFrame T (evC P (prepC P n x) call fuel T H k)) _ call
    exact snd_scope h1
  | .rangeFunc _ _ _ _, _ => fun fuel T H k r h hr => bad_elim (w := "no such code") h hr
  | .goto _, _ => fun fuel T H k r h hr => bad_elim (w := "no such code") h hr
  | .refuse _, _ => fun fuel T H k r h hr => bad_elim (w := "no such code") h hr
end

/-- Whose frame it is, here and there. -/
def MRel (ι : Inj) : Rm → FrameMode → Prop
  | .returning, .returning => True
  | .panicking v, .panicking ch => ∃ v', ch = [{ v := v', recovered := false }] ∧ AVRel ι v v'
  | .recovered, .panicking ch => ∃ v', ch = [{ v := v', recovered := true }]
  | _, _ => False
theorem MRel.mono {ι κ : Inj} (h : ι.le κ) {rm : Rm} {u : FrameMode} (q : MRel ι rm u) : MRel κ rm u := by
  cases rm <;> cases u <;> first
    | exact q.elim
    | trivial
    | exact (let ⟨v', e, hv⟩ := q; ⟨v', e, hv.mono h⟩)
    | exact q
theorem MRel.not_no {ι : Inj} {u : FrameMode} (q : MRel ι .no u) : False := by cases u <;> exact q.elim

section
variable {P : Program} {n : Nat} {call : CallT} (c₀ : Frame) (cs : List Frame)
def under (u : FrameMode) : List Frame := { c₀ with mode := u } :: cs
structure NextsS (n : Nat) (ι : Inj) (H : AH) (w : World) (k : Tm → AH → R) (r : R) (next : Act → List Frame → World → Prop) (Q : Exit → Act → List Frame → World → Prop) : Prop where
  next : ∀ T' H' κ a' u' w', k T' H' = r → MRel κ T'.rm u' → TRel n κ T' a' → St ι H w κ H' w' → next a' (under c₀ cs u') w'
  panic : ∀ v T' H' κ v' a' u' w', r = .panic v T' H' → AVRel κ v v' → MRel κ T'.rm u' → TRel n κ T' a' → St ι H w κ H' w' → Q (.panic [{ v := v', recovered := false }]) a' (under c₀ cs u') w'
variable {c₀ cs}
theorem recoverD_under {ι : Inj} {rm : Rm} {u : FrameMode} (h : MRel ι rm u) : (∃ v v', rm = .panicking v ∧ AVRel ι v v' ∧ recoverD (under c₀ cs u) = some (v', under c₀ cs (.panicking [{ v := v', recovered := true }]))) ∨
    ((∀ v, rm ≠ .panicking v) ∧ recoverD (under c₀ cs u) = none) := by
  cases rm with
  | no => exact h.not_no.elim
  | returning =>
    cases u with
    | returning => exact .inr ⟨fun v e => (by cases e), rfl⟩
    | _ => exact h.elim
  | panicking v =>
    cases u with
    | panicking ch =>
      obtain ⟨v', rfl, hv⟩ := h
      exact .inl ⟨v, v', rfl, hv, rfl⟩
    | _ => exact h.elim
  | recovered =>
    cases u with
    | panicking ch =>
      obtain ⟨v', rfl⟩ := h
      exact .inr ⟨fun v e => (by cases e), rfl⟩
    | _ => exact h.elim
variable (hP : ProgOk P) (hC : CallSnd P call)
include hP hC
/-- One operation in a frame that a defer called. -/
theorem kind_S {ι : Inj} {H : AH} {w : World} {T : Tm} {a : Act} {u : FrameMode} {o : Oper} {next : Act → List Frame → World → Prop} {Q : Exit → Act → List Frame → World → Prop} {k : Tm → AH → R} {r : R} (h : evOp P (prepK P o) call T H k = r) (hr : r.Good)
    (hd : ∀ d, o.dst = some d → d < n) (hm : MRel ι T.rm u) (ht : TRel n ι T a) (hh : HRel ι H w) (hN : NextsS c₀ cs n ι H w k r next Q) :
    (match (execOp a.eval o).run P w with
      | .ok .recover w' =>
        match recoverD (under c₀ cs u) with
        | some (v, cs') => next (a.put o.dst v) cs' w'
        | none => next (a.put o.dst .nilIface) (under c₀ cs u) w'
      | r => o.upon P a (fun a' w' => next a' (under c₀ cs u) w') (fun e a' w' => Q e a' (under c₀ cs u) w') r) := by
  by_cases hrec : isRecover o
  · obtain ⟨⟨as⟩, ⟨ts⟩, ho⟩ := hrec
    have hrun : (execOp a.eval o).run P w = .ok .recover w := by rw [run_builtin ho]; rfl
    rw [hrun]
    have hk : prepK P o = .recover (pdOf o.dst) := by unfold prepK; rw [ho]
    rw [hk] at h
    have h' : recoverK (pdOf o.dst) call T H k = r := h
    unfold recoverK at h'
    rcases recoverD_under (c₀ := c₀) (cs := cs) hm with ⟨v, v', hrm, hv, hD⟩ | ⟨hrm, hD⟩
    · rw [hrm] at h'
      simp only [hD]
      obtain ⟨T', hk, hrm', hds, ht'⟩ := TRel.put (T := ⟨T.t, T.ds, .recovered⟩) ⟨ht.size, ht.get, ht.out, ht.ds, ht.glob⟩ hd hv h'
      refine hN.next T' H ι _ _ w hk ?_ ht' (.refl hh)
      rw [hrm']
      exact ⟨v', rfl⟩
    · simp only [hD]
      have h2 : putD (pdOf o.dst) (.nil .iface) T (fun T => k T H) = r := by
        split at h'
        · rename_i he; rw [he] at hm; exact hm.not_no.elim
        · rename_i v he; exact (hrm v he).elim
        · exact h'
      obtain ⟨T', hk, hrm', hds, ht'⟩ := ht.put hd (.nilIface) h2
      exact hN.next T' H ι _ u w hk (hrm'.symm ▸ hm) ht' (.refl hh)
  · have hup := kind_upon hP hC (next := fun a' w' => next a' (under c₀ cs u) w') (Q := fun e a' w' => Q e a' (under c₀ cs u) w') h hr hd ht hh (fun e => (hrec e).elim)
      ⟨fun T' H' κ a' w' hk hrm ht' hst => hN.next T' H' κ a' u w' hk (hrm.symm ▸ hm.mono hst.le) ht' hst,
       fun v T' H' κ v' a' w' e hv hrm ht' hst => hN.panic v T' H' κ v' a' u w' e hv (hrm.symm ▸ hm.mono hst.le) ht' hst⟩
    split
    · rename_i w' he
      rw [he] at hup
      exact hup.elim
    · exact hup
theorem evOps_sndS {all : List Oper} {Q : Exit → Act → List Frame → World → Prop} {k : Tm → AH → R} {r : R} (hr : r.Good) : ∀ (rest : List Oper) (i : Nat), all.drop i = rest → (∀ o ∈ rest, ∀ d, o.dst = some d → d < n) →
    ∀ (ι : Inj) (H : AH) (w : World) (T : Tm) (a : Act) (u : FrameMode), evOps P (prepAll P all rest) call T H k = r → MRel ι T.rm u → TRel n ι T a → HRel ι H w → NextsS c₀ cs n ι H w k r (Q .normal) Q →
      wpOpsS P ⟨all⟩ Q (List.range' i rest.length) a (under c₀ cs u) w
  | [], i, hdrop, hds, ι, H, w, T, a, u, h, hm, ht, hh, hN => hN.next T H ι a u w h hm ht (.refl hh)
  | o :: rest, i, hdrop, hds, ι, H, w, T, a, u, h, hm, ht, hh, hN => by
    have hi : (⟨all⟩ : Array Oper)[i]? = some o := by
      have h1 : (all.drop i)[0]? = some o := by rw [hdrop]; rfl
      rw [List.getElem?_drop] at h1
      simpa using h1
    have hdrop' : all.drop (i + 1) = rest := by rw [← List.drop_drop, hdrop]; rfl
    have hdo := hds o (by simp)
    have hds' : ∀ o ∈ rest, ∀ d, o.dst = some d → d < n := fun o ho => hds o (by simp [ho])
    have h' : evOp P (prep P all o) call T H (fun T H => evOps P (prepAll P all rest) call T H k) = r := h
    rw [List.length_cons, List.range'_succ]
    simp only [wpOpsS, hi]
    have hN' : NextsS c₀ cs n ι H w (fun T H => evOps P (prepAll P all rest) call T H k) r (wpOpsS P ⟨all⟩ Q (List.range' (i + 1) rest.length)) Q :=
      ⟨fun T' H' κ a' u' w' hk hm' ht' hst => evOps_sndS hr rest (i + 1) hdrop' hds' κ H' w' T' a' u' hk hm' ht' hst.rel
          ⟨fun T2 H2 μ a2 u2 w2 hk2 hm2 ht2 hst2 => hN.next T2 H2 μ a2 u2 w2 hk2 hm2 ht2 (hst.trans hst2),
           fun v T2 H2 μ v' a2 u2 w2 e hv hm2 ht2 hst2 => hN.panic v T2 H2 μ v' a2 u2 w2 e hv hm2 ht2 (hst.trans hst2)⟩,
       fun v T' H' κ v' a' u' w' e hv hm' ht' hst => hN.panic v T' H' κ v' a' u' w' e hv hm' ht' hst⟩
    unfold prep at h'
    split at h'
    · rename_i hg
      have hw : Region.wanted o (yielded ⟨all⟩ a.tmps) = true := by simp only [Region.wanted, hg]
      rw [if_pos hw]
      exact kind_S hP hC h' hr hdo hm ht hh hN'
    · rename_i j want hg
      split at h'
      · rename_i p hj
        split at h'
        · rename_i d hp
          have htold := told_snd (o := o) hg hj hp ht
          have h1 : onB (told (pathOf d) want T) (evOp P (prepK P o) call T H (fun T H => evOps P (prepAll P all rest) call T H k)) (putD (pdOf o.dst) undefA T fun T => evOps P (prepAll P all rest) call T H k) = r := h'
          cases hb : told (pathOf d) want T with
          | true =>
            rw [hb, onB_true] at h1
            rw [if_pos (htold.trans hb)]
            exact kind_S hP hC h1 hr hdo hm ht hh hN'
          | false =>
            rw [hb, onB_false] at h1
            rw [if_neg (by rw [htold, hb]; simp)]
            obtain ⟨T', hk, hrm', hds1, ht'⟩ := ht.put hdo (undef_rel ι) h1
            exact hN'.next T' H ι _ u w hk (hrm'.symm ▸ hm) ht' (.refl hh)
        · exact bad_elim h' hr
      · exact bad_elim h' hr
/-- Code in a frame that a defer called. -/
theorem evC_sndS {fuel : Nat} : ∀ (c : Code) (T : Tm) (H : AH) (k : Tm → AH → R) (r : R), evC P (prepC P n c) call fuel T H k = r → r.Good → ∀ (ι : Inj) (a : Act) (u : FrameMode) (w : World), MRel ι T.rm u → TRel n ι T a → HRel ι H w →
    ∀ (Q : Exit → Act → List Frame → World → Prop),
      (∀ T' H' κ a' u' w', r = .ok .ret T' H' → MRel κ T'.rm u' → TRel n κ T' a' → St ι H w κ H' w' → Q .ret a' (under c₀ cs u') w') →
      (∀ v T' H' κ v' a' u' w', r = .panic v T' H' → AVRel κ v v' → MRel κ T'.rm u' → TRel n κ T' a' → St ι H w κ H' w' → Q (.panic [{ v := v', recovered := false }]) a' (under c₀ cs u') w') →
      (∀ T' H' κ a' u' w', k T' H' = r → MRel κ T'.rm u' → TRel n κ T' a' → St ι H w κ H' w' → Q .normal a' (under c₀ cs u') w') → c.wpS P Q a (under c₀ cs u) w
  | .skip, T, H, k, r, h, hr, ι, a, u, w, hm, ht, hh, Q, hR, hQ, hN => wpS_of_wp (wp_skip (hN T H ι a u w h hm ht (.refl hh)))
  | .ret, T, H, k, r, h, hr, ι, a, u, w, hm, ht, hh, Q, hR, hQ, hN => wpS_of_wp (wp_ret (hR T H ι a u w (by exact h.symm) hm ht (.refl hh)))
  | .region id ops false, T, H, k, r, h, hr, ι, a, u, w, hm, ht, hh, Q, hR, hQ, hN => by
    have h0 : evC P (match dstsOk n ops.toList, false with
      | true, false => .region (prepAll P ops.toList ops.toList)
      | true, true => .drawn (prepD P ops.toList (Region.before ops).toList ops.toList 0)
      | false, _ => .bad) call fuel T H k = r := h
    cases hd : dstsOk n ops.toList with
    | true =>
      rw [hd] at h0
      have h1 : evOps P (prepAll P ops.toList ops.toList) call T H k = r := h0
      obtain ⟨ops⟩ := ops
      refine wpS_region ?_
      have : List.range (⟨ops⟩ : Array Oper).size = List.range' 0 ops.length := by rw [List.range_eq_range']; rfl
      rw [this]
      exact evOps_sndS hP hC hr ops 0 rfl (dstsOk_of hd) ι H w T a u h1 hm ht hh ⟨hN, hQ⟩
    | false => rw [hd] at h0; exact bad_elim (w := "no such code") h0 hr
  | .region id ops true, T, H, k, r, h, hr, ι, a, u, w, hm, ht, hh, Q, hR, hQ, hN => by
    have h0 : evC P (match dstsOk n ops.toList, true with
      | true, false => .region (prepAll P ops.toList ops.toList)
      | true, true => .drawn (prepD P ops.toList (Region.before ops).toList ops.toList 0)
      | false, _ => .bad) call fuel T H k = r := h
    cases hd : dstsOk n ops.toList with
    | true =>
      rw [hd] at h0
      have h1 : plainFrame T (evDrawn P (prepD P ops.toList (Region.before ops).toList ops.toList 0) call 0 [] T H k) = r := h0
      rw [(plainFrame_good h1 hr).1] at hm
      exact hm.not_no.elim
    | false => rw [hd] at h0; exact bad_elim (w := "no such code") h0 hr
  | .seq x y, T, H, k, r, h, hr, ι, a, u, w, hm, ht, hh, Q, hR, hQ, hN =>
    wpS_seq (evC_sndS x T H (fun T H => evC P (prepC P n y) call fuel T H k) r h hr ι a u w hm ht hh _ hR hQ fun T' H' κ a' u' w' hk hm' ht' hst =>
      evC_sndS y T' H' k r hk hr κ a' u' w' hm' ht' hst.rel Q (fun T2 H2 μ a2 u2 w2 e hm2 ht2 hst2 => hR T2 H2 μ a2 u2 w2 e hm2 ht2 (hst.trans hst2))
        (fun v T2 H2 μ v' a2 u2 w2 e hv hm2 ht2 hst2 => hQ v T2 H2 μ v' a2 u2 w2 e hv hm2 ht2 (hst.trans hst2)) fun T2 H2 μ a2 u2 w2 e hm2 ht2 hst2 => hN T2 H2 μ a2 u2 w2 e hm2 ht2 (hst.trans hst2))
  | .cond o x y, T, H, k, r, h, hr, ι, a, u, w, hm, ht, hh, Q, hR, hQ, hN => by
    obtain ⟨v, h1, hv⟩ := withO_good (k := fun v => asBool v (fun t => onB t (evC P (prepC P n x) call fuel T H k) (evC P (prepC P n y) call fuel T H k)) (bad "cond")) h hr ht
    obtain ⟨b, e0, h2⟩ := asBool_good h1 hr
    subst e0
    refine wpS_cond (bool_inv hv) ?_
    cases b with
    | true => exact evC_sndS x T H k r h2 hr ι a u w hm ht hh Q hR hQ hN
    | false => exact evC_sndS y T H k r h2 hr ι a u w hm ht hh Q hR hQ hN
  | .label l, T, H, k, r, h, hr, ι, a, u, w, hm, ht, hh, Q, hR, hQ, hN => by
    have h1 : plainFrame T (k T H) = r := h
    rw [(plainFrame_good h1 hr).1] at hm; exact hm.not_no.elim
  | .exit i, T, H, k, r, h, hr, ι, a, u, w, hm, ht, hh, Q, hR, hQ, hN => by
    have h1 : plainFrame T (R.ok (.exit i) T H) = r := h
    rw [(plainFrame_good h1 hr).1] at hm; exact hm.not_no.elim
  | .block i x, T, H, k, r, h, hr, ι, a, u, w, hm, ht, hh, Q, hR, hQ, hN => by
    have h1 : plainFrame T (afterBlock i k (evC P (prepC P n x) call fuel T H nrm)) = r := h
    rw [(plainFrame_good h1 hr).1] at hm; exact hm.not_no.elim
  | .loop x, T, H, k, r, h, hr, ι, a, u, w, hm, ht, hh, Q, hR, hQ, hN => by
    have h1 : plainFrame T (rounds (evC P (prepC P n x)) call fuel fuel T H) = r := h
    rw [(plainFrame_good h1 hr).1] at hm; exact hm.not_no.elim
  | .scope x, T, H, k, r, h, hr, ι, a, u, w, hm, ht, hh, Q, hR, hQ, hN => by
    have h1 : plainFrame T (evC P (prepC P n x) call fuel T H k) = r := h
    rw [(plainFrame_good h1 hr).1] at hm; exact hm.not_no.elim
  | .rangeFunc _ _ _ _, T, H, k, r, h, hr, _, _, _, _, _, _, _, _, _, _, _ => bad_elim (w := "no such code") h hr
  | .goto _, T, H, k, r, h, hr, _, _, _, _, _, _, _, _, _, _, _ => bad_elim (w := "no such code") h hr
  | .refuse _, T, H, k, r, h, hr, _, _, _, _, _, _, _, _, _, _, _ => bad_elim (w := "no such code") h hr
end
end Go.Ev
