import Derived.Test.YtmmfimkbcnfgfaaGreatEvCode4
/- The abstract evaluator's functions: what it computes, the model computes. -/
namespace Go.Ev

section
variable {P : Program} {n : Nat} {call : CallT}
theorem LRel.get_or {ι : Inj} {l : List AV} {l' : List Value} (h : LRel ι l l') (i : Nat) : AVRel ι ((l[i]?).getD undefA) ((l'[i]?).getD undef) := by
  cases hx : l[i]? with
  | some x =>
    obtain ⟨y, hy, hr⟩ := h.get hx
    rw [hy]; exact hr
  | none =>
    rw [List.getElem?_eq_none_iff] at hx
    rw [List.getElem?_eq_none (by rw [← h.1]; exact hx)]
    exact undef_rel ι
noncomputable def layT (args : List AV) : Nat → Fr AV → Fr AV := List.rec (motive := fun _ => Nat → Fr AV → Fr AV) (fun _ t => t) (fun v _ ih i t => ih (Nat.succ i) (t.upd i (some v))) args
theorem layT_get : ∀ (args : List AV) (i : Nat) (t : Fr AV) (j : Nat), (layT args i t).get j = if i ≤ j ∧ j < i + args.length then args[j - i]? else t.get j
  | [], i, t, j => by
    rw [if_neg (by simp)]; rfl
  | v :: args, i, t, j => by
    show (layT args (i + 1) (t.upd i (some v))).get j = _
    rw [layT_get args, Fr.get_upd]
    by_cases h1 : j = i
    · subst h1
      rw [if_neg (by omega), if_pos rfl, if_pos (by simp)]
      simp
    · by_cases h2 : i + 1 ≤ j ∧ j < i + 1 + args.length
      · rw [if_pos h2, if_pos (by simp; omega), show j - i = (j - (i + 1)) + 1 from by omega]
        simp
      · rw [if_neg h2, if_neg h1, if_neg (by simp; omega)]
theorem initT_rel {ι : Inj} (hgl : Gl ι) {args : List AV} {args' : List Value} (h : LRel ι args args') (hn : args.length ≤ n) (rm : Rm) :
    TRel n ι (initT rm args) { tmps := (⟨args'⟩ : Array Value) ++ Array.replicate (n - (⟨args'⟩ : Array Value).size) undef, defers := [] } := by
  have hget : ∀ j, (initT rm args).t.get j = args[j]? := by
    intro j
    have : (initT rm args).t.get j = (layT args 0 .nil).get j := rfl
    rw [this, layT_get]
    by_cases hj : j < args.length
    · rw [if_pos (by omega)]; rfl
    · rw [if_neg (by omega), Fr.get_nil, List.getElem?_eq_none (by omega)]
  have hl : args'.length = args.length := h.1.symm
  refine ⟨by simp; omega, fun t ht => ?_, fun t ht => ?_, trivial, hgl⟩
  · rw [hget]
    have e : ((⟨args'⟩ : Array Value) ++ Array.replicate (n - (⟨args'⟩ : Array Value).size) undef).getD t undef = (args'[t]?).getD undef := by
      simp only [Array.getD_eq_getD_getElem?, Array.getElem?_append]
      by_cases ht' : t < args'.length
      · simp [ht']
      · simp only [List.size_toArray, ht', if_false, List.getElem?_toArray]
        rw [List.getElem?_eq_none (by omega)]
        simp only [Array.getElem?_replicate]
        split <;> rfl
    rw [e]
    exact h.get_or t
  · rw [hget, List.getElem?_eq_none (by omega)]
theorem valO_snd {ι : Inj} {T : Tm} {a : Act} (ht : TRel n ι T a) {t : Tmp} {v : AV} (h : valO (px (.tmp t)) T = some v) : AVRel ι v (a.tmps.getD t undef) := by
  have h1 := tmp_rel ht t
  have h2 : valO (px (.tmp t)) T = some ((T.t.get t).getD undefA) := by
    show (match T.t.getP (pathOf t) with | some v => some v | none => some undefA) = _
    rw [Fr.getP_pathOf]
    cases T.t.get t <;> rfl
  rw [h2] at h
  cases h
  exact h1
theorem mapM_list {α β : Type} {f : α → Sem β} : ∀ (l : List α) (l' : List β) (w : World), l.length = l'.length → (∀ (i : Nat) x y, l[i]? = some x → l'[i]? = some y → (f x).run P w = .ok y w) → (l.mapM f).run P w = .ok l' w
  | [], [], w, _, _ => by simp [Sem.run_pure]
  | [], _ :: _, w, h, _ => by simp at h
  | _ :: _, [], w, h, _ => by simp at h
  | x :: l, y :: l', w, h, hf => by
    simp only [List.mapM_cons, Sem.run_bind, hf 0 x y rfl rfl, Result.andThen_ok, mapM_list l l' w (by simpa using h) (fun i x y hx hy => hf (i + 1) x y (by simpa using hx) (by simpa using hy)), Sem.run_pure]
theorem resAll_snd {ι : Inj} {T : Tm} {a : Act} {H : AH} {w : World} (ht : TRel n ι T a) (hh : HRel ι H w) : ∀ (rs : List ResultVar) (l : List AV), resAll P T H (prepR rs) = some l → ∃ l', LRel ι l l' ∧
    (rs.mapM (m := Sem) fun | .tmp t => pure (a.tmps.getD t undef) | .cell b t => do loadVar t (← asAddr (a.tmps.getD b undef))).run P w = .ok l' w
  | [], l, h => by cases h; exact ⟨[], LRel.nil ι, by simp [Sem.run_pure]⟩
  | .tmp t :: rs, l, h => by
    have h' : (match valO (px (.tmp t)) T, resAll P T H (prepR rs) with | some v, some l => some (v :: l) | _, _ => none) = some l := h
    split at h'
    · rename_i v l1 h1 h2
      cases h'
      obtain ⟨l', hl, hrun⟩ := resAll_snd ht hh rs l1 h2
      refine ⟨a.tmps.getD t undef :: l', LRel.cons (valO_snd ht h1) hl, ?_⟩
      simp only [List.mapM_cons, Sem.run_bind, Sem.run_pure, Result.andThen_ok, hrun]
    · cases h'
  | .cell b t :: rs, l, h => by
    have h' : (match (match valO (px (.tmp b)) T with | some v => loadA P t v H | none => none), resAll P T H (prepR rs) with | some v, some l => some (v :: l) | _, _ => none) = some l := h
    split at h'
    · rename_i v l1 h1 h2
      cases h'
      split at h1
      · rename_i u hu
        obtain ⟨l', hl, hrun⟩ := resAll_snd ht hh rs l1 h2
        obtain ⟨bb, oo, x', he, hload, hxr⟩ := loadA_snd h1 (valO_snd ht hu) hh
        refine ⟨x' :: l', LRel.cons hxr hl, ?_⟩
        have ha : asAddr (.pointer (some ⟨bb, oo, none⟩)) = (pure ⟨bb, oo, none⟩ : Sem Addr) := rfl
        simp only [List.mapM_cons, Sem.run_bind, Sem.run_pure, Result.andThen_ok, he, ha, hload, hrun]
      · cases h1
    · cases h'
theorem results_snd {ι : Inj} {T : Tm} {a : Act} {H : AH} {w : World} (ht : TRel n ι T a) (hh : HRel ι H w) {fn : Func} (h : (resultsA P (prepR fn.results.toList) T H).Good) :
    ∃ v v', resultsA P (prepR fn.results.toList) T H = .ok v H ∧ AVRel ι v v' ∧ (results fn a.tmps).run P w = .ok v' w := by
  unfold resultsA at h ⊢
  have hrun : ∀ l', (fn.results.toList.mapM (m := Sem) fun | .tmp t => pure (a.tmps.getD t undef) | .cell b t => do loadVar t (← asAddr (a.tmps.getD b undef))).run P w = .ok l' w →
      (results fn a.tmps).run P w = .ok (if h : (⟨l'⟩ : Array Value).size = 1 then (⟨l'⟩ : Array Value)[0] else .tuple ⟨l'⟩) w := by
    intro l' hl
    unfold results
    rw [Array.mapM_eq_mapM_toList]
    simp only [Sem.run_bind, Sem.run_map]
    erw [hl]
    rfl
  split at h
  · rename_i v hv
    obtain ⟨l', hl, hm⟩ := resAll_snd ht hh _ _ hv
    obtain ⟨v', t', rfl, hvr, ht'⟩ := hl.head
    have := ht'.nil_inv
    subst this
    exact ⟨v, v', rfl, hvr, hrun _ hm⟩
  · rename_i l hne hl0
    obtain ⟨l', hl, hm⟩ := resAll_snd ht hh _ _ hl0
    refine ⟨_, .tuple ⟨l'⟩, rfl, .tup hl.1 hl.2, ?_⟩
    rw [hrun _ hm, dif_neg]
    intro h1
    have h1' : l'.length = 1 := h1
    rw [← hl.1] at h1'
    match l, h1' with
    | [v], _ => exact hne v rfl
  · exact h.elim
theorem bodyA_spec {f : FuncId} {rm : Rm} {args : List AV} {H : AH} {fuel : Nat} {k : List PR → R → Res} (h : (bodyA P call fuel f rm args H k).Good) :
    ∃ (fn : Func) (c : Code), P.funcs[f]? = some fn ∧ fn.body = some c ∧ args.length ≤ fn.ntmps ∧ bodyA P call fuel f rm args H k = k (prepR fn.results.toList) (evC P (prepC P fn.ntmps c) call fuel (initT rm args) H nrm) := by
  unfold bodyA at h ⊢
  unfold prepF at h ⊢
  cases hf : P.funcs[f]? with
  | none => rw [hf] at h; exact h.elim
  | some fn =>
    cases hb : fn.body with
    | none => simp only [hf, hb] at h; exact h.elim
    | some c =>
      simp only [hf, hb] at h ⊢
      cases hl : Nat.ble (lenL args) fn.ntmps with
      | false => rw [hl] at h; exact h.elim
      | true =>
        have := Nat.le_of_ble_eq_true hl
        rw [lenL_eq] at this
        exact ⟨fn, c, rfl, hb, this, rfl⟩
theorem dsRel_nil {ι : Inj} {ds' : List Deferred} (h : DsRel ι [] ds') : ds' = [] := by
  cases ds' with
  | nil => rfl
  | cons _ _ => exact h.elim
theorem RRel.from {ι κ : Inj} {H H1 : AH} {w w1 : World} (h : St ι H w κ H1 w1) {r : Res} {e : Ending} {w' : World} (q : RRel κ H1 w1 r e w') : RRel ι H w r e w' := by
  unfold RRel at q ⊢
  split at q
  · obtain ⟨μ, h1, h2⟩ := q; exact ⟨μ, h.trans h1, h2⟩
  · obtain ⟨μ, v', h0, h1, h2⟩ := q; exact ⟨μ, v', h0, h.trans h1, h2⟩
  · exact q.elim
theorem settle_MRel {ι : Inj} {rm : Rm} {u : FrameMode} (h : MRel ι rm u) : MRel ι (afterRm rm) (settle u) := by
  cases rm with
  | no => exact h.not_no.elim
  | returning => cases u <;> first | exact h.elim | trivial
  | panicking v =>
    cases u with
    | panicking ch => obtain ⟨v', rfl, hv⟩ := h; exact ⟨v', rfl, hv⟩
    | _ => exact h.elim
  | recovered =>
    cases u with
    | panicking ch => obtain ⟨v', rfl⟩ := h; trivial
    | _ => exact h.elim
theorem MRel.not_run {ι : Inj} {rm : Rm} {u : FrameMode} (h : MRel ι rm u) : u ≠ .run := by
  rintro rfl
  cases rm <;> exact h.elim
theorem leaves_mono {fn : Func} {tmps : Array Value} {R R' : Ending → World → Prop} (hR : ∀ e w, R e w → R' e w) : ∀ (ds : List Deferred) (u : FrameMode) (w : World), Leaves P fn tmps R ds u w → Leaves P fn tmps R' ds u w
  | [], .returning, w, ⟨v, h1, h2⟩ => ⟨v, h1, hR _ _ h2⟩
  | [], .panicking ch, w, h => hR _ _ h
  | [], .run, w, h => h.elim
  | d :: ds, u, w, ⟨h1, fv, cap, f, args, h2, h3, h4⟩ => ⟨h1, fv, cap, f, args, h2, h3, h4.mono fun e u' w' q => by
      cases e with
      | returned v => exact leaves_mono hR ds _ _ q
      | panicked ch => exact leaves_mono hR ds _ _ q
      | outgrown => exact hR _ _ q⟩
variable (hP : ProgOk P) (hC : CallSnd P call)
include hP hC
/-- The deferred calls, one behind the other, and the end. -/
theorem leave_snd {fuel : Nat} {fn : Func} {T : Tm} {a : Act} : ∀ (ds : List (AV × List AV)) (m : Rm) (H : AH), (leave P call fuel (prepR fn.results.toList) T ds m H).Good → ∀ (ι : Inj) (w : World) (ds' : List Deferred) (u : FrameMode),
    DsRel ι ds ds' → MRel ι m u → TRel n ι T a → HRel ι H w → Leaves P fn a.tmps (RRel ι H w (leave P call fuel (prepR fn.results.toList) T ds m H)) ds' u w
  | [], m, H, h, ι, w, ds', u, hds, hm, ht, hh => by
    rw [dsRel_nil hds]
    cases m with
    | no => exact hm.not_no.elim
    | returning =>
      cases u with
      | returning =>
        have h' : (resultsA P (prepR fn.results.toList) T H).Good := h
        obtain ⟨v, v', he, hv, hrun⟩ := results_snd ht hh h'
        refine ⟨v', hrun, ?_⟩
        show RRel ι H w (resultsA P (prepR fn.results.toList) T H) (.returned v') w
        rw [he]
        exact ⟨ι, .refl hh, hv⟩
      | _ => exact hm.elim
    | panicking v =>
      cases u with
      | panicking ch =>
        obtain ⟨v', rfl, hv⟩ := hm
        exact ⟨ι, v', rfl, .refl hh, hv⟩
      | _ => exact hm.elim
    | recovered => exact h.elim
  | (fv, args) :: ds, m, H, h, ι, w, [], u, hds, hm, ht, hh => hds.elim
  | (fv, args) :: ds, m, H, h, ι, w, d' :: ds', u, ⟨hd, hds⟩, hm, ht, hh => by
    obtain ⟨fn1, f1, c1, f1', c1', l', h1, hp, h3, hc1, hf1, hl', h7⟩ := hd
    simp only at h1 hl'
    subst h1
    have he0 : leave P call fuel (prepR fn.results.toList) T ((.func fn1 f1 c1, args) :: ds) m H = leaveOne P call fuel (.func fn1 f1 c1) args m H (leave P call fuel (prepR fn.results.toList) T ds) := rfl
    rw [he0] at h ⊢
    cases fn1 with
    | func g =>
      have he1 : leaveOne P call fuel (.func (.func g) f1 c1) args m H (leave P call fuel (prepR fn.results.toList) T ds) = bodyA P call fuel g m ((f1 ++ args) ++ c1) H (defEnd (leave P call fuel (prepR fn.results.toList) T ds)) := rfl
      rw [he1] at h ⊢
      obtain ⟨fn2, c2, hfn2, hb2, hlen, he⟩ := bodyA_spec h
      rw [he] at h ⊢
      refine ⟨hm.not_run, .func g, ⟨c1'⟩, g, ⟨(f1' ++ l') ++ c1'⟩, h3, ?_, ?_⟩
      · obtain ⟨tg, ar⟩ := d'
        simp only at h3 h7
        subst h3 h7
        have e1 : ((⟨f1' ++ l'⟩ : Array Value) ++ ⟨c1'⟩) = ⟨(f1' ++ l') ++ c1'⟩ := by apply Array.ext'; simp
        simp only [invoke, e1]
        exact run_callFunc' hP ⟨fn2, c2, hfn2, hb2⟩ _ _
      · generalize hr : evC P (prepC P fn2.ntmps c2) call fuel (initT m (f1 ++ args ++ c1)) H nrm = r at h ⊢
        have hg : r.Good := by
          cases r with
          | fail l => exact h.elim
          | _ => trivial
        generalize hres : defEnd (leave P call fuel (prepR fn.results.toList) T ds) (prepR fn2.results.toList) r = res at h ⊢
        refine callsD_of_wpS hfn2 hb2 fun c₀ cs hu => ?_
        have hun : (c₀ :: cs) = under c₀ cs u := by subst hu; rfl
        rw [hun]
        have ht0 := initT_rel hh.glob ((hf1.append hl').append hc1) hlen m
        have hmi : (initT m (f1 ++ args ++ c1)).rm = m := rfl
        -- how the call ends
        have hend : ∀ T' H' κ a' u' w', defEnd (leave P call fuel (prepR fn.results.toList) T ds) (prepR fn2.results.toList) (.ok .ret T' H') = res → MRel κ T'.rm u' → TRel fn2.ntmps κ T' a' → St ι H w κ H' w' →
            a'.defers = [] ∧ ∃ u'', under c₀ cs u' = { c₀ with mode := u'' } :: cs ∧ ∃ v, (results fn2 a'.tmps).run P w' = .ok v w' ∧ Leaves P fn a.tmps (RRel ι H w res) ds' (settle u'') w' := by
          intro T' H' κ a' u' w' hre hm' ht' hst
          have hre' : (match T'.ds, prepR fn2.results.toList with | [], [] => leave P call fuel (prepR fn.results.toList) T ds (afterRm T'.rm) H' | _, _ => .fail ["deferred: results"]) = res := hre
          split at hre'
          · rename_i hds0 hrs0
            have hd0 := ht'.ds
            rw [hds0] at hd0
            refine ⟨dsRel_nil hd0, u', rfl, ?_⟩
            obtain ⟨v, v', _, _, hrun⟩ := results_snd (fn := fn2) ht' hst.rel (by rw [hrs0]; exact (show True from True.intro))
            refine ⟨v', hrun, ?_⟩
            subst hre'
            have := leave_snd ds (afterRm T'.rm) H' h κ w' ds' (settle u') (hds.mono hst.le) (settle_MRel hm') (ht.mono hst.le) hst.rel
            exact leaves_mono (fun e w2 q => q.from hst) _ _ _ this
          · subst hre'; exact h.elim
        refine evC_sndS (c₀ := c₀) (cs := cs) hP hC c2 (initT m (f1 ++ args ++ c1)) H nrm r hr hg ι _ u w (hmi.symm ▸ hm) ht0 hh _ ?_ ?_ ?_
        · intro T' H' κ a' u' w' e hm' ht' hst
          subst e
          exact hend T' H' κ a' u' w' hres hm' ht' hst
        · intro v T' H' κ v' a' u' w' e hv hm' ht' hst
          subst e
          subst hres
          exact h.elim
        · intro T' H' κ a' u' w' hk hm' ht' hst
          have : r = .ok .normal T' H' := hk.symm
          subst this
          exact hend T' H' κ a' u' w' hres hm' ht' hst
    | _ => exact h.elim
end
end Go.Ev
