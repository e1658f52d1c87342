import Derived.Test.YtmmfimkbcnfgfaaGreatEvCode1
/- The abstract evaluator's operations in a region: calls, defer, panic, and the rest. -/
namespace Go.Ev

section
variable {P : Program} {n : Nat} {ι : Inj} {H : AH} {w : World} {T : Tm} {a : Act}
theorem TRel.put (ht : TRel n ι T a) {dst : Option Tmp} (hd : ∀ d, dst = some d → d < n) {v : AV} {v' : Value} (hv : AVRel ι v v') {k : Tm → R} {r : R} (h : putD (pdOf dst) v T k = r) :
    ∃ T', k T' = r ∧ T'.rm = T.rm ∧ T'.ds = T.ds ∧ TRel n ι T' (a.put dst v') := by
  cases dst with
  | none => exact ⟨T, h, rfl, rfl, ht⟩
  | some d =>
    obtain ⟨t, ds, rm⟩ := T
    have h' : k ⟨t.updP (pathOf d) (some v), ds, rm⟩ = r := h
    rw [Fr.updP_pathOf] at h'
    refine ⟨_, h', rfl, rfl, ?_, fun i hi => ?_, fun i hi => ?_, ht.ds, ht.glob⟩
    · show (a.tmps.setIfInBounds d v').size = n
      rw [Array.size_setIfInBounds]; exact ht.size
    · show AVRel ι (((t.upd d (some v)).get i).getD undefA) ((a.tmps.setIfInBounds d v').getD i undef)
      rw [Fr.get_upd]
      by_cases e : i = d
      · subst e
        rw [if_pos rfl]
        have hlt : i < a.tmps.size := by rw [ht.size]; exact hi
        simpa [Array.getD, hlt] using hv
      · rw [if_neg e]
        have := ht.get i hi
        have e' : (a.tmps.setIfInBounds d v').getD i undef = a.tmps.getD i undef := by
          simp only [Array.getD_eq_getD_getElem?]
          rw [Array.getElem?_setIfInBounds_ne (fun h => e h.symm)]
        rw [e']; exact this
    · show (t.upd d (some v)).get i = none
      rw [Fr.get_upd, if_neg (fun e => by have h1 := hd d rfl; have h2 : n ≤ d := e ▸ hi; exact absurd h1 (Nat.not_lt.2 h2))]
      exact ht.out i hi
theorem Res.fail_not {l : List String} : ¬ (Res.fail l).Good := fun h => h
variable {call : CallT} (hP : ProgOk P) (hC : CallSnd P call)
theorem ofRes_fail {T : Tm} {l : List String} {k : AV → AH → R} {w : String} : ¬ (ofRes T (.fail l) k w).Good := fun h => h
theorem res_good {T : Tm} {res : Res} {k : AV → AH → R} {w : String} {r : R} (h : ofRes T res k w = r) (hr : r.Good) : res.Good := by
  cases res with
  | fail l => subst h; exact hr.elim
  | _ => trivial
theorem map_list (as : List Operand) (f : Operand → Value) : (⟨as⟩ : Array Operand).map f = ⟨as.map f⟩ := by apply Array.ext'; simp
/-- What is asked of what comes behind an operation. -/
structure Nexts (n : Nat) (ι : Inj) (H : AH) (w : World) (rm : Rm) (k : Tm → AH → R) (r : R) (next : Act → World → Prop) (Q : Exit → Act → World → Prop) : Prop where
  next : ∀ T' H' κ a' w', k T' H' = r → T'.rm = rm → TRel n κ T' a' → St ι H w κ H' w' → next a' w'
  panic : ∀ v T' H' κ v' a' w', r = .panic v T' H' → AVRel κ v v' → T'.rm = rm → TRel n κ T' a' → St ι H w κ H' w' → Q (.panic [{ v := v', recovered := false }]) a' w'
theorem call_upon {o : Oper} {next : Act → World → Prop} {Q : Exit → Act → World → Prop} {k : Tm → AH → R} {r : R} (hd : ∀ d, o.dst = some d → d < n) (ht : TRel n ι T a) (hN : Nexts n ι H w T.rm k r next Q)
    {res : Res} {ws : String} (h : ofRes T res (fun v H => putD (pdOf o.dst) v T fun T => k T H) ws = r) (hE : Enters P (execOp a.eval o) ι H w res) : o.upon P a next Q ((execOp a.eval o).run P w) := by
  obtain ⟨f, args', hrun, hcalls⟩ := hE
  rw [hrun, Oper.upon_enter]
  refine hcalls.mono fun e w' he => ?_
  cases res with
  | ok v H1 =>
    cases e with
    | returned v' =>
      obtain ⟨κ, hst, hv⟩ := he
      have h' : putD (pdOf o.dst) v T (fun T => k T H1) = r := h
      obtain ⟨T', hk, hrm, hds, ht'⟩ := (ht.mono hst.le).put hd hv h'
      exact hN.next T' H1 κ _ w' hk hrm ht' hst
    | panicked ch => exact he.elim
    | outgrown => exact he.elim
  | panic v H1 =>
    cases e with
    | returned v' => exact he.elim
    | panicked ch =>
      obtain ⟨κ, v', rfl, hst, hv⟩ := he
      have h' : R.panic v T H1 = r := h
      exact hN.panic v T H1 κ v' a w' h'.symm hv rfl (ht.mono hst.le) hst
    | outgrown => exact he.elim
  | fail l => cases e <;> exact he.elim
theorem snd_upon {f : F} {o : Oper} (hf : OpSnd P f o) {next : Act → World → Prop} {Q : Exit → Act → World → Prop} {k : Tm → AH → R} {r : R} (hr : r.Good) (hd : ∀ d, o.dst = some d → d < n) (ht : TRel n ι T a) (hh : HRel ι H w)
    (hN : Nexts n ι H w T.rm k r next Q) (h : (f T H fun v H => putD (pdOf o.dst) v T fun T => k T H) = r) : o.upon P a next Q ((execOp a.eval o).run P w) := by
  obtain ⟨v, H1, κ, v', w1, hk, hst, hv, hx⟩ := hf n T H _ r h hr ι a w ht hh
  obtain ⟨T', hk', hrm, hds, ht'⟩ := (ht.mono hst.le).put hd hv hk
  rcases hx with hx | ⟨rfl, hx⟩
  · rw [hx, Oper.upon_value]; exact hN.next T' H1 κ _ w1 hk' hrm ht' hst
  · rw [hx, Oper.upon_skip]; exact hN.next T' H1 κ _ w1 hk' hrm ht' hst
def isRecover (o : Oper) : Prop := ∃ as ts, o.op = .call ⟨.builtin .recover, as, ts⟩
include hP hC
theorem kind_upon {o : Oper} {next : Act → World → Prop} {Q : Exit → Act → World → Prop} {k : Tm → AH → R} {r : R} (h : evOp P (prepK P o) call T H k = r) (hr : r.Good) (hd : ∀ d, o.dst = some d → d < n)
    (ht : TRel n ι T a) (hh : HRel ι H w) (hrec : isRecover o → T.rm = .no) (hN : Nexts n ι H w T.rm k r next Q) : o.upon P a next Q ((execOp a.eval o).run P w) := by
  unfold prepK at h
  split at h
  · rename_i as ts ho
    have h' : recoverK (pdOf o.dst) call T H k = r := h
    unfold recoverK at h'
    rw [hrec ⟨as, ts, ho⟩] at h'
    exact bad_elim h' hr
  · rename_i f as ts ho
    obtain ⟨as⟩ := as
    have h' : withAll (pxs as) T (fun l => ofRes T (call f l H) (fun v H => putD (pdOf o.dst) v T fun T => k T H) o.pos) = r := h
    obtain ⟨l, h', hl⟩ := withAll_good h' hr ht
    have hg := res_good h' hr
    obtain ⟨hfn, hcalls⟩ := hC f l H hg ι _ w hl hh
    refine call_upon hd ht hN h' ⟨f, ⟨as.map a.eval⟩, ?_, hcalls⟩
    have e1 : (#[] ++ (⟨as.map a.eval⟩ : Array Value) ++ #[]) = ⟨as.map a.eval⟩ := by apply Array.ext'; simp
    simp only [execOp, ho, resolve, map_list, Act.eval, Deferred.ofValue, Sem.run_bind, Sem.run_pure, Result.andThen_ok, invoke]
    rw [e1]
    exact run_callFunc' hP hfn _ _
  · rename_i x as ts hnf ho
    obtain ⟨as⟩ := as
    have h' : withAll (pxs as) T (fun l => withO (px x) T fun v => ofRes T (callV P call v l H) (fun v H => putD (pdOf o.dst) v T fun T => k T H) o.pos) = r := h
    obtain ⟨l, h', hl⟩ := withAll_good h' hr ht
    obtain ⟨v, h', hv⟩ := withO_good h' hr ht
    have hg := res_good h' hr
    refine call_upon hd ht hN h' ?_
    obtain ⟨f, args', hrun, hcalls⟩ := callV_snd hP hC hg hv hl hh
    refine ⟨f, args', ?_, hcalls⟩
    rw [← hrun]
    simp only [execOp, ho, resolve, map_list]
  · rename_i x name as ts ho
    obtain ⟨as⟩ := as
    have h' : withAll (pxs as) T (fun l => withO (px x) T fun v => (match v with | .iface t y => ofRes T (callM P call t y name l H) (fun v H => putD (pdOf o.dst) v T fun T => k T H) o.pos | _ => bad name)) = r := h
    obtain ⟨l, h', hl⟩ := withAll_good h' hr ht
    obtain ⟨v, h', hv⟩ := withO_good h' hr ht
    split at h'
    · rename_i t y
      generalize hev : a.eval x = x' at hv
      cases hv with
      | iface hy =>
        have hg := res_good h' hr
        refine call_upon hd ht hN h' ?_
        obtain ⟨f, args', hrun, hcalls⟩ := callM_snd hP hC hg hy hl hh
        refine ⟨f, args', ?_, hcalls⟩
        rw [← hrun]
        have e1 : ∀ v : Value, (#[v] ++ (⟨as.map a.eval⟩ : Array Value)) = ⟨v :: as.map a.eval⟩ := fun v => by apply Array.ext'; simp
        have e2 : ∀ v : Value, (⟨v :: as.map a.eval⟩ : Array Value).extract 1 (⟨v :: as.map a.eval⟩ : Array Value).size = ⟨as.map a.eval⟩ := fun v => by apply Array.ext'; simp [List.take_of_length_le]
        simp only [execOp, ho, resolve, map_list, hev, Sem.run_bind, Sem.run_pure, Result.andThen_ok, invoke]
        rw [e1]
        simp only [List.getElem?_toArray, List.getElem?_cons_zero]
        rw [e2]
    · exact bad_elim h' hr
  · rename_i x as ts ho
    obtain ⟨as⟩ := as
    have h' : withO (px x) T (fun v => withAll (pxs as) T fun l => (match v, T.rm with
      | .func fn f c, .no => putD (pdOf o.dst) undefA ⟨T.t, (.func fn f c, l) :: T.ds, .no⟩ fun T => k T H
      | _, _ => bad "defer")) = r := h
    obtain ⟨v, h', hv⟩ := withO_good h' hr ht
    obtain ⟨l, h', hl⟩ := withAll_good h' hr ht
    split at h'
    · rename_i fn f c hrm _
      generalize hev : a.eval x = x' at hv
      cases hv with
      | func hp lf hf lc hc =>
        rename_i f' c'
        have e1 : ((⟨f'⟩ : Array Value) ++ ⟨as.map a.eval⟩) = ⟨f' ++ as.map a.eval⟩ := by apply Array.ext'; simp
        have hrun : (execOp a.eval o).run P w = .ok (.defer { target := .fn fn ⟨c'⟩, args := ⟨f' ++ as.map a.eval⟩ }) w := by
          simp only [execOp, ho, resolve, map_list, hev, Deferred.ofValue, Sem.run_bind, Sem.run_pure, Result.andThen_ok]
          rw [e1]
        rw [hrun, Oper.upon_defer]
        have ht1 : TRel n ι ⟨T.t, (.func fn f c, l) :: T.ds, .no⟩ { a with defers := { target := .fn fn ⟨c'⟩, args := ⟨f' ++ as.map a.eval⟩ } :: a.defers } :=
          ⟨ht.size, ht.get, ht.out, ⟨⟨fn, f, c, f', c', as.map a.eval, rfl, hp, rfl, ⟨lc, hc⟩, ⟨lf, hf⟩, hl, rfl⟩, ht.ds⟩, ht.glob⟩
        obtain ⟨T', hk, hrm', hds, ht'⟩ := ht1.put hd (undef_rel ι) h'
        exact hN.next T' H ι _ w hk (hrm'.trans hrm.symm) ht' (.refl hh)
    · exact bad_elim h' hr
  · rename_i x ho
    have h' : withO (px x) T (fun v => (match v with | .iface t v => R.panic (.iface t v) T H | _ => bad "panic")) = r := h
    obtain ⟨v, h', hv⟩ := withO_good h' hr ht
    split at h'
    · rename_i t y
      generalize hev : a.eval x = x' at hv
      have hrun : (execOp a.eval o).run P w = .halt (.panic x') w := by
        cases hv
        simp only [execOp, ho, hev, Instr.panic, Sem.run_bind, run_goPanic, Result.andThen]
      rw [hrun, Oper.upon_panic]
      exact hN.panic _ T H ι x' a w h'.symm hv rfl ht (.refl hh)
    · exact bad_elim h' hr
  · rename_i op h1 h2 h3 h4 h5 h6
    split at h
    · rename_i f hf
      exact snd_upon (opF_snd hf rfl) hr hd ht hh hN h
    · exact bad_elim h hr
omit hP hC in
/-- Whether a guard lets an operation be done. -/
theorem told_snd {all : List Oper} {j : Nat} {want : Bool} {p : Oper} {d : Tmp} {o : Oper} (hg : o.guard = some (j, want)) (hj : nth all j = some p) (hp : p.dst = some d) (ht : TRel n ι T a) :
    Region.wanted o (yielded ⟨all⟩ a.tmps) = told (pathOf d) want T := by
  have hj' : (⟨all⟩ : Array Oper)[j]? = some p := by rw [nth_eq] at hj; simpa using hj
  have ht' : told (pathOf d) want T = match T.t.get d with
      | some v => asBool v (fun b => Bool.rec (Bool.rec true false want) want b) false
      | none => false := by
    show Option.rec (motive := fun _ => Bool) false _ (Fr.getP (pathOf d) T.t) = _
    rw [Fr.getP_pathOf]
    cases T.t.get d <;> rfl
  rw [ht']
  simp only [Region.wanted, hg, yielded, hj', Option.bind_some, hp]
  rcases Nat.lt_or_ge d n with hd | hd
  · have hrel := ht.get d hd
    have hlt : d < a.tmps.size := by rw [ht.size]; exact hd
    have e : a.tmps[d]? = some (a.tmps.getD d undef) := by simp [Array.getD, hlt]
    rw [e]
    generalize a.tmps.getD d undef = x at hrel ⊢
    cases hv : T.t.get d with
    | none => rw [hv] at hrel; cases hrel; rfl
    | some v =>
      rw [hv] at hrel
      simp only [Option.getD_some] at hrel
      cases hrel with
      | bool b => cases b <;> cases want <;> rfl
      | _ => rfl
  · rw [ht.out d hd, Array.getElem?_eq_none (by rw [ht.size]; exact hd)]
    rfl
theorem evOps_snd {all : List Oper} {Q : Exit → Act → World → Prop} {k : Tm → AH → R} {r : R} (hr : r.Good) : ∀ (rest : List Oper) (i : Nat), all.drop i = rest → (∀ o ∈ rest, ∀ d, o.dst = some d → d < n) →
    ∀ (ι : Inj) (H : AH) (w : World) (T : Tm) (a : Act), evOps P (prepAll P all rest) call T H k = r → T.rm = .no → TRel n ι T a → HRel ι H w → Nexts n ι H w .no k r (Q .normal) Q →
      wpOps P ⟨all⟩ Q (List.range' i rest.length) a w
  | [], i, hdrop, hds, ι, H, w, T, a, h, hrm, ht, hh, hN => hN.next T H ι a w h hrm ht (.refl hh)
  | o :: rest, i, hdrop, hds, ι, H, w, T, a, h, hrm, ht, hh, hN => by
    have hi : (⟨all⟩ : Array Oper)[i]? = some o := by
      have h1 : (all.drop i)[0]? = some o := by rw [hdrop]; rfl
      rw [List.getElem?_drop] at h1
      simpa using h1
    have hdrop' : all.drop (i + 1) = rest := by rw [← List.drop_drop, hdrop]; rfl
    have hdo := hds o (by simp)
    have hds' : ∀ o ∈ rest, ∀ d, o.dst = some d → d < n := fun o ho => hds o (by simp [ho])
    have h' : evOp P (prep P all o) call T H (fun T H => evOps P (prepAll P all rest) call T H k) = r := h
    rw [List.length_cons, List.range'_succ]
    simp only [wpOps, hi]
    -- behind the operation
    have hN' : Nexts n ι H w .no (fun T H => evOps P (prepAll P all rest) call T H k) r (wpOps P ⟨all⟩ Q (List.range' (i + 1) rest.length)) Q :=
      ⟨fun T' H' κ a' w' hk hrm' ht' hst => evOps_snd hr rest (i + 1) hdrop' hds' κ H' w' T' a' hk hrm' ht' hst.rel
          ⟨fun T2 H2 μ a2 w2 hk2 hrm2 ht2 hst2 => hN.next T2 H2 μ a2 w2 hk2 hrm2 ht2 (hst.trans hst2),
           fun v T2 H2 μ v' a2 w2 e hv hrm2 ht2 hst2 => hN.panic v T2 H2 μ v' a2 w2 e hv hrm2 ht2 (hst.trans hst2)⟩,
       fun v T' H' κ v' a' w' e hv hrm' ht' hst => hN.panic v T' H' κ v' a' w' e hv hrm' ht' hst⟩
    unfold prep at h'
    split at h'
    · rename_i hg
      have hw : Region.wanted o (yielded ⟨all⟩ a.tmps) = true := by simp only [Region.wanted, hg]
      rw [if_pos hw]
      exact .inl (kind_upon hP hC h' hr hdo ht hh (fun _ => hrm) (hrm.symm ▸ hN'))
    · rename_i j want hg
      split at h'
      · rename_i p hj
        split at h'
        · rename_i d hp
          have htold := told_snd (o := o) hg hj hp ht
          have h1 : onB (told (pathOf d) want T) (evOp P (prepK P o) call T H (fun T H => evOps P (prepAll P all rest) call T H k)) (putD (pdOf o.dst) undefA T fun T => evOps P (prepAll P all rest) call T H k) = r := h'
          cases hb : told (pathOf d) want T with
          | true =>
            rw [hb, onB_true] at h1
            rw [if_pos (htold.trans hb)]
            exact .inl (kind_upon hP hC h1 hr hdo ht hh (fun _ => hrm) (hrm.symm ▸ hN'))
          | false =>
            rw [hb, onB_false] at h1
            rw [if_neg (by rw [htold, hb]; simp)]
            obtain ⟨T', hk, hrm', hds1, ht'⟩ := ht.put hdo (undef_rel ι) h1
            exact hN'.next T' H ι _ w hk (hrm'.trans hrm) ht' (.refl hh)
        · exact bad_elim h' hr
      · exact bad_elim h' hr
end
end Go.Ev
