import Derived.Test.YtmmfimkbcnfgfaaGreatEvDrw1
/- Regions whose order is drawn: one operation's value. -/
namespace Go.Ev

def VOut (P : Program) (res : Result Next) (post : Value → World → Prop) : Prop := match res with
  | .ok (.value v) w' => post v w'
  | .ok .skip w' => post undef w'
  | .ok (.enter f args) w' => Calls P f args w' fun e w'' => match e with | .returned v => post v w'' | _ => False
  | _ => False
section
variable {P : Program} {n : Nat} {ι : Inj} {H : AH} {w : World} {T : Tm} {a : Act}
theorem VOut.upon {o : Oper} {res : Result Next} {post : Value → World → Prop} {next : Act → World → Prop} {Q : Exit → Act → World → Prop} (h : VOut P res post) (hn : ∀ v w', post v w' → next (a.put o.dst v) w') : o.upon P a next Q res := by
  unfold VOut at h
  split at h
  · exact hn _ _ h
  · exact hn _ _ h
  · rw [Oper.upon_enter]
    refine h.mono fun e w' he => ?_
    cases e with
    | returned v => exact hn _ _ he
    | _ => exact he.elim
  · exact h.elim
variable {call : CallT} (hP : ProgOk P) (hC : CallSnd P call)
include hP hC
theorem call_enters {o : Oper} {c : PC} {as : List PX} {d : Option Pth} {ws : String} (hk : prepK P o = .call c as d ws) {K : Res → R} {r : R} (h : callee P c as call T H K = r) (hr : r.Good) (hK : ∀ l, ¬ (K (.fail l)).Good)
    (ht : TRel n ι T a) (hh : HRel ι H w) : ∃ res, K res = r ∧ Enters P (execOp a.eval o) ι H w res := by
  have hg : ∀ res, K res = r → res.Good := by
    intro res e
    cases res with
    | fail l => subst e; exact (hK l hr).elim
    | _ => trivial
  unfold prepK at hk
  split at hk
  · cases hk
  · rename_i f as1 ts ho
    obtain ⟨as1⟩ := as1
    cases hk
    have h' : withAll (pxs as1) T (fun l => K (call f l H)) = r := h
    obtain ⟨l, h', hl⟩ := withAll_good h' hr ht
    obtain ⟨hfn, hcalls⟩ := hC f l H (hg _ h') ι _ w hl hh
    refine ⟨_, h', f, ⟨as1.map a.eval⟩, ?_, hcalls⟩
    have e1 : (#[] ++ (⟨as1.map a.eval⟩ : Array Value) ++ #[]) = ⟨as1.map a.eval⟩ := by apply Array.ext'; simp
    simp only [execOp, ho, resolve, map_list, Act.eval, Deferred.ofValue, Sem.run_bind, Sem.run_pure, Result.andThen_ok, invoke]
    rw [e1]
    exact run_callFunc' hP hfn _ _
  · rename_i x as1 ts hnf ho
    obtain ⟨as1⟩ := as1
    cases hk
    have h' : withAll (pxs as1) T (fun l => withO (px x) T fun v => K (callV P call v l H)) = r := h
    obtain ⟨l, h', hl⟩ := withAll_good h' hr ht
    obtain ⟨v, h', hv⟩ := withO_good h' hr ht
    obtain ⟨f, args', hrun, hcalls⟩ := callV_snd hP hC (hg _ h') hv hl hh
    refine ⟨_, h', f, args', ?_, hcalls⟩
    rw [← hrun]
    simp only [execOp, ho, resolve, map_list]
  · rename_i x name as1 ts ho
    obtain ⟨as1⟩ := as1
    cases hk
    have h' : withAll (pxs as1) T (fun l => withO (px x) T fun v => (match v with | .iface t y => K (callM P call t y name l H) | _ => bad name)) = r := h
    obtain ⟨l, h', hl⟩ := withAll_good h' hr ht
    obtain ⟨v, h', hv⟩ := withO_good h' hr ht
    split at h'
    · rename_i t y
      generalize hev : a.eval x = x' at hv
      cases hv with
      | iface hy =>
        obtain ⟨f, args', hrun, hcalls⟩ := callM_snd hP hC (hg _ h') hy hl hh
        refine ⟨_, h', f, args', ?_, hcalls⟩
        rw [← hrun]
        have e1 : ∀ v : Value, (#[v] ++ (⟨as1.map a.eval⟩ : Array Value)) = ⟨v :: as1.map a.eval⟩ := fun v => by apply Array.ext'; simp
        have e2 : ∀ v : Value, (⟨v :: as1.map a.eval⟩ : Array Value).extract 1 (⟨v :: as1.map a.eval⟩ : Array Value).size = ⟨as1.map a.eval⟩ := fun v => by apply Array.ext'; simp [List.take_of_length_le]
        simp only [execOp, ho, resolve, map_list, hev, Sem.run_bind, Sem.run_pure, Result.andThen_ok, invoke]
        rw [e1]
        simp only [List.getElem?_toArray, List.getElem?_cons_zero]
        rw [e2]
    · exact bad_elim h' hr
  · cases hk
  · cases hk
  · split at hk <;> cases hk
omit hP hC in
theorem prepK_plain {o : Oper} {f : F} {ft : Tm → List Nat} {d : Option Pth} (hk : prepK P o = .plain f ft d) : OpSnd P f o := by
  unfold prepK at hk
  split at hk
  · cases hk
  · cases hk
  · cases hk
  · cases hk
  · cases hk
  · cases hk
  · split at hk
    · rename_i f' hf
      cases hk
      exact opF_snd hf rfl
    · cases hk
omit hP hC in
theorem prepK_not_guarded {o : Oper} {p : Pth} {want : Bool} {d : Option Pth} {q : PO} : prepK P o ≠ .guarded p want d q := by
  intro hk
  unfold prepK at hk
  split at hk
  · cases hk
  · cases hk
  · cases hk
  · cases hk
  · cases hk
  · cases hk
  · split at hk <;> cases hk
/-- An operation's value, here and there. -/
theorem evV_kind {o : Oper} {kk : AV → AH → R} {r : R} (h : evV P (prepK P o) call T H kk = r) (hr : r.Good) (ht : TRel n ι T a) (hh : HRel ι H w) :
    VOut P ((execOp a.eval o).run P w) fun v' w' => ∃ v E κ, kk v E = r ∧ AVRel κ v v' ∧ St ι H w κ E w' := by
  generalize hk : prepK P o = po at h
  cases po with
  | plain f ft d =>
    have h' : f T H kk = r := h
    obtain ⟨v, H1, κ, v', w1, hk1, hst, hv, hx⟩ := prepK_plain hk n T H kk r h' hr ι a w ht hh
    rcases hx with hx | ⟨rfl, hx⟩ <;> rw [hx] <;> exact ⟨v, H1, κ, hk1, hv, hst⟩
  | call c as d ws =>
    obtain ⟨res, hres, f, args', hrun, hcalls⟩ := call_enters hP hC hk h hr (fun l e => e) ht hh
    rw [hrun]
    refine hcalls.mono fun e w' he => ?_
    cases res with
    | ok v E =>
      cases e with
      | returned v' =>
        obtain ⟨κ, hst, hv⟩ := he
        exact ⟨v, E, κ, hres, hv, hst⟩
      | _ => exact he.elim
    | panic v E =>
      have h0 : R.fail [ws, "drawn: a panic"] = r := hres
      subst h0; exact hr.elim
    | fail l =>
      have h0 : R.fail (ws :: l) = r := hres
      subst h0; exact hr.elim
  | guarded p want d q => exact (prepK_not_guarded hk).elim
  | _ => exact bad_elim h hr
/-- An operation's value, with its guard. -/
theorem evV_snd {all : List Oper} {o : Oper} {kk : AV → AH → R} {r : R} (h : evV P (prep P all o) call T H kk = r) (hr : r.Good) (ht : TRel n ι T a) (hh : HRel ι H w) :
    if Region.wanted o (yielded ⟨all⟩ a.tmps) then VOut P ((execOp a.eval o).run P w) fun v' w' => ∃ v E κ, kk v E = r ∧ AVRel κ v v' ∧ St ι H w κ E w'
    else kk undefA H = r := by
  unfold prep at h
  split at h
  · rename_i hg
    rw [if_pos (by simp only [Region.wanted, hg])]
    exact evV_kind hP hC h hr ht hh
  · rename_i j want hg
    split at h
    · rename_i p hj
      split at h
      · rename_i d hp
        have htold := told_snd (o := o) hg hj hp ht
        have h1 : onB (told (pathOf d) want T) (evV P (prepK P o) call T H kk) (kk undefA H) = r := by
          generalize hk : prepK P o = po at h ⊢
          cases po with
          | plain f ft d => exact h
          | call c as d ws => exact h
          | guarded p want d q => exact (prepK_not_guarded hk).elim
          | _ => exact bad_elim h hr
        cases hb : told (pathOf d) want T with
        | true =>
          rw [hb, onB_true] at h1
          rw [if_pos (htold.trans hb)]
          exact evV_kind hP hC h1 hr ht hh
        | false =>
          rw [hb, onB_false] at h1
          rw [if_neg (by rw [htold, hb]; simp)]
          exact h1
      · exact bad_elim (w := "drawn: what may not stand there") h hr
    · exact bad_elim (w := "drawn: what may not stand there") h hr
end
end Go.Ev
