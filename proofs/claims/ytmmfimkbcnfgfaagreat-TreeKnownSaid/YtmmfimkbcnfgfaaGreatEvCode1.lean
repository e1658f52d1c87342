import Derived.Test.YtmmfimkbcnfgfaaGreatEvSnd10
import Derived.Recover
/- The abstract evaluator's calls: what is called, with what. -/
namespace Go.Ev

/-- What a call comes to, here and there. -/
def RRel (ι : Inj) (H : AH) (w : World) (r : Res) (e : Ending) (w' : World) : Prop := match r, e with
  | .ok v H', .returned v' => ∃ κ, St ι H w κ H' w' ∧ AVRel κ v v'
  | .panic v H', .panicked ch => ∃ κ v', ch = [{ v := v', recovered := false }] ∧ St ι H w κ H' w' ∧ AVRel κ v v'
  | _, _ => False
/-- Calls of the abstract evaluator that the model makes too. -/
def CallSnd (P : Program) (call : CallT) : Prop := ∀ (f : FuncId) (args : List AV) (H : AH), (call f args H).Good → ∀ (ι : Inj) (args' : List Value) (w : World), LRel ι args args' → HRel ι H w →
  (∃ (fn : Func) (c : Code), P.funcs[f]? = some fn ∧ fn.body = some c) ∧ Calls P f ⟨args'⟩ w (RRel ι H w (call f args H))
/-- What is asked of a program. -/
structure ProgOk (P : Program) : Prop where
  names : ∀ (f : FuncId) (fn : Func) (c : Code), P.funcs[f]? = some fn → fn.body = some c → (fn.name == "runtime.NumGoroutine") = false
  mixed : P.follows .mixedOrders = true
  code : ∀ (f : FuncId) (fn : Func) (c : Code), P.funcs[f]? = some fn → fn.body = some c → codeOk c = true

section
variable {P : Program}
theorem run_callFunc {f : FuncId} {fn : Func} {c : Code} (hf : P.funcs[f]? = some fn) (hb : fn.body = some c) (hn : (fn.name == "runtime.NumGoroutine") = false) (args : Array Value) (w : World) :
    (callFunc f args).run P w = .ok (.enter f args) w := by
  have hn' : ¬ fn.name = "runtime.NumGoroutine" := by simpa using hn
  simp [callFunc, hf, hb, hn']
theorem run_callFunc' (hP : ProgOk P) {f : FuncId} (h : ∃ (fn : Func) (c : Code), P.funcs[f]? = some fn ∧ fn.body = some c) (args : Array Value) (w : World) : (callFunc f args).run P w = .ok (.enter f args) w := by
  obtain ⟨fn, c, hf, hb⟩ := h
  exact run_callFunc hf hb (hP.names f fn c hf hb) args w
theorem loadA_snd {ι : Inj} {H : AH} {w : World} {t : TypeId} {v x : AV} {v' : Value} (h : loadA P t v H = some x) (hv : AVRel ι v v') (hh : HRel ι H w) :
    ∃ b o x', v' = .pointer (some ⟨b, o, none⟩) ∧ (loadVar t ⟨b, o, none⟩).run P w = .ok x' w ∧ AVRel ι x x' := by
  unfold loadA at h
  split at h
  · rename_i b o s hs
    split at h
    · rename_i c e z hg
      obtain ⟨y, hy, hev⟩ := ptr_inv hv
      obtain ⟨c', e1, fz, hw, hc, hf, hn⟩ := cells_of hh hg hy
      cases s with
      | none =>
        have h' : nth c o = some x := h
        rw [nth_eq] at h'
        obtain ⟨x', hx', hr⟩ := hc o x h'
        exact ⟨y.1, y.2 + o, x', hev, run_loadVar1 hs hw hx', hr⟩
      | some n =>
        have h' : Option.rec (motive := fun _ => Option AV) none (fun l => some (.agg l)) (takeL n (dropL o c)) = some x := h
        cases ht : takeL n (dropL o c) with
        | none => rw [ht] at h'; cases h'
        | some l =>
          rw [ht] at h'
          cases h'
          obtain ⟨l', hln, hlr, hcell⟩ := row_rel hc ht
          exact ⟨y.1, y.2 + o, .agg ⟨l'⟩, hev, run_loadVarN hs hw hln hcell, .agg hlr.1 hlr.2⟩
    · cases h
  · cases h
theorem findMethod_eq (name : String) (l : List Method) : findMethod name l = l.find? (fun m => m.name == name) := by
  induction l with
  | nil => rfl
  | cons m l ih =>
    show Bool.rec (motive := fun _ => Option Method) (findMethod name l) (some m) (m.name == name) = _
    rw [List.find?_cons, ih]
    cases (m.name == name) <;> rfl
theorem run_method {ι : Inj} {H : AH} {w : World} {t : TypeId} {name : String} {f : FuncId} {e : Option TypeId} {v r : AV} {v' : Value} (hm : methodOf P t name = some (f, e)) (hr : recvA P v e H = some r)
    (hv : AVRel ι v v') (hh : HRel ι H w) : ∃ r', AVRel ι r r' ∧ (method (P.types.size + Made.depth) t v' name).run P w = .ok (f, r') w := by
  unfold methodOf at hm
  split at hm
  · rename_i i hi
    split at hm
    · rename_i m hfm
      split at hm
      · rename_i g ptr hpath hfunc
        have hti : (typeInfo t).run P w = .ok i w := by simp [typeInfo, hi]
        have hfind : i.methods.find? (fun m => m.name == name) = some m := by
          rw [findMethod_eq] at hfm
          rw [← Array.find?_toList]; exact hfm
        have hemp : m.path.isEmpty = true := by
          have : m.path = #[] := by apply Array.ext'; exact hpath
          rw [this]; rfl
        -- the receiver
        have key : ∀ f' r', (receiverAt t (.val v') ptr (some ((name.splitOn ".").getLastD name))).run P w = .ok r' w → f' = g → (method (P.types.size + Made.depth) t v' name).run P w = .ok (f', r') w := by
          intro f' r' hrec he
          subst he
          have hpos : 0 < Made.depth := by decide
          obtain ⟨q, hd⟩ : ∃ q, P.types.size + Made.depth = q + 1 := ⟨P.types.size + (Made.depth - 1), by omega⟩
          rw [hd, method]
          simp only [Sem.run_bind, hti, Result.andThen_ok, hfind, hpath, follow, Sem.run_pure, hfunc, hemp, if_true, hrec]
        split at hm
        · rename_i q hu
          cases hm
          cases hr
          refine ⟨v', hv, key _ _ ?_ rfl⟩
          simp only [receiverAt, Sem.run_bind, run_underlying hu w, Result.andThen_ok, Place.get, Sem.run_pure]
        · rename_i q hu
          cases hm
          have hr' : loadA P q v H = some r := hr
          obtain ⟨b, o, x', rfl, hload, hxr⟩ := loadA_snd hr' hv hh
          refine ⟨x', hxr, key _ _ ?_ rfl⟩
          have hchk : ∀ n : String, Builtin.ssaWrapNilChk_ #[t] t #[.pointer (some ⟨b, o, none⟩), strVal "", strVal n] = (pure (.pointer (some ⟨b, o, none⟩)) : Sem Value) := fun _ => rfl
          simp only [receiverAt, Sem.run_bind, run_underlying hu w, Result.andThen_ok, Place.get, Sem.run_pure, hchk, asAddr, hload]
        · rename_i d hnp hu
          cases hm
          cases hr
          refine ⟨v', hv, key _ _ ?_ rfl⟩
          simp only [receiverAt, Sem.run_bind, run_underlying hu w, Result.andThen_ok]
          cases d <;> first | (exact (hnp _ rfl).elim) | rfl
        · cases hm
      · cases hm
    · cases hm
  · cases hm
/-- A call that the evaluator makes, in the model: the function that is entered. -/
def Enters (P : Program) (s : Sem Next) (ι : Inj) (H : AH) (w : World) (res : Res) : Prop := ∃ f args', s.run P w = .ok (.enter f args') w ∧ Calls P f args' w (RRel ι H w res)
variable {call : CallT} (hP : ProgOk P) (hC : CallSnd P call)
include hP hC
theorem callM_snd {ι : Inj} {H : AH} {w : World} {t : TypeId} {name : String} {v : AV} {v' : Value} {args : List AV} {args' : List Value} (h : (callM P call t v name args H).Good) (hv : AVRel ι v v') (ha : LRel ι args args')
    (hh : HRel ι H w) : Enters P (callMethod (.iface t v') name ⟨args'⟩) ι H w (callM P call t v name args H) := by
  unfold callM at h ⊢
  split at h
  · rename_i f e hm
    split at h
    · rename_i r hr
      obtain ⟨r', hrr, hrun⟩ := run_method hm hr hv hh
      obtain ⟨hf, hcalls⟩ := hC f (r :: args) H h ι (r' :: args') w (LRel.cons hrr ha) hh
      refine ⟨f, ⟨r' :: args'⟩, ?_, hcalls⟩
      have e1 : (#[r'] ++ (⟨args'⟩ : Array Value)) = ⟨r' :: args'⟩ := by apply Array.ext'; simp
      simp only [callMethod, Sem.run_bind, run_program, Result.andThen_ok, hrun, e1, run_callFunc' hP hf]
    · exact h.elim
  · exact h.elim
theorem callV_snd {ι : Inj} {H : AH} {w : World} {fv : AV} {fv' : Value} {args : List AV} {args' : List Value} (h : (callV P call fv args H).Good) (hv : AVRel ι fv fv') (ha : LRel ι args args') (hh : HRel ι H w) :
    Enters P (do let d ← Deferred.ofValue fv' ⟨args'⟩; invoke d.target d.args) ι H w (callV P call fv args H) := by
  cases fv with
  | func fn fst cap =>
    cases hv with
    | func hp lf hf lc hc =>
      rename_i f' c'
      have hfr : LRel ι fst f' := ⟨lf, hf⟩
      have hcr : LRel ι cap c' := ⟨lc, hc⟩
      have happ : ((⟨f'⟩ : Array Value) ++ ⟨args'⟩) = ⟨f' ++ args'⟩ := by apply Array.ext'; simp
      have hof : Deferred.ofValue (.func fn ⟨f'⟩ ⟨c'⟩) ⟨args'⟩ = pure { target := .fn fn ⟨c'⟩, args := ⟨f' ++ args'⟩ } := by simp only [Deferred.ofValue, happ]
      have hall := hfr.append ha
      have hext : ∀ (v' : Value) (rest' : List Value), (⟨v' :: rest'⟩ : Array Value).extract 1 (⟨v' :: rest'⟩ : Array Value).size = ⟨rest'⟩ := by
        intro v' rest'; apply Array.ext'; simp
      cases fn with
      | func f =>
        obtain ⟨hfn, hcalls⟩ := hC f ((fst ++ args) ++ cap) H h ι ((f' ++ args') ++ c') w (hall.append hcr) hh
        refine ⟨f, ⟨(f' ++ args') ++ c'⟩, ?_, hcalls⟩
        have e1 : ((⟨f' ++ args'⟩ : Array Value) ++ ⟨c'⟩) = ⟨(f' ++ args') ++ c'⟩ := by apply Array.ext'; simp
        simp only [hof, Sem.run_bind, Sem.run_pure, Result.andThen_ok, invoke, e1, run_callFunc' hP hfn]
      | method name =>
        have e0 : callV P call (.func (.method name) fst cap) args H = (match fst ++ args with | .iface t v :: rest => callM P call t v name rest H | _ => .fail ["a method value", name]) := rfl
        rw [e0] at h ⊢
        generalize fst ++ args = l at h hall ⊢
        generalize f' ++ args' = l' at hof hall ⊢
        split at h
        · rename_i t v rest
          obtain ⟨v1, rest', rfl, hv1, hrest⟩ := hall.head
          cases hv1 with
          | iface hv2 =>
            obtain ⟨f, ar, hrun, hcalls⟩ := callM_snd hP hC h hv2 hrest hh
            refine ⟨f, ar, ?_, hcalls⟩
            simp only [hof, Sem.run_bind, Sem.run_pure, Result.andThen_ok, invoke, List.getElem?_toArray, List.getElem?_cons_zero]
            rw [hext]
            exact hrun
        · exact h.elim
      | methodOf t name =>
        have e0 : callV P call (.func (.methodOf t name) fst cap) args H = (match P.underlying t, fst ++ args with
          | some (.interface _), .iface u v :: rest => callM P call u v name rest H
          | some (.interface _), _ => .fail ["a method expression", name]
          | some _, v :: rest => callM P call t v name rest H
          | _, _ => .fail ["a method expression", name]) := rfl
        rw [e0] at h ⊢
        generalize fst ++ args = l at h hall ⊢
        generalize f' ++ args' = l' at hof hall ⊢
        split at h
        · rename_i ms u v rest hu
          obtain ⟨v1, rest', rfl, hv1, hrest⟩ := hall.head
          cases hv1 with
          | iface hv2 =>
            obtain ⟨f, ar, hrun, hcalls⟩ := callM_snd hP hC h hv2 hrest hh
            refine ⟨f, ar, ?_, hcalls⟩
            simp only [hof, Sem.run_bind, Sem.run_pure, Result.andThen_ok, invoke, List.getElem?_toArray, List.getElem?_cons_zero, run_underlying hu w]
            rw [hext]
            exact hrun
        · exact h.elim
        · rename_i d v rest hni hni2 hu
          obtain ⟨v1, rest', rfl, hv1, hrest⟩ := hall.head
          obtain ⟨f, ar, hrun, hcalls⟩ := callM_snd hP hC h hv1 hrest hh
          refine ⟨f, ar, ?_, hcalls⟩
          simp only [hof, Sem.run_bind, Sem.run_pure, Result.andThen_ok, invoke, List.getElem?_toArray, List.getElem?_cons_zero, run_underlying hu w]
          rw [hext, ← hrun]
        · exact h.elim
      | via t path f ptr =>
        have e0 : callV P call (.func (.via t path f ptr) fst cap) args H = viaA P call t path.toList f ptr (fst ++ args) H := rfl
        rw [e0] at h ⊢
        generalize fst ++ args = l at h hall ⊢
        generalize f' ++ args' = l' at hof hall ⊢
        have hgo : ∀ (r : AV) (r' : Value) (rest : List AV) (rest' : List Value) (v1 : Value), (receiverVia t v1 path ptr).run P w = .ok r' w → l' = v1 :: rest' → AVRel ι r r' → LRel ι rest rest' → (call f (r :: rest) H).Good →
            Enters P (do let d ← Deferred.ofValue (.func (.via t path f ptr) ⟨f'⟩ ⟨c'⟩) ⟨args'⟩; invoke d.target d.args) ι H w (call f (r :: rest) H) := by
          intro r r' rest rest' v1 hrec hl' hr hrest hg
          subst hl'
          obtain ⟨hfn, hcalls⟩ := hC f (r :: rest) H hg ι (r' :: rest') w (LRel.cons hr hrest) hh
          refine ⟨f, ⟨r' :: rest'⟩, ?_, hcalls⟩
          have e1 : (#[r'] ++ (⟨rest'⟩ : Array Value)) = ⟨r' :: rest'⟩ := by apply Array.ext'; simp
          simp only [hof, Sem.run_bind, Sem.run_pure, Result.andThen_ok, invoke, List.getElem?_toArray, List.getElem?_cons_zero, hrec]
          rw [hext, e1]
          exact run_callFunc' hP hfn _ _
        unfold viaA at h ⊢
        split at h
        · rename_i v rest q hpath hu
          obtain ⟨v1, rest', rfl, hv1, hrest⟩ := hall.head
          exact hgo v v1 rest rest' v1 (by simp only [receiverVia, hpath, follow, Sem.run_bind, Sem.run_pure, Result.andThen_ok, receiverAt, run_underlying hu w, Place.get]) rfl hv1 hrest h
        · rename_i v rest q hpath hu
          obtain ⟨v1, rest', rfl, hv1, hrest⟩ := hall.head
          split at h
          · rename_i x hx
            obtain ⟨b, o, x', rfl, hload, hxr⟩ := loadA_snd hx hv1 hh
            exact hgo x x' rest rest' _ (by simp only [receiverVia, hpath, follow, Sem.run_bind, Sem.run_pure, Result.andThen_ok, receiverAt, run_underlying hu w, Place.get, asAddr, hload]) rfl hxr hrest h
          · exact h.elim
        · rename_i v rest d hnp hpath hu
          obtain ⟨v1, rest', rfl, hv1, hrest⟩ := hall.head
          exact hgo v v1 rest rest' v1 (by
            simp only [receiverVia, hpath, follow, Sem.run_bind, Sem.run_pure, Result.andThen_ok, receiverAt, run_underlying hu w, Place.get]) rfl hv1 hrest h
        · exact h.elim
      | yield l => exact h.elim
  | _ => exact h.elim
end
end Go.Ev
