import Derived.Test.YtmmfimkbcnfgfaaGreatEvDrw9
import Derived.Below
import Derived.ChangeSame
/- Laws without arguments: from the abstract evaluator's answer to the row's last step. -/
namespace Go.Ev

noncomputable def fnOk (fn : Func) : Bool := match fn.body with
  | some c => Bool.rec (codeOk c) false (fn.name == "runtime.NumGoroutine")
  | none => true
noncomputable def allL {α : Type} (p : α → Bool) (l : List α) : Bool := List.rec true (fun x _ ih => Bool.rec false ih (p x)) l
theorem allL_mem {α : Type} {p : α → Bool} : ∀ {l : List α}, allL p l = true → ∀ x ∈ l, p x = true
  | [], _, x, h => by cases h
  | y :: l, h, x, hx => by
    have h' : (Bool.rec false (allL p l) (p y) : Bool) = true := h
    cases hp : p y with
    | false => rw [hp] at h'; cases h'
    | true =>
      rw [hp] at h'
      rcases List.mem_cons.1 hx with rfl | hx
      · exact hp
      · exact allL_mem h' x hx
theorem progOk_of {P : Program} (hm : P.follows .mixedOrders = true) (h : allL fnOk P.funcs.toList = true) : ProgOk P := by
  have key : ∀ (f : FuncId) (fn : Func) (c : Code), P.funcs[f]? = some fn → fn.body = some c → (fn.name == "runtime.NumGoroutine") = false ∧ codeOk c = true := by
    intro f fn c hf hb
    have hmem : fn ∈ P.funcs.toList := by
      rw [← Array.getElem?_toList] at hf
      exact List.mem_of_getElem? hf
    have h1 := allL_mem h fn hmem
    unfold fnOk at h1
    rw [hb] at h1
    have h2 : (Bool.rec (codeOk c) false (fn.name == "runtime.NumGoroutine") : Bool) = true := h1
    cases hn : (fn.name == "runtime.NumGoroutine") with
    | true => rw [hn] at h2; cases h2
    | false => rw [hn] at h2; exact ⟨rfl, h2⟩
  exact ⟨fun f fn c hf hb => (key f fn c hf hb).1, hm, fun f fn c hf hb => (key f fn c hf hb).2⟩
/-- No override. -/
def ovr0 : FuncId → Option (List AV → AH → Res) := fun _ => none
theorem ovr0_snd {P : Program} : ∀ f g, ovr0 f = some g → FnSnd P f g := fun _ _ h => by cases h
/-- It says true. -/
noncomputable def saysTrue (r : Res) : Bool := match r with
  | .ok (.bool true) _ => true
  | _ => false
theorem saysTrue_spec {r : Res} (h : saysTrue r = true) : ∃ H, r = .ok (.bool true) H := by
  unfold saysTrue at h
  split at h
  · exact ⟨_, rfl⟩
  · cases h
/-- Where the package-level variables lie, and nothing else. -/
def globs : Inj := fun b => if b < gN then some ⟨b, 0, 0, false⟩ else none
theorem HRel.empty (w : World) : HRel globs AH.empty w :=
  ⟨fun b o h => (by rw [show AH.empty.m = .nil from rfl, Tr.get_nil] at h; cases h), fun a b p q x y h => (by rw [show AH.empty.m = .nil from rfl, Tr.get_nil] at h; cases h), fun b x a o y _ _ h => (by rw [show AH.empty.m = .nil from rfl, Tr.get_nil] at h; cases h),
    fun b x e hx => (by unfold globs at e; split at e <;> cases e; cases hx), fun b hb => if_neg (Nat.not_lt.2 hb), fun g hg => ⟨0, false, if_pos hg⟩, Nat.le_refl _⟩
open Go.RowKit Go.WideShapes Go.ChangeShapes
/-- A law without arguments, walked. -/
theorem law_closed {P : Program} {call : CallT} (hC : CallSnd P call) {f : FuncId} (h : saysTrue (call f [] AH.empty) = true) (w : World) :
    Calls P f #[] w fun e w' => e = .returned (.bool true) ∧ Below w.heap.size w w' := by
  obtain ⟨H, hH⟩ := saysTrue_spec h
  have hg : (call f [] AH.empty).Good := by rw [hH]; trivial
  refine (hC f [] AH.empty hg globs [] w (LRel.nil _) (HRel.empty w)).2.mono fun e w' he => ?_
  rw [hH] at he
  cases e with
  | returned v =>
    obtain ⟨κ, hst, hv⟩ := he
    cases hv with
    | bool =>
    exact ⟨rfl, hst.os, hst.tape, hst.out, hst.size, fun k hk => hst.frame k hk fun b o x hb => by rw [show AH.empty.m = .nil from rfl, Tr.get_nil] at hb; cases hb⟩
  | _ => exact he.elim

/-- What makes new blocks alone leaves all that is known. -/
theorem St.idle {ι : Inj} {H : AH} {w w' : World} (r : HRel ι H w) (hs : w.heap.size ≤ w'.heap.size) (hb : ∀ k, k < w.heap.size → w'.heap[k]? = w.heap[k]?) (h1 : w'.os = w.os) (h2 : w'.output = w.output) (h3 : w'.tape = w.tape) : St ι H w ι H w' := by
  have hlt : ∀ {k : Nat} {o : Obj}, w.heap[k]? = some o → k < w.heap.size := fun h => (Array.getElem?_eq_some_iff.1 h).1
  refine ⟨ι.le_refl, ⟨fun b o h => ?_, r.sep, r.ro, fun b x e hx => Nat.lt_of_lt_of_le (r.rod b x e hx) hs, r.fresh, r.glob, r.low⟩, hs, fun k hk _ => hb k hk, fun b x e hx => hb _ (r.rod b x e hx),
    fun b o x h e => .inl ⟨b, o, x, h, e, rfl⟩, h1, h2, h3, Nat.le_refl _, ⟨[], rfl, fun _ _ _ => rfl, by simp⟩, fun _ _ => rfl, r.nro⟩
  obtain ⟨x, o', e, hw, ho⟩ := r.get b o h
  exact ⟨x, o', e, by rw [hb _ (hlt hw)]; exact hw, ho⟩
/-- A closed function that says true, answered without a run. -/
noncomputable def yes0 (args : List AV) (H : AH) : Res := match args with
  | [] => .ok (.bool true) H
  | _ => .fail ["no arguments"]
theorem yes_snd {P : Program} {call : CallT} (hC : CallSnd P call) {f : FuncId} (h : saysTrue (call f [] AH.empty) = true) : FnSnd P f yes0 := by
  intro args H hg ι args' w ha hh
  cases args with
  | cons x l => exact hg.elim
  | nil =>
    have : args' = [] := ha.nil_inv
    subst this
    obtain ⟨H1, hH⟩ := saysTrue_spec h
    obtain ⟨hf, hc⟩ := hC f [] AH.empty (by rw [hH]; trivial) globs [] w (LRel.nil _) (HRel.empty w)
    refine ⟨hf, hc.mono fun e w' he => ?_⟩
    rw [hH] at he
    cases e with
    | returned v =>
      obtain ⟨κ, hst, hv⟩ := he
      cases hv with
      | bool =>
      exact ⟨ι, St.idle hh hst.size (fun k hk => hst.frame k hk fun b o x hb => by rw [show AH.empty.m = .nil from rfl, Tr.get_nil] at hb; cases hb) hst.os hst.out hst.tape, .bool true⟩
    | _ => exact he.elim
section
variable {H : Type} {enc : TypeId × Value → H} {P : Program}
theorem post_of_below {f : Func} {s : ChangeSpec} {apart fresh handsOn again : Bool} {W W' : World} {args : Array Value} {v : Value} {ds gs : List (DataW H)} {before pa pv : List MemPlace}
    (hW : DataW.Whole enc P f.params.toList s.vars apart W args.toList ds gs before)
    (hres : ∀ (b : Nat) (sp : Nat → Bool) (hd : Bool), DataW.TrodAll enc P W' b sp hd f.resultTypes.toList (v.resultList f.resultTypes.size) (s.fn H (ds ++ gs)).results [])
    (hargs : ∀ sp : Nat → Bool, (∀ p ∈ before, sp p.block = true) → DataW.TrodAll enc P W' 0 sp true f.params.toList args.toList (s.fn H (ds ++ gs)).args pa)
    (hvars : ∀ sp : Nat → Bool, (∀ p ∈ before, sp p.block = true) → DataW.TrodVars enc P W' sp s.vars (s.fn H (ds ++ gs)).vars pv)
    (hps : before = pa ++ pv) (hb : Below W.heap.size W W')
    (hok : ∀ (j : Nat) (t : TypeId) (r : Value), f.resultTypes[j]? = some t → (v.resultList f.resultTypes.size)[j]? = some r → Value.okWide P W' .any 0 t r) :
    s.post enc P f apart fresh handsOn again W args v W' := by
  have hlt : ∀ p ∈ before, p.block < W.heap.size := fun p hp => hW.lt p hp
  have hold : ∀ p ∈ before, (fun b => decide (b < W.heap.size)) p.block = true := fun p hp => by simpa using hlt p hp
  refine ⟨ds, gs, before, [], pa, pv, hW, hres _ _ _, hargs _ hold, hvars _ hold, World.keptBut_mono (fun p hp => ⟨hp, ?_⟩) (hb.frame (· ∈ before)), fun _ => ?_⟩
  · rw [hps, List.mem_append] at hp
    exact Or.inr hp
  · obtain ⟨_, _, _, _, _, hz, hn⟩ := hW
    refine ⟨hok, _, _, ([] ++ pa) ++ pv, ⟨[] ++ pa, pv, trodAll_append (hargs _ (fun _ _ => rfl)) (hres _ _ _), hvars _ (fun _ _ => rfl), rfl, ?_, ?_⟩, ?_⟩
    · intro b off hp
      have hin : MemPlace.cell b off ∈ before := by rw [hps]; simpa using hp
      rw [hb.frozen (hlt _ hin)]
      exact hz b off hin
    · intro ha
      have := hn ha
      rw [hps] at this
      simpa using this
    · intro p hp _
      rw [hps]
      simpa using hp
end
end Go.Ev
