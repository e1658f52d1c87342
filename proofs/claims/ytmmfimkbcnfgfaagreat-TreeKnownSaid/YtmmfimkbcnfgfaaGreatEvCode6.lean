import Derived.Test.YtmmfimkbcnfgfaaGreatEvCode5
/- The abstract evaluator's calls: what it computes, the model computes. -/
namespace Go.Ev

section
variable {P : Program} {n : Nat} {call : CallT}
/-- A function of the abstract evaluator that does what the program's function does. -/
def FnSnd (P : Program) (f : FuncId) (g : List AV → AH → Res) : Prop := ∀ (args : List AV) (H : AH), (g args H).Good → ∀ (ι : Inj) (args' : List Value) (w : World), LRel ι args args' → HRel ι H w →
  (∃ (fn : Func) (c : Code), P.funcs[f]? = some fn ∧ fn.body = some c) ∧ Calls P f ⟨args'⟩ w (RRel ι H w (g args H))
theorem callSnd_iff : CallSnd P call ↔ ∀ f, FnSnd P f (call f) := ⟨fun h f args H => h f args H, fun h f args H => h f args H⟩
theorem callWith_snd (hP : ProgOk P) (hC : CallSnd P call) (hD : ∀ n, DrawnSnd P n call) {ovr : FuncId → Option (List AV → AH → Res)} (hO : ∀ f g, ovr f = some g → FnSnd P f g) (fuel : Nat) : CallSnd P (callWith P ovr call fuel) := by
  intro f args H h ι args' w ha hh
  have he : callWith P ovr call fuel f args H = (match ovr f with | some g => g args H | none => bodyA P call fuel f .no args H (callEnd P call fuel)) := rfl
  rw [he] at h ⊢
  cases ho : ovr f with
  | some g =>
    simp only [ho] at h ⊢
    exact hO f g ho args H h ι args' w ha hh
  | none =>
    simp only [ho] at h ⊢
    obtain ⟨fn, c, hf, hb, hlen, he1⟩ := bodyA_spec h
    rw [he1] at h ⊢
    refine ⟨⟨fn, c, hf, hb⟩, ?_⟩
    have ht0 := initT_rel hh.glob ha hlen Rm.no
    have hrm0 : (initT .no args).rm = .no := rfl
    generalize hr : evC P (prepC P fn.ntmps c) call fuel (initT .no args) H nrm = r at h ⊢
    have hg : r.Good := by
      cases r with
      | fail l => exact h.elim
      | _ => trivial
    have hw := (evC_snd hP hC (hD fn.ntmps) c (hP.code f fn c hf hb)).ended hr hg hrm0 ht0 hh
    refine calls_of_wp_defers hf hb (wp_mono hw fun e a' w' q => ?_)
    unfold ERel at q
    split at q
    · rename_i T' H'
      obtain ⟨κ, hrm, ht', hst⟩ := q
      have := leave_snd (a := a') hP hC T'.ds .returning H' h κ w' a'.defers .returning ht'.ds trivial ht' hst.rel
      exact leaves_mono (fun e w2 q => q.from hst) _ _ _ this
    · exact h.elim
    · rename_i T' H'
      obtain ⟨κ, hrm, ht', hst⟩ := q
      have := leave_snd (a := a') hP hC T'.ds .returning H' h κ w' a'.defers .returning ht'.ds trivial ht' hst.rel
      exact leaves_mono (fun e w2 q => q.from hst) _ _ _ this
    · rename_i v T' H' ch
      obtain ⟨κ, v', rfl, hv, hrm, ht', hst⟩ := q
      have := leave_snd (a := a') hP hC T'.ds (.panicking v) H' h κ w' a'.defers (.panicking [{ v := v', recovered := false }]) ht'.ds ⟨v', rfl, hv⟩ ht' hst.rel
      exact leaves_mono (fun e w2 q => q.from hst) _ _ _ this
    · exact q.elim
/-- What the abstract evaluator computes the model computes. -/
theorem evCall_snd (hP : ProgOk P) (hD : ∀ call, CallSnd P call → ∀ n, DrawnSnd P n call) {ovr : FuncId → Option (List AV → AH → Res)} (hO : ∀ f g, ovr f = some g → FnSnd P f g) (fuel : Nat) : ∀ depth, CallSnd P (evCall P ovr fuel depth)
  | 0 => fun _ _ _ h => h.elim
  | depth + 1 => callWith_snd hP (evCall_snd hP hD hO fuel depth) (hD _ (evCall_snd hP hD hO fuel depth)) hO fuel
end
end Go.Ev
