/-
  'awake' of cisternlaw11 says true: reckoned by the kernel; what is answered without a run behind it.
-/
import Derived.Test.YtmmfimkbcnfgfaaGreatCrc
namespace Go.Proofs.YtmmfimkbcnfgfaaGreat
open Go.Ev
theorem prog_ok : ProgOk Tryz.prog := progOk_of (by kernel_rfl) (by kernel_rfl)
/-- crc.More by its contract. -/
noncomputable def ovr1 (f : FuncId) : Option (List AV → AH → Res) := Bool.rec none (some crcMore) (Nat.beq f 89)
theorem ovr1_snd : ∀ f g, ovr1 f = some g → FnSnd Tryz.prog f g := by
  intro f g h
  unfold ovr1 at h
  cases h1 : Nat.beq f 89 with
  | true => rw [h1] at h; cases h; rw [Nat.beq_eq] at h1; subst h1; exact crc_snd prog_ok
  | false => rw [h1] at h; cases h
theorem awake_runs : saysTrue (evCall Tryz.prog ovr1 100000 60 5 [] AH.empty) = true := by kernel_rfl
/-- And 'awake'. -/
noncomputable def ovr2 (f : FuncId) : Option (List AV → AH → Res) := Bool.rec (Bool.rec none (some yes0) (Nat.beq f 5)) (some crcMore) (Nat.beq f 89)
theorem ovr2_snd : ∀ f g, ovr2 f = some g → FnSnd Tryz.prog f g := by
  intro f g h
  unfold ovr2 at h
  cases h1 : Nat.beq f 89 with
  | true => rw [h1] at h; cases h; rw [Nat.beq_eq] at h1; subst h1; exact crc_snd prog_ok
  | false =>
    rw [h1] at h
    cases h2 : Nat.beq f 5 with
    | true => rw [h2] at h; cases h; rw [Nat.beq_eq] at h2; subst h2; exact yes_snd (evaluator prog_ok ovr1_snd 100000 60) awake_runs
    | false => rw [h2] at h; cases h
end Go.Proofs.YtmmfimkbcnfgfaaGreat
