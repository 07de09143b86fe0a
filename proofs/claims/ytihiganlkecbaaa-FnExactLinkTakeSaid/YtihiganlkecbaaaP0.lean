/- Plain laws: what is compared with itself is the same. -/
import Derived.Test.YtihiganlkecbaaaB4
set_option linter.unusedVariables false
set_option linter.unusedSimpArgs false
namespace Go.Lap

theorem forN_unit {ρ : Type} {body : Nat → Unit → Res Unit ρ} (h : ∀ i, body i () = .next ()) : ∀ c i, forN body c i () = .next ()
  | 0, _ => rfl
  | c + 1, i => by simp only [forN, h]; exact forN_unit h c (i + 1)

theorem r_eqFlyKind (x : FlyKind) : laws_eqFlyKind x x = true := by simp [laws_eqFlyKind]
theorem r_eqFlyStep (x : FlyStep) : laws_eqFlyStep x x = true := by simp [laws_eqFlyStep]
theorem r_eqFlyStepS (x : List FlyStep) : laws_eqFlyStepS x x = true := by
  simp [laws_eqFlyStepS, forN_unit (body := laws_eqFlyStepS_b1 x x) (fun i => by simp [laws_eqFlyStepS_b1, r_eqFlyStep]), Res.fin, laws_eqFlyStepS_r1]
theorem r_eqIntS (x : List Int) : laws_eqIntS x x = true := by
  simp [laws_eqIntS, forN_unit (body := laws_eqIntS_b1 x x) (fun i => by simp [laws_eqIntS_b1]), Res.fin, laws_eqIntS_r1]
theorem r_eqFlyPath (x : FlyPath) : laws_eqFlyPath x x = true := by simp [laws_eqFlyPath, r_eqFlyKind, r_eqFlyStepS]
theorem r_eqLinkCraft (x : LinkCraft) : laws_eqLinkCraft x x = true := by simp [laws_eqLinkCraft, r_eqFlyPath, r_eqIntS]

end Go.Lap
