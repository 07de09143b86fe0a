/- The law FnExactLinkMove answers true at every input; its arguments read behind the call as they read before. No condition. -/
import Derived.Test.YtfeknndjngaieaaRows
import Derived.Test.YtfeknndjngaieaaC2
import Derived.WalkKit
import Derived.ProofKit
import Derived.OpenShut
import Derived.ShutString
import Derived.ChangeOld
import Derived.Below
import Derived.SizedLaws
namespace Go.Proofs.Ytfeknndjngaieaa.fnExactLinkMove
open Go.ChangeShapes Go.WideShapes Go.ChangeAt Go.RowKit Go.Lap
open Go.ChangeMaps (open_string shut_string)
set_option linter.unusedVariables false
theorem own : ownKnob Try.prog.godebug = none := by kernel_rfl
theorem laidOut : laidOutB Try.prog = true := by kernel_rfl
set_option maxRecDepth 100000 in
theorem lifted (os : Os) (started : os.Started) (H : Type) (enc : TypeId × Value → H) :
    ReturnsInHanded {} Try.checked os 10 .any (Rows.fnExactLinkMoveSpec.pre6 enc Try.prog Try.f10 Rows.fnExactLinkMoveRow.domain false) (Rows.fnExactLinkMoveSpec.post enc Try.prog Try.f10 false true false false) := by
  refine returnsInHanded_of_change_sized (C := Try.checked) own started (by kernel_rfl) Try.func10
    (ChangeSpec.witness6 (enc := enc) (C := Try.checked) false ⟨#[], #[.agg #[.string ⟨#[]⟩, .int .i64 0, .int .i64 0, .int .i64 0, .int .i64 0, .slice none 0 0, .int .i64 0, .int .i64 0, .slice none 0 0], .int .i64 0], []⟩ 8 (by kernel_rfl) (by kernel_rfl) (by kernel_rfl) (by kernel_rfl)) ?_
  intro W base args ds gs before hval0 hW hcnd hsz0 _
  have hval : ∀ (j : Nat) t v, Try.f10.params[j]? = some t → args[j]? = some v → Value.okWide Try.prog W .any base t v := hval0
  have hW' := hW
  obtain ⟨p, q, hA0, hV, rfl, hfz, hnd⟩ := hW
  have hA : DataW.TrodAll enc Try.prog W 0 (fun _ => true) true Try.f10.params.toList args.toList ds p := hA0
  rw [Try.params10] at hA hval
  obtain ⟨v0, vs0, d0, ds0, p0, q0, hargs, rfl, rfl, h0, r0⟩ := trodAll_cons hA
  obtain ⟨v1, vs1, d1, ds1, p1, q1, rfl, rfl, rfl, h1, r1⟩ := trodAll_cons r0
  obtain ⟨rfl, rfl, rfl⟩ := trodAll_nil r1
  obtain rfl : args = #[v0, v1] := by cases args; simp_all
  obtain ⟨rfl, rfl⟩ := trodVars_none hV
  have k0 := h0
  have lt0 : ∀ x ∈ p0, x.block < W.heap.size := by obtain ⟨m, hm⟩ := k0; exact DataW.trod_lt m _ _ _ hm
  obtain ⟨m0, hm0⟩ := h0
  have ok0 := (hval 0 29 v0 rfl rfl)
  unfold Value.okWide at ok0
  rw [Try.underlying29] at ok0
  obtain ⟨c0, rfl, _⟩ := ok0
  have rp0 : All2 (RK W) [.a (.str), .a (.int .i64), .a (.int .i64), .a (.int .i64), .a (.int .i64), .sl 7 [.a (.int .i64), .a (.int .i64), .a (.int .i64), .a (.int .i64), .a (.int .i64), .a (.int .i64), .a (.bool)], .a (.int .i64), .a (.int .i64), .sl 1 [.a (.int .i64)]] c0.toList := read_par (by kernel_rfl) hm0
  obtain ⟨a0, w0, e0⟩ := LinkCraft.rdC (G0_bor W) _ rp0
  obtain ⟨a1, rfl, rfl, rfl, w1⟩ := open_int Try.underlying3 (hval 1 3 v1 rfl rfl) h1
  clear hA0 hval0 hsz0
  have hfn := c10 a0 a1 w0
  rw [law_FnExactLinkMove a0 a1 w0 (rng w1)] at hfn
  refine (law_walk hfn rfl (w := W) (.cons ⟨c0.toList, by simp, e0⟩ (.cons rfl .nil))).mono fun e W' ⟨he, bel⟩ => ?_
  subst he
  exact ⟨_, rfl, _, _, _, [], _, [], hW', trodAll_mk1 (shut_bool Try.underlying4 _), (trodAll_cons_mk (Below.trod laidOut (by kernel_rfl) (of_decide_eq_true (by kernel_rfl)) k0 bel lt0) (trodAll_cons_mk (shut_int Try.underlying3 w1) trodAll_mk0)), rfl, bel.frame _, fun h => by cases h⟩
theorem over : Rows.fnExactLinkMoveRow.holds Try.pinned (OpenSpec.ofChange Rows.fnExactLinkMoveSpec) :=
  OpenClaim.holds_of_wide 10 Try.f10 rfl rfl rfl rfl rfl rfl rfl ⟨rfl, rfl, rfl, rfl, rfl⟩ rfl rfl rfl rfl rfl (by kernel_rfl) Try.func10 (by kernel_rfl)
    (of_decide_eq_true (by kernel_rfl)) (by unfold Func.isWrapper; first | (rw [if_pos (by decide +kernel)]; kernel_rfl) | (rw [if_neg (by decide +kernel)]; exact ⟨rfl, rfl⟩))
    (fun os started H enc _ => lifted os started H enc)
theorem proved : Rows.FnExactLinkMoveSaid := over
end Go.Proofs.Ytfeknndjngaieaa.fnExactLinkMove
namespace Go.Proofs.Ytfeknndjngaieaa
/-- The row. -/
theorem fnExactLinkMove_holds : Rows.FnExactLinkMoveSaid := fnExactLinkMove.proved
#print axioms fnExactLinkMove_holds
end Go.Proofs.Ytfeknndjngaieaa

