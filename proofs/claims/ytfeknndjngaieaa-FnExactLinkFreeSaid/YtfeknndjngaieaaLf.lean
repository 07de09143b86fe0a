/- The law FnExactLinkFree answers true at every input; its arguments read behind the call as they read before. No condition. -/
import Derived.Test.YtfeknndjngaieaaRows
import Derived.Test.YtfeknndjngaieaaD2
import Derived.WalkKit
import Derived.ProofKit
import Derived.OpenShut
import Derived.ShutString
import Derived.ChangeOld
import Derived.Below
import Derived.SizedLaws
namespace Go.Proofs.Ytfeknndjngaieaa.fnExactLinkFree
open Go.ChangeShapes Go.WideShapes Go.ChangeAt Go.RowKit Go.Lap
open Go.ChangeMaps (open_string shut_string)
set_option linter.unusedVariables false
theorem own : ownKnob Try.prog.godebug = none := by kernel_rfl
theorem laidOut : laidOutB Try.prog = true := by kernel_rfl
set_option maxRecDepth 100000 in
theorem lifted (os : Os) (started : os.Started) (H : Type) (enc : TypeId × Value → H) :
    ReturnsInHanded {} Try.checked os 12 .any (Rows.fnExactLinkFreeSpec.pre6 enc Try.prog Try.f12 Rows.fnExactLinkFreeRow.domain false) (Rows.fnExactLinkFreeSpec.post enc Try.prog Try.f12 false true false false) := by
  refine returnsInHanded_of_change_sized (C := Try.checked) own started (by kernel_rfl) Try.func12
    (ChangeSpec.witness6 (enc := enc) (C := Try.checked) false ⟨#[], #[.agg #[.int .i64 0, .slice none 0 0], .string ⟨#[]⟩, .agg #[.int .i64 0, .int .i64 0, .slice none 0 0, .int .i64 0, .int .i64 0], .int .i64 0], []⟩ 8 (by kernel_rfl) (by kernel_rfl) (by kernel_rfl) (by kernel_rfl)) ?_
  intro W base args ds gs before hval0 hW hcnd hsz0 _
  have hval : ∀ (j : Nat) t v, Try.f12.params[j]? = some t → args[j]? = some v → Value.okWide Try.prog W .any base t v := hval0
  have hW' := hW
  obtain ⟨p, q, hA0, hV, rfl, hfz, hnd⟩ := hW
  have hA : DataW.TrodAll enc Try.prog W 0 (fun _ => true) true Try.f12.params.toList args.toList ds p := hA0
  rw [Try.params12] at hA hval
  obtain ⟨v0, vs0, d0, ds0, p0, q0, hargs, rfl, rfl, h0, r0⟩ := trodAll_cons hA
  obtain ⟨v1, vs1, d1, ds1, p1, q1, rfl, rfl, rfl, h1, r1⟩ := trodAll_cons r0
  obtain ⟨v2, vs2, d2, ds2, p2, q2, rfl, rfl, rfl, h2, r2⟩ := trodAll_cons r1
  obtain ⟨v3, vs3, d3, ds3, p3, q3, rfl, rfl, rfl, h3, r3⟩ := trodAll_cons r2
  obtain ⟨rfl, rfl, rfl⟩ := trodAll_nil r3
  obtain rfl : args = #[v0, v1, v2, v3] := by cases args; simp_all
  obtain ⟨rfl, rfl⟩ := trodVars_none hV
  have k0 := h0
  have lt0 : ∀ x ∈ p0, x.block < W.heap.size := by obtain ⟨m, hm⟩ := k0; exact DataW.trod_lt m _ _ _ hm
  obtain ⟨m0, hm0⟩ := h0
  have ok0 := (hval 0 54 v0 rfl rfl)
  unfold Value.okWide at ok0
  rw [Try.underlying54] at ok0
  obtain ⟨c0, rfl, _⟩ := ok0
  have rp0 : All2 (RK W) [.a (.int .i64), .sl 13 [.a (.str), .a (.int .i64), .a (.int .i64), .a (.int .i64), .sl 7 [.int .i64, .int .i64, .int .i64, .int .i64, .int .i64, .int .i64, .bool], .a (.int .i64), .a (.int .i64), .a (.int .i64), .a (.int .i64), .a (.int .i64), .sl 7 [.int .i64, .int .i64, .int .i64, .int .i64, .int .i64, .int .i64, .bool], .a (.int .i64), .a (.int .i64)]] c0.toList := read_par (by kernel_rfl) hm0
  obtain ⟨a0, w0, e0⟩ := LinkBook.rdC (G0_bor W) _ rp0
  obtain ⟨a1, rfl, rfl, rfl, w1⟩ := open_string Try.underlying9 (hval 1 9 v1 rfl rfl) h1
  have k2 := h2
  have lt2 : ∀ x ∈ p2, x.block < W.heap.size := by obtain ⟨m, hm⟩ := k2; exact DataW.trod_lt m _ _ _ hm
  obtain ⟨m2, hm2⟩ := h2
  have ok2 := (hval 2 26 v2 rfl rfl)
  unfold Value.okWide at ok2
  rw [Try.underlying26] at ok2
  obtain ⟨c2, rfl, _⟩ := ok2
  have rp2 : All2 (RK W) [.a (.int .i64), .a (.int .i64), .sl 7 [.a (.int .i64), .a (.int .i64), .a (.int .i64), .a (.int .i64), .a (.int .i64), .a (.int .i64), .a (.bool)], .a (.int .i64), .a (.int .i64)] c2.toList := read_par (by kernel_rfl) hm2
  obtain ⟨a2, w2, e2⟩ := FlyPath.rdC (G0_bor W) _ rp2
  obtain ⟨a3, rfl, rfl, rfl, w3⟩ := open_int Try.underlying3 (hval 3 3 v3 rfl rfl) h3
  clear hA0 hval0 hsz0
  have hfn := c12 a0 a1 a2 a3 w0 w1 w2
  rw [law_FnExactLinkFree a0 a1 a2 a3 w0 w1 w2 (rng w3)] at hfn
  refine (law_walk hfn rfl (w := W) (.cons ⟨c0.toList, by simp, e0⟩ (.cons rfl (.cons ⟨c2.toList, by simp, e2⟩ (.cons rfl .nil))))).mono fun e W' ⟨he, bel⟩ => ?_
  subst he
  exact ⟨_, rfl, _, _, _, [], _, [], hW', trodAll_mk1 (shut_bool Try.underlying4 _), (trodAll_cons_mk (Below.trod laidOut (by kernel_rfl) (of_decide_eq_true (by kernel_rfl)) k0 bel lt0) (trodAll_cons_mk (shut_string Try.underlying9 w1) (trodAll_cons_mk (Below.trod laidOut (by kernel_rfl) (of_decide_eq_true (by kernel_rfl)) k2 bel lt2) (trodAll_cons_mk (shut_int Try.underlying3 w3) trodAll_mk0)))), rfl, bel.frame _, fun h => by cases h⟩
theorem named : Try.pinned.checked.prog.funcNamed Rows.fnExactLinkFreeRow.func = some 12 := by kernel_rfl
theorem closed : joinedFacts Try.pinned.checked.prog 12 Try.f12 Rows.fnExactLinkFreeSpec Rows.fnExactLinkFreeRow = true := by kernel_rfl
theorem inst : Try.f12.isInstance Try.pinned.checked.prog Rows.fnExactLinkFreeRow.origin Rows.fnExactLinkFreeRow.targs := of_decide_eq_true (by kernel_rfl)
theorem wrap : Try.f12.isWrapper Try.pinned.checked.prog Rows.fnExactLinkFreeRow.wrapper Rows.fnExactLinkFreeRow.mainSum := by unfold Func.isWrapper; first | (rw [if_pos (by decide +kernel)]; kernel_rfl) | (rw [if_neg (by decide +kernel)]; exact ⟨rfl, rfl⟩)
theorem over : Rows.fnExactLinkFreeRow.holds Try.pinned (OpenSpec.ofChange Rows.fnExactLinkFreeSpec) :=
  OpenClaim.holds_of_wide 12 Try.f12 rfl rfl rfl rfl rfl rfl rfl ⟨rfl, rfl, rfl, rfl, rfl⟩ rfl rfl rfl rfl rfl named Try.func12 closed inst wrap
    (fun os started H enc _ => lifted os started H enc)
theorem proved : Rows.FnExactLinkFreeSaid := over
end Go.Proofs.Ytfeknndjngaieaa.fnExactLinkFree
namespace Go.Proofs.Ytfeknndjngaieaa
/-- The row. -/
theorem fnExactLinkFree_holds : Rows.FnExactLinkFreeSaid := fnExactLinkFree.proved
#print axioms fnExactLinkFree_holds
end Go.Proofs.Ytfeknndjngaieaa

