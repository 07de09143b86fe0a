/- The law FnExactLinkTake answers true at every input; its arguments read behind the call as they read before. No condition. -/
import Derived.Test.YtihiganlkecbaaaRows
import Derived.Test.YtihiganlkecbaaaE1
import Derived.WalkKit
import Derived.ProofKit
import Derived.OpenShut
import Derived.ShutString
import Derived.ChangeOld
import Derived.Below
import Derived.SizedLaws
namespace Go.Proofs.Ytihiganlkecbaaa.fnExactLinkTake
open Go.ChangeShapes Go.WideShapes Go.ChangeAt Go.RowKit Go.Lap
open Go.ChangeMaps (open_string shut_string)
set_option linter.unusedVariables false
theorem own : ownKnob Try.prog.godebug = none := by kernel_rfl
theorem laidOut : laidOutB Try.prog = true := by kernel_rfl
set_option maxRecDepth 100000 in
theorem lifted (os : Os) (started : os.Started) (H : Type) (enc : TypeId × Value → H) :
    ReturnsInHanded {} Try.checked os 3 .any (Rows.fnExactLinkTakeSpec.pre6 enc Try.prog Try.f3 Rows.fnExactLinkTakeRow.domain false) (Rows.fnExactLinkTakeSpec.post enc Try.prog Try.f3 false true false false) := by
  refine returnsInHanded_of_change_sized (C := Try.checked) own started (by kernel_rfl) Try.func3
    (ChangeSpec.witness6 (enc := enc) (C := Try.checked) false ⟨#[], #[.agg #[.string ⟨#[]⟩, .int .i64 0, .int .i64 0, .int .i64 0, .int .i64 0, .slice none 0 0, .int .i64 0, .int .i64 0, .slice none 0 0], .agg #[.int .i64 0, .string ⟨#[]⟩, .int .i64 0, .int .i64 0, .int .i64 0, .slice none 0 0, .int .i64 0, .int .i64 0], .int .i64 0], []⟩ 8 (by kernel_rfl) (by kernel_rfl) (by kernel_rfl) (by kernel_rfl)) ?_
  intro W base args ds gs before hval0 hW hcnd hsz0 _
  have hval : ∀ (j : Nat) t v, Try.f3.params[j]? = some t → args[j]? = some v → Value.okWide Try.prog W .any base t v := hval0
  have hW' := hW
  obtain ⟨p, q, hA0, hV, rfl, hfz, hnd⟩ := hW
  have hA : DataW.TrodAll enc Try.prog W 0 (fun _ => true) true Try.f3.params.toList args.toList ds p := hA0
  rw [Try.params3] at hA hval
  obtain ⟨v0, vs0, d0, ds0, p0, q0, hargs, rfl, rfl, h0, r0⟩ := trodAll_cons hA
  obtain ⟨v1, vs1, d1, ds1, p1, q1, rfl, rfl, rfl, h1, r1⟩ := trodAll_cons r0
  obtain ⟨v2, vs2, d2, ds2, p2, q2, rfl, rfl, rfl, h2, r2⟩ := trodAll_cons r1
  obtain ⟨rfl, rfl, rfl⟩ := trodAll_nil r2
  obtain rfl : args = #[v0, v1, v2] := by cases args; simp_all
  obtain ⟨rfl, rfl⟩ := trodVars_none hV
  have k0 := h0
  have lt0 : ∀ x ∈ p0, x.block < W.heap.size := by obtain ⟨m, hm⟩ := k0; exact DataW.trod_lt m _ _ _ hm
  obtain ⟨m0, hm0⟩ := h0
  have ok0 := (hval 0 29 v0 rfl rfl)
  unfold Value.okWide at ok0
  rw [Try.underlying29] at ok0
  obtain ⟨c0, rfl, _⟩ := ok0
  have rp0 : All2 (RK W) [.a (.str), .a (.int .i64), .a (.int .i64), .a (.int .i64), .a (.int .i64), .sl 7 [.a (.int .i64), .a (.int .i64), .a (.int .i64), .a (.int .i64), .a (.int .i64), .a (.int .i64), .a (.bool)], .a (.int .i64), .a (.int .i64), .sl 1 [.a (.int .i64)]] c0.toList := read_par (by kernel_rfl) hm0
  obtain ⟨a0, w0, e0⟩ := LinkCraft.rdC (G0_bor W) _ rp0
  have k1 := h1
  have lt1 : ∀ x ∈ p1, x.block < W.heap.size := by obtain ⟨m, hm⟩ := k1; exact DataW.trod_lt m _ _ _ hm
  obtain ⟨m1, hm1⟩ := h1
  have ok1 := (hval 1 31 v1 rfl rfl)
  unfold Value.okWide at ok1
  rw [Try.underlying31] at ok1
  obtain ⟨c1, rfl, _⟩ := ok1
  have rp1 : All2 (RK W) [.a (.int .i64), .a (.str), .a (.int .i64), .a (.int .i64), .a (.int .i64), .sl 7 [.a (.int .i64), .a (.int .i64), .a (.int .i64), .a (.int .i64), .a (.int .i64), .a (.int .i64), .a (.bool)], .a (.int .i64), .a (.int .i64)] c1.toList := read_par (by kernel_rfl) hm1
  obtain ⟨a1, w1, e1⟩ := LinkWord.rdC (G0_bor W) _ rp1
  obtain ⟨a2, rfl, rfl, rfl, w2⟩ := open_int Try.underlying3 (hval 2 3 v2 rfl rfl) h2
  clear hA0 hval0 hsz0
  have hfn := c3 a0 a1 a2 w0 w1
  rw [law_FnExactLinkTake a0 a1 a2 w0 w1 (rng w2)] at hfn
  refine (law_walk hfn rfl (w := W) (.cons ⟨c0.toList, by simp, e0⟩ (.cons ⟨c1.toList, by simp, e1⟩ (.cons rfl .nil)))).mono fun e W' ⟨he, bel⟩ => ?_
  subst he
  exact ⟨_, rfl, _, _, _, [], _, [], hW', trodAll_mk1 (shut_bool Try.underlying4 _), (trodAll_cons_mk (Below.trod laidOut (by kernel_rfl) (of_decide_eq_true (by kernel_rfl)) k0 bel lt0) (trodAll_cons_mk (Below.trod laidOut (by kernel_rfl) (of_decide_eq_true (by kernel_rfl)) k1 bel lt1) (trodAll_cons_mk (shut_int Try.underlying3 w2) trodAll_mk0))), rfl, bel.frame _, fun h => by cases h⟩
theorem named : Try.pinned.checked.prog.funcNamed Rows.fnExactLinkTakeRow.func = some 3 := by kernel_rfl
theorem closed : joinedFacts Try.pinned.checked.prog 3 Try.f3 Rows.fnExactLinkTakeSpec Rows.fnExactLinkTakeRow = true := by kernel_rfl
theorem inst : Try.f3.isInstance Try.pinned.checked.prog Rows.fnExactLinkTakeRow.origin Rows.fnExactLinkTakeRow.targs := of_decide_eq_true (by kernel_rfl)
theorem wrap : Try.f3.isWrapper Try.pinned.checked.prog Rows.fnExactLinkTakeRow.wrapper Rows.fnExactLinkTakeRow.mainSum := by unfold Func.isWrapper; first | (rw [if_pos (by decide +kernel)]; kernel_rfl) | (rw [if_neg (by decide +kernel)]; exact ⟨rfl, rfl⟩)
theorem over : Rows.fnExactLinkTakeRow.holds Try.pinned (OpenSpec.ofChange Rows.fnExactLinkTakeSpec) :=
  OpenClaim.holds_of_wide 3 Try.f3 rfl rfl rfl rfl rfl rfl rfl ⟨rfl, rfl, rfl, rfl, rfl⟩ rfl rfl rfl rfl rfl named Try.func3 closed inst wrap
    (fun os started H enc _ => lifted os started H enc)
theorem proved : Rows.FnExactLinkTakeSaid := over
end Go.Proofs.Ytihiganlkecbaaa.fnExactLinkTake
namespace Go.Proofs.Ytihiganlkecbaaa
/-- The row. -/
theorem fnExactLinkTake_holds : Rows.FnExactLinkTakeSaid := fnExactLinkTake.proved
#print axioms fnExactLinkTake_holds
end Go.Proofs.Ytihiganlkecbaaa

