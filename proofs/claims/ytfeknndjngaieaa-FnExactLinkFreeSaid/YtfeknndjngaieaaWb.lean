/- Walks: models of the functions, and that the code computes them. -/
import Derived.Test.YtfeknndjngaieaaWa
set_option linter.unusedVariables false
set_option linter.unusedSimpArgs false
namespace Go.Lap
open Go.RowKit

def impl_left_v1 (p0 : FlyPath) (p1 : Int) (p2 : Int) (p3 : Int) : List FlyStep := (((impl_copyPath (⟨p0.Kind, (p0.Steps.drop ((p1).toNat)).take (p0.Steps.length - ((p1).toNat)), p0.From, p0.By⟩ : FlyPath)).Steps).set 0 ({ ((impl_copyPath (⟨p0.Kind, (p0.Steps.drop ((p1).toNat)).take (p0.Steps.length - ((p1).toNat)), p0.From, p0.By⟩ : FlyPath)).Steps).getD 0 default with From := p2 } : FlyStep)).set 0 ({ (((impl_copyPath (⟨p0.Kind, (p0.Steps.drop ((p1).toNat)).take (p0.Steps.length - ((p1).toNat)), p0.From, p0.By⟩ : FlyPath)).Steps).set 0 ({ ((impl_copyPath (⟨p0.Kind, (p0.Steps.drop ((p1).toNat)).take (p0.Steps.length - ((p1).toNat)), p0.From, p0.By⟩ : FlyPath)).Steps).getD 0 default with From := p2 } : FlyStep)).getD 0 default with By := p3 } : FlyStep)
def impl_left_v2 (p0 : FlyPath) (p1 : Int) (p2 : Int) (p3 : Int) (p4 : Int) : List FlyStep := (impl_left_v1 p0 p1 p2 p3).set 1 ({ (impl_left_v1 p0 p1 p2 p3).getD 1 default with From := max (((impl_left_v1 p0 p1 p2 p3).getD 1 default).From) (wr (p4 + 1)) } : FlyStep)
def impl_left_v3 (p0 : FlyPath) (p1 : Int) (p2 : Int) (p3 : Int) (p4 : Int) : Bool := (impl_FlySpans (⟨(impl_copyPath (⟨p0.Kind, (p0.Steps.drop ((p1).toNat)).take (p0.Steps.length - ((p1).toNat)), p0.From, p0.By⟩ : FlyPath)).Kind, (impl_left_v2 p0 p1 p2 p3 p4), (impl_copyPath (⟨p0.Kind, (p0.Steps.drop ((p1).toNat)).take (p0.Steps.length - ((p1).toNat)), p0.From, p0.By⟩ : FlyPath)).From, (impl_copyPath (⟨p0.Kind, (p0.Steps.drop ((p1).toNat)).take (p0.Steps.length - ((p1).toNat)), p0.From, p0.By⟩ : FlyPath)).By⟩ : FlyPath)).2
def impl_left_v4 (p0 : FlyPath) (p1 : Int) (p4 : Int) : Int := max ((impl_copyPath (⟨p0.Kind, (p0.Steps.drop ((p1).toNat)).take (p0.Steps.length - ((p1).toNat)), p0.From, p0.By⟩ : FlyPath)).From) (wr (p4 + 1))
def impl_left_v5 (p0 : FlyPath) (p1 : Int) (p2 : Int) (p3 : Int) (p4 : Int) : Bool := (impl_FlySpans (⟨(impl_copyPath (⟨p0.Kind, (p0.Steps.drop ((p1).toNat)).take (p0.Steps.length - ((p1).toNat)), p0.From, p0.By⟩ : FlyPath)).Kind, (impl_left_v1 p0 p1 p2 p3), (impl_left_v4 p0 p1 p4), (impl_copyPath (⟨p0.Kind, (p0.Steps.drop ((p1).toNat)).take (p0.Steps.length - ((p1).toNat)), p0.From, p0.By⟩ : FlyPath)).By⟩ : FlyPath)).2
/-- impl.left -/
def impl_left (p0 : FlyPath) (p1 : Int) (p2 : Int) (p3 : Int) (p4 : Int) : FlyPath × Bool := (if decide (1 < ((impl_left_v1 p0 p1 p2 p3).length : Int)) then (if !(impl_left_v3 p0 p1 p2 p3 p4) then ((⟨⟨0, 0⟩, [], 0, 0⟩ : FlyPath), false) else ((⟨(impl_copyPath (⟨p0.Kind, (p0.Steps.drop ((p1).toNat)).take (p0.Steps.length - ((p1).toNat)), p0.From, p0.By⟩ : FlyPath)).Kind, (impl_left_v2 p0 p1 p2 p3 p4), (impl_copyPath (⟨p0.Kind, (p0.Steps.drop ((p1).toNat)).take (p0.Steps.length - ((p1).toNat)), p0.From, p0.By⟩ : FlyPath)).From, (impl_copyPath (⟨p0.Kind, (p0.Steps.drop ((p1).toNat)).take (p0.Steps.length - ((p1).toNat)), p0.From, p0.By⟩ : FlyPath)).By⟩ : FlyPath), true)) else (if !(impl_left_v5 p0 p1 p2 p3 p4) then ((⟨⟨0, 0⟩, [], 0, 0⟩ : FlyPath), false) else ((⟨(impl_copyPath (⟨p0.Kind, (p0.Steps.drop ((p1).toNat)).take (p0.Steps.length - ((p1).toNat)), p0.From, p0.By⟩ : FlyPath)).Kind, (impl_left_v1 p0 p1 p2 p3), (impl_left_v4 p0 p1 p4), (impl_copyPath (⟨p0.Kind, (p0.Steps.drop ((p1).toNat)).take (p0.Steps.length - ((p1).toNat)), p0.From, p0.By⟩ : FlyPath)).By⟩ : FlyPath), true)))
theorem c120 (p0 : FlyPath) (p1 : Int) (p2 : Int) (p3 : Int) (p4 : Int) (k0_0 : FlyPath.ok p0) (h0 : 0 ≤ p1) (h1 : p1 < (p0.Steps.length : Int)) : Fn Proofs.Try.prog 120 [⟨.val, true, FlyPath.cs .bor p0⟩, ⟨.val, false, [.v (.int .i64 p1)]⟩, ⟨.val, false, [.v (.int .i64 p2)]⟩, ⟨.val, false, [.v (.int .i64 p3)]⟩, ⟨.val, false, [.v (.int .i64 p4)]⟩] [.ag (FlyPath.cs .own (impl_left p0 p1 p2 p3 p4).1), .c (.v (.bool (impl_left p0 p1 p2 p3 p4).2))] [] := by
  obtain ⟨R, hR⟩ : ∃ R, R = impl_left p0 p1 p2 p3 p4 := ⟨_, rfl⟩
  rw [← hR]
  rw [impl_left] at hR
  refine ⟨fn_intro hT Proofs.Try.func120 rfl rfl fun fs => ?_, _, Proofs.Try.func120, rfl, rfl⟩
  have q0 := k0_0; simp only [FlyPath.ok] at q0
  refine xr hT [] (fun f1 => ⟨[(1, .one (.c (.v (.int .i64 p1)))), (2, .one (.c (.v (.int .i64 p2)))), (3, .one (.c (.v (.int .i64 p3)))), (4, .one (.c (.v (.int .i64 p4)))), (5, .one (.pt 5 (f1 0 0) 0)), (10, .one (.pt 10 (f1 1 0) 0))], [(5, some (f1 0 0, .box (FlyPath.cs .bor p0))), (10, some (f1 1 0, .box [.v (.int .i64 0), .v (.int .i64 0), .nl, .v (.int .i64 0), .v (.int .i64 0)]))], 68⟩) (fun f => by kernel_rfl) (fun f => by kernel_rfl) fun f1 => ?_
  refine xd hT hM [.sl true FlyStep.row p0.Steps (p1) ((p0.Steps.length : Int)) ((p1).toNat) p0.Steps.length (fun h => ⟨by omega, by omega, by omega, by omega⟩), ca (c182 (⟨p0.Kind, (p0.Steps.drop ((p1).toNat)).take (p0.Steps.length - ((p1).toNat)), p0.From, p0.By⟩ : FlyPath) (by first | assumption | exact (show ((p0.Steps.drop ((p1).toNat)).take (p0.Steps.length - ((p1).toNat))).length ≤ 1048576 from by (try simp only [LN, impl_copyPath, impl_left_v1, impl_left_v2, impl_left_v3, impl_left_v4, impl_left_v5]); omega)))] (fun f2 => ⟨[(2, .one (.c (.v (.int .i64 p2)))), (3, .one (.c (.v (.int .i64 p3)))), (4, .one (.c (.v (.int .i64 p4)))), (10, .one (.pt 10 (f1 1 0) 0)), (12, .one (.pt 12 (f2 12 0) 0))], [(10, some (f1 1 0, .box [.v (.int .i64 0), .v (.int .i64 0), .nl, .v (.int .i64 0), .v (.int .i64 0)])), (12, some (f2 12 0, .box [.v (.int .i64 ((impl_copyPath (⟨p0.Kind, (p0.Steps.drop ((p1).toNat)).take (p0.Steps.length - ((p1).toNat)), p0.From, p0.By⟩ : FlyPath)).Kind.Quick)), .v (.int .i64 ((impl_copyPath (⟨p0.Kind, (p0.Steps.drop ((p1).toNat)).take (p0.Steps.length - ((p1).toNat)), p0.From, p0.By⟩ : FlyPath)).Kind.Slow)), .mu 2700002 (gk (f2 11) 0 2) 7 0 (((impl_copyPath (⟨p0.Kind, (p0.Steps.drop ((p1).toNat)).take (p0.Steps.length - ((p1).toNat)), p0.From, p0.By⟩ : FlyPath)).Steps).map FlyStep.row).length, .v (.int .i64 ((impl_copyPath (⟨p0.Kind, (p0.Steps.drop ((p1).toNat)).take (p0.Steps.length - ((p1).toNat)), p0.From, p0.By⟩ : FlyPath)).From)), .v (.int .i64 ((impl_copyPath (⟨p0.Kind, (p0.Steps.drop ((p1).toNat)).take (p0.Steps.length - ((p1).toNat)), p0.From, p0.By⟩ : FlyPath)).By))])), (2700002, some (gk (f2 11) 0 2, .arr 7 (((impl_copyPath (⟨p0.Kind, (p0.Steps.drop ((p1).toNat)).take (p0.Steps.length - ((p1).toNat)), p0.From, p0.By⟩ : FlyPath)).Steps).map FlyStep.row)))], 68⟩) (fun f => by kernel_rfl) (fun f => by kernel_rfl) (fun f => by kernel_rfl) fun f2 => ?_
  refine xd hT hM [ix FlyStep.row ((impl_copyPath (⟨p0.Kind, (p0.Steps.drop ((p1).toNat)).take (p0.Steps.length - ((p1).toNat)), p0.From, p0.By⟩ : FlyPath)).Steps) 0 (by (first | omega | ((try simp only [LN, impl_copyPath, impl_left_v1, impl_left_v2, impl_left_v3, impl_left_v4, impl_left_v5]); omega) | ((try simp only [wr, IntKind.wrap_i64, LN, impl_copyPath, impl_left_v1, impl_left_v2, impl_left_v3, impl_left_v4, impl_left_v5] at *); omega) | (simp_all <;> omega))), .st inferInstance true FlyStep.row ((impl_copyPath (⟨p0.Kind, (p0.Steps.drop ((p1).toNat)).take (p0.Steps.length - ((p1).toNat)), p0.From, p0.By⟩ : FlyPath)).Steps) 0 ({ ((impl_copyPath (⟨p0.Kind, (p0.Steps.drop ((p1).toNat)).take (p0.Steps.length - ((p1).toNat)), p0.From, p0.By⟩ : FlyPath)).Steps).getD 0 default with From := p2 } : FlyStep) (fun h => by (first | omega | ((try simp only [LN, impl_copyPath, impl_left_v1, impl_left_v2, impl_left_v3, impl_left_v4, impl_left_v5]); omega) | ((try simp only [wr, IntKind.wrap_i64, LN, impl_copyPath, impl_left_v1, impl_left_v2, impl_left_v3, impl_left_v4, impl_left_v5] at *); omega) | (simp_all <;> omega))), ix FlyStep.row ((impl_copyPath (⟨p0.Kind, (p0.Steps.drop ((p1).toNat)).take (p0.Steps.length - ((p1).toNat)), p0.From, p0.By⟩ : FlyPath)).Steps) 0 (by (first | omega | ((try simp only [LN, impl_copyPath, impl_left_v1, impl_left_v2, impl_left_v3, impl_left_v4, impl_left_v5]); omega) | ((try simp only [wr, IntKind.wrap_i64, LN, impl_copyPath, impl_left_v1, impl_left_v2, impl_left_v3, impl_left_v4, impl_left_v5] at *); omega) | (simp_all <;> omega))), .st inferInstance true FlyStep.row (((impl_copyPath (⟨p0.Kind, (p0.Steps.drop ((p1).toNat)).take (p0.Steps.length - ((p1).toNat)), p0.From, p0.By⟩ : FlyPath)).Steps).set 0 ({ ((impl_copyPath (⟨p0.Kind, (p0.Steps.drop ((p1).toNat)).take (p0.Steps.length - ((p1).toNat)), p0.From, p0.By⟩ : FlyPath)).Steps).getD 0 default with From := p2 } : FlyStep)) 0 ({ (((impl_copyPath (⟨p0.Kind, (p0.Steps.drop ((p1).toNat)).take (p0.Steps.length - ((p1).toNat)), p0.From, p0.By⟩ : FlyPath)).Steps).set 0 ({ ((impl_copyPath (⟨p0.Kind, (p0.Steps.drop ((p1).toNat)).take (p0.Steps.length - ((p1).toNat)), p0.From, p0.By⟩ : FlyPath)).Steps).getD 0 default with From := p2 } : FlyStep)).getD 0 default with By := p3 } : FlyStep) (fun h => by (first | omega | ((try simp only [LN, impl_copyPath, impl_left_v1, impl_left_v2, impl_left_v3, impl_left_v4, impl_left_v5]); omega) | ((try simp only [wr, IntKind.wrap_i64, LN, impl_copyPath, impl_left_v1, impl_left_v2, impl_left_v3, impl_left_v4, impl_left_v5] at *); omega) | (simp_all <;> omega)))] (fun f3 => ⟨[(4, .one (.c (.v (.int .i64 p4)))), (10, .one (.pt 10 (f1 1 0) 0)), (12, .one (.pt 12 (f2 12 0) 0))], [(10, some (f1 1 0, .box [.v (.int .i64 0), .v (.int .i64 0), .nl, .v (.int .i64 0), .v (.int .i64 0)])), (12, some (f2 12 0, .box [.v (.int .i64 ((impl_copyPath (⟨p0.Kind, (p0.Steps.drop ((p1).toNat)).take (p0.Steps.length - ((p1).toNat)), p0.From, p0.By⟩ : FlyPath)).Kind.Quick)), .v (.int .i64 ((impl_copyPath (⟨p0.Kind, (p0.Steps.drop ((p1).toNat)).take (p0.Steps.length - ((p1).toNat)), p0.From, p0.By⟩ : FlyPath)).Kind.Slow)), .mu 2700002 (gk (f2 11) 0 2) 7 0 (((impl_copyPath (⟨p0.Kind, (p0.Steps.drop ((p1).toNat)).take (p0.Steps.length - ((p1).toNat)), p0.From, p0.By⟩ : FlyPath)).Steps).map FlyStep.row).length, .v (.int .i64 ((impl_copyPath (⟨p0.Kind, (p0.Steps.drop ((p1).toNat)).take (p0.Steps.length - ((p1).toNat)), p0.From, p0.By⟩ : FlyPath)).From)), .v (.int .i64 ((impl_copyPath (⟨p0.Kind, (p0.Steps.drop ((p1).toNat)).take (p0.Steps.length - ((p1).toNat)), p0.From, p0.By⟩ : FlyPath)).By))])), (2700002, some (gk (f2 11) 0 2, .arr 7 ((impl_left_v1 p0 p1 p2 p3).map FlyStep.row)))], 68⟩) (fun f => by kernel_rfl) (fun f => by kernel_rfl) (fun f => by kernel_rfl) fun f3 => ?_
  refine w_sub (s := ⟨[(4, .one (.c (.v (.int .i64 p4)))), (10, .one (.pt 10 (f1 1 0) 0)), (12, .one (.pt 12 (f2 12 0) 0))], [(10, some (f1 1 0, .box [.v (.int .i64 0), .v (.int .i64 0), .nl, .v (.int .i64 0), .v (.int .i64 0)])), (12, some (f2 12 0, .box [.v (.int .i64 ((impl_copyPath (⟨p0.Kind, (p0.Steps.drop ((p1).toNat)).take (p0.Steps.length - ((p1).toNat)), p0.From, p0.By⟩ : FlyPath)).Kind.Quick)), .v (.int .i64 ((impl_copyPath (⟨p0.Kind, (p0.Steps.drop ((p1).toNat)).take (p0.Steps.length - ((p1).toNat)), p0.From, p0.By⟩ : FlyPath)).Kind.Slow)), .mu 2700002 (gk (f2 11) 0 2) 7 0 ((impl_left_v1 p0 p1 p2 p3).map FlyStep.row).length, .v (.int .i64 ((impl_copyPath (⟨p0.Kind, (p0.Steps.drop ((p1).toNat)).take (p0.Steps.length - ((p1).toNat)), p0.From, p0.By⟩ : FlyPath)).From)), .v (.int .i64 ((impl_copyPath (⟨p0.Kind, (p0.Steps.drop ((p1).toNat)).take (p0.Steps.length - ((p1).toNat)), p0.From, p0.By⟩ : FlyPath)).By))])), (2700002, some (gk (f2 11) 0 2, .arr 7 ((impl_left_v1 p0 p1 p2 p3).map FlyStep.row)))], 68⟩) (cst (by simp only [LN, impl_copyPath, impl_left_v1, impl_left_v2, impl_left_v3, impl_left_v4, impl_left_v5]) (sb (s := ⟨[(4, .one (.c (.v (.int .i64 p4)))), (10, .one (.pt 10 (f1 1 0) 0)), (12, .one (.pt 12 (f2 12 0) 0))], [(10, some (f1 1 0, .box [.v (.int .i64 0), .v (.int .i64 0), .nl, .v (.int .i64 0), .v (.int .i64 0)])), (12, some (f2 12 0, .box [.v (.int .i64 ((impl_copyPath (⟨p0.Kind, (p0.Steps.drop ((p1).toNat)).take (p0.Steps.length - ((p1).toNat)), p0.From, p0.By⟩ : FlyPath)).Kind.Quick)), .v (.int .i64 ((impl_copyPath (⟨p0.Kind, (p0.Steps.drop ((p1).toNat)).take (p0.Steps.length - ((p1).toNat)), p0.From, p0.By⟩ : FlyPath)).Kind.Slow)), .mu 2700002 (gk (f2 11) 0 2) 7 0 (((impl_copyPath (⟨p0.Kind, (p0.Steps.drop ((p1).toNat)).take (p0.Steps.length - ((p1).toNat)), p0.From, p0.By⟩ : FlyPath)).Steps).map FlyStep.row).length, .v (.int .i64 ((impl_copyPath (⟨p0.Kind, (p0.Steps.drop ((p1).toNat)).take (p0.Steps.length - ((p1).toNat)), p0.From, p0.By⟩ : FlyPath)).From)), .v (.int .i64 ((impl_copyPath (⟨p0.Kind, (p0.Steps.drop ((p1).toNat)).take (p0.Steps.length - ((p1).toNat)), p0.From, p0.By⟩ : FlyPath)).By))])), (2700002, some (gk (f2 11) 0 2, .arr 7 ((impl_left_v1 p0 p1 p2 p3).map FlyStep.row)))], 68⟩) (by kernel_rfl))) ?_
  refine w_seq ?_
  refine xr hT [.ln FlyStep.row (impl_left_v1 p0 p1 p2 p3)] (fun f4 => ⟨[(4, .one (.c (.v (.int .i64 p4)))), (10, .one (.pt 10 (f1 1 0) 0)), (12, .one (.pt 12 (f2 12 0) 0)), (40, .one (.c (.v (.bool (decide (1 < ((impl_left_v1 p0 p1 p2 p3).length : Int)))))))], [(10, some (f1 1 0, .box [.v (.int .i64 0), .v (.int .i64 0), .nl, .v (.int .i64 0), .v (.int .i64 0)])), (12, some (f2 12 0, .box [.v (.int .i64 ((impl_copyPath (⟨p0.Kind, (p0.Steps.drop ((p1).toNat)).take (p0.Steps.length - ((p1).toNat)), p0.From, p0.By⟩ : FlyPath)).Kind.Quick)), .v (.int .i64 ((impl_copyPath (⟨p0.Kind, (p0.Steps.drop ((p1).toNat)).take (p0.Steps.length - ((p1).toNat)), p0.From, p0.By⟩ : FlyPath)).Kind.Slow)), .mu 2700002 (gk (f2 11) 0 2) 7 0 ((impl_left_v1 p0 p1 p2 p3).map FlyStep.row).length, .v (.int .i64 ((impl_copyPath (⟨p0.Kind, (p0.Steps.drop ((p1).toNat)).take (p0.Steps.length - ((p1).toNat)), p0.From, p0.By⟩ : FlyPath)).From)), .v (.int .i64 ((impl_copyPath (⟨p0.Kind, (p0.Steps.drop ((p1).toNat)).take (p0.Steps.length - ((p1).toNat)), p0.From, p0.By⟩ : FlyPath)).By))])), (2700002, some (gk (f2 11) 0 2, .arr 7 ((impl_left_v1 p0 p1 p2 p3).map FlyStep.row)))], 68⟩) (fun f => by kernel_rfl) (fun f => by kernel_rfl) fun f4 => ?_
  refine w_cond rfl (fun h5 => ?_) fun h5 => ?_
  · rw [if_pos h5] at hR
    have gh5 := of_decide_eq_true h5
    refine xd1 (fun _ => rfl) hT hM [ix FlyStep.row (impl_left_v1 p0 p1 p2 p3) 1 (by (first | omega | ((try simp only [LN, impl_copyPath, impl_left_v1, impl_left_v2, impl_left_v3, impl_left_v4, impl_left_v5]); omega) | ((try simp only [wr, IntKind.wrap_i64, LN, impl_copyPath, impl_left_v1, impl_left_v2, impl_left_v3, impl_left_v4, impl_left_v5] at *); omega) | (simp_all <;> omega))), ix FlyStep.row (impl_left_v1 p0 p1 p2 p3) 1 (by (first | omega | ((try simp only [LN, impl_copyPath, impl_left_v1, impl_left_v2, impl_left_v3, impl_left_v4, impl_left_v5]); omega) | ((try simp only [wr, IntKind.wrap_i64, LN, impl_copyPath, impl_left_v1, impl_left_v2, impl_left_v3, impl_left_v4, impl_left_v5] at *); omega) | (simp_all <;> omega))), .wr, ix FlyStep.row (impl_left_v1 p0 p1 p2 p3) 1 (by (first | omega | ((try simp only [LN, impl_copyPath, impl_left_v1, impl_left_v2, impl_left_v3, impl_left_v4, impl_left_v5]); omega) | ((try simp only [wr, IntKind.wrap_i64, LN, impl_copyPath, impl_left_v1, impl_left_v2, impl_left_v3, impl_left_v4, impl_left_v5] at *); omega) | (simp_all <;> omega))), .st inferInstance true FlyStep.row (impl_left_v1 p0 p1 p2 p3) 1 ({ (impl_left_v1 p0 p1 p2 p3).getD 1 default with From := max (((impl_left_v1 p0 p1 p2 p3).getD 1 default).From) (wr (p4 + 1)) } : FlyStep) (fun h => by (first | omega | ((try simp only [LN, impl_copyPath, impl_left_v1, impl_left_v2, impl_left_v3, impl_left_v4, impl_left_v5]); omega) | ((try simp only [wr, IntKind.wrap_i64, LN, impl_copyPath, impl_left_v1, impl_left_v2, impl_left_v3, impl_left_v4, impl_left_v5] at *); omega) | (simp_all <;> omega)))] (fun f6 => ⟨[(10, .one (.pt 10 (f1 1 0) 0)), (12, .one (.pt 12 (f2 12 0) 0))], [(10, some (f1 1 0, .box [.v (.int .i64 0), .v (.int .i64 0), .nl, .v (.int .i64 0), .v (.int .i64 0)])), (12, some (f2 12 0, .box [.v (.int .i64 ((impl_copyPath (⟨p0.Kind, (p0.Steps.drop ((p1).toNat)).take (p0.Steps.length - ((p1).toNat)), p0.From, p0.By⟩ : FlyPath)).Kind.Quick)), .v (.int .i64 ((impl_copyPath (⟨p0.Kind, (p0.Steps.drop ((p1).toNat)).take (p0.Steps.length - ((p1).toNat)), p0.From, p0.By⟩ : FlyPath)).Kind.Slow)), .mu 2700002 (gk (f2 11) 0 2) 7 0 ((impl_left_v1 p0 p1 p2 p3).map FlyStep.row).length, .v (.int .i64 ((impl_copyPath (⟨p0.Kind, (p0.Steps.drop ((p1).toNat)).take (p0.Steps.length - ((p1).toNat)), p0.From, p0.By⟩ : FlyPath)).From)), .v (.int .i64 ((impl_copyPath (⟨p0.Kind, (p0.Steps.drop ((p1).toNat)).take (p0.Steps.length - ((p1).toNat)), p0.From, p0.By⟩ : FlyPath)).By))])), (2700002, some (gk (f2 11) 0 2, .arr 7 ((impl_left_v2 p0 p1 p2 p3 p4).map FlyStep.row)))], 68⟩) (fun f => by kernel_rfl) (fun f => by kernel_rfl) (fun f => by kernel_rfl) fun f6 => ?_
    refine w_sub (s := ⟨[(10, .one (.pt 10 (f1 1 0) 0)), (12, .one (.pt 12 (f2 12 0) 0))], [(10, some (f1 1 0, .box [.v (.int .i64 0), .v (.int .i64 0), .nl, .v (.int .i64 0), .v (.int .i64 0)])), (12, some (f2 12 0, .box [.v (.int .i64 ((impl_copyPath (⟨p0.Kind, (p0.Steps.drop ((p1).toNat)).take (p0.Steps.length - ((p1).toNat)), p0.From, p0.By⟩ : FlyPath)).Kind.Quick)), .v (.int .i64 ((impl_copyPath (⟨p0.Kind, (p0.Steps.drop ((p1).toNat)).take (p0.Steps.length - ((p1).toNat)), p0.From, p0.By⟩ : FlyPath)).Kind.Slow)), .mu 2700002 (gk (f2 11) 0 2) 7 0 ((impl_left_v2 p0 p1 p2 p3 p4).map FlyStep.row).length, .v (.int .i64 ((impl_copyPath (⟨p0.Kind, (p0.Steps.drop ((p1).toNat)).take (p0.Steps.length - ((p1).toNat)), p0.From, p0.By⟩ : FlyPath)).From)), .v (.int .i64 ((impl_copyPath (⟨p0.Kind, (p0.Steps.drop ((p1).toNat)).take (p0.Steps.length - ((p1).toNat)), p0.From, p0.By⟩ : FlyPath)).By))])), (2700002, some (gk (f2 11) 0 2, .arr 7 ((impl_left_v2 p0 p1 p2 p3 p4).map FlyStep.row)))], 68⟩) (cst (by simp only [LN, impl_copyPath, impl_left_v1, impl_left_v2, impl_left_v3, impl_left_v4, impl_left_v5]) (sb (s := ⟨[(10, .one (.pt 10 (f1 1 0) 0)), (12, .one (.pt 12 (f2 12 0) 0))], [(10, some (f1 1 0, .box [.v (.int .i64 0), .v (.int .i64 0), .nl, .v (.int .i64 0), .v (.int .i64 0)])), (12, some (f2 12 0, .box [.v (.int .i64 ((impl_copyPath (⟨p0.Kind, (p0.Steps.drop ((p1).toNat)).take (p0.Steps.length - ((p1).toNat)), p0.From, p0.By⟩ : FlyPath)).Kind.Quick)), .v (.int .i64 ((impl_copyPath (⟨p0.Kind, (p0.Steps.drop ((p1).toNat)).take (p0.Steps.length - ((p1).toNat)), p0.From, p0.By⟩ : FlyPath)).Kind.Slow)), .mu 2700002 (gk (f2 11) 0 2) 7 0 ((impl_left_v1 p0 p1 p2 p3).map FlyStep.row).length, .v (.int .i64 ((impl_copyPath (⟨p0.Kind, (p0.Steps.drop ((p1).toNat)).take (p0.Steps.length - ((p1).toNat)), p0.From, p0.By⟩ : FlyPath)).From)), .v (.int .i64 ((impl_copyPath (⟨p0.Kind, (p0.Steps.drop ((p1).toNat)).take (p0.Steps.length - ((p1).toNat)), p0.From, p0.By⟩ : FlyPath)).By))])), (2700002, some (gk (f2 11) 0 2, .arr 7 ((impl_left_v2 p0 p1 p2 p3 p4).map FlyStep.row)))], 68⟩) (by kernel_rfl))) ?_
    refine w_seq ?_
    have w8 := f_impl_FlySpans (⟨(impl_copyPath (⟨p0.Kind, (p0.Steps.drop ((p1).toNat)).take (p0.Steps.length - ((p1).toNat)), p0.From, p0.By⟩ : FlyPath)).Kind, (impl_left_v2 p0 p1 p2 p3 p4), (impl_copyPath (⟨p0.Kind, (p0.Steps.drop ((p1).toNat)).take (p0.Steps.length - ((p1).toNat)), p0.From, p0.By⟩ : FlyPath)).From, (impl_copyPath (⟨p0.Kind, (p0.Steps.drop ((p1).toNat)).take (p0.Steps.length - ((p1).toNat)), p0.From, p0.By⟩ : FlyPath)).By⟩ : FlyPath) (by first | assumption | exact (show ((impl_left_v2 p0 p1 p2 p3 p4)).length ≤ 1048576 from by (try simp only [LN, impl_copyPath, impl_left_v1, impl_left_v2, impl_left_v3, impl_left_v4, impl_left_v5]); omega))
    have w8' := w8; try simp only [LN, impl_copyPath, impl_left_v1, impl_left_v2, impl_left_v3, impl_left_v4, impl_left_v5] at w8'
    refine xr hT [ca (c52 (⟨(impl_copyPath (⟨p0.Kind, (p0.Steps.drop ((p1).toNat)).take (p0.Steps.length - ((p1).toNat)), p0.From, p0.By⟩ : FlyPath)).Kind, (impl_left_v2 p0 p1 p2 p3 p4), (impl_copyPath (⟨p0.Kind, (p0.Steps.drop ((p1).toNat)).take (p0.Steps.length - ((p1).toNat)), p0.From, p0.By⟩ : FlyPath)).From, (impl_copyPath (⟨p0.Kind, (p0.Steps.drop ((p1).toNat)).take (p0.Steps.length - ((p1).toNat)), p0.From, p0.By⟩ : FlyPath)).By⟩ : FlyPath) (by first | assumption | exact (show ((impl_left_v2 p0 p1 p2 p3 p4)).length ≤ 1048576 from by (try simp only [LN, impl_copyPath, impl_left_v1, impl_left_v2, impl_left_v3, impl_left_v4, impl_left_v5]); omega)))] (fun f7 => ⟨[(10, .one (.pt 10 (f1 1 0) 0)), (12, .one (.pt 12 (f2 12 0) 0)), (14, .one (.c (.v (.bool (impl_left_v3 p0 p1 p2 p3 p4)))))], [(10, some (f1 1 0, .box [.v (.int .i64 0), .v (.int .i64 0), .nl, .v (.int .i64 0), .v (.int .i64 0)])), (12, some (f2 12 0, .box [.v (.int .i64 ((impl_copyPath (⟨p0.Kind, (p0.Steps.drop ((p1).toNat)).take (p0.Steps.length - ((p1).toNat)), p0.From, p0.By⟩ : FlyPath)).Kind.Quick)), .v (.int .i64 ((impl_copyPath (⟨p0.Kind, (p0.Steps.drop ((p1).toNat)).take (p0.Steps.length - ((p1).toNat)), p0.From, p0.By⟩ : FlyPath)).Kind.Slow)), .mu 2700002 (gk (f2 11) 0 2) 7 0 ((impl_left_v2 p0 p1 p2 p3 p4).map FlyStep.row).length, .v (.int .i64 ((impl_copyPath (⟨p0.Kind, (p0.Steps.drop ((p1).toNat)).take (p0.Steps.length - ((p1).toNat)), p0.From, p0.By⟩ : FlyPath)).From)), .v (.int .i64 ((impl_copyPath (⟨p0.Kind, (p0.Steps.drop ((p1).toNat)).take (p0.Steps.length - ((p1).toNat)), p0.From, p0.By⟩ : FlyPath)).By))])), (2700002, some (gk (f2 11) 0 2, .arr 7 ((impl_left_v2 p0 p1 p2 p3 p4).map FlyStep.row)))], 68⟩) (fun f => by kernel_rfl) (fun f => by kernel_rfl) fun f7 => ?_
    refine xr hT [] (fun f9 => ⟨[(10, .one (.pt 10 (f1 1 0) 0)), (12, .one (.pt 12 (f2 12 0) 0)), (65, .one (.c (.v (.bool (!(impl_left_v3 p0 p1 p2 p3 p4))))))], [(10, some (f1 1 0, .box [.v (.int .i64 0), .v (.int .i64 0), .nl, .v (.int .i64 0), .v (.int .i64 0)])), (12, some (f2 12 0, .box [.v (.int .i64 ((impl_copyPath (⟨p0.Kind, (p0.Steps.drop ((p1).toNat)).take (p0.Steps.length - ((p1).toNat)), p0.From, p0.By⟩ : FlyPath)).Kind.Quick)), .v (.int .i64 ((impl_copyPath (⟨p0.Kind, (p0.Steps.drop ((p1).toNat)).take (p0.Steps.length - ((p1).toNat)), p0.From, p0.By⟩ : FlyPath)).Kind.Slow)), .mu 2700002 (gk (f2 11) 0 2) 7 0 ((impl_left_v2 p0 p1 p2 p3 p4).map FlyStep.row).length, .v (.int .i64 ((impl_copyPath (⟨p0.Kind, (p0.Steps.drop ((p1).toNat)).take (p0.Steps.length - ((p1).toNat)), p0.From, p0.By⟩ : FlyPath)).From)), .v (.int .i64 ((impl_copyPath (⟨p0.Kind, (p0.Steps.drop ((p1).toNat)).take (p0.Steps.length - ((p1).toNat)), p0.From, p0.By⟩ : FlyPath)).By))])), (2700002, some (gk (f2 11) 0 2, .arr 7 ((impl_left_v2 p0 p1 p2 p3 p4).map FlyStep.row)))], 68⟩) (fun f => by kernel_rfl) (fun f => by kernel_rfl) fun f9 => ?_
    refine w_cond rfl (fun h10 => ?_) fun h10 => ?_
    · rw [if_pos h10] at hR
      have gh10 := h10; try simp only [impl_left_v1, impl_left_v2, impl_left_v3, Bool.not_eq_true', Bool.not_eq_false', decide_eq_true_eq, decide_eq_false_iff_not, Bool.and_eq_true, Bool.or_eq_true, Bool.and_eq_false_iff, Bool.or_eq_false_iff] at gh10
      refine xr hT [] (fun f11 => ⟨[(10, .one (.pt 10 (f1 1 0) 0)), (11, .one (.c (.v (.bool false))))], [(10, some (f1 1 0, .box [.v (.int .i64 0), .v (.int .i64 0), .nl, .v (.int .i64 0), .v (.int .i64 0)]))], 68⟩) (fun f => by kernel_rfl) (fun f => by kernel_rfl) fun f11 => ?_
      refine w_ret ?_
      subst hR
      exact x_ret (by kernel_rfl)
    rw [if_neg (nt h10)] at hR
    have gh10 := h10; try simp only [impl_left_v1, impl_left_v2, impl_left_v3, Bool.not_eq_true', Bool.not_eq_false', decide_eq_true_eq, decide_eq_false_iff_not, Bool.and_eq_true, Bool.or_eq_true, Bool.and_eq_false_iff, Bool.or_eq_false_iff] at gh10
    refine w_skip ?_
    refine xr hT [] (fun f12 => ⟨[(10, .one (.pt 10 (f1 1 0) 0)), (11, .one (.c (.v (.bool true))))], [(10, some (f1 1 0, .box [.v (.int .i64 ((impl_copyPath (⟨p0.Kind, (p0.Steps.drop ((p1).toNat)).take (p0.Steps.length - ((p1).toNat)), p0.From, p0.By⟩ : FlyPath)).Kind.Quick)), .v (.int .i64 ((impl_copyPath (⟨p0.Kind, (p0.Steps.drop ((p1).toNat)).take (p0.Steps.length - ((p1).toNat)), p0.From, p0.By⟩ : FlyPath)).Kind.Slow)), .mu 2700002 (gk (f2 11) 0 2) 7 0 ((impl_left_v2 p0 p1 p2 p3 p4).map FlyStep.row).length, .v (.int .i64 ((impl_copyPath (⟨p0.Kind, (p0.Steps.drop ((p1).toNat)).take (p0.Steps.length - ((p1).toNat)), p0.From, p0.By⟩ : FlyPath)).From)), .v (.int .i64 ((impl_copyPath (⟨p0.Kind, (p0.Steps.drop ((p1).toNat)).take (p0.Steps.length - ((p1).toNat)), p0.From, p0.By⟩ : FlyPath)).By))])), (2700002, some (gk (f2 11) 0 2, .arr 7 ((impl_left_v2 p0 p1 p2 p3 p4).map FlyStep.row)))], 68⟩) (fun f => by kernel_rfl) (fun f => by kernel_rfl) fun f12 => ?_
    refine w_ret ?_
    subst hR
    exact x_ret (by kernel_rfl)
  rw [if_neg (nt h5)] at hR
  have gh5 := of_decide_eq_false h5
  refine xr1 (fun _ => rfl) hT [.wr] (fun f13 => ⟨[(10, .one (.pt 10 (f1 1 0) 0)), (12, .one (.pt 12 (f2 12 0) 0))], [(10, some (f1 1 0, .box [.v (.int .i64 0), .v (.int .i64 0), .nl, .v (.int .i64 0), .v (.int .i64 0)])), (12, some (f2 12 0, .box [.v (.int .i64 ((impl_copyPath (⟨p0.Kind, (p0.Steps.drop ((p1).toNat)).take (p0.Steps.length - ((p1).toNat)), p0.From, p0.By⟩ : FlyPath)).Kind.Quick)), .v (.int .i64 ((impl_copyPath (⟨p0.Kind, (p0.Steps.drop ((p1).toNat)).take (p0.Steps.length - ((p1).toNat)), p0.From, p0.By⟩ : FlyPath)).Kind.Slow)), .mu 2700002 (gk (f2 11) 0 2) 7 0 ((impl_left_v1 p0 p1 p2 p3).map FlyStep.row).length, .v (.int .i64 (impl_left_v4 p0 p1 p4)), .v (.int .i64 ((impl_copyPath (⟨p0.Kind, (p0.Steps.drop ((p1).toNat)).take (p0.Steps.length - ((p1).toNat)), p0.From, p0.By⟩ : FlyPath)).By))])), (2700002, some (gk (f2 11) 0 2, .arr 7 ((impl_left_v1 p0 p1 p2 p3).map FlyStep.row)))], 68⟩) (fun f => by kernel_rfl) (fun f => by kernel_rfl) fun f13 => ?_
  refine w_seq ?_
  have w15 := f_impl_FlySpans (⟨(impl_copyPath (⟨p0.Kind, (p0.Steps.drop ((p1).toNat)).take (p0.Steps.length - ((p1).toNat)), p0.From, p0.By⟩ : FlyPath)).Kind, (impl_left_v1 p0 p1 p2 p3), (impl_left_v4 p0 p1 p4), (impl_copyPath (⟨p0.Kind, (p0.Steps.drop ((p1).toNat)).take (p0.Steps.length - ((p1).toNat)), p0.From, p0.By⟩ : FlyPath)).By⟩ : FlyPath) (by first | assumption | exact (show ((impl_left_v1 p0 p1 p2 p3)).length ≤ 1048576 from by (try simp only [LN, impl_copyPath, impl_left_v1, impl_left_v2, impl_left_v3, impl_left_v4, impl_left_v5]); omega))
  have w15' := w15; try simp only [LN, impl_copyPath, impl_left_v1, impl_left_v2, impl_left_v3, impl_left_v4, impl_left_v5] at w15'
  refine xr hT [ca (c52 (⟨(impl_copyPath (⟨p0.Kind, (p0.Steps.drop ((p1).toNat)).take (p0.Steps.length - ((p1).toNat)), p0.From, p0.By⟩ : FlyPath)).Kind, (impl_left_v1 p0 p1 p2 p3), (impl_left_v4 p0 p1 p4), (impl_copyPath (⟨p0.Kind, (p0.Steps.drop ((p1).toNat)).take (p0.Steps.length - ((p1).toNat)), p0.From, p0.By⟩ : FlyPath)).By⟩ : FlyPath) (by first | assumption | exact (show ((impl_left_v1 p0 p1 p2 p3)).length ≤ 1048576 from by (try simp only [LN, impl_copyPath, impl_left_v1, impl_left_v2, impl_left_v3, impl_left_v4, impl_left_v5]); omega)))] (fun f14 => ⟨[(10, .one (.pt 10 (f1 1 0) 0)), (12, .one (.pt 12 (f2 12 0) 0)), (14, .one (.c (.v (.bool (impl_left_v5 p0 p1 p2 p3 p4)))))], [(10, some (f1 1 0, .box [.v (.int .i64 0), .v (.int .i64 0), .nl, .v (.int .i64 0), .v (.int .i64 0)])), (12, some (f2 12 0, .box [.v (.int .i64 ((impl_copyPath (⟨p0.Kind, (p0.Steps.drop ((p1).toNat)).take (p0.Steps.length - ((p1).toNat)), p0.From, p0.By⟩ : FlyPath)).Kind.Quick)), .v (.int .i64 ((impl_copyPath (⟨p0.Kind, (p0.Steps.drop ((p1).toNat)).take (p0.Steps.length - ((p1).toNat)), p0.From, p0.By⟩ : FlyPath)).Kind.Slow)), .mu 2700002 (gk (f2 11) 0 2) 7 0 ((impl_left_v1 p0 p1 p2 p3).map FlyStep.row).length, .v (.int .i64 (impl_left_v4 p0 p1 p4)), .v (.int .i64 ((impl_copyPath (⟨p0.Kind, (p0.Steps.drop ((p1).toNat)).take (p0.Steps.length - ((p1).toNat)), p0.From, p0.By⟩ : FlyPath)).By))])), (2700002, some (gk (f2 11) 0 2, .arr 7 ((impl_left_v1 p0 p1 p2 p3).map FlyStep.row)))], 68⟩) (fun f => by kernel_rfl) (fun f => by kernel_rfl) fun f14 => ?_
  refine xr hT [] (fun f16 => ⟨[(10, .one (.pt 10 (f1 1 0) 0)), (12, .one (.pt 12 (f2 12 0) 0)), (65, .one (.c (.v (.bool (!(impl_left_v5 p0 p1 p2 p3 p4))))))], [(10, some (f1 1 0, .box [.v (.int .i64 0), .v (.int .i64 0), .nl, .v (.int .i64 0), .v (.int .i64 0)])), (12, some (f2 12 0, .box [.v (.int .i64 ((impl_copyPath (⟨p0.Kind, (p0.Steps.drop ((p1).toNat)).take (p0.Steps.length - ((p1).toNat)), p0.From, p0.By⟩ : FlyPath)).Kind.Quick)), .v (.int .i64 ((impl_copyPath (⟨p0.Kind, (p0.Steps.drop ((p1).toNat)).take (p0.Steps.length - ((p1).toNat)), p0.From, p0.By⟩ : FlyPath)).Kind.Slow)), .mu 2700002 (gk (f2 11) 0 2) 7 0 ((impl_left_v1 p0 p1 p2 p3).map FlyStep.row).length, .v (.int .i64 (impl_left_v4 p0 p1 p4)), .v (.int .i64 ((impl_copyPath (⟨p0.Kind, (p0.Steps.drop ((p1).toNat)).take (p0.Steps.length - ((p1).toNat)), p0.From, p0.By⟩ : FlyPath)).By))])), (2700002, some (gk (f2 11) 0 2, .arr 7 ((impl_left_v1 p0 p1 p2 p3).map FlyStep.row)))], 68⟩) (fun f => by kernel_rfl) (fun f => by kernel_rfl) fun f16 => ?_
  refine w_cond rfl (fun h17 => ?_) fun h17 => ?_
  · rw [if_pos h17] at hR
    have gh17 := h17; try simp only [impl_left_v1, impl_left_v4, impl_left_v5, Bool.not_eq_true', Bool.not_eq_false', decide_eq_true_eq, decide_eq_false_iff_not, Bool.and_eq_true, Bool.or_eq_true, Bool.and_eq_false_iff, Bool.or_eq_false_iff] at gh17
    refine xr hT [] (fun f18 => ⟨[(10, .one (.pt 10 (f1 1 0) 0)), (11, .one (.c (.v (.bool false))))], [(10, some (f1 1 0, .box [.v (.int .i64 0), .v (.int .i64 0), .nl, .v (.int .i64 0), .v (.int .i64 0)]))], 68⟩) (fun f => by kernel_rfl) (fun f => by kernel_rfl) fun f18 => ?_
    refine w_ret ?_
    subst hR
    exact x_ret (by kernel_rfl)
  rw [if_neg (nt h17)] at hR
  have gh17 := h17; try simp only [impl_left_v1, impl_left_v4, impl_left_v5, Bool.not_eq_true', Bool.not_eq_false', decide_eq_true_eq, decide_eq_false_iff_not, Bool.and_eq_true, Bool.or_eq_true, Bool.and_eq_false_iff, Bool.or_eq_false_iff] at gh17
  refine w_skip ?_
  refine xr hT [] (fun f19 => ⟨[(10, .one (.pt 10 (f1 1 0) 0)), (11, .one (.c (.v (.bool true))))], [(10, some (f1 1 0, .box [.v (.int .i64 ((impl_copyPath (⟨p0.Kind, (p0.Steps.drop ((p1).toNat)).take (p0.Steps.length - ((p1).toNat)), p0.From, p0.By⟩ : FlyPath)).Kind.Quick)), .v (.int .i64 ((impl_copyPath (⟨p0.Kind, (p0.Steps.drop ((p1).toNat)).take (p0.Steps.length - ((p1).toNat)), p0.From, p0.By⟩ : FlyPath)).Kind.Slow)), .mu 2700002 (gk (f2 11) 0 2) 7 0 ((impl_left_v1 p0 p1 p2 p3).map FlyStep.row).length, .v (.int .i64 (impl_left_v4 p0 p1 p4)), .v (.int .i64 ((impl_copyPath (⟨p0.Kind, (p0.Steps.drop ((p1).toNat)).take (p0.Steps.length - ((p1).toNat)), p0.From, p0.By⟩ : FlyPath)).By))])), (2700002, some (gk (f2 11) 0 2, .arr 7 ((impl_left_v1 p0 p1 p2 p3).map FlyStep.row)))], 68⟩) (fun f => by kernel_rfl) (fun f => by kernel_rfl) fun f19 => ?_
  refine w_ret ?_
  subst hR
  exact x_ret (by kernel_rfl)

def impl_FlyRest_v1 (p0 : FlyPath) (p1 : Int) (p2 : Int) (p3 : Int) : Bool := ((((!(impl_FlyPathOk p0)) || (!(impl_in p1 0 ((p0.Steps.length : Int) - 1)))) || (decide (10000 < p3))) || (decide (p2 < 0))) || (decide (p3 < p2))
/-- impl.FlyRest -/
def impl_FlyRest (p0 : FlyPath) (p1 : Int) (p2 : Int) (p3 : Int) : FlyPath × Bool := (if (impl_FlyRest_v1 p0 p1 p2 p3) then ((⟨⟨0, 0⟩, [], 0, 0⟩ : FlyPath), false) else (((impl_left p0 p1 (max ((p0.Steps.getD ((p1).toNat) default).From) p2) (min ((p0.Steps.getD ((p1).toNat) default).By) p2) p3).1), (impl_left p0 p1 (max ((p0.Steps.getD ((p1).toNat) default).From) p2) (min ((p0.Steps.getD ((p1).toNat) default).By) p2) p3).2))
theorem c43 (p0 : FlyPath) (p1 : Int) (p2 : Int) (p3 : Int) (k0_0 : FlyPath.ok p0) : Fn Proofs.Try.prog 43 [⟨.val, true, FlyPath.cs .bor p0⟩, ⟨.val, false, [.v (.int .i64 p1)]⟩, ⟨.val, false, [.v (.int .i64 p2)]⟩, ⟨.val, false, [.v (.int .i64 p3)]⟩] [.ag (FlyPath.cs .own (impl_FlyRest p0 p1 p2 p3).1), .c (.v (.bool (impl_FlyRest p0 p1 p2 p3).2))] [] := by
  obtain ⟨R, hR⟩ : ∃ R, R = impl_FlyRest p0 p1 p2 p3 := ⟨_, rfl⟩
  rw [← hR]
  rw [impl_FlyRest] at hR
  refine ⟨fn_intro hT Proofs.Try.func43 rfl rfl fun fs => ?_, _, Proofs.Try.func43, rfl, rfl⟩
  have q0 := k0_0; simp only [FlyPath.ok] at q0
  refine xr hT [] (fun f1 => ⟨[(1, .one (.c (.v (.int .i64 p1)))), (2, .one (.c (.v (.int .i64 p2)))), (3, .one (.c (.v (.int .i64 p3)))), (4, .one (.pt 4 (f1 0 0) 0)), (8, .one (.pt 8 (f1 1 0) 0))], [(4, some (f1 0 0, .box (FlyPath.cs .bor p0))), (8, some (f1 1 0, .box [.v (.int .i64 0), .v (.int .i64 0), .nl, .v (.int .i64 0), .v (.int .i64 0)]))], 56⟩) (fun f => by kernel_rfl) (fun f => by kernel_rfl) fun f1 => ?_
  refine w_seq ?_
  refine xr hT [ca (c50 p0 (by first | assumption | exact (by omega : p0.Steps.length ≤ 1048576))), .ln FlyStep.row p0.Steps, .ex (!(!(impl_FlyPathOk p0))) ((p0.Steps.length : Int) - 1) ((p0.Steps.length : Int) - 1) (fun h => by (try simp only [Bool.and_eq_true, Bool.or_eq_true, decide_eq_true_eq, Bool.not_eq_true', decide_eq_false_iff_not] at h); exact wr_eq (by omega) (by omega)), cg (!(!(impl_FlyPathOk p0))) (fun _ => c95 p1 0 ((p0.Steps.length : Int) - 1))] (fun f2 => ⟨[(1, .one (.c (.v (.int .i64 p1)))), (2, .one (.c (.v (.int .i64 p2)))), (3, .one (.c (.v (.int .i64 p3)))), (4, .one (.pt 4 (f1 0 0) 0)), (8, .one (.pt 8 (f1 1 0) 0)), (35, .one (.c (.v (.bool (impl_FlyRest_v1 p0 p1 p2 p3)))))], [(4, some (f1 0 0, .box (FlyPath.cs .bor p0))), (8, some (f1 1 0, .box [.v (.int .i64 0), .v (.int .i64 0), .nl, .v (.int .i64 0), .v (.int .i64 0)]))], 56⟩) (fun f => by kernel_rfl) (fun f => by kernel_rfl) fun f2 => ?_
  refine w_cond rfl (fun h3 => ?_) fun h3 => ?_
  · rw [if_pos h3] at hR
    have gh3 := h3; try simp only [impl_in, impl_FlyRest_v1, Bool.not_eq_true', Bool.not_eq_false', decide_eq_true_eq, decide_eq_false_iff_not, Bool.and_eq_true, Bool.or_eq_true, Bool.and_eq_false_iff, Bool.or_eq_false_iff] at gh3
    refine xr hT [] (fun f4 => ⟨[(8, .one (.pt 8 (f1 1 0) 0)), (9, .one (.c (.v (.bool false))))], [(8, some (f1 1 0, .box [.v (.int .i64 0), .v (.int .i64 0), .nl, .v (.int .i64 0), .v (.int .i64 0)]))], 56⟩) (fun f => by kernel_rfl) (fun f => by kernel_rfl) fun f4 => ?_
    refine w_ret ?_
    subst hR
    exact x_ret (by kernel_rfl)
  rw [if_neg (nt h3)] at hR
  have gh3 := h3; try simp only [impl_in, impl_FlyRest_v1, Bool.not_eq_true', Bool.not_eq_false', decide_eq_true_eq, decide_eq_false_iff_not, Bool.and_eq_true, Bool.or_eq_true, Bool.and_eq_false_iff, Bool.or_eq_false_iff] at gh3
  refine w_skip ?_
  refine xr hT [iz FlyStep.row p0.Steps (p1) (by omega)] (fun f5 => ⟨[(1, .one (.c (.v (.int .i64 p1)))), (2, .one (.c (.v (.int .i64 p2)))), (3, .one (.c (.v (.int .i64 p3)))), (4, .one (.pt 4 (f1 0 0) 0)), (8, .one (.pt 8 (f1 1 0) 0)), (10, .one (.pt 10 (f5 5 0) 0))], [(4, some (f1 0 0, .box (FlyPath.cs .bor p0))), (8, some (f1 1 0, .box [.v (.int .i64 0), .v (.int .i64 0), .nl, .v (.int .i64 0), .v (.int .i64 0)])), (10, some (f5 5 0, .box (FlyStep.cs .bor (p0.Steps.getD ((p1).toNat) default))))], 56⟩) (fun f => by kernel_rfl) (fun f => by kernel_rfl) fun f5 => ?_
  refine xr hT [ca (c120 p0 p1 (max ((p0.Steps.getD ((p1).toNat) default).From) p2) (min ((p0.Steps.getD ((p1).toNat) default).By) p2) p3 (by first | assumption | exact (by omega : p0.Steps.length ≤ 1048576)) (by first | assumption | ((try simp only [LN, impl_FlyRest_v1, FlyPath.ok]); omega)) (by first | assumption | ((try simp only [LN, impl_FlyRest_v1, FlyPath.ok]); omega)))] (fun f6 => ⟨[(8, .one (.pt 8 (f1 1 0) 0)), (9, .one (.c (.v (.bool ((impl_left p0 p1 (max ((p0.Steps.getD ((p1).toNat) default).From) p2) (min ((p0.Steps.getD ((p1).toNat) default).By) p2) p3).2)))))], [(8, some (f1 1 0, .box [.v (.int .i64 (((impl_left p0 p1 (max ((p0.Steps.getD ((p1).toNat) default).From) p2) (min ((p0.Steps.getD ((p1).toNat) default).By) p2) p3).1).Kind.Quick)), .v (.int .i64 (((impl_left p0 p1 (max ((p0.Steps.getD ((p1).toNat) default).From) p2) (min ((p0.Steps.getD ((p1).toNat) default).By) p2) p3).1).Kind.Slow)), .mu 5400002 (gk (f6 11) 0 2) 7 0 ((((impl_left p0 p1 (max ((p0.Steps.getD ((p1).toNat) default).From) p2) (min ((p0.Steps.getD ((p1).toNat) default).By) p2) p3).1).Steps).map FlyStep.row).length, .v (.int .i64 (((impl_left p0 p1 (max ((p0.Steps.getD ((p1).toNat) default).From) p2) (min ((p0.Steps.getD ((p1).toNat) default).By) p2) p3).1).From)), .v (.int .i64 (((impl_left p0 p1 (max ((p0.Steps.getD ((p1).toNat) default).From) p2) (min ((p0.Steps.getD ((p1).toNat) default).By) p2) p3).1).By))])), (5400002, some (gk (f6 11) 0 2, .arr 7 ((((impl_left p0 p1 (max ((p0.Steps.getD ((p1).toNat) default).From) p2) (min ((p0.Steps.getD ((p1).toNat) default).By) p2) p3).1).Steps).map FlyStep.row)))], 56⟩) (fun f => by kernel_rfl) (fun f => by kernel_rfl) fun f6 => ?_
  refine w_ret ?_
  subst hR
  exact x_ret (by kernel_rfl)

/-- impl.LinkCraft.stays -/
def impl_LinkCraft_stays (p0 : LinkCraft) (p1 : FlyPath) (p2 : Int) : Bool := (if decide ((p0.Flown.length : Int) = 0) then ((impl_FlySpans p1).2) && (decide (p2 < ((((impl_FlySpans p1).1).getD 0 default).High))) else (impl_FlyRest p1 ((p0.Flown.length : Int) - 1) (p0.Flown.getD (((p0.Flown.length : Int) - 1).toNat) default) p2).2)
theorem c90 (p0 : LinkCraft) (p1 : FlyPath) (p2 : Int) (k0_0 : LinkCraft.ok p0) (k1_0 : FlyPath.ok p1) : Fn Proofs.Try.prog 90 [⟨.val, true, LinkCraft.cs .bor p0⟩, ⟨.val, true, FlyPath.cs .bor p1⟩, ⟨.val, false, [.v (.int .i64 p2)]⟩] [.c (.v (.bool (impl_LinkCraft_stays p0 p1 p2)))] [] := by
  obtain ⟨R, hR⟩ : ∃ R, R = impl_LinkCraft_stays p0 p1 p2 := ⟨_, rfl⟩
  rw [← hR]
  rw [impl_LinkCraft_stays] at hR
  refine ⟨fn_intro hT Proofs.Try.func90 rfl rfl fun fs => ?_, _, Proofs.Try.func90, rfl, rfl⟩
  have q0 := k0_0; simp only [LinkCraft.ok] at q0
  have q1 := k1_0; simp only [FlyPath.ok] at q1
  refine xr hT [] (fun f1 => ⟨[(2, .one (.c (.v (.int .i64 p2)))), (3, .one (.pt 3 (f1 0 0) 0)), (4, .one (.pt 4 (f1 1 0) 0))], [(3, some (f1 0 0, .box (LinkCraft.cs .bor p0))), (4, some (f1 1 0, .box (FlyPath.cs .bor p1)))], 47⟩) (fun f => by kernel_rfl) (fun f => by kernel_rfl) fun f1 => ?_
  refine w_seq ?_
  refine xr hT [.ln Int.row p0.Flown] (fun f2 => ⟨[(2, .one (.c (.v (.int .i64 p2)))), (3, .one (.pt 3 (f1 0 0) 0)), (4, .one (.pt 4 (f1 1 0) 0)), (15, .one (.c (.v (.bool (decide ((p0.Flown.length : Int) = 0))))))], [(3, some (f1 0 0, .box (LinkCraft.cs .bor p0))), (4, some (f1 1 0, .box (FlyPath.cs .bor p1)))], 47⟩) (fun f => by kernel_rfl) (fun f => by kernel_rfl) fun f2 => ?_
  refine w_cond rfl (fun h3 => ?_) fun h3 => ?_
  · rw [if_pos h3] at hR
    have gh3 := of_decide_eq_true h3
    have w5 := f_impl_FlySpans p1 (by first | assumption | exact (by omega : p1.Steps.length ≤ 1048576))
    have w5' := w5; try simp only [LN] at w5'
    refine xr hT [ca (c52 p1 (by first | assumption | exact (by omega : p1.Steps.length ≤ 1048576)))] (fun f4 => ⟨[(2, .one (.c (.v (.int .i64 p2)))), (7, .one (.c (.mu 1900000 (gk (f4 1) 0 0) 2 0 (((impl_FlySpans p1).1).map FlySpan.row).length))), (8, .one (.c (.v (.bool ((impl_FlySpans p1).2)))))], [(1900000, some (gk (f4 1) 0 0, .arr 2 (((impl_FlySpans p1).1).map FlySpan.row)))], 47⟩) (fun f => by kernel_rfl) (fun f => by kernel_rfl) fun f4 => ?_
    refine xr hT [ig ((impl_FlySpans p1).2) FlySpan.row ((impl_FlySpans p1).1) 0 (fun h => by (try simp only [Bool.and_eq_true, Bool.or_eq_true, decide_eq_true_eq, Bool.not_eq_true', decide_eq_false_iff_not] at h); (first | omega | ((try simp only [LN]); omega) | ((try simp only [wr, IntKind.wrap_i64, LN] at *); omega) | (simp_all <;> omega))), .ix inferInstance ((impl_FlySpans p1).2) FlySpan.row ((impl_FlySpans p1).1) (0 : Nat) 0 (fun h => ⟨rfl, by (try simp only [Bool.and_eq_true, Bool.or_eq_true, decide_eq_true_eq, Bool.not_eq_true', decide_eq_false_iff_not] at h); (first | omega | ((try simp only [LN]); omega) | ((try simp only [wr, IntKind.wrap_i64, LN] at *); omega) | (simp_all <;> omega))⟩)] (fun f6 => ⟨[(6, .one (.c (.v (.bool (((impl_FlySpans p1).2) && (decide (p2 < ((((impl_FlySpans p1).1).getD 0 default).High))))))))], [], 47⟩) (fun f => by kernel_rfl) (fun f => by kernel_rfl) fun f6 => ?_
    refine w_ret ?_
    subst hR
    exact x_ret (by kernel_rfl)
  rw [if_neg (nt h3)] at hR
  have gh3 := of_decide_eq_false h3
  refine w_skip ?_
  refine xr hT [.ln Int.row p0.Flown, .ex true ((p0.Flown.length : Int) - 1) ((p0.Flown.length : Int) - 1) (fun _ => wr_eq (by omega) (by omega))] (fun f7 => ⟨[(2, .one (.c (.v (.int .i64 p2)))), (3, .one (.pt 3 (f1 0 0) 0)), (4, .one (.pt 4 (f1 1 0) 0)), (9, .one (.c (.v (.int .i64 ((p0.Flown.length : Int) - 1)))))], [(3, some (f1 0 0, .box (LinkCraft.cs .bor p0))), (4, some (f1 1 0, .box (FlyPath.cs .bor p1)))], 47⟩) (fun f => by kernel_rfl) (fun f => by kernel_rfl) fun f7 => ?_
  refine xd hT hM [iz Int.row p0.Flown ((p0.Flown.length : Int) - 1) (by omega), ca (c43 p1 ((p0.Flown.length : Int) - 1) (p0.Flown.getD (((p0.Flown.length : Int) - 1).toNat) default) p2 (by first | assumption | exact (by omega : p1.Steps.length ≤ 1048576)))] (fun f8 => ⟨[(11, .one (.c (.v (.bool ((impl_FlyRest p1 ((p0.Flown.length : Int) - 1) (p0.Flown.getD (((p0.Flown.length : Int) - 1).toNat) default) p2).2)))))], [], 47⟩) (fun f => by kernel_rfl) (fun f => by kernel_rfl) (fun f => by kernel_rfl) fun f8 => ?_
  refine xr hT [] (fun f9 => ⟨[(6, .one (.c (.v (.bool ((impl_FlyRest p1 ((p0.Flown.length : Int) - 1) (p0.Flown.getD (((p0.Flown.length : Int) - 1).toNat) default) p2).2)))))], [], 47⟩) (fun f => by kernel_rfl) (fun f => by kernel_rfl) fun f9 => ?_
  refine w_ret ?_
  subst hR
  exact x_ret (by kernel_rfl)

/-- impl.LinkMust -/
def impl_LinkMust (p0 : LinkCraft) (p1 : Int) : Bool := (impl_LinkCraft_mayGo p0 p1) && (!(impl_LinkCraft_stays p0 p0.Path p1))
theorem c18 (p0 : LinkCraft) (p1 : Int) (k0_0 : LinkCraft.ok p0) : Fn Proofs.Try.prog 18 [⟨.val, true, LinkCraft.cs .bor p0⟩, ⟨.val, false, [.v (.int .i64 p1)]⟩] [.c (.v (.bool (impl_LinkMust p0 p1)))] [] := by
  obtain ⟨R, hR⟩ : ∃ R, R = impl_LinkMust p0 p1 := ⟨_, rfl⟩
  rw [← hR]
  rw [impl_LinkMust] at hR
  refine ⟨fn_intro hT Proofs.Try.func18 rfl rfl fun fs => ?_, _, Proofs.Try.func18, rfl, rfl⟩
  have q0 := k0_0; simp only [LinkCraft.ok] at q0
  refine xr hT [] (fun f1 => ⟨[(1, .one (.c (.v (.int .i64 p1)))), (2, .one (.pt 2 (f1 0 0) 0))], [(2, some (f1 0 0, .box (LinkCraft.cs .bor p0)))], 16⟩) (fun f => by kernel_rfl) (fun f => by kernel_rfl) fun f1 => ?_
  refine xr hT [ca (c89 p0 p1 (by first | assumption | exact ⟨(by omega : p0.Path.Steps.length ≤ 1048576), (by omega : p0.Flown.length ≤ 1048576)⟩)), cg (impl_LinkCraft_mayGo p0 p1) (fun h => by (try simp only [Bool.and_eq_true, Bool.or_eq_true, decide_eq_true_eq, Bool.not_eq_true', decide_eq_false_iff_not] at h); exact c90 p0 p0.Path p1 (by first | assumption | exact ⟨(by omega : p0.Path.Steps.length ≤ 1048576), (by omega : p0.Flown.length ≤ 1048576)⟩) (by first | assumption | exact (by omega : p0.Path.Steps.length ≤ 1048576)))] (fun f2 => ⟨[(4, .one (.c (.v (.bool ((impl_LinkCraft_mayGo p0 p1) && (!(impl_LinkCraft_stays p0 p0.Path p1)))))))], [], 16⟩) (fun f => by kernel_rfl) (fun f => by kernel_rfl) fun f2 => ?_
  refine w_ret ?_
  subst hR
  exact x_ret (by kernel_rfl)

/-- laws.eqFlyKind -/
def laws_eqFlyKind (p0 : FlyKind) (p1 : FlyKind) : Bool := (if !decide (p0.Quick = p1.Quick) then false else (if !decide (p0.Slow = p1.Slow) then false else true))
theorem c104 (p0 : FlyKind) (p1 : FlyKind) : Fn Proofs.Try.prog 104 [⟨.val, true, FlyKind.cs .bor p0⟩, ⟨.val, true, FlyKind.cs .bor p1⟩] [.c (.v (.bool (laws_eqFlyKind p0 p1)))] [] := by
  obtain ⟨R, hR⟩ : ∃ R, R = laws_eqFlyKind p0 p1 := ⟨_, rfl⟩
  rw [← hR]
  rw [laws_eqFlyKind] at hR
  refine ⟨fn_intro hT Proofs.Try.func104 rfl rfl fun fs => ?_, _, Proofs.Try.func104, rfl, rfl⟩
  refine xr hT [] (fun f1 => ⟨[(2, .one (.pt 2 (f1 0 0) 0)), (3, .one (.pt 3 (f1 1 0) 0))], [(2, some (f1 0 0, .box (FlyKind.cs .bor p0))), (3, some (f1 1 0, .box (FlyKind.cs .bor p1)))], 15⟩) (fun f => by kernel_rfl) (fun f => by kernel_rfl) fun f1 => ?_
  refine w_seq ?_
  refine xr hT [] (fun f2 => ⟨[(2, .one (.pt 2 (f1 0 0) 0)), (3, .one (.pt 3 (f1 1 0) 0)), (9, .one (.c (.v (.bool (!decide (p0.Quick = p1.Quick))))))], [(2, some (f1 0 0, .box (FlyKind.cs .bor p0))), (3, some (f1 1 0, .box (FlyKind.cs .bor p1)))], 15⟩) (fun f => by kernel_rfl) (fun f => by kernel_rfl) fun f2 => ?_
  refine w_cond rfl (fun h3 => ?_) fun h3 => ?_
  · rw [if_pos h3] at hR
    have gh3 := nd1 h3
    refine xr hT [] (fun f4 => ⟨[(4, .one (.c (.v (.bool false))))], [], 15⟩) (fun f => by kernel_rfl) (fun f => by kernel_rfl) fun f4 => ?_
    refine w_ret ?_
    subst hR
    exact x_ret (by kernel_rfl)
  rw [if_neg (nt h3)] at hR
  have gh3 := nd0 h3
  refine w_skip ?_
  refine w_seq ?_
  refine xr hT [] (fun f5 => ⟨[(14, .one (.c (.v (.bool (!decide (p0.Slow = p1.Slow))))))], [], 15⟩) (fun f => by kernel_rfl) (fun f => by kernel_rfl) fun f5 => ?_
  refine w_cond rfl (fun h6 => ?_) fun h6 => ?_
  · rw [if_pos h6] at hR
    have gh6 := nd1 h6
    refine xr hT [] (fun f7 => ⟨[(4, .one (.c (.v (.bool false))))], [], 15⟩) (fun f => by kernel_rfl) (fun f => by kernel_rfl) fun f7 => ?_
    refine w_ret ?_
    subst hR
    exact x_ret (by kernel_rfl)
  rw [if_neg (nt h6)] at hR
  have gh6 := nd0 h6
  refine w_skip ?_
  refine xr hT [] (fun f8 => ⟨[(4, .one (.c (.v (.bool true))))], [], 15⟩) (fun f => by kernel_rfl) (fun f => by kernel_rfl) fun f8 => ?_
  refine w_ret ?_
  subst hR
  exact x_ret (by kernel_rfl)

/-- laws.eqFlyStep -/
def laws_eqFlyStep (p0 : FlyStep) (p1 : FlyStep) : Bool := (if !decide (p0.X = p1.X) then false else (if !decide (p0.Y = p1.Y) then false else (if !decide (p0.Low = p1.Low) then false else (if !decide (p0.High = p1.High) then false else (if !decide (p0.From = p1.From) then false else (if !decide (p0.By = p1.By) then false else (if !(p0.Hold == p1.Hold) then false else true)))))))
theorem c179 (p0 : FlyStep) (p1 : FlyStep) : Fn Proofs.Try.prog 179 [⟨.val, true, FlyStep.cs .bor p0⟩, ⟨.val, true, FlyStep.cs .bor p1⟩] [.c (.v (.bool (laws_eqFlyStep p0 p1)))] [] := by
  obtain ⟨R, hR⟩ : ∃ R, R = laws_eqFlyStep p0 p1 := ⟨_, rfl⟩
  rw [← hR]
  rw [laws_eqFlyStep] at hR
  refine ⟨fn_intro hT Proofs.Try.func179 rfl rfl fun fs => ?_, _, Proofs.Try.func179, rfl, rfl⟩
  refine xr hT [] (fun f1 => ⟨[(2, .one (.pt 2 (f1 0 0) 0)), (3, .one (.pt 3 (f1 1 0) 0))], [(2, some (f1 0 0, .box (FlyStep.cs .bor p0))), (3, some (f1 1 0, .box (FlyStep.cs .bor p1)))], 40⟩) (fun f => by kernel_rfl) (fun f => by kernel_rfl) fun f1 => ?_
  refine w_seq ?_
  refine xr hT [] (fun f2 => ⟨[(2, .one (.pt 2 (f1 0 0) 0)), (3, .one (.pt 3 (f1 1 0) 0)), (9, .one (.c (.v (.bool (!decide (p0.X = p1.X))))))], [(2, some (f1 0 0, .box (FlyStep.cs .bor p0))), (3, some (f1 1 0, .box (FlyStep.cs .bor p1)))], 40⟩) (fun f => by kernel_rfl) (fun f => by kernel_rfl) fun f2 => ?_
  refine w_cond rfl (fun h3 => ?_) fun h3 => ?_
  · rw [if_pos h3] at hR
    have gh3 := nd1 h3
    refine xr hT [] (fun f4 => ⟨[(4, .one (.c (.v (.bool false))))], [], 40⟩) (fun f => by kernel_rfl) (fun f => by kernel_rfl) fun f4 => ?_
    refine w_ret ?_
    subst hR
    exact x_ret (by kernel_rfl)
  rw [if_neg (nt h3)] at hR
  have gh3 := nd0 h3
  refine w_skip ?_
  refine w_seq ?_
  refine xr hT [] (fun f5 => ⟨[(2, .one (.pt 2 (f1 0 0) 0)), (3, .one (.pt 3 (f1 1 0) 0)), (14, .one (.c (.v (.bool (!decide (p0.Y = p1.Y))))))], [(2, some (f1 0 0, .box (FlyStep.cs .bor p0))), (3, some (f1 1 0, .box (FlyStep.cs .bor p1)))], 40⟩) (fun f => by kernel_rfl) (fun f => by kernel_rfl) fun f5 => ?_
  refine w_cond rfl (fun h6 => ?_) fun h6 => ?_
  · rw [if_pos h6] at hR
    have gh6 := nd1 h6
    refine xr hT [] (fun f7 => ⟨[(4, .one (.c (.v (.bool false))))], [], 40⟩) (fun f => by kernel_rfl) (fun f => by kernel_rfl) fun f7 => ?_
    refine w_ret ?_
    subst hR
    exact x_ret (by kernel_rfl)
  rw [if_neg (nt h6)] at hR
  have gh6 := nd0 h6
  refine w_skip ?_
  refine w_seq ?_
  refine xr hT [] (fun f8 => ⟨[(2, .one (.pt 2 (f1 0 0) 0)), (3, .one (.pt 3 (f1 1 0) 0)), (19, .one (.c (.v (.bool (!decide (p0.Low = p1.Low))))))], [(2, some (f1 0 0, .box (FlyStep.cs .bor p0))), (3, some (f1 1 0, .box (FlyStep.cs .bor p1)))], 40⟩) (fun f => by kernel_rfl) (fun f => by kernel_rfl) fun f8 => ?_
  refine w_cond rfl (fun h9 => ?_) fun h9 => ?_
  · rw [if_pos h9] at hR
    have gh9 := nd1 h9
    refine xr hT [] (fun f10 => ⟨[(4, .one (.c (.v (.bool false))))], [], 40⟩) (fun f => by kernel_rfl) (fun f => by kernel_rfl) fun f10 => ?_
    refine w_ret ?_
    subst hR
    exact x_ret (by kernel_rfl)
  rw [if_neg (nt h9)] at hR
  have gh9 := nd0 h9
  refine w_skip ?_
  refine w_seq ?_
  refine xr hT [] (fun f11 => ⟨[(2, .one (.pt 2 (f1 0 0) 0)), (3, .one (.pt 3 (f1 1 0) 0)), (24, .one (.c (.v (.bool (!decide (p0.High = p1.High))))))], [(2, some (f1 0 0, .box (FlyStep.cs .bor p0))), (3, some (f1 1 0, .box (FlyStep.cs .bor p1)))], 40⟩) (fun f => by kernel_rfl) (fun f => by kernel_rfl) fun f11 => ?_
  refine w_cond rfl (fun h12 => ?_) fun h12 => ?_
  · rw [if_pos h12] at hR
    have gh12 := nd1 h12
    refine xr hT [] (fun f13 => ⟨[(4, .one (.c (.v (.bool false))))], [], 40⟩) (fun f => by kernel_rfl) (fun f => by kernel_rfl) fun f13 => ?_
    refine w_ret ?_
    subst hR
    exact x_ret (by kernel_rfl)
  rw [if_neg (nt h12)] at hR
  have gh12 := nd0 h12
  refine w_skip ?_
  refine w_seq ?_
  refine xr hT [] (fun f14 => ⟨[(2, .one (.pt 2 (f1 0 0) 0)), (3, .one (.pt 3 (f1 1 0) 0)), (29, .one (.c (.v (.bool (!decide (p0.From = p1.From))))))], [(2, some (f1 0 0, .box (FlyStep.cs .bor p0))), (3, some (f1 1 0, .box (FlyStep.cs .bor p1)))], 40⟩) (fun f => by kernel_rfl) (fun f => by kernel_rfl) fun f14 => ?_
  refine w_cond rfl (fun h15 => ?_) fun h15 => ?_
  · rw [if_pos h15] at hR
    have gh15 := nd1 h15
    refine xr hT [] (fun f16 => ⟨[(4, .one (.c (.v (.bool false))))], [], 40⟩) (fun f => by kernel_rfl) (fun f => by kernel_rfl) fun f16 => ?_
    refine w_ret ?_
    subst hR
    exact x_ret (by kernel_rfl)
  rw [if_neg (nt h15)] at hR
  have gh15 := nd0 h15
  refine w_skip ?_
  refine w_seq ?_
  refine xr hT [] (fun f17 => ⟨[(2, .one (.pt 2 (f1 0 0) 0)), (3, .one (.pt 3 (f1 1 0) 0)), (34, .one (.c (.v (.bool (!decide (p0.By = p1.By))))))], [(2, some (f1 0 0, .box (FlyStep.cs .bor p0))), (3, some (f1 1 0, .box (FlyStep.cs .bor p1)))], 40⟩) (fun f => by kernel_rfl) (fun f => by kernel_rfl) fun f17 => ?_
  refine w_cond rfl (fun h18 => ?_) fun h18 => ?_
  · rw [if_pos h18] at hR
    have gh18 := nd1 h18
    refine xr hT [] (fun f19 => ⟨[(4, .one (.c (.v (.bool false))))], [], 40⟩) (fun f => by kernel_rfl) (fun f => by kernel_rfl) fun f19 => ?_
    refine w_ret ?_
    subst hR
    exact x_ret (by kernel_rfl)
  rw [if_neg (nt h18)] at hR
  have gh18 := nd0 h18
  refine w_skip ?_
  refine w_seq ?_
  refine xr hT [.und Proofs.Try.underlying4] (fun f20 => ⟨[(39, .one (.c (.v (.bool (!(p0.Hold == p1.Hold))))))], [], 40⟩) (fun f => by kernel_rfl) (fun f => by kernel_rfl) fun f20 => ?_
  refine w_cond rfl (fun h21 => ?_) fun h21 => ?_
  · rw [if_pos h21] at hR
    refine xr hT [] (fun f22 => ⟨[(4, .one (.c (.v (.bool false))))], [], 40⟩) (fun f => by kernel_rfl) (fun f => by kernel_rfl) fun f22 => ?_
    refine w_ret ?_
    subst hR
    exact x_ret (by kernel_rfl)
  rw [if_neg (nt h21)] at hR
  refine w_skip ?_
  refine xr hT [] (fun f23 => ⟨[(4, .one (.c (.v (.bool true))))], [], 40⟩) (fun f => by kernel_rfl) (fun f => by kernel_rfl) fun f23 => ?_
  refine w_ret ?_
  subst hR
  exact x_ret (by kernel_rfl)

def laws_eqFlyStepS_I1 (p0 : (List FlyStep)) (p1 : (List FlyStep)) (fs : Nat → Nat → Nat) (i1 : Nat) (s1 : Unit) (x1 : Nat → Nat) : St := ⟨[(0, .one (.c (.sl .bor 7 (p0.map FlyStep.row)))), (1, .one (.c (.sl .bor 7 (p1.map FlyStep.row)))), (5, .one (.c (.v (.int .i64 ((i1 : Nat) : Int)))))], [], 27⟩
def laws_eqFlyStepS_J1 (p0 : (List FlyStep)) (p1 : (List FlyStep)) (fs : Nat → Nat → Nat) (s1 : Unit) (x1 : Nat → Nat) : St := ⟨[], [], 27⟩
def laws_eqFlyStepS_b1 (p0 : (List FlyStep)) (p1 : (List FlyStep)) (i1 : Nat) (s1 : Unit) : Res (Unit) Bool := (if !(laws_eqFlyStep (p0.getD i1 default) (p1.getD i1 default)) then (.ret false) else (.next ()))
def laws_eqFlyStepS_r1 (p0 : (List FlyStep)) (p1 : (List FlyStep)) (s1 : Unit) : Bool := true
/-- laws.eqFlyStepS -/
def laws_eqFlyStepS (p0 : (List FlyStep)) (p1 : (List FlyStep)) : Bool := (if !decide ((p0.length : Int) = (p1.length : Int)) then false else (Res.fin (laws_eqFlyStepS_r1 p0 p1) (forN (laws_eqFlyStepS_b1 p0 p1) (p0.length - 0) 0 ())))
theorem c105 (p0 : (List FlyStep)) (p1 : (List FlyStep)) (k0_0 : p0.length ≤ 1048576) (k1_0 : p1.length ≤ 1048576) : Fn Proofs.Try.prog 105 [⟨.val, false, [.sl .bor 7 (p0.map FlyStep.row)]⟩, ⟨.val, false, [.sl .bor 7 (p1.map FlyStep.row)]⟩] [.c (.v (.bool (laws_eqFlyStepS p0 p1)))] [] := by
  obtain ⟨R, hR⟩ : ∃ R, R = laws_eqFlyStepS p0 p1 := ⟨_, rfl⟩
  rw [← hR]
  rw [laws_eqFlyStepS] at hR
  refine ⟨fn_intro hT Proofs.Try.func105 rfl rfl fun fs => ?_, _, Proofs.Try.func105, rfl, rfl⟩
  refine xr hT [] (fun f1 => ⟨[(0, .one (.c (.sl .bor 7 (p0.map FlyStep.row)))), (1, .one (.c (.sl .bor 7 (p1.map FlyStep.row))))], [], 27⟩) (fun f => by kernel_rfl) (fun f => by kernel_rfl) fun f1 => ?_
  refine w_seq ?_
  refine xr hT [.ln FlyStep.row p0, .ln FlyStep.row p1] (fun f2 => ⟨[(0, .one (.c (.sl .bor 7 (p0.map FlyStep.row)))), (1, .one (.c (.sl .bor 7 (p1.map FlyStep.row)))), (10, .one (.c (.v (.bool (!decide ((p0.length : Int) = (p1.length : Int)))))))], [], 27⟩) (fun f => by kernel_rfl) (fun f => by kernel_rfl) fun f2 => ?_
  refine w_cond rfl (fun h3 => ?_) fun h3 => ?_
  · rw [if_pos h3] at hR
    have gh3 := nd1 h3
    refine xr hT [] (fun f4 => ⟨[(4, .one (.c (.v (.bool false))))], [], 27⟩) (fun f => by kernel_rfl) (fun f => by kernel_rfl) fun f4 => ?_
    refine w_ret ?_
    subst hR
    exact x_ret (by kernel_rfl)
  rw [if_neg (nt h3)] at hR
  have gh3 := nd0 h3
  refine w_skip ?_
  refine w_seq ?_
  refine xr hT [] (fun f5 => ⟨[(0, .one (.c (.sl .bor 7 (p0.map FlyStep.row)))), (1, .one (.c (.sl .bor 7 (p1.map FlyStep.row)))), (5, .one (.c (.v (.int .i64 0))))], [], 27⟩) (fun f => by kernel_rfl) (fun f => by kernel_rfl) fun f5 => ?_
  refine w_forT (fun _ => rfl) (laws_eqFlyStepS_I1 p0 p1 fs) (laws_eqFlyStepS_J1 p0 p1 fs) (fun i1 s1 => True) (fun s1 => True) (p0.length) 0 (laws_eqFlyStepS_b1 p0 p1) (laws_eqFlyStepS_r1 p0 p1) 0 (()) (lst []) (sb (by kernel_rfl)) trivial hR ?_ ?_
  · skip
    intro i1 s1 x1 hI1 hX1
    refine w_seq ?_
    refine xr hT [.ln FlyStep.row p0] (fun f6 => ⟨[(0, .one (.c (.sl .bor 7 (p0.map FlyStep.row)))), (1, .one (.c (.sl .bor 7 (p1.map FlyStep.row)))), (5, .one (.c (.v (.int .i64 ((i1 : Nat) : Int))))), (14, .one (.c (.v (.bool (decide (((i1 : Nat) : Int) < (p0.length : Int)))))))], [], 27⟩) (fun f => by kernel_rfl) (fun f => by kernel_rfl) fun f6 => ?_
    refine w_cond rfl (fun h7 => ?_) fun h7 => ?_
    · skip
      have hl1 : i1 < p0.length := by have hq := of_decide_eq_true h7; first | omega | ((try simp only [LN] at *); omega)
      obtain ⟨B1, hB1⟩ : ∃ B, B = laws_eqFlyStepS_b1 p0 p1 i1 s1 := ⟨_, rfl⟩
      have hE1 := hB1
      rw [laws_eqFlyStepS_b1] at hE1
      refine w_skip ?_
      refine w_seq ?_
      refine w_block ?_
      refine xd hT hM [ix FlyStep.row p0 i1 (by omega), ix FlyStep.row p1 i1 (by omega), ca (c179 (p0.getD i1 default) (p1.getD i1 default))] (fun f8 => ⟨[(0, .one (.c (.sl .bor 7 (p0.map FlyStep.row)))), (1, .one (.c (.sl .bor 7 (p1.map FlyStep.row)))), (5, .one (.c (.v (.int .i64 ((i1 : Nat) : Int))))), (26, .one (.c (.v (.bool (!(laws_eqFlyStep (p0.getD i1 default) (p1.getD i1 default)))))))], [], 27⟩) (fun f => by kernel_rfl) (fun f => by kernel_rfl) (fun f => by kernel_rfl) fun f8 => ?_
      refine w_cond rfl (fun h9 => ?_) fun h9 => ?_
      · rw [if_pos h9] at hE1
        refine xr hT [] (fun f10 => ⟨[(4, .one (.c (.v (.bool false))))], [], 27⟩) (fun f => by kernel_rfl) (fun f => by kernel_rfl) fun f10 => ?_
        refine w_ret ?_
        have hR := hX1.trans (forN_ret hl1 (hB1.symm.trans hE1))
        subst hR
        exact x_ret (by kernel_rfl)
      rw [if_neg (nt h9)] at hE1
      refine w_skip ?_
      refine x_reg hT [.ex true (((i1 : Nat) : Int) + ((1 : Nat) : Int)) ((((i1 + 1) : Nat) : Int)) (fun _ => wr_nat (n := i1) (c := 1) (by omega))] (fun f11 => laws_eqFlyStepS_I1 p0 p1 fs (i1 + 1) () (lst [])) (fun f => by kernel_rfl) (fun f => by kernel_rfl) fun f11 s' hs' => ?_
      exact ⟨(), (lst []), hl1, trivial, hX1.trans (forN_next hl1 (hB1.symm.trans hE1)), hs'⟩
    have hq := of_decide_eq_false h7
    refine w_exit ?_
    exact ⟨s1, (lst []), trivial, hX1.trans (forN_end (by first | omega | ((try simp only [LN] at *); omega))), sb (by kernel_rfl)⟩
  intro s1 x1 hF14 hR12
  rw [laws_eqFlyStepS_r1] at hR12
  refine xr hT [] (fun f13 => ⟨[(4, .one (.c (.v (.bool true))))], [], 27⟩) (fun f => by kernel_rfl) (fun f => by kernel_rfl) fun f13 => ?_
  refine w_ret ?_
  subst hR12
  exact x_ret (by kernel_rfl)

/-- laws.eqFlyPath -/
def laws_eqFlyPath (p0 : FlyPath) (p1 : FlyPath) : Bool := (if !(laws_eqFlyKind p0.Kind p1.Kind) then false else (if !(laws_eqFlyStepS p0.Steps p1.Steps) then false else (if !decide (p0.From = p1.From) then false else (if !decide (p0.By = p1.By) then false else true))))
theorem c27 (p0 : FlyPath) (p1 : FlyPath) (k0_0 : FlyPath.ok p0) (k1_0 : FlyPath.ok p1) : Fn Proofs.Try.prog 27 [⟨.val, true, FlyPath.cs .bor p0⟩, ⟨.val, true, FlyPath.cs .bor p1⟩] [.c (.v (.bool (laws_eqFlyPath p0 p1)))] [] := by
  obtain ⟨R, hR⟩ : ∃ R, R = laws_eqFlyPath p0 p1 := ⟨_, rfl⟩
  rw [← hR]
  rw [laws_eqFlyPath] at hR
  refine ⟨fn_intro hT Proofs.Try.func27 rfl rfl fun fs => ?_, _, Proofs.Try.func27, rfl, rfl⟩
  have q0 := k0_0; simp only [FlyPath.ok] at q0
  have q1 := k1_0; simp only [FlyPath.ok] at q1
  refine xr hT [] (fun f1 => ⟨[(2, .one (.pt 2 (f1 0 0) 0)), (3, .one (.pt 3 (f1 1 0) 0))], [(2, some (f1 0 0, .box (FlyPath.cs .bor p0))), (3, some (f1 1 0, .box (FlyPath.cs .bor p1)))], 27⟩) (fun f => by kernel_rfl) (fun f => by kernel_rfl) fun f1 => ?_
  refine w_seq ?_
  refine xr hT [ca (c104 p0.Kind p1.Kind)] (fun f2 => ⟨[(2, .one (.pt 2 (f1 0 0) 0)), (3, .one (.pt 3 (f1 1 0) 0)), (10, .one (.c (.v (.bool (!(laws_eqFlyKind p0.Kind p1.Kind))))))], [(2, some (f1 0 0, .box (FlyPath.cs .bor p0))), (3, some (f1 1 0, .box (FlyPath.cs .bor p1)))], 27⟩) (fun f => by kernel_rfl) (fun f => by kernel_rfl) fun f2 => ?_
  refine w_cond rfl (fun h3 => ?_) fun h3 => ?_
  · rw [if_pos h3] at hR
    refine xr hT [] (fun f4 => ⟨[(4, .one (.c (.v (.bool false))))], [], 27⟩) (fun f => by kernel_rfl) (fun f => by kernel_rfl) fun f4 => ?_
    refine w_ret ?_
    subst hR
    exact x_ret (by kernel_rfl)
  rw [if_neg (nt h3)] at hR
  refine w_skip ?_
  refine w_seq ?_
  refine xr hT [ca (c105 p0.Steps p1.Steps (by omega) (by omega))] (fun f5 => ⟨[(2, .one (.pt 2 (f1 0 0) 0)), (3, .one (.pt 3 (f1 1 0) 0)), (16, .one (.c (.v (.bool (!(laws_eqFlyStepS p0.Steps p1.Steps))))))], [(2, some (f1 0 0, .box (FlyPath.cs .bor p0))), (3, some (f1 1 0, .box (FlyPath.cs .bor p1)))], 27⟩) (fun f => by kernel_rfl) (fun f => by kernel_rfl) fun f5 => ?_
  refine w_cond rfl (fun h6 => ?_) fun h6 => ?_
  · rw [if_pos h6] at hR
    refine xr hT [] (fun f7 => ⟨[(4, .one (.c (.v (.bool false))))], [], 27⟩) (fun f => by kernel_rfl) (fun f => by kernel_rfl) fun f7 => ?_
    refine w_ret ?_
    subst hR
    exact x_ret (by kernel_rfl)
  rw [if_neg (nt h6)] at hR
  refine w_skip ?_
  refine w_seq ?_
  refine xr hT [] (fun f8 => ⟨[(2, .one (.pt 2 (f1 0 0) 0)), (3, .one (.pt 3 (f1 1 0) 0)), (21, .one (.c (.v (.bool (!decide (p0.From = p1.From))))))], [(2, some (f1 0 0, .box (FlyPath.cs .bor p0))), (3, some (f1 1 0, .box (FlyPath.cs .bor p1)))], 27⟩) (fun f => by kernel_rfl) (fun f => by kernel_rfl) fun f8 => ?_
  refine w_cond rfl (fun h9 => ?_) fun h9 => ?_
  · rw [if_pos h9] at hR
    have gh9 := nd1 h9
    refine xr hT [] (fun f10 => ⟨[(4, .one (.c (.v (.bool false))))], [], 27⟩) (fun f => by kernel_rfl) (fun f => by kernel_rfl) fun f10 => ?_
    refine w_ret ?_
    subst hR
    exact x_ret (by kernel_rfl)
  rw [if_neg (nt h9)] at hR
  have gh9 := nd0 h9
  refine w_skip ?_
  refine w_seq ?_
  refine xr hT [] (fun f11 => ⟨[(26, .one (.c (.v (.bool (!decide (p0.By = p1.By))))))], [], 27⟩) (fun f => by kernel_rfl) (fun f => by kernel_rfl) fun f11 => ?_
  refine w_cond rfl (fun h12 => ?_) fun h12 => ?_
  · rw [if_pos h12] at hR
    have gh12 := nd1 h12
    refine xr hT [] (fun f13 => ⟨[(4, .one (.c (.v (.bool false))))], [], 27⟩) (fun f => by kernel_rfl) (fun f => by kernel_rfl) fun f13 => ?_
    refine w_ret ?_
    subst hR
    exact x_ret (by kernel_rfl)
  rw [if_neg (nt h12)] at hR
  have gh12 := nd0 h12
  refine w_skip ?_
  refine xr hT [] (fun f14 => ⟨[(4, .one (.c (.v (.bool true))))], [], 27⟩) (fun f => by kernel_rfl) (fun f => by kernel_rfl) fun f14 => ?_
  refine w_ret ?_
  subst hR
  exact x_ret (by kernel_rfl)

def laws_eqIntS_I1 (p0 : (List Int)) (p1 : (List Int)) (fs : Nat → Nat → Nat) (i1 : Nat) (s1 : Unit) (x1 : Nat → Nat) : St := ⟨[(0, .one (.c (.sl .bor 1 (p0.map Int.row)))), (1, .one (.c (.sl .bor 1 (p1.map Int.row)))), (5, .one (.c (.v (.int .i64 ((i1 : Nat) : Int)))))], [], 26⟩
def laws_eqIntS_J1 (p0 : (List Int)) (p1 : (List Int)) (fs : Nat → Nat → Nat) (s1 : Unit) (x1 : Nat → Nat) : St := ⟨[], [], 26⟩
def laws_eqIntS_b1 (p0 : (List Int)) (p1 : (List Int)) (i1 : Nat) (s1 : Unit) : Res (Unit) Bool := (if !decide ((p0.getD i1 default) = (p1.getD i1 default)) then (.ret false) else (.next ()))
def laws_eqIntS_r1 (p0 : (List Int)) (p1 : (List Int)) (s1 : Unit) : Bool := true
/-- laws.eqIntS -/
def laws_eqIntS (p0 : (List Int)) (p1 : (List Int)) : Bool := (if !decide ((p0.length : Int) = (p1.length : Int)) then false else (Res.fin (laws_eqIntS_r1 p0 p1) (forN (laws_eqIntS_b1 p0 p1) (p0.length - 0) 0 ())))
theorem c91 (p0 : (List Int)) (p1 : (List Int)) (k0_0 : p0.length ≤ 1048576) (k1_0 : p1.length ≤ 1048576) : Fn Proofs.Try.prog 91 [⟨.val, false, [.sl .bor 1 (p0.map Int.row)]⟩, ⟨.val, false, [.sl .bor 1 (p1.map Int.row)]⟩] [.c (.v (.bool (laws_eqIntS p0 p1)))] [] := by
  obtain ⟨R, hR⟩ : ∃ R, R = laws_eqIntS p0 p1 := ⟨_, rfl⟩
  rw [← hR]
  rw [laws_eqIntS] at hR
  refine ⟨fn_intro hT Proofs.Try.func91 rfl rfl fun fs => ?_, _, Proofs.Try.func91, rfl, rfl⟩
  refine xr hT [] (fun f1 => ⟨[(0, .one (.c (.sl .bor 1 (p0.map Int.row)))), (1, .one (.c (.sl .bor 1 (p1.map Int.row))))], [], 26⟩) (fun f => by kernel_rfl) (fun f => by kernel_rfl) fun f1 => ?_
  refine w_seq ?_
  refine xr hT [.ln Int.row p0, .ln Int.row p1] (fun f2 => ⟨[(0, .one (.c (.sl .bor 1 (p0.map Int.row)))), (1, .one (.c (.sl .bor 1 (p1.map Int.row)))), (10, .one (.c (.v (.bool (!decide ((p0.length : Int) = (p1.length : Int)))))))], [], 26⟩) (fun f => by kernel_rfl) (fun f => by kernel_rfl) fun f2 => ?_
  refine w_cond rfl (fun h3 => ?_) fun h3 => ?_
  · rw [if_pos h3] at hR
    have gh3 := nd1 h3
    refine xr hT [] (fun f4 => ⟨[(4, .one (.c (.v (.bool false))))], [], 26⟩) (fun f => by kernel_rfl) (fun f => by kernel_rfl) fun f4 => ?_
    refine w_ret ?_
    subst hR
    exact x_ret (by kernel_rfl)
  rw [if_neg (nt h3)] at hR
  have gh3 := nd0 h3
  refine w_skip ?_
  refine w_seq ?_
  refine xr hT [] (fun f5 => ⟨[(0, .one (.c (.sl .bor 1 (p0.map Int.row)))), (1, .one (.c (.sl .bor 1 (p1.map Int.row)))), (5, .one (.c (.v (.int .i64 0))))], [], 26⟩) (fun f => by kernel_rfl) (fun f => by kernel_rfl) fun f5 => ?_
  refine w_forT (fun _ => rfl) (laws_eqIntS_I1 p0 p1 fs) (laws_eqIntS_J1 p0 p1 fs) (fun i1 s1 => True) (fun s1 => True) (p0.length) 0 (laws_eqIntS_b1 p0 p1) (laws_eqIntS_r1 p0 p1) 0 (()) (lst []) (sb (by kernel_rfl)) trivial hR ?_ ?_
  · skip
    intro i1 s1 x1 hI1 hX1
    refine w_seq ?_
    refine xr hT [.ln Int.row p0] (fun f6 => ⟨[(0, .one (.c (.sl .bor 1 (p0.map Int.row)))), (1, .one (.c (.sl .bor 1 (p1.map Int.row)))), (5, .one (.c (.v (.int .i64 ((i1 : Nat) : Int))))), (14, .one (.c (.v (.bool (decide (((i1 : Nat) : Int) < (p0.length : Int)))))))], [], 26⟩) (fun f => by kernel_rfl) (fun f => by kernel_rfl) fun f6 => ?_
    refine w_cond rfl (fun h7 => ?_) fun h7 => ?_
    · skip
      have hl1 : i1 < p0.length := by have hq := of_decide_eq_true h7; first | omega | ((try simp only [LN] at *); omega)
      obtain ⟨B1, hB1⟩ : ∃ B, B = laws_eqIntS_b1 p0 p1 i1 s1 := ⟨_, rfl⟩
      have hE1 := hB1
      rw [laws_eqIntS_b1] at hE1
      refine w_skip ?_
      refine w_seq ?_
      refine w_block ?_
      refine xd hT hM [ix Int.row p0 i1 (by omega), ix Int.row p1 i1 (by omega)] (fun f8 => ⟨[(0, .one (.c (.sl .bor 1 (p0.map Int.row)))), (1, .one (.c (.sl .bor 1 (p1.map Int.row)))), (5, .one (.c (.v (.int .i64 ((i1 : Nat) : Int))))), (25, .one (.c (.v (.bool (!decide ((p0.getD i1 default) = (p1.getD i1 default)))))))], [], 26⟩) (fun f => by kernel_rfl) (fun f => by kernel_rfl) (fun f => by kernel_rfl) fun f8 => ?_
      refine w_cond rfl (fun h9 => ?_) fun h9 => ?_
      · rw [if_pos h9] at hE1
        have gh9 := nd1 h9
        refine xr hT [] (fun f10 => ⟨[(4, .one (.c (.v (.bool false))))], [], 26⟩) (fun f => by kernel_rfl) (fun f => by kernel_rfl) fun f10 => ?_
        refine w_ret ?_
        have hR := hX1.trans (forN_ret hl1 (hB1.symm.trans hE1))
        subst hR
        exact x_ret (by kernel_rfl)
      rw [if_neg (nt h9)] at hE1
      have gh9 := nd0 h9
      refine w_skip ?_
      refine x_reg hT [.ex true (((i1 : Nat) : Int) + ((1 : Nat) : Int)) ((((i1 + 1) : Nat) : Int)) (fun _ => wr_nat (n := i1) (c := 1) (by omega))] (fun f11 => laws_eqIntS_I1 p0 p1 fs (i1 + 1) () (lst [])) (fun f => by kernel_rfl) (fun f => by kernel_rfl) fun f11 s' hs' => ?_
      exact ⟨(), (lst []), hl1, trivial, hX1.trans (forN_next hl1 (hB1.symm.trans hE1)), hs'⟩
    have hq := of_decide_eq_false h7
    refine w_exit ?_
    exact ⟨s1, (lst []), trivial, hX1.trans (forN_end (by first | omega | ((try simp only [LN] at *); omega))), sb (by kernel_rfl)⟩
  intro s1 x1 hF14 hR12
  rw [laws_eqIntS_r1] at hR12
  refine xr hT [] (fun f13 => ⟨[(4, .one (.c (.v (.bool true))))], [], 26⟩) (fun f => by kernel_rfl) (fun f => by kernel_rfl) fun f13 => ?_
  refine w_ret ?_
  subst hR12
  exact x_ret (by kernel_rfl)

/-- laws.eqLinkCraft -/
def laws_eqLinkCraft (p0 : LinkCraft) (p1 : LinkCraft) : Bool := (if !(p0.Name.toList == p1.Name.toList) then false else (if !decide (p0.Number = p1.Number) then false else (if !decide (p0.No = p1.No) then false else (if !(laws_eqFlyPath p0.Path p1.Path) then false else (if !(laws_eqIntS p0.Flown p1.Flown) then false else true)))))
theorem c19 (p0 : LinkCraft) (p1 : LinkCraft) (k0_0 : LinkCraft.ok p0) (k1_0 : LinkCraft.ok p1) : Fn Proofs.Try.prog 19 [⟨.val, true, LinkCraft.cs .bor p0⟩, ⟨.val, true, LinkCraft.cs .bor p1⟩] [.c (.v (.bool (laws_eqLinkCraft p0 p1)))] [] := by
  obtain ⟨R, hR⟩ : ∃ R, R = laws_eqLinkCraft p0 p1 := ⟨_, rfl⟩
  rw [← hR]
  rw [laws_eqLinkCraft] at hR
  refine ⟨fn_intro hT Proofs.Try.func19 rfl rfl fun fs => ?_, _, Proofs.Try.func19, rfl, rfl⟩
  have q0 := k0_0; simp only [LinkCraft.ok] at q0
  have q1 := k1_0; simp only [LinkCraft.ok] at q1
  refine xr hT [] (fun f1 => ⟨[(2, .one (.pt 2 (f1 0 0) 0)), (3, .one (.pt 3 (f1 1 0) 0))], [(2, some (f1 0 0, .box (LinkCraft.cs .bor p0))), (3, some (f1 1 0, .box (LinkCraft.cs .bor p1)))], 32⟩) (fun f => by kernel_rfl) (fun f => by kernel_rfl) fun f1 => ?_
  refine w_seq ?_
  refine xr hT [] (fun f2 => ⟨[(2, .one (.pt 2 (f1 0 0) 0)), (3, .one (.pt 3 (f1 1 0) 0)), (9, .one (.c (.v (.bool (!(p0.Name.toList == p1.Name.toList))))))], [(2, some (f1 0 0, .box (LinkCraft.cs .bor p0))), (3, some (f1 1 0, .box (LinkCraft.cs .bor p1)))], 32⟩) (fun f => by kernel_rfl) (fun f => by kernel_rfl) fun f2 => ?_
  refine w_cond rfl (fun h3 => ?_) fun h3 => ?_
  · rw [if_pos h3] at hR
    refine xr hT [] (fun f4 => ⟨[(4, .one (.c (.v (.bool false))))], [], 32⟩) (fun f => by kernel_rfl) (fun f => by kernel_rfl) fun f4 => ?_
    refine w_ret ?_
    subst hR
    exact x_ret (by kernel_rfl)
  rw [if_neg (nt h3)] at hR
  refine w_skip ?_
  refine w_seq ?_
  refine xr hT [] (fun f5 => ⟨[(2, .one (.pt 2 (f1 0 0) 0)), (3, .one (.pt 3 (f1 1 0) 0)), (14, .one (.c (.v (.bool (!decide (p0.Number = p1.Number))))))], [(2, some (f1 0 0, .box (LinkCraft.cs .bor p0))), (3, some (f1 1 0, .box (LinkCraft.cs .bor p1)))], 32⟩) (fun f => by kernel_rfl) (fun f => by kernel_rfl) fun f5 => ?_
  refine w_cond rfl (fun h6 => ?_) fun h6 => ?_
  · rw [if_pos h6] at hR
    have gh6 := nd1 h6
    refine xr hT [] (fun f7 => ⟨[(4, .one (.c (.v (.bool false))))], [], 32⟩) (fun f => by kernel_rfl) (fun f => by kernel_rfl) fun f7 => ?_
    refine w_ret ?_
    subst hR
    exact x_ret (by kernel_rfl)
  rw [if_neg (nt h6)] at hR
  have gh6 := nd0 h6
  refine w_skip ?_
  refine w_seq ?_
  refine xr hT [] (fun f8 => ⟨[(2, .one (.pt 2 (f1 0 0) 0)), (3, .one (.pt 3 (f1 1 0) 0)), (19, .one (.c (.v (.bool (!decide (p0.No = p1.No))))))], [(2, some (f1 0 0, .box (LinkCraft.cs .bor p0))), (3, some (f1 1 0, .box (LinkCraft.cs .bor p1)))], 32⟩) (fun f => by kernel_rfl) (fun f => by kernel_rfl) fun f8 => ?_
  refine w_cond rfl (fun h9 => ?_) fun h9 => ?_
  · rw [if_pos h9] at hR
    have gh9 := nd1 h9
    refine xr hT [] (fun f10 => ⟨[(4, .one (.c (.v (.bool false))))], [], 32⟩) (fun f => by kernel_rfl) (fun f => by kernel_rfl) fun f10 => ?_
    refine w_ret ?_
    subst hR
    exact x_ret (by kernel_rfl)
  rw [if_neg (nt h9)] at hR
  have gh9 := nd0 h9
  refine w_skip ?_
  refine w_seq ?_
  refine xr hT [ca (c27 p0.Path p1.Path (by first | assumption | exact (by omega : p0.Path.Steps.length ≤ 1048576)) (by first | assumption | exact (by omega : p1.Path.Steps.length ≤ 1048576)))] (fun f11 => ⟨[(2, .one (.pt 2 (f1 0 0) 0)), (3, .one (.pt 3 (f1 1 0) 0)), (25, .one (.c (.v (.bool (!(laws_eqFlyPath p0.Path p1.Path))))))], [(2, some (f1 0 0, .box (LinkCraft.cs .bor p0))), (3, some (f1 1 0, .box (LinkCraft.cs .bor p1)))], 32⟩) (fun f => by kernel_rfl) (fun f => by kernel_rfl) fun f11 => ?_
  refine w_cond rfl (fun h12 => ?_) fun h12 => ?_
  · rw [if_pos h12] at hR
    refine xr hT [] (fun f13 => ⟨[(4, .one (.c (.v (.bool false))))], [], 32⟩) (fun f => by kernel_rfl) (fun f => by kernel_rfl) fun f13 => ?_
    refine w_ret ?_
    subst hR
    exact x_ret (by kernel_rfl)
  rw [if_neg (nt h12)] at hR
  refine w_skip ?_
  refine w_seq ?_
  refine xr hT [ca (c91 p0.Flown p1.Flown (by omega) (by omega))] (fun f14 => ⟨[(31, .one (.c (.v (.bool (!(laws_eqIntS p0.Flown p1.Flown))))))], [], 32⟩) (fun f => by kernel_rfl) (fun f => by kernel_rfl) fun f14 => ?_
  refine w_cond rfl (fun h15 => ?_) fun h15 => ?_
  · rw [if_pos h15] at hR
    refine xr hT [] (fun f16 => ⟨[(4, .one (.c (.v (.bool false))))], [], 32⟩) (fun f => by kernel_rfl) (fun f => by kernel_rfl) fun f16 => ?_
    refine w_ret ?_
    subst hR
    exact x_ret (by kernel_rfl)
  rw [if_neg (nt h15)] at hR
  refine w_skip ?_
  refine xr hT [] (fun f17 => ⟨[(4, .one (.c (.v (.bool true))))], [], 32⟩) (fun f => by kernel_rfl) (fun f => by kernel_rfl) fun f17 => ?_
  refine w_ret ?_
  subst hR
  exact x_ret (by kernel_rfl)

/-- laws.FnExactLinkMust -/
def laws_FnExactLinkMust (p0 : LinkCraft) (p1 : Int) : Bool := (if decide ((laws_szLinkCraft p0 1048576) < 0) then true else (if !((impl_LinkMust (laws_toLinkCraft p0) p1) == (spec_LinkMust (laws_toLinkCraft p0) p1)) then false else (if !(laws_eqLinkCraft (laws_toLinkCraft p0) (laws_toLinkCraft p0)) then false else true)))
set_option maxHeartbeats 1600000 in
theorem c3 (p0 : LinkCraft) (p1 : Int) (k0_0 : LinkCraft.big p0) : Fn Proofs.Try.prog 3 [⟨.val, true, LinkCraft.cs .bor p0⟩, ⟨.val, false, [.v (.int .i64 p1)]⟩] [.c (.v (.bool (laws_FnExactLinkMust p0 p1)))] [] := by
  obtain ⟨R, hR⟩ : ∃ R, R = laws_FnExactLinkMust p0 p1 := ⟨_, rfl⟩
  rw [← hR]
  rw [laws_FnExactLinkMust] at hR
  refine ⟨fn_intro hT Proofs.Try.func3 rfl rfl fun fs => ?_, _, Proofs.Try.func3, rfl, rfl⟩
  have q0 := k0_0; simp only [LinkCraft.big] at q0
  refine xr hT [] (fun f1 => ⟨[(1, .one (.c (.v (.int .i64 p1)))), (2, .one (.pt 2 (f1 0 0) 0))], [(2, some (f1 0 0, .box (LinkCraft.cs .bor p0)))], 31⟩) (fun f => by kernel_rfl) (fun f => by kernel_rfl) fun f1 => ?_
  refine xr hT [] (fun f2 => ⟨[(1, .one (.c (.v (.int .i64 p1)))), (2, .one (.pt 2 (f1 0 0) 0)), (5, .one (.c (.v (.int .i64 1048576))))], [(2, some (f1 0 0, .box (LinkCraft.cs .bor p0)))], 31⟩) (fun f => by kernel_rfl) (fun f => by kernel_rfl) fun f2 => ?_
  refine xr hT [ca (c15 p0 1048576 (by first | assumption | exact ⟨(by omega : p0.Name.size ≤ 9223372036854775807), (by omega : p0.Path.Steps.length ≤ 9223372036854775807), (by omega : p0.Flown.length ≤ 9223372036854775807)⟩))] (fun f3 => ⟨[(1, .one (.c (.v (.int .i64 p1)))), (2, .one (.pt 2 (f1 0 0) 0)), (5, .one (.c (.v (.int .i64 (laws_szLinkCraft p0 1048576)))))], [(2, some (f1 0 0, .box (LinkCraft.cs .bor p0)))], 31⟩) (fun f => by kernel_rfl) (fun f => by kernel_rfl) fun f3 => ?_
  refine w_seq ?_
  refine xr hT [] (fun f4 => ⟨[(1, .one (.c (.v (.int .i64 p1)))), (2, .one (.pt 2 (f1 0 0) 0)), (13, .one (.c (.v (.bool (decide ((laws_szLinkCraft p0 1048576) < 0))))))], [(2, some (f1 0 0, .box (LinkCraft.cs .bor p0)))], 31⟩) (fun f => by kernel_rfl) (fun f => by kernel_rfl) fun f4 => ?_
  refine w_cond rfl (fun h5 => ?_) fun h5 => ?_
  · rw [if_pos h5] at hR
    have gh5 := of_decide_eq_true h5
    refine xr hT [] (fun f6 => ⟨[(4, .one (.c (.v (.bool true))))], [], 31⟩) (fun f => by kernel_rfl) (fun f => by kernel_rfl) fun f6 => ?_
    refine w_ret ?_
    subst hR
    exact x_ret (by kernel_rfl)
  rw [if_neg (nt h5)] at hR
  have gh5 := of_decide_eq_false h5
  have ok0 := (f_laws_szLinkCraft p0 1048576 k0_0 (by omega) (by omega) (by omega)).1
  refine w_skip ?_
  refine xr hT [ca (c17 p0 (by first | assumption | exact ⟨(by omega : p0.Path.Steps.length ≤ 1048576), (by omega : p0.Flown.length ≤ 1048576)⟩)), ca (c16 (laws_toLinkCraft p0) p1 (by first | assumption | exact ⟨(show ((laws_toLinkCraft p0).Path.Steps).length ≤ 1048576 from by (try simp only [LN, f_laws_toLinkCraft, impl_LinkMust, spec_LinkMust]); omega), (show ((laws_toLinkCraft p0).Flown).length ≤ 1048576 from by (try simp only [LN, f_laws_toLinkCraft, impl_LinkMust, spec_LinkMust]); omega)⟩))] (fun f7 => ⟨[(1, .one (.c (.v (.int .i64 p1)))), (2, .one (.pt 2 (f1 0 0) 0)), (6, .one (.c (.v (.bool (spec_LinkMust (laws_toLinkCraft p0) p1)))))], [(2, some (f1 0 0, .box (LinkCraft.cs .bor p0)))], 31⟩) (fun f => by kernel_rfl) (fun f => by kernel_rfl) fun f7 => ?_
  refine xr hT [ca (c17 p0 (by first | assumption | exact ⟨(by omega : p0.Path.Steps.length ≤ 1048576), (by omega : p0.Flown.length ≤ 1048576)⟩))] (fun f8 => ⟨[(1, .one (.c (.v (.int .i64 p1)))), (2, .one (.pt 2 (f1 0 0) 0)), (6, .one (.c (.v (.bool (spec_LinkMust (laws_toLinkCraft p0) p1))))), (7, .one (.pt 7 (f8 2 0) 0))], [(2, some (f1 0 0, .box (LinkCraft.cs .bor p0))), (7, some (f8 2 0, .box [.v (.string ((laws_toLinkCraft p0).Name)), .v (.int .i64 ((laws_toLinkCraft p0).Number)), .v (.int .i64 ((laws_toLinkCraft p0).No)), .v (.int .i64 ((laws_toLinkCraft p0).Path.Kind.Quick)), .v (.int .i64 ((laws_toLinkCraft p0).Path.Kind.Slow)), .mu 2000005 (gk (f8 1) 0 5) 7 0 (((laws_toLinkCraft p0).Path.Steps).map FlyStep.row).length, .v (.int .i64 ((laws_toLinkCraft p0).Path.From)), .v (.int .i64 ((laws_toLinkCraft p0).Path.By)), .mu 2000008 (gk (f8 1) 0 8) 1 0 (((laws_toLinkCraft p0).Flown).map Int.row).length])), (2000005, some (gk (f8 1) 0 5, .arr 7 (((laws_toLinkCraft p0).Path.Steps).map FlyStep.row))), (2000008, some (gk (f8 1) 0 8, .arr 1 (((laws_toLinkCraft p0).Flown).map Int.row)))], 31⟩) (fun f => by kernel_rfl) (fun f => by kernel_rfl) fun f8 => ?_
  refine xr hT [ca (c18 (laws_toLinkCraft p0) p1 (by first | assumption | exact ⟨(show ((laws_toLinkCraft p0).Path.Steps).length ≤ 1048576 from by (try simp only [LN, f_laws_toLinkCraft, impl_LinkMust, spec_LinkMust]); omega), (show ((laws_toLinkCraft p0).Flown).length ≤ 1048576 from by (try simp only [LN, f_laws_toLinkCraft, impl_LinkMust, spec_LinkMust]); omega)⟩))] (fun f9 => ⟨[(2, .one (.pt 2 (f1 0 0) 0)), (6, .one (.c (.v (.bool (spec_LinkMust (laws_toLinkCraft p0) p1))))), (7, .one (.pt 7 (f8 2 0) 0)), (8, .one (.c (.v (.bool (impl_LinkMust (laws_toLinkCraft p0) p1)))))], [(2, some (f1 0 0, .box (LinkCraft.cs .bor p0))), (7, some (f8 2 0, .box [.v (.string ((laws_toLinkCraft p0).Name)), .v (.int .i64 ((laws_toLinkCraft p0).Number)), .v (.int .i64 ((laws_toLinkCraft p0).No)), .v (.int .i64 ((laws_toLinkCraft p0).Path.Kind.Quick)), .v (.int .i64 ((laws_toLinkCraft p0).Path.Kind.Slow)), .mu 2000005 (gk (f8 1) 0 5) 7 0 (((laws_toLinkCraft p0).Path.Steps).map FlyStep.row).length, .v (.int .i64 ((laws_toLinkCraft p0).Path.From)), .v (.int .i64 ((laws_toLinkCraft p0).Path.By)), .mu 2000008 (gk (f8 1) 0 8) 1 0 (((laws_toLinkCraft p0).Flown).map Int.row).length])), (2000005, some (gk (f8 1) 0 5, .arr 7 (((laws_toLinkCraft p0).Path.Steps).map FlyStep.row))), (2000008, some (gk (f8 1) 0 8, .arr 1 (((laws_toLinkCraft p0).Flown).map Int.row)))], 31⟩) (fun f => by kernel_rfl) (fun f => by kernel_rfl) fun f9 => ?_
  refine w_seq ?_
  refine xr hT [.und Proofs.Try.underlying4] (fun f10 => ⟨[(2, .one (.pt 2 (f1 0 0) 0)), (7, .one (.pt 7 (f8 2 0) 0)), (25, .one (.c (.v (.bool (!((impl_LinkMust (laws_toLinkCraft p0) p1) == (spec_LinkMust (laws_toLinkCraft p0) p1)))))))], [(2, some (f1 0 0, .box (LinkCraft.cs .bor p0))), (7, some (f8 2 0, .box [.v (.string ((laws_toLinkCraft p0).Name)), .v (.int .i64 ((laws_toLinkCraft p0).Number)), .v (.int .i64 ((laws_toLinkCraft p0).No)), .v (.int .i64 ((laws_toLinkCraft p0).Path.Kind.Quick)), .v (.int .i64 ((laws_toLinkCraft p0).Path.Kind.Slow)), .mu 2000005 (gk (f8 1) 0 5) 7 0 (((laws_toLinkCraft p0).Path.Steps).map FlyStep.row).length, .v (.int .i64 ((laws_toLinkCraft p0).Path.From)), .v (.int .i64 ((laws_toLinkCraft p0).Path.By)), .mu 2000008 (gk (f8 1) 0 8) 1 0 (((laws_toLinkCraft p0).Flown).map Int.row).length])), (2000005, some (gk (f8 1) 0 5, .arr 7 (((laws_toLinkCraft p0).Path.Steps).map FlyStep.row))), (2000008, some (gk (f8 1) 0 8, .arr 1 (((laws_toLinkCraft p0).Flown).map Int.row)))], 31⟩) (fun f => by kernel_rfl) (fun f => by kernel_rfl) fun f10 => ?_
  refine w_cond rfl (fun h11 => ?_) fun h11 => ?_
  · rw [if_pos h11] at hR
    refine xr hT [] (fun f12 => ⟨[(4, .one (.c (.v (.bool false))))], [], 31⟩) (fun f => by kernel_rfl) (fun f => by kernel_rfl) fun f12 => ?_
    refine w_ret ?_
    subst hR
    exact x_ret (by kernel_rfl)
  rw [if_neg (nt h11)] at hR
  refine w_skip ?_
  refine w_seq ?_
  refine xd hT hM [ca (c17 p0 (by first | assumption | exact ⟨(by omega : p0.Path.Steps.length ≤ 1048576), (by omega : p0.Flown.length ≤ 1048576)⟩)), ca (c19 (laws_toLinkCraft p0) (laws_toLinkCraft p0) (by first | assumption | exact ⟨(show ((laws_toLinkCraft p0).Path.Steps).length ≤ 1048576 from by (try simp only [LN, f_laws_toLinkCraft, impl_LinkMust, spec_LinkMust]); omega), (show ((laws_toLinkCraft p0).Flown).length ≤ 1048576 from by (try simp only [LN, f_laws_toLinkCraft, impl_LinkMust, spec_LinkMust]); omega)⟩) (by first | assumption | exact ⟨(show ((laws_toLinkCraft p0).Path.Steps).length ≤ 1048576 from by (try simp only [LN, f_laws_toLinkCraft, impl_LinkMust, spec_LinkMust]); omega), (show ((laws_toLinkCraft p0).Flown).length ≤ 1048576 from by (try simp only [LN, f_laws_toLinkCraft, impl_LinkMust, spec_LinkMust]); omega)⟩))] (fun f13 => ⟨[(30, .one (.c (.v (.bool (!(laws_eqLinkCraft (laws_toLinkCraft p0) (laws_toLinkCraft p0)))))))], [], 31⟩) (fun f => by kernel_rfl) (fun f => by kernel_rfl) (fun f => by kernel_rfl) fun f13 => ?_
  refine w_cond rfl (fun h14 => ?_) fun h14 => ?_
  · rw [if_pos h14] at hR
    refine xr hT [] (fun f15 => ⟨[(4, .one (.c (.v (.bool false))))], [], 31⟩) (fun f => by kernel_rfl) (fun f => by kernel_rfl) fun f15 => ?_
    refine w_ret ?_
    subst hR
    exact x_ret (by kernel_rfl)
  rw [if_neg (nt h14)] at hR
  refine w_skip ?_
  refine xr hT [] (fun f16 => ⟨[(4, .one (.c (.v (.bool true))))], [], 31⟩) (fun f => by kernel_rfl) (fun f => by kernel_rfl) fun f16 => ?_
  refine w_ret ?_
  subst hR
  exact x_ret (by kernel_rfl)

/-- spec.l11In -/
def spec_l11In (p0 : Int) (p1 : Int) (p2 : Int) : Bool := (decide (p1 ≤ p0)) && (decide (p0 ≤ p2))
theorem c174 (p0 : Int) (p1 : Int) (p2 : Int) : Fn Proofs.Try.prog 174 [⟨.val, false, [.v (.int .i64 p0)]⟩, ⟨.val, false, [.v (.int .i64 p1)]⟩, ⟨.val, false, [.v (.int .i64 p2)]⟩] [.c (.v (.bool (spec_l11In p0 p1 p2)))] [] := by
  obtain ⟨R, hR⟩ : ∃ R, R = spec_l11In p0 p1 p2 := ⟨_, rfl⟩
  rw [← hR]
  rw [spec_l11In] at hR
  refine ⟨fn_intro hT Proofs.Try.func174 rfl rfl fun fs => ?_, _, Proofs.Try.func174, rfl, rfl⟩
  refine xr hT [] (fun f1 => ⟨[(0, .one (.c (.v (.int .i64 p0)))), (1, .one (.c (.v (.int .i64 p1)))), (2, .one (.c (.v (.int .i64 p2))))], [], 15⟩) (fun f => by kernel_rfl) (fun f => by kernel_rfl) fun f1 => ?_
  refine xr hT [] (fun f2 => ⟨[(6, .one (.c (.v (.bool ((decide (p1 ≤ p0)) && (decide (p0 ≤ p2)))))))], [], 15⟩) (fun f => by kernel_rfl) (fun f => by kernel_rfl) fun f2 => ?_
  refine w_ret ?_
  subst hR
  exact x_ret (by kernel_rfl)

def spec_l12NameOk_I1 (p0 : ByteArray) (fs : Nat → Nat → Nat) (i1 : Nat) (s1 : Unit) (x1 : Nat → Nat) : St := ⟨[(0, .one (.c (.v (.string p0)))), (3, .one (.c (.v (.int .i64 ((i1 : Nat) : Int)))))], [], 37⟩
def spec_l12NameOk_J1 (p0 : ByteArray) (fs : Nat → Nat → Nat) (s1 : Unit) (x1 : Nat → Nat) : St := ⟨[], [], 37⟩
def spec_l12NameOk_v1 (p0 : ByteArray) (i1 : Nat) : Bool := !((((decide (97 ≤ ((bget p0 i1).toNat : Int))) && (decide (((bget p0 i1).toNat : Int) ≤ 122))) || ((decide (48 ≤ ((bget p0 i1).toNat : Int))) && (decide (((bget p0 i1).toNat : Int) ≤ 57)))) || (decide (((bget p0 i1).toNat : Int) = 45)))
def spec_l12NameOk_b1 (p0 : ByteArray) (i1 : Nat) (s1 : Unit) : Res (Unit) Bool := (if (spec_l12NameOk_v1 p0 i1) then (.ret false) else (.next ()))
def spec_l12NameOk_r1 (p0 : ByteArray) (s1 : Unit) : Bool := true
/-- spec.l12NameOk -/
def spec_l12NameOk (p0 : ByteArray) : Bool := (if !(spec_l11In (p0.size : Int) 1 8) then false else (Res.fin (spec_l12NameOk_r1 p0) (forN (spec_l12NameOk_b1 p0) (p0.size - 0) 0 ())))
theorem c92 (p0 : ByteArray) : Fn Proofs.Try.prog 92 [⟨.val, false, [.v (.string p0)]⟩] [.c (.v (.bool (spec_l12NameOk p0)))] [] := by
  obtain ⟨R, hR⟩ : ∃ R, R = spec_l12NameOk p0 := ⟨_, rfl⟩
  rw [← hR]
  rw [spec_l12NameOk] at hR
  refine ⟨fn_intro hT Proofs.Try.func92 rfl rfl fun fs => ?_, _, Proofs.Try.func92, rfl, rfl⟩
  refine xr hT [] (fun f1 => ⟨[(0, .one (.c (.v (.string p0))))], [], 37⟩) (fun f => by kernel_rfl) (fun f => by kernel_rfl) fun f1 => ?_
  refine w_seq ?_
  refine xr hT [.und Proofs.Try.underlying9, ca (c174 (p0.size : Int) 1 8)] (fun f2 => ⟨[(0, .one (.c (.v (.string p0)))), (8, .one (.c (.v (.bool (!(spec_l11In (p0.size : Int) 1 8))))))], [], 37⟩) (fun f => by kernel_rfl) (fun f => by kernel_rfl) fun f2 => ?_
  refine w_cond rfl (fun h3 => ?_) fun h3 => ?_
  · rw [if_pos h3] at hR
    have gh3 := h3; try simp only [spec_l11In, Bool.not_eq_true', Bool.not_eq_false', decide_eq_true_eq, decide_eq_false_iff_not, Bool.and_eq_true, Bool.or_eq_true, Bool.and_eq_false_iff, Bool.or_eq_false_iff] at gh3
    refine xr hT [] (fun f4 => ⟨[(2, .one (.c (.v (.bool false))))], [], 37⟩) (fun f => by kernel_rfl) (fun f => by kernel_rfl) fun f4 => ?_
    refine w_ret ?_
    subst hR
    exact x_ret (by kernel_rfl)
  rw [if_neg (nt h3)] at hR
  have gh3 := h3; try simp only [spec_l11In, Bool.not_eq_true', Bool.not_eq_false', decide_eq_true_eq, decide_eq_false_iff_not, Bool.and_eq_true, Bool.or_eq_true, Bool.and_eq_false_iff, Bool.or_eq_false_iff] at gh3
  refine w_skip ?_
  refine w_seq ?_
  refine xr hT [] (fun f5 => ⟨[(0, .one (.c (.v (.string p0)))), (3, .one (.c (.v (.int .i64 0))))], [], 37⟩) (fun f => by kernel_rfl) (fun f => by kernel_rfl) fun f5 => ?_
  refine w_forT (fun _ => rfl) (spec_l12NameOk_I1 p0 fs) (spec_l12NameOk_J1 p0 fs) (fun i1 s1 => True) (fun s1 => True) (p0.size) 0 (spec_l12NameOk_b1 p0) (spec_l12NameOk_r1 p0) 0 (()) (lst []) (sb (by kernel_rfl)) trivial hR ?_ ?_
  · skip
    intro i1 s1 x1 hI1 hX1
    refine w_seq ?_
    refine xr hT [.und Proofs.Try.underlying9] (fun f6 => ⟨[(0, .one (.c (.v (.string p0)))), (3, .one (.c (.v (.int .i64 ((i1 : Nat) : Int))))), (12, .one (.c (.v (.bool (decide (((i1 : Nat) : Int) < (p0.size : Int)))))))], [], 37⟩) (fun f => by kernel_rfl) (fun f => by kernel_rfl) fun f6 => ?_
    refine w_cond rfl (fun h7 => ?_) fun h7 => ?_
    · skip
      have hl1 : i1 < p0.size := by have hq := of_decide_eq_true h7; first | omega | ((try simp only [LN, spec_l12NameOk_v1] at *); omega)
      obtain ⟨B1, hB1⟩ : ∃ B, B = spec_l12NameOk_b1 p0 i1 s1 := ⟨_, rfl⟩
      have hE1 := hB1
      rw [spec_l12NameOk_b1] at hE1
      refine w_skip ?_
      refine w_seq ?_
      refine w_block ?_
      refine xr hT [.und Proofs.Try.underlying9, .bg true p0 (((i1 : Nat) : Int)) i1 (fun h => ⟨rfl, by omega⟩)] (fun f8 => ⟨[(0, .one (.c (.v (.string p0)))), (3, .one (.c (.v (.int .i64 ((i1 : Nat) : Int))))), (4, .one (.c (.v (.int .u8 ((bget p0 i1).toNat : Int)))))], [], 37⟩) (fun f => by kernel_rfl) (fun f => by kernel_rfl) fun f8 => ?_
      refine xr hT [] (fun f9 => ⟨[(0, .one (.c (.v (.string p0)))), (3, .one (.c (.v (.int .i64 ((i1 : Nat) : Int))))), (36, .one (.c (.v (.bool (spec_l12NameOk_v1 p0 i1)))))], [], 37⟩) (fun f => by kernel_rfl) (fun f => by kernel_rfl) fun f9 => ?_
      refine w_cond rfl (fun h10 => ?_) fun h10 => ?_
      · rw [if_pos h10] at hE1
        have gh10 := h10; try simp only [spec_l12NameOk_v1, Bool.not_eq_true', Bool.not_eq_false', decide_eq_true_eq, decide_eq_false_iff_not, Bool.and_eq_true, Bool.or_eq_true, Bool.and_eq_false_iff, Bool.or_eq_false_iff] at gh10
        refine xr hT [] (fun f11 => ⟨[(2, .one (.c (.v (.bool false))))], [], 37⟩) (fun f => by kernel_rfl) (fun f => by kernel_rfl) fun f11 => ?_
        refine w_ret ?_
        have hR := hX1.trans (forN_ret hl1 (hB1.symm.trans hE1))
        subst hR
        exact x_ret (by kernel_rfl)
      rw [if_neg (nt h10)] at hE1
      have gh10 := h10; try simp only [spec_l12NameOk_v1, Bool.not_eq_true', Bool.not_eq_false', decide_eq_true_eq, decide_eq_false_iff_not, Bool.and_eq_true, Bool.or_eq_true, Bool.and_eq_false_iff, Bool.or_eq_false_iff] at gh10
      refine w_skip ?_
      refine x_reg hT [.ex true (((i1 : Nat) : Int) + ((1 : Nat) : Int)) ((((i1 + 1) : Nat) : Int)) (fun _ => wr_nat (n := i1) (c := 1) (by omega))] (fun f12 => spec_l12NameOk_I1 p0 fs (i1 + 1) () (lst [])) (fun f => by kernel_rfl) (fun f => by kernel_rfl) fun f12 s' hs' => ?_
      exact ⟨(), (lst []), hl1, trivial, hX1.trans (forN_next hl1 (hB1.symm.trans hE1)), hs'⟩
    have hq := of_decide_eq_false h7
    refine w_exit ?_
    exact ⟨s1, (lst []), trivial, hX1.trans (forN_end (by first | omega | ((try simp only [LN, spec_l12NameOk_v1] at *); omega))), sb (by kernel_rfl)⟩
  intro s1 x1 hF15 hR13
  rw [spec_l12NameOk_r1] at hR13
  refine xr hT [] (fun f14 => ⟨[(2, .one (.c (.v (.bool true))))], [], 37⟩) (fun f => by kernel_rfl) (fun f => by kernel_rfl) fun f14 => ?_
  refine w_ret ?_
  subst hR13
  exact x_ret (by kernel_rfl)

def spec_LinkCraftOk_v1 (p0 : LinkCraft) (p1 : Int) : Bool := (((((!(spec_l12NameOk p0.Name)) || (!(spec_l1In p0.Number 1 1000000))) || (!(spec_l1In p0.No 0 1000000))) || (decide (p0.No = p0.Number))) || (!(spec_l1In p1 0 10000))) || (!(spec_l22Begun p0.Path p0.Flown))
def spec_LinkCraftOk_v2 (p0 : LinkCraft) (p1 : Int) : Bool := ((decide ((p0.Flown.length : Int) = 0)) || (decide ((p0.Flown.getD (((p0.Flown.length : Int) - 1).toNat) default) ≤ p1))) && (spec_l22Stays p0.Path p0.Flown p1)
/-- spec.LinkCraftOk -/
def spec_LinkCraftOk (p0 : LinkCraft) (p1 : Int) : Bool := (if (spec_LinkCraftOk_v1 p0 p1) then false else (spec_LinkCraftOk_v2 p0 p1))
theorem c20 (p0 : LinkCraft) (p1 : Int) (k0_0 : LinkCraft.ok p0) : Fn Proofs.Try.prog 20 [⟨.val, true, LinkCraft.cs .bor p0⟩, ⟨.val, false, [.v (.int .i64 p1)]⟩] [.c (.v (.bool (spec_LinkCraftOk p0 p1)))] [] := by
  obtain ⟨R, hR⟩ : ∃ R, R = spec_LinkCraftOk p0 p1 := ⟨_, rfl⟩
  rw [← hR]
  rw [spec_LinkCraftOk] at hR
  refine ⟨fn_intro hT Proofs.Try.func20 rfl rfl fun fs => ?_, _, Proofs.Try.func20, rfl, rfl⟩
  have q0 := k0_0; simp only [LinkCraft.ok] at q0
  refine xr hT [] (fun f1 => ⟨[(1, .one (.c (.v (.int .i64 p1)))), (2, .one (.pt 2 (f1 0 0) 0))], [(2, some (f1 0 0, .box (LinkCraft.cs .bor p0)))], 65⟩) (fun f => by kernel_rfl) (fun f => by kernel_rfl) fun f1 => ?_
  refine w_seq ?_
  refine xr hT [ca (c92 p0.Name), cg (!(!(spec_l12NameOk p0.Name))) (fun _ => c93 p0.Number 1 1000000), cg (!((!(spec_l12NameOk p0.Name)) || (!(spec_l1In p0.Number 1 1000000)))) (fun _ => c93 p0.No 0 1000000), cg (!((((!(spec_l12NameOk p0.Name)) || (!(spec_l1In p0.Number 1 1000000))) || (!(spec_l1In p0.No 0 1000000))) || (decide (p0.No = p0.Number)))) (fun _ => c93 p1 0 10000), cg (!(((((!(spec_l12NameOk p0.Name)) || (!(spec_l1In p0.Number 1 1000000))) || (!(spec_l1In p0.No 0 1000000))) || (decide (p0.No = p0.Number))) || (!(spec_l1In p1 0 10000)))) (fun h => by (try simp only [Bool.and_eq_true, Bool.or_eq_true, decide_eq_true_eq, Bool.not_eq_true', decide_eq_false_iff_not] at h); exact c85 p0.Path p0.Flown (by first | assumption | exact (by omega : p0.Path.Steps.length ≤ 1048576)) (by omega))] (fun f2 => ⟨[(1, .one (.c (.v (.int .i64 p1)))), (2, .one (.pt 2 (f1 0 0) 0)), (40, .one (.c (.v (.bool (spec_LinkCraftOk_v1 p0 p1)))))], [(2, some (f1 0 0, .box (LinkCraft.cs .bor p0)))], 65⟩) (fun f => by kernel_rfl) (fun f => by kernel_rfl) fun f2 => ?_
  refine w_cond rfl (fun h3 => ?_) fun h3 => ?_
  · rw [if_pos h3] at hR
    have gh3 := h3; try simp only [spec_l1In, spec_LinkCraftOk_v1, Bool.not_eq_true', Bool.not_eq_false', decide_eq_true_eq, decide_eq_false_iff_not, Bool.and_eq_true, Bool.or_eq_true, Bool.and_eq_false_iff, Bool.or_eq_false_iff] at gh3
    refine xr hT [] (fun f4 => ⟨[(4, .one (.c (.v (.bool false))))], [], 65⟩) (fun f => by kernel_rfl) (fun f => by kernel_rfl) fun f4 => ?_
    refine w_ret ?_
    subst hR
    exact x_ret (by kernel_rfl)
  rw [if_neg (nt h3)] at hR
  have gh3 := h3; try simp only [spec_l1In, spec_LinkCraftOk_v1, Bool.not_eq_true', Bool.not_eq_false', decide_eq_true_eq, decide_eq_false_iff_not, Bool.and_eq_true, Bool.or_eq_true, Bool.and_eq_false_iff, Bool.or_eq_false_iff] at gh3
  refine w_skip ?_
  refine xr hT [.ln Int.row p0.Flown, .ln Int.row p0.Flown, .ex (!(decide ((p0.Flown.length : Int) = 0))) ((p0.Flown.length : Int) - 1) ((p0.Flown.length : Int) - 1) (fun h => by (try simp only [Bool.and_eq_true, Bool.or_eq_true, decide_eq_true_eq, Bool.not_eq_true', decide_eq_false_iff_not] at h); exact wr_eq (by omega) (by omega)), izg (!(decide ((p0.Flown.length : Int) = 0))) Int.row p0.Flown ((p0.Flown.length : Int) - 1) (fun h => by (try simp only [Bool.and_eq_true, Bool.or_eq_true, decide_eq_true_eq, Bool.not_eq_true', decide_eq_false_iff_not] at h); omega), cg ((decide ((p0.Flown.length : Int) = 0)) || (decide ((p0.Flown.getD (((p0.Flown.length : Int) - 1).toNat) default) ≤ p1))) (fun h => by (try simp only [Bool.and_eq_true, Bool.or_eq_true, decide_eq_true_eq, Bool.not_eq_true', decide_eq_false_iff_not] at h); exact c87 p0.Path p0.Flown p1 (by first | assumption | exact (by omega : p0.Path.Steps.length ≤ 1048576)) (by omega))] (fun f5 => ⟨[(4, .one (.c (.v (.bool (spec_LinkCraftOk_v2 p0 p1)))))], [], 65⟩) (fun f => by kernel_rfl) (fun f => by kernel_rfl) fun f5 => ?_
  refine w_ret ?_
  subst hR
  exact x_ret (by kernel_rfl)

def impl_ProbeBoxOk_v1 (p0 : ProbeBox) : Bool := (((((((impl_in p0.X 0 15) && (impl_in p0.Y 0 15)) && (decide (0 ≤ p0.Low))) && (decide (p0.Low ≤ p0.High))) && (decide (p0.High ≤ 6))) && (decide (0 ≤ p0.In))) && (decide (p0.In ≤ p0.Out))) && (decide (p0.Out ≤ 10000))
/-- impl.ProbeBoxOk -/
def impl_ProbeBoxOk (p0 : ProbeBox) : Bool := (impl_ProbeBoxOk_v1 p0)
theorem c198 (p0 : ProbeBox) : Fn Proofs.Try.prog 198 [⟨.val, true, ProbeBox.cs .bor p0⟩] [.c (.v (.bool (impl_ProbeBoxOk p0)))] [] := by
  obtain ⟨R, hR⟩ : ∃ R, R = impl_ProbeBoxOk p0 := ⟨_, rfl⟩
  rw [← hR]
  rw [impl_ProbeBoxOk] at hR
  refine ⟨fn_intro hT Proofs.Try.func198 rfl rfl fun fs => ?_, _, Proofs.Try.func198, rfl, rfl⟩
  refine xr hT [] (fun f1 => ⟨[(1, .one (.pt 1 (f1 0 0) 0))], [(1, some (f1 0 0, .box (ProbeBox.cs .bor p0)))], 45⟩) (fun f => by kernel_rfl) (fun f => by kernel_rfl) fun f1 => ?_
  refine xr hT [ca (c95 p0.X 0 15), cg (impl_in p0.X 0 15) (fun _ => c95 p0.Y 0 15)] (fun f2 => ⟨[(2, .one (.c (.v (.bool (impl_ProbeBoxOk_v1 p0)))))], [], 45⟩) (fun f => by kernel_rfl) (fun f => by kernel_rfl) fun f2 => ?_
  refine w_ret ?_
  subst hR
  exact x_ret (by kernel_rfl)

def impl_ProbeTubeOk_I1 (p0 : ProbeTube) (fs : Nat → Nat → Nat) (i1 : Nat) (s1 : Unit) (x1 : Nat → Nat) : St := ⟨[(1, .one (.pt 1 (x1 0) 0)), (3, .one (.c (.v (.int .i64 ((i1 : Nat) : Int)))))], [(1, some (x1 0, .box (ProbeTube.cs .bor p0)))], 59⟩
def impl_ProbeTubeOk_J1 (p0 : ProbeTube) (fs : Nat → Nat → Nat) (s1 : Unit) (x1 : Nat → Nat) : St := ⟨[(1, .one (.pt 1 (x1 0) 0))], [(1, some (x1 0, .box (ProbeTube.cs .bor p0)))], 59⟩
def impl_ProbeTubeOk_v1 (p0 : ProbeTube) (i1 : Nat) : Bool := !((((decide (97 ≤ ((bget p0.Name i1).toNat : Int))) && (decide (((bget p0.Name i1).toNat : Int) ≤ 122))) || ((decide (48 ≤ ((bget p0.Name i1).toNat : Int))) && (decide (((bget p0.Name i1).toNat : Int) ≤ 57)))) || (decide (((bget p0.Name i1).toNat : Int) = 45)))
def impl_ProbeTubeOk_b1 (p0 : ProbeTube) (i1 : Nat) (s1 : Unit) : Res (Unit) Bool := (if (impl_ProbeTubeOk_v1 p0 i1) then (.ret false) else (.next ()))
def impl_ProbeTubeOk_I2 (p0 : ProbeTube) (s1 : Unit) (fs : Nat → Nat → Nat) (i2 : Nat) (s2 : Unit) (x2 : Nat → Nat) : St := ⟨[(49, .one (.c (.sl .bor 6 (p0.Boxes.map ProbeBox.row)))), (50, .one (.c (.v (.int .i64 (p0.Boxes.length : Int))))), (51, .one (.c (.v (.int .i64 ((i2 : Nat) : Int)))))], [], 59⟩
def impl_ProbeTubeOk_J2 (p0 : ProbeTube) (s1 : Unit) (fs : Nat → Nat → Nat) (s2 : Unit) (x2 : Nat → Nat) : St := ⟨[], [], 59⟩
def impl_ProbeTubeOk_b2 (p0 : ProbeTube) (s1 : Unit) (i2 : Nat) (s2 : Unit) : Res (Unit) Bool := (if !(impl_ProbeBoxOk (p0.Boxes.getD i2 default)) then (.ret false) else (.next ()))
def impl_ProbeTubeOk_r2 (p0 : ProbeTube) (s1 : Unit) (s2 : Unit) : Bool := true
def impl_ProbeTubeOk_r1 (p0 : ProbeTube) (s1 : Unit) : Bool := (Res.fin (impl_ProbeTubeOk_r2 p0 s1) (forN (impl_ProbeTubeOk_b2 p0 s1) (p0.Boxes.length - 0) 0 ()))
/-- impl.ProbeTubeOk -/
def impl_ProbeTubeOk (p0 : ProbeTube) : Bool := (if (!(impl_in (p0.Name.size : Int) 1 8)) || (decide (40 < (p0.Boxes.length : Int))) then false else (Res.fin (impl_ProbeTubeOk_r1 p0) (forN (impl_ProbeTubeOk_b1 p0) (p0.Name.size - 0) 0 ())))
theorem c175 (p0 : ProbeTube) (k0_0 : ProbeTube.ok p0) : Fn Proofs.Try.prog 175 [⟨.val, true, ProbeTube.cs .bor p0⟩] [.c (.v (.bool (impl_ProbeTubeOk p0)))] [] := by
  obtain ⟨R, hR⟩ : ∃ R, R = impl_ProbeTubeOk p0 := ⟨_, rfl⟩
  rw [← hR]
  rw [impl_ProbeTubeOk] at hR
  refine ⟨fn_intro hT Proofs.Try.func175 rfl rfl fun fs => ?_, _, Proofs.Try.func175, rfl, rfl⟩
  have q0 := k0_0; simp only [ProbeTube.ok] at q0
  refine xr hT [] (fun f1 => ⟨[(1, .one (.pt 1 (f1 0 0) 0))], [(1, some (f1 0 0, .box (ProbeTube.cs .bor p0)))], 59⟩) (fun f => by kernel_rfl) (fun f => by kernel_rfl) fun f1 => ?_
  refine w_seq ?_
  refine xr hT [.und Proofs.Try.underlying9, ca (c95 (p0.Name.size : Int) 1 8), .ln ProbeBox.row p0.Boxes] (fun f2 => ⟨[(1, .one (.pt 1 (f1 0 0) 0)), (17, .one (.c (.v (.bool ((!(impl_in (p0.Name.size : Int) 1 8)) || (decide (40 < (p0.Boxes.length : Int))))))))], [(1, some (f1 0 0, .box (ProbeTube.cs .bor p0)))], 59⟩) (fun f => by kernel_rfl) (fun f => by kernel_rfl) fun f2 => ?_
  refine w_cond rfl (fun h3 => ?_) fun h3 => ?_
  · rw [if_pos h3] at hR
    have gh3 := h3; try simp only [impl_in, Bool.not_eq_true', Bool.not_eq_false', decide_eq_true_eq, decide_eq_false_iff_not, Bool.and_eq_true, Bool.or_eq_true, Bool.and_eq_false_iff, Bool.or_eq_false_iff] at gh3
    refine xr hT [] (fun f4 => ⟨[(2, .one (.c (.v (.bool false))))], [], 59⟩) (fun f => by kernel_rfl) (fun f => by kernel_rfl) fun f4 => ?_
    refine w_ret ?_
    subst hR
    exact x_ret (by kernel_rfl)
  rw [if_neg (nt h3)] at hR
  have gh3 := h3; try simp only [impl_in, Bool.not_eq_true', Bool.not_eq_false', decide_eq_true_eq, decide_eq_false_iff_not, Bool.and_eq_true, Bool.or_eq_true, Bool.and_eq_false_iff, Bool.or_eq_false_iff] at gh3
  refine w_skip ?_
  refine w_seq ?_
  refine xr hT [] (fun f5 => ⟨[(1, .one (.pt 1 (f1 0 0) 0)), (3, .one (.c (.v (.int .i64 0))))], [(1, some (f1 0 0, .box (ProbeTube.cs .bor p0)))], 59⟩) (fun f => by kernel_rfl) (fun f => by kernel_rfl) fun f5 => ?_
  refine w_forT (fun _ => rfl) (impl_ProbeTubeOk_I1 p0 fs) (impl_ProbeTubeOk_J1 p0 fs) (fun i1 s1 => True) (fun s1 => True) (p0.Name.size) 0 (impl_ProbeTubeOk_b1 p0) (impl_ProbeTubeOk_r1 p0) 0 (()) (lst [f1 0 0]) (sb (by kernel_rfl)) trivial hR ?_ ?_
  · skip
    intro i1 s1 x1 hI1 hX1
    refine w_seq ?_
    refine xr hT [.und Proofs.Try.underlying9] (fun f6 => ⟨[(1, .one (.pt 1 (x1 0) 0)), (3, .one (.c (.v (.int .i64 ((i1 : Nat) : Int))))), (22, .one (.c (.v (.bool (decide (((i1 : Nat) : Int) < (p0.Name.size : Int)))))))], [(1, some (x1 0, .box (ProbeTube.cs .bor p0)))], 59⟩) (fun f => by kernel_rfl) (fun f => by kernel_rfl) fun f6 => ?_
    refine w_cond rfl (fun h7 => ?_) fun h7 => ?_
    · skip
      have hl1 : i1 < p0.Name.size := by have hq := of_decide_eq_true h7; first | omega | ((try simp only [LN, impl_ProbeTubeOk_v1] at *); omega)
      obtain ⟨B1, hB1⟩ : ∃ B, B = impl_ProbeTubeOk_b1 p0 i1 s1 := ⟨_, rfl⟩
      have hE1 := hB1
      rw [impl_ProbeTubeOk_b1] at hE1
      refine w_skip ?_
      refine w_seq ?_
      refine w_block ?_
      refine xr hT [.und Proofs.Try.underlying9, .bg true p0.Name (((i1 : Nat) : Int)) i1 (fun h => ⟨rfl, by omega⟩)] (fun f8 => ⟨[(1, .one (.pt 1 (x1 0) 0)), (3, .one (.c (.v (.int .i64 ((i1 : Nat) : Int))))), (4, .one (.c (.v (.int .u8 ((bget p0.Name i1).toNat : Int)))))], [(1, some (x1 0, .box (ProbeTube.cs .bor p0)))], 59⟩) (fun f => by kernel_rfl) (fun f => by kernel_rfl) fun f8 => ?_
      refine xr hT [] (fun f9 => ⟨[(1, .one (.pt 1 (x1 0) 0)), (3, .one (.c (.v (.int .i64 ((i1 : Nat) : Int))))), (47, .one (.c (.v (.bool (impl_ProbeTubeOk_v1 p0 i1)))))], [(1, some (x1 0, .box (ProbeTube.cs .bor p0)))], 59⟩) (fun f => by kernel_rfl) (fun f => by kernel_rfl) fun f9 => ?_
      refine w_cond rfl (fun h10 => ?_) fun h10 => ?_
      · rw [if_pos h10] at hE1
        have gh10 := h10; try simp only [impl_ProbeTubeOk_v1, Bool.not_eq_true', Bool.not_eq_false', decide_eq_true_eq, decide_eq_false_iff_not, Bool.and_eq_true, Bool.or_eq_true, Bool.and_eq_false_iff, Bool.or_eq_false_iff] at gh10
        refine xr hT [] (fun f11 => ⟨[(2, .one (.c (.v (.bool false))))], [], 59⟩) (fun f => by kernel_rfl) (fun f => by kernel_rfl) fun f11 => ?_
        refine w_ret ?_
        have hR := hX1.trans (forN_ret hl1 (hB1.symm.trans hE1))
        subst hR
        exact x_ret (by kernel_rfl)
      rw [if_neg (nt h10)] at hE1
      have gh10 := h10; try simp only [impl_ProbeTubeOk_v1, Bool.not_eq_true', Bool.not_eq_false', decide_eq_true_eq, decide_eq_false_iff_not, Bool.and_eq_true, Bool.or_eq_true, Bool.and_eq_false_iff, Bool.or_eq_false_iff] at gh10
      refine w_skip ?_
      refine x_reg hT [.ex true (((i1 : Nat) : Int) + ((1 : Nat) : Int)) ((((i1 + 1) : Nat) : Int)) (fun _ => wr_nat (n := i1) (c := 1) (by omega))] (fun f12 => impl_ProbeTubeOk_I1 p0 fs (i1 + 1) () (lst [x1 0])) (fun f => by kernel_rfl) (fun f => by kernel_rfl) fun f12 s' hs' => ?_
      exact ⟨(), (lst [x1 0]), hl1, trivial, hX1.trans (forN_next hl1 (hB1.symm.trans hE1)), hs'⟩
    have hq := of_decide_eq_false h7
    refine w_exit ?_
    exact ⟨s1, (lst [x1 0]), trivial, hX1.trans (forN_end (by first | omega | ((try simp only [LN, impl_ProbeTubeOk_v1] at *); omega))), sb (by kernel_rfl)⟩
  intro s1 x1 hF25 hR13
  rw [impl_ProbeTubeOk_r1] at hR13
  refine w_seq ?_
  refine xr hT [.ln ProbeBox.row p0.Boxes] (fun f14 => ⟨[(49, .one (.c (.sl .bor 6 (p0.Boxes.map ProbeBox.row)))), (50, .one (.c (.v (.int .i64 (p0.Boxes.length : Int))))), (51, .one (.c (.v (.int .i64 0))))], [], 59⟩) (fun f => by kernel_rfl) (fun f => by kernel_rfl) fun f14 => ?_
  refine w_forT (fun _ => rfl) (impl_ProbeTubeOk_I2 p0 s1 fs) (impl_ProbeTubeOk_J2 p0 s1 fs) (fun i2 s2 => True) (fun s2 => True) (p0.Boxes.length) 2 (impl_ProbeTubeOk_b2 p0 s1) (impl_ProbeTubeOk_r2 p0 s1) 0 (()) (lst []) (sb (by kernel_rfl)) trivial hR13 ?_ ?_
  · skip
    intro i2 s2 x2 hI2 hX2
    refine xr hT [] (fun f15 => ⟨[(49, .one (.c (.sl .bor 6 (p0.Boxes.map ProbeBox.row)))), (50, .one (.c (.v (.int .i64 (p0.Boxes.length : Int))))), (51, .one (.c (.v (.int .i64 ((i2 : Nat) : Int))))), (52, .one (.c (.v (.bool (decide (((i2 : Nat) : Int) < (p0.Boxes.length : Int)))))))], [], 59⟩) (fun f => by kernel_rfl) (fun f => by kernel_rfl) fun f15 => ?_
    refine w_seq ?_
    refine w_cond rfl (fun h16 => ?_) fun h16 => ?_
    · skip
      have hl2 : i2 < p0.Boxes.length := by have hq := of_decide_eq_true h16; first | omega | ((try simp only [LN, impl_ProbeTubeOk_v1] at *); omega)
      obtain ⟨B2, hB2⟩ : ∃ B, B = impl_ProbeTubeOk_b2 p0 s1 i2 s2 := ⟨_, rfl⟩
      have hE2 := hB2
      rw [impl_ProbeTubeOk_b2] at hE2
      refine w_skip ?_
      refine w_seq ?_
      refine w_block ?_
      refine xr hT [ix ProbeBox.row p0.Boxes i2 (by omega)] (fun f17 => ⟨[(6, .one (.pt 6 (f17 2 0) 0)), (49, .one (.c (.sl .bor 6 (p0.Boxes.map ProbeBox.row)))), (50, .one (.c (.v (.int .i64 (p0.Boxes.length : Int))))), (51, .one (.c (.v (.int .i64 ((i2 : Nat) : Int)))))], [(6, some (f17 2 0, .box (ProbeBox.cs .bor (p0.Boxes.getD i2 default))))], 59⟩) (fun f => by kernel_rfl) (fun f => by kernel_rfl) fun f17 => ?_
      refine xr hT [ca (c198 (p0.Boxes.getD i2 default))] (fun f18 => ⟨[(49, .one (.c (.sl .bor 6 (p0.Boxes.map ProbeBox.row)))), (50, .one (.c (.v (.int .i64 (p0.Boxes.length : Int))))), (51, .one (.c (.v (.int .i64 ((i2 : Nat) : Int))))), (57, .one (.c (.v (.bool (!(impl_ProbeBoxOk (p0.Boxes.getD i2 default)))))))], [], 59⟩) (fun f => by kernel_rfl) (fun f => by kernel_rfl) fun f18 => ?_
      refine w_cond rfl (fun h19 => ?_) fun h19 => ?_
      · rw [if_pos h19] at hE2
        refine xr hT [] (fun f20 => ⟨[(2, .one (.c (.v (.bool false))))], [], 59⟩) (fun f => by kernel_rfl) (fun f => by kernel_rfl) fun f20 => ?_
        refine w_ret ?_
        have hR13 := hX2.trans (forN_ret hl2 (hB2.symm.trans hE2))
        subst hR13
        exact x_ret (by kernel_rfl)
      rw [if_neg (nt h19)] at hE2
      refine w_skip ?_
      refine x_reg hT [.ex true (((i2 : Nat) : Int) + ((1 : Nat) : Int)) ((((i2 + 1) : Nat) : Int)) (fun _ => wr_nat (n := i2) (c := 1) (by omega))] (fun f21 => impl_ProbeTubeOk_I2 p0 s1 fs (i2 + 1) () (lst [])) (fun f => by kernel_rfl) (fun f => by kernel_rfl) fun f21 s' hs' => ?_
      exact ⟨(), (lst []), hl2, trivial, hX2.trans (forN_next hl2 (hB2.symm.trans hE2)), hs'⟩
    have hq := of_decide_eq_false h16
    refine w_exit ?_
    exact ⟨s2, (lst []), trivial, hX2.trans (forN_end (by first | omega | ((try simp only [LN, impl_ProbeTubeOk_v1] at *); omega))), sb (by kernel_rfl)⟩
  intro s2 x2 hF24 hR22
  rw [impl_ProbeTubeOk_r2] at hR22
  refine xr hT [] (fun f23 => ⟨[(2, .one (.c (.v (.bool true))))], [], 59⟩) (fun f => by kernel_rfl) (fun f => by kernel_rfl) fun f23 => ?_
  refine w_ret ?_
  subst hR22
  exact x_ret (by kernel_rfl)

/-- impl.name -/
def impl_name (p0 : ByteArray) : Bool := (impl_ProbeTubeOk (⟨p0, []⟩ : ProbeTube))
theorem c94 (p0 : ByteArray) : Fn Proofs.Try.prog 94 [⟨.val, false, [.v (.string p0)]⟩] [.c (.v (.bool (impl_name p0)))] [] := by
  obtain ⟨R, hR⟩ : ∃ R, R = impl_name p0 := ⟨_, rfl⟩
  rw [← hR]
  rw [impl_name] at hR
  refine ⟨fn_intro hT Proofs.Try.func94 rfl rfl fun fs => ?_, _, Proofs.Try.func94, rfl, rfl⟩
  refine xr hT [] (fun f1 => ⟨[(0, .one (.c (.v (.string p0))))], [], 6⟩) (fun f => by kernel_rfl) (fun f => by kernel_rfl) fun f1 => ?_
  refine xr hT [ca (c175 (⟨p0, []⟩ : ProbeTube) (by first | assumption | exact (show ([]).length ≤ 1048576 from by (try simp only [LN]); omega)))] (fun f2 => ⟨[(2, .one (.c (.v (.bool (impl_ProbeTubeOk (⟨p0, []⟩ : ProbeTube))))))], [], 6⟩) (fun f => by kernel_rfl) (fun f => by kernel_rfl) fun f2 => ?_
  refine w_ret ?_
  subst hR
  exact x_ret (by kernel_rfl)

def impl_LinkCraftOk_v1 (p0 : LinkCraft) (p1 : Int) : Bool := (((((!(impl_name p0.Name)) || (!(impl_in p0.Number 1 1000000))) || (!(impl_in p0.No 0 1000000))) || (decide (p0.No = p0.Number))) || (!(impl_in p1 0 10000))) || (!(impl_LinkCraft_begun p0))
/-- impl.LinkCraftOk -/
def impl_LinkCraftOk (p0 : LinkCraft) (p1 : Int) : Bool := (if (impl_LinkCraftOk_v1 p0 p1) then false else (if (decide (0 < (p0.Flown.length : Int))) && (decide (p1 < (p0.Flown.getD (((p0.Flown.length : Int) - 1).toNat) default))) then false else (impl_LinkCraft_stays p0 p0.Path p1)))
theorem c21 (p0 : LinkCraft) (p1 : Int) (k0_0 : LinkCraft.ok p0) : Fn Proofs.Try.prog 21 [⟨.val, true, LinkCraft.cs .bor p0⟩, ⟨.val, false, [.v (.int .i64 p1)]⟩] [.c (.v (.bool (impl_LinkCraftOk p0 p1)))] [] := by
  obtain ⟨R, hR⟩ : ∃ R, R = impl_LinkCraftOk p0 p1 := ⟨_, rfl⟩
  rw [← hR]
  rw [impl_LinkCraftOk] at hR
  refine ⟨fn_intro hT Proofs.Try.func21 rfl rfl fun fs => ?_, _, Proofs.Try.func21, rfl, rfl⟩
  have q0 := k0_0; simp only [LinkCraft.ok] at q0
  refine xr hT [] (fun f1 => ⟨[(1, .one (.c (.v (.int .i64 p1)))), (2, .one (.pt 2 (f1 0 0) 0))], [(2, some (f1 0 0, .box (LinkCraft.cs .bor p0)))], 59⟩) (fun f => by kernel_rfl) (fun f => by kernel_rfl) fun f1 => ?_
  refine w_seq ?_
  refine xr hT [ca (c94 p0.Name), cg (!(!(impl_name p0.Name))) (fun _ => c95 p0.Number 1 1000000), cg (!((!(impl_name p0.Name)) || (!(impl_in p0.Number 1 1000000)))) (fun _ => c95 p0.No 0 1000000), cg (!((((!(impl_name p0.Name)) || (!(impl_in p0.Number 1 1000000))) || (!(impl_in p0.No 0 1000000))) || (decide (p0.No = p0.Number)))) (fun _ => c95 p1 0 10000), cg (!(((((!(impl_name p0.Name)) || (!(impl_in p0.Number 1 1000000))) || (!(impl_in p0.No 0 1000000))) || (decide (p0.No = p0.Number))) || (!(impl_in p1 0 10000)))) (fun h => by (try simp only [Bool.and_eq_true, Bool.or_eq_true, decide_eq_true_eq, Bool.not_eq_true', decide_eq_false_iff_not] at h); exact c96 p0 (by first | assumption | exact ⟨(by omega : p0.Path.Steps.length ≤ 1048576), (by omega : p0.Flown.length ≤ 1048576)⟩))] (fun f2 => ⟨[(1, .one (.c (.v (.int .i64 p1)))), (2, .one (.pt 2 (f1 0 0) 0)), (38, .one (.c (.v (.bool (impl_LinkCraftOk_v1 p0 p1)))))], [(2, some (f1 0 0, .box (LinkCraft.cs .bor p0)))], 59⟩) (fun f => by kernel_rfl) (fun f => by kernel_rfl) fun f2 => ?_
  refine w_cond rfl (fun h3 => ?_) fun h3 => ?_
  · rw [if_pos h3] at hR
    have gh3 := h3; try simp only [impl_in, impl_LinkCraftOk_v1, Bool.not_eq_true', Bool.not_eq_false', decide_eq_true_eq, decide_eq_false_iff_not, Bool.and_eq_true, Bool.or_eq_true, Bool.and_eq_false_iff, Bool.or_eq_false_iff] at gh3
    refine xr hT [] (fun f4 => ⟨[(4, .one (.c (.v (.bool false))))], [], 59⟩) (fun f => by kernel_rfl) (fun f => by kernel_rfl) fun f4 => ?_
    refine w_ret ?_
    subst hR
    exact x_ret (by kernel_rfl)
  rw [if_neg (nt h3)] at hR
  have gh3 := h3; try simp only [impl_in, impl_LinkCraftOk_v1, Bool.not_eq_true', Bool.not_eq_false', decide_eq_true_eq, decide_eq_false_iff_not, Bool.and_eq_true, Bool.or_eq_true, Bool.and_eq_false_iff, Bool.or_eq_false_iff] at gh3
  refine w_skip ?_
  refine w_seq ?_
  refine xr hT [.ln Int.row p0.Flown] (fun f5 => ⟨[(1, .one (.c (.v (.int .i64 p1)))), (2, .one (.pt 2 (f1 0 0) 0)), (5, .one (.c (.v (.int .i64 (p0.Flown.length : Int)))))], [(2, some (f1 0 0, .box (LinkCraft.cs .bor p0)))], 59⟩) (fun f => by kernel_rfl) (fun f => by kernel_rfl) fun f5 => ?_
  refine xr hT [.ex (decide (0 < (p0.Flown.length : Int))) ((p0.Flown.length : Int) - 1) ((p0.Flown.length : Int) - 1) (fun h => by (try simp only [Bool.and_eq_true, Bool.or_eq_true, decide_eq_true_eq, Bool.not_eq_true', decide_eq_false_iff_not] at h); exact wr_eq (by omega) (by omega)), izg (decide (0 < (p0.Flown.length : Int))) Int.row p0.Flown ((p0.Flown.length : Int) - 1) (fun h => by (try simp only [Bool.and_eq_true, Bool.or_eq_true, decide_eq_true_eq, Bool.not_eq_true', decide_eq_false_iff_not] at h); omega)] (fun f6 => ⟨[(1, .one (.c (.v (.int .i64 p1)))), (2, .one (.pt 2 (f1 0 0) 0)), (53, .one (.c (.v (.bool ((decide (0 < (p0.Flown.length : Int))) && (decide (p1 < (p0.Flown.getD (((p0.Flown.length : Int) - 1).toNat) default))))))))], [(2, some (f1 0 0, .box (LinkCraft.cs .bor p0)))], 59⟩) (fun f => by kernel_rfl) (fun f => by kernel_rfl) fun f6 => ?_
  refine w_cond rfl (fun h7 => ?_) fun h7 => ?_
  · rw [if_pos h7] at hR
    have gh7 := h7; try simp only [Bool.not_eq_true', Bool.not_eq_false', decide_eq_true_eq, decide_eq_false_iff_not, Bool.and_eq_true, Bool.or_eq_true, Bool.and_eq_false_iff, Bool.or_eq_false_iff] at gh7
    refine xr hT [] (fun f8 => ⟨[(4, .one (.c (.v (.bool false))))], [], 59⟩) (fun f => by kernel_rfl) (fun f => by kernel_rfl) fun f8 => ?_
    refine w_ret ?_
    subst hR
    exact x_ret (by kernel_rfl)
  rw [if_neg (nt h7)] at hR
  have gh7 := h7; try simp only [Bool.not_eq_true', Bool.not_eq_false', decide_eq_true_eq, decide_eq_false_iff_not, Bool.and_eq_true, Bool.or_eq_true, Bool.and_eq_false_iff, Bool.or_eq_false_iff] at gh7
  refine w_skip ?_
  refine xr hT [ca (c90 p0 p0.Path p1 (by first | assumption | exact ⟨(by omega : p0.Path.Steps.length ≤ 1048576), (by omega : p0.Flown.length ≤ 1048576)⟩) (by first | assumption | exact (by omega : p0.Path.Steps.length ≤ 1048576)))] (fun f9 => ⟨[(4, .one (.c (.v (.bool (impl_LinkCraft_stays p0 p0.Path p1)))))], [], 59⟩) (fun f => by kernel_rfl) (fun f => by kernel_rfl) fun f9 => ?_
  refine w_ret ?_
  subst hR
  exact x_ret (by kernel_rfl)

/-- laws.FnExactLinkCraftOk -/
def laws_FnExactLinkCraftOk (p0 : LinkCraft) (p1 : Int) : Bool := (if decide ((laws_szLinkCraft p0 1048576) < 0) then true else (if !((impl_LinkCraftOk (laws_toLinkCraft p0) p1) == (spec_LinkCraftOk (laws_toLinkCraft p0) p1)) then false else (if !(laws_eqLinkCraft (laws_toLinkCraft p0) (laws_toLinkCraft p0)) then false else true)))
set_option maxHeartbeats 1600000 in
theorem c4 (p0 : LinkCraft) (p1 : Int) (k0_0 : LinkCraft.big p0) : Fn Proofs.Try.prog 4 [⟨.val, true, LinkCraft.cs .bor p0⟩, ⟨.val, false, [.v (.int .i64 p1)]⟩] [.c (.v (.bool (laws_FnExactLinkCraftOk p0 p1)))] [] := by
  obtain ⟨R, hR⟩ : ∃ R, R = laws_FnExactLinkCraftOk p0 p1 := ⟨_, rfl⟩
  rw [← hR]
  rw [laws_FnExactLinkCraftOk] at hR
  refine ⟨fn_intro hT Proofs.Try.func4 rfl rfl fun fs => ?_, _, Proofs.Try.func4, rfl, rfl⟩
  have q0 := k0_0; simp only [LinkCraft.big] at q0
  refine xr hT [] (fun f1 => ⟨[(1, .one (.c (.v (.int .i64 p1)))), (2, .one (.pt 2 (f1 0 0) 0))], [(2, some (f1 0 0, .box (LinkCraft.cs .bor p0)))], 31⟩) (fun f => by kernel_rfl) (fun f => by kernel_rfl) fun f1 => ?_
  refine xr hT [] (fun f2 => ⟨[(1, .one (.c (.v (.int .i64 p1)))), (2, .one (.pt 2 (f1 0 0) 0)), (5, .one (.c (.v (.int .i64 1048576))))], [(2, some (f1 0 0, .box (LinkCraft.cs .bor p0)))], 31⟩) (fun f => by kernel_rfl) (fun f => by kernel_rfl) fun f2 => ?_
  refine xr hT [ca (c15 p0 1048576 (by first | assumption | exact ⟨(by omega : p0.Name.size ≤ 9223372036854775807), (by omega : p0.Path.Steps.length ≤ 9223372036854775807), (by omega : p0.Flown.length ≤ 9223372036854775807)⟩))] (fun f3 => ⟨[(1, .one (.c (.v (.int .i64 p1)))), (2, .one (.pt 2 (f1 0 0) 0)), (5, .one (.c (.v (.int .i64 (laws_szLinkCraft p0 1048576)))))], [(2, some (f1 0 0, .box (LinkCraft.cs .bor p0)))], 31⟩) (fun f => by kernel_rfl) (fun f => by kernel_rfl) fun f3 => ?_
  refine w_seq ?_
  refine xr hT [] (fun f4 => ⟨[(1, .one (.c (.v (.int .i64 p1)))), (2, .one (.pt 2 (f1 0 0) 0)), (13, .one (.c (.v (.bool (decide ((laws_szLinkCraft p0 1048576) < 0))))))], [(2, some (f1 0 0, .box (LinkCraft.cs .bor p0)))], 31⟩) (fun f => by kernel_rfl) (fun f => by kernel_rfl) fun f4 => ?_
  refine w_cond rfl (fun h5 => ?_) fun h5 => ?_
  · rw [if_pos h5] at hR
    have gh5 := of_decide_eq_true h5
    refine xr hT [] (fun f6 => ⟨[(4, .one (.c (.v (.bool true))))], [], 31⟩) (fun f => by kernel_rfl) (fun f => by kernel_rfl) fun f6 => ?_
    refine w_ret ?_
    subst hR
    exact x_ret (by kernel_rfl)
  rw [if_neg (nt h5)] at hR
  have gh5 := of_decide_eq_false h5
  have ok0 := (f_laws_szLinkCraft p0 1048576 k0_0 (by omega) (by omega) (by omega)).1
  refine w_skip ?_
  refine xr hT [ca (c17 p0 (by first | assumption | exact ⟨(by omega : p0.Path.Steps.length ≤ 1048576), (by omega : p0.Flown.length ≤ 1048576)⟩)), ca (c20 (laws_toLinkCraft p0) p1 (by first | assumption | exact ⟨(show ((laws_toLinkCraft p0).Path.Steps).length ≤ 1048576 from by (try simp only [LN, f_laws_toLinkCraft]); omega), (show ((laws_toLinkCraft p0).Flown).length ≤ 1048576 from by (try simp only [LN, f_laws_toLinkCraft]); omega)⟩))] (fun f7 => ⟨[(1, .one (.c (.v (.int .i64 p1)))), (2, .one (.pt 2 (f1 0 0) 0)), (6, .one (.c (.v (.bool (spec_LinkCraftOk (laws_toLinkCraft p0) p1)))))], [(2, some (f1 0 0, .box (LinkCraft.cs .bor p0)))], 31⟩) (fun f => by kernel_rfl) (fun f => by kernel_rfl) fun f7 => ?_
  refine xr hT [ca (c17 p0 (by first | assumption | exact ⟨(by omega : p0.Path.Steps.length ≤ 1048576), (by omega : p0.Flown.length ≤ 1048576)⟩))] (fun f8 => ⟨[(1, .one (.c (.v (.int .i64 p1)))), (2, .one (.pt 2 (f1 0 0) 0)), (6, .one (.c (.v (.bool (spec_LinkCraftOk (laws_toLinkCraft p0) p1))))), (7, .one (.pt 7 (f8 2 0) 0))], [(2, some (f1 0 0, .box (LinkCraft.cs .bor p0))), (7, some (f8 2 0, .box [.v (.string ((laws_toLinkCraft p0).Name)), .v (.int .i64 ((laws_toLinkCraft p0).Number)), .v (.int .i64 ((laws_toLinkCraft p0).No)), .v (.int .i64 ((laws_toLinkCraft p0).Path.Kind.Quick)), .v (.int .i64 ((laws_toLinkCraft p0).Path.Kind.Slow)), .mu 2000005 (gk (f8 1) 0 5) 7 0 (((laws_toLinkCraft p0).Path.Steps).map FlyStep.row).length, .v (.int .i64 ((laws_toLinkCraft p0).Path.From)), .v (.int .i64 ((laws_toLinkCraft p0).Path.By)), .mu 2000008 (gk (f8 1) 0 8) 1 0 (((laws_toLinkCraft p0).Flown).map Int.row).length])), (2000005, some (gk (f8 1) 0 5, .arr 7 (((laws_toLinkCraft p0).Path.Steps).map FlyStep.row))), (2000008, some (gk (f8 1) 0 8, .arr 1 (((laws_toLinkCraft p0).Flown).map Int.row)))], 31⟩) (fun f => by kernel_rfl) (fun f => by kernel_rfl) fun f8 => ?_
  refine xr hT [ca (c21 (laws_toLinkCraft p0) p1 (by first | assumption | exact ⟨(show ((laws_toLinkCraft p0).Path.Steps).length ≤ 1048576 from by (try simp only [LN, f_laws_toLinkCraft]); omega), (show ((laws_toLinkCraft p0).Flown).length ≤ 1048576 from by (try simp only [LN, f_laws_toLinkCraft]); omega)⟩))] (fun f9 => ⟨[(2, .one (.pt 2 (f1 0 0) 0)), (6, .one (.c (.v (.bool (spec_LinkCraftOk (laws_toLinkCraft p0) p1))))), (7, .one (.pt 7 (f8 2 0) 0)), (8, .one (.c (.v (.bool (impl_LinkCraftOk (laws_toLinkCraft p0) p1)))))], [(2, some (f1 0 0, .box (LinkCraft.cs .bor p0))), (7, some (f8 2 0, .box [.v (.string ((laws_toLinkCraft p0).Name)), .v (.int .i64 ((laws_toLinkCraft p0).Number)), .v (.int .i64 ((laws_toLinkCraft p0).No)), .v (.int .i64 ((laws_toLinkCraft p0).Path.Kind.Quick)), .v (.int .i64 ((laws_toLinkCraft p0).Path.Kind.Slow)), .mu 2000005 (gk (f8 1) 0 5) 7 0 (((laws_toLinkCraft p0).Path.Steps).map FlyStep.row).length, .v (.int .i64 ((laws_toLinkCraft p0).Path.From)), .v (.int .i64 ((laws_toLinkCraft p0).Path.By)), .mu 2000008 (gk (f8 1) 0 8) 1 0 (((laws_toLinkCraft p0).Flown).map Int.row).length])), (2000005, some (gk (f8 1) 0 5, .arr 7 (((laws_toLinkCraft p0).Path.Steps).map FlyStep.row))), (2000008, some (gk (f8 1) 0 8, .arr 1 (((laws_toLinkCraft p0).Flown).map Int.row)))], 31⟩) (fun f => by kernel_rfl) (fun f => by kernel_rfl) fun f9 => ?_
  refine w_seq ?_
  refine xr hT [.und Proofs.Try.underlying4] (fun f10 => ⟨[(2, .one (.pt 2 (f1 0 0) 0)), (7, .one (.pt 7 (f8 2 0) 0)), (25, .one (.c (.v (.bool (!((impl_LinkCraftOk (laws_toLinkCraft p0) p1) == (spec_LinkCraftOk (laws_toLinkCraft p0) p1)))))))], [(2, some (f1 0 0, .box (LinkCraft.cs .bor p0))), (7, some (f8 2 0, .box [.v (.string ((laws_toLinkCraft p0).Name)), .v (.int .i64 ((laws_toLinkCraft p0).Number)), .v (.int .i64 ((laws_toLinkCraft p0).No)), .v (.int .i64 ((laws_toLinkCraft p0).Path.Kind.Quick)), .v (.int .i64 ((laws_toLinkCraft p0).Path.Kind.Slow)), .mu 2000005 (gk (f8 1) 0 5) 7 0 (((laws_toLinkCraft p0).Path.Steps).map FlyStep.row).length, .v (.int .i64 ((laws_toLinkCraft p0).Path.From)), .v (.int .i64 ((laws_toLinkCraft p0).Path.By)), .mu 2000008 (gk (f8 1) 0 8) 1 0 (((laws_toLinkCraft p0).Flown).map Int.row).length])), (2000005, some (gk (f8 1) 0 5, .arr 7 (((laws_toLinkCraft p0).Path.Steps).map FlyStep.row))), (2000008, some (gk (f8 1) 0 8, .arr 1 (((laws_toLinkCraft p0).Flown).map Int.row)))], 31⟩) (fun f => by kernel_rfl) (fun f => by kernel_rfl) fun f10 => ?_
  refine w_cond rfl (fun h11 => ?_) fun h11 => ?_
  · rw [if_pos h11] at hR
    refine xr hT [] (fun f12 => ⟨[(4, .one (.c (.v (.bool false))))], [], 31⟩) (fun f => by kernel_rfl) (fun f => by kernel_rfl) fun f12 => ?_
    refine w_ret ?_
    subst hR
    exact x_ret (by kernel_rfl)
  rw [if_neg (nt h11)] at hR
  refine w_skip ?_
  refine w_seq ?_
  refine xd hT hM [ca (c17 p0 (by first | assumption | exact ⟨(by omega : p0.Path.Steps.length ≤ 1048576), (by omega : p0.Flown.length ≤ 1048576)⟩)), ca (c19 (laws_toLinkCraft p0) (laws_toLinkCraft p0) (by first | assumption | exact ⟨(show ((laws_toLinkCraft p0).Path.Steps).length ≤ 1048576 from by (try simp only [LN, f_laws_toLinkCraft]); omega), (show ((laws_toLinkCraft p0).Flown).length ≤ 1048576 from by (try simp only [LN, f_laws_toLinkCraft]); omega)⟩) (by first | assumption | exact ⟨(show ((laws_toLinkCraft p0).Path.Steps).length ≤ 1048576 from by (try simp only [LN, f_laws_toLinkCraft]); omega), (show ((laws_toLinkCraft p0).Flown).length ≤ 1048576 from by (try simp only [LN, f_laws_toLinkCraft]); omega)⟩))] (fun f13 => ⟨[(30, .one (.c (.v (.bool (!(laws_eqLinkCraft (laws_toLinkCraft p0) (laws_toLinkCraft p0)))))))], [], 31⟩) (fun f => by kernel_rfl) (fun f => by kernel_rfl) (fun f => by kernel_rfl) fun f13 => ?_
  refine w_cond rfl (fun h14 => ?_) fun h14 => ?_
  · rw [if_pos h14] at hR
    refine xr hT [] (fun f15 => ⟨[(4, .one (.c (.v (.bool false))))], [], 31⟩) (fun f => by kernel_rfl) (fun f => by kernel_rfl) fun f15 => ?_
    refine w_ret ?_
    subst hR
    exact x_ret (by kernel_rfl)
  rw [if_neg (nt h14)] at hR
  refine w_skip ?_
  refine xr hT [] (fun f16 => ⟨[(4, .one (.c (.v (.bool true))))], [], 31⟩) (fun f => by kernel_rfl) (fun f => by kernel_rfl) fun f16 => ?_
  refine w_ret ?_
  subst hR
  exact x_ret (by kernel_rfl)
end Go.Lap
