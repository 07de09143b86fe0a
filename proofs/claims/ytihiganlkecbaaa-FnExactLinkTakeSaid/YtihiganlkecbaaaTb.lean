/- Walks: models of the functions, and that the code computes them. -/
import Derived.Test.YtihiganlkecbaaaTa
set_option linter.unusedVariables false
set_option linter.unusedSimpArgs false
namespace Go.Lap
open Go.RowKit

def impl_FlySpans_I1 (p0 : FlyPath) (fs : Nat → Nat → Nat) (i1 : Nat) (s1 : List FlySpan) (x1 : Nat → Nat) : St := ⟨[(1, .one (.pt 1 (x1 0) 0)), (4, .one (.c (.v (.int .i64 (p0.Steps.length : Int))))), (5, .one (.c (.mu 16 (x1 1) 2 0 (s1.map FlySpan.row).length))), (18, .one (.c (.v (.int .i64 ((List.replicate (p0.Steps.length + 1) ((⟨0, 0⟩ : FlySpan) : FlySpan)).length : Int))))), (19, .one (.c (.v (.int .i64 ((i1 : Nat) : Int)))))], [(1, some (x1 0, .box (FlyPath.cs .bor p0))), (16, some (x1 1, .arr 2 (s1.map FlySpan.row)))], 163⟩
def impl_FlySpans_J1 (p0 : FlyPath) (fs : Nat → Nat → Nat) (s1 : List FlySpan) (x1 : Nat → Nat) : St := ⟨[(1, .one (.pt 1 (x1 0) 0)), (4, .one (.c (.v (.int .i64 (p0.Steps.length : Int))))), (5, .one (.c (.mu 16 (x1 1) 2 0 (s1.map FlySpan.row).length)))], [(1, some (x1 0, .box (FlyPath.cs .bor p0))), (16, some (x1 1, .arr 2 (s1.map FlySpan.row)))], 163⟩
def impl_FlySpans_v1 (p0 : FlyPath) (i1 : Nat) (s1 : List FlySpan) : List FlySpan := (s1.set i1 ({ s1.getD i1 default with Low := (impl_FlyPath_bounds p0 ((i1 : Nat) : Int)).1 } : FlySpan)).set i1 ({ (s1.set i1 ({ s1.getD i1 default with Low := (impl_FlyPath_bounds p0 ((i1 : Nat) : Int)).1 } : FlySpan)).getD i1 default with High := (impl_FlyPath_bounds p0 ((i1 : Nat) : Int)).2 } : FlySpan)
def impl_FlySpans_v2 (p0 : FlyPath) (i1 : Nat) (s1 : List FlySpan) : List FlySpan := (impl_FlySpans_v1 p0 i1 s1).set i1 ({ (impl_FlySpans_v1 p0 i1 s1).getD i1 default with Low := max (((impl_FlySpans_v1 p0 i1 s1).getD i1 default).Low) (wr ((((impl_FlySpans_v1 p0 i1 s1).getD ((((i1 : Nat) : Int) - 1).toNat) default).Low) + p0.Kind.Quick)) } : FlySpan)
def impl_FlySpans_v3 (p0 : FlyPath) (i1 : Nat) (s1 : List FlySpan) : List FlySpan := (impl_FlySpans_v2 p0 i1 s1).set i1 ({ (impl_FlySpans_v2 p0 i1 s1).getD i1 default with High := min (((impl_FlySpans_v2 p0 i1 s1).getD i1 default).High) (wr ((((impl_FlySpans_v2 p0 i1 s1).getD ((((i1 : Nat) : Int) - 1).toNat) default).High) + p0.Kind.Slow)) } : FlySpan)
def impl_FlySpans_b1 (p0 : FlyPath) (i1 : Nat) (s1 : List FlySpan) : Res (List FlySpan) ((List FlySpan) × Bool) := (if decide (((i1 : Nat) : Int) = 0) then (.next (impl_FlySpans_v1 p0 i1 s1)) else (if !((p0.Steps.getD ((((i1 : Nat) : Int) - 1).toNat) default).Hold) then (if decide ((((impl_FlySpans_v3 p0 i1 s1).getD i1 default).High) < (((impl_FlySpans_v3 p0 i1 s1).getD i1 default).Low)) then (.ret ([], false)) else (.next (impl_FlySpans_v3 p0 i1 s1))) else (if decide ((((impl_FlySpans_v2 p0 i1 s1).getD i1 default).High) < (((impl_FlySpans_v2 p0 i1 s1).getD i1 default).Low)) then (.ret ([], false)) else (.next (impl_FlySpans_v2 p0 i1 s1)))))
def impl_FlySpans_I2 (p0 : FlyPath) (s1 : List FlySpan) (fs : Nat → Nat → Nat) (s2 : Int × List FlySpan) (x2 : Nat → Nat) : St := ⟨[(1, .one (.pt 1 (x2 0) 0)), (5, .one (.c (.mu 16 (x2 1) 2 0 (s2.2.map FlySpan.row).length))), (7, .one (.c (.v (.int .i64 s2.1))))], [(1, some (x2 0, .box (FlyPath.cs .bor p0))), (16, some (x2 1, .arr 2 (s2.2.map FlySpan.row)))], 163⟩
def impl_FlySpans_J2 (p0 : FlyPath) (s1 : List FlySpan) (fs : Nat → Nat → Nat) (s2 : Int × List FlySpan) (x2 : Nat → Nat) : St := ⟨[(5, .one (.c (.mu 16 (x2 1) 2 0 (s2.2.map FlySpan.row).length)))], [(16, some (x2 1, .arr 2 (s2.2.map FlySpan.row)))], 163⟩
def impl_FlySpans_v4 (p0 : FlyPath) (s2 : Int × List FlySpan) : List FlySpan := s2.2.set ((s2.1).toNat) ({ s2.2.getD ((s2.1).toNat) default with High := min ((s2.2.getD ((s2.1).toNat) default).High) (wr (((s2.2.getD ((s2.1 + 1).toNat) default).High) - p0.Kind.Quick)) } : FlySpan)
def impl_FlySpans_v5 (p0 : FlyPath) (s2 : Int × List FlySpan) : List FlySpan := (impl_FlySpans_v4 p0 s2).set ((s2.1).toNat) ({ (impl_FlySpans_v4 p0 s2).getD ((s2.1).toNat) default with Low := max (((impl_FlySpans_v4 p0 s2).getD ((s2.1).toNat) default).Low) (wr ((((impl_FlySpans_v4 p0 s2).getD ((s2.1 + 1).toNat) default).Low) - p0.Kind.Slow)) } : FlySpan)
def impl_FlySpans_b2 (p0 : FlyPath) (s1 : List FlySpan) (s2 : Int × List FlySpan) : Res (Int × List FlySpan) ((List FlySpan) × Bool) := (if decide (0 ≤ s2.1) then (if !((p0.Steps.getD ((s2.1).toNat) default).Hold) then (if decide ((((impl_FlySpans_v5 p0 s2).getD ((s2.1).toNat) default).High) < (((impl_FlySpans_v5 p0 s2).getD ((s2.1).toNat) default).Low)) then (.ret ([], false)) else (.next (s2.1 - 1, (impl_FlySpans_v5 p0 s2)))) else (if decide ((((impl_FlySpans_v4 p0 s2).getD ((s2.1).toNat) default).High) < (((impl_FlySpans_v4 p0 s2).getD ((s2.1).toNat) default).Low)) then (.ret ([], false)) else (.next (s2.1 - 1, (impl_FlySpans_v4 p0 s2))))) else (.brk (s2.1, s2.2)))
def impl_FlySpans_u2 (p0 : FlyPath) (s1 : List FlySpan) (s2 : Int × List FlySpan) : Nat :=  (s2.1 - 0 + 1).toNat
def impl_FlySpans_r2 (p0 : FlyPath) (s1 : List FlySpan) (s2 : Int × List FlySpan) : ((List FlySpan) × Bool) := (s2.2, true)
def impl_FlySpans_r1 (p0 : FlyPath) (s1 : List FlySpan) : ((List FlySpan) × Bool) := (Res.fin (impl_FlySpans_r2 p0 s1) (itr (impl_FlySpans_b2 p0 s1) (impl_FlySpans_u2 p0 s1 ((p0.Steps.length : Int) - 1, s1) + 1) ((p0.Steps.length : Int) - 1, s1)))
/-- impl.FlySpans -/
def impl_FlySpans (p0 : FlyPath) : (List FlySpan) × Bool := (if !(impl_FlyPathOk p0) then ([], false) else (Res.fin (impl_FlySpans_r1 p0) (forN (impl_FlySpans_b1 p0) ((List.replicate (p0.Steps.length + 1) ((⟨0, 0⟩ : FlySpan) : FlySpan)).length - 0) 0 (List.replicate (p0.Steps.length + 1) ((⟨0, 0⟩ : FlySpan) : FlySpan)))))
theorem c53 (p0 : FlyPath) (k0_0 : FlyPath.ok p0) : Fn Proofs.Try.prog 53 [⟨.val, true, FlyPath.cs .bor p0⟩] [.c (.sl .own 2 ((impl_FlySpans p0).1.map FlySpan.row)), .c (.v (.bool (impl_FlySpans p0).2))] [] := by
  obtain ⟨R, hR⟩ : ∃ R, R = impl_FlySpans p0 := ⟨_, rfl⟩
  rw [← hR]
  rw [impl_FlySpans] at hR
  refine ⟨fn_intro hT Proofs.Try.func53 rfl rfl fun fs => ?_, _, Proofs.Try.func53, rfl, rfl⟩
  have q0 := k0_0; simp only [FlyPath.ok] at q0
  refine xr hT [] (fun f1 => ⟨[(1, .one (.pt 1 (f1 0 0) 0))], [(1, some (f1 0 0, .box (FlyPath.cs .bor p0)))], 163⟩) (fun f => by kernel_rfl) (fun f => by kernel_rfl) fun f1 => ?_
  refine w_seq ?_
  refine xr hT [ca (c69 p0 (by first | assumption | exact (by omega : p0.Steps.length ≤ 1048576)))] (fun f2 => ⟨[(1, .one (.pt 1 (f1 0 0) 0)), (10, .one (.c (.v (.bool (!(impl_FlyPathOk p0))))))], [(1, some (f1 0 0, .box (FlyPath.cs .bor p0)))], 163⟩) (fun f => by kernel_rfl) (fun f => by kernel_rfl) fun f2 => ?_
  refine w_cond rfl (fun h3 => ?_) fun h3 => ?_
  · rw [if_pos h3] at hR
    refine xr hT [] (fun f4 => ⟨[(2, .one (.c (.nl))), (3, .one (.c (.v (.bool false))))], [], 163⟩) (fun f => by kernel_rfl) (fun f => by kernel_rfl) fun f4 => ?_
    refine w_ret ?_
    subst hR
    exact x_ret (by kernel_rfl)
  rw [if_neg (nt h3)] at hR
  refine w_skip ?_
  refine xr hT [.ln FlyStep.row p0.Steps] (fun f5 => ⟨[(1, .one (.pt 1 (f1 0 0) 0)), (4, .one (.c (.v (.int .i64 (p0.Steps.length : Int)))))], [(1, some (f1 0 0, .box (FlyPath.cs .bor p0)))], 163⟩) (fun f => by kernel_rfl) (fun f => by kernel_rfl) fun f5 => ?_
  refine xr hT [.ex true (((p0.Steps.length : Nat) : Int) + ((1 : Nat) : Int)) ((((p0.Steps.length + 1) : Nat) : Int)) (fun _ => wr_nat (n := p0.Steps.length) (c := 1) (by omega)), .mk true FlySpan.row ((⟨0, 0⟩ : FlySpan) : FlySpan) ((((p0.Steps.length + 1) : Nat) : Int)) (p0.Steps.length + 1) 16 (fun h => ⟨rfl, by omega⟩)] (fun f6 => ⟨[(1, .one (.pt 1 (f1 0 0) 0)), (4, .one (.c (.v (.int .i64 (p0.Steps.length : Int))))), (5, .one (.c (.mu 16 (f6 2 0) 2 0 ((List.replicate (p0.Steps.length + 1) ((⟨0, 0⟩ : FlySpan) : FlySpan)).map FlySpan.row).length)))], [(1, some (f1 0 0, .box (FlyPath.cs .bor p0))), (16, some (f6 2 0, .arr 2 ((List.replicate (p0.Steps.length + 1) ((⟨0, 0⟩ : FlySpan) : FlySpan)).map FlySpan.row)))], 163⟩) (fun f => by kernel_rfl) (fun f => by kernel_rfl) fun f6 => ?_
  refine w_seq ?_
  refine xr hT [.ln FlySpan.row (List.replicate (p0.Steps.length + 1) ((⟨0, 0⟩ : FlySpan) : FlySpan))] (fun f7 => ⟨[(1, .one (.pt 1 (f1 0 0) 0)), (4, .one (.c (.v (.int .i64 (p0.Steps.length : Int))))), (5, .one (.c (.mu 16 (f6 2 0) 2 0 ((List.replicate (p0.Steps.length + 1) ((⟨0, 0⟩ : FlySpan) : FlySpan)).map FlySpan.row).length))), (18, .one (.c (.v (.int .i64 ((List.replicate (p0.Steps.length + 1) ((⟨0, 0⟩ : FlySpan) : FlySpan)).length : Int))))), (19, .one (.c (.v (.int .i64 0))))], [(1, some (f1 0 0, .box (FlyPath.cs .bor p0))), (16, some (f6 2 0, .arr 2 ((List.replicate (p0.Steps.length + 1) ((⟨0, 0⟩ : FlySpan) : FlySpan)).map FlySpan.row)))], 163⟩) (fun f => by kernel_rfl) (fun f => by kernel_rfl) fun f7 => ?_
  refine w_forT (fun _ => rfl) (impl_FlySpans_I1 p0 fs) (impl_FlySpans_J1 p0 fs) (fun i1 s1 => s1.length = (List.replicate (p0.Steps.length + 1) ((⟨0, 0⟩ : FlySpan) : FlySpan)).length) (fun s1 => s1.length = (List.replicate (p0.Steps.length + 1) ((⟨0, 0⟩ : FlySpan) : FlySpan)).length) ((List.replicate (p0.Steps.length + 1) ((⟨0, 0⟩ : FlySpan) : FlySpan)).length) 0 (impl_FlySpans_b1 p0) (impl_FlySpans_r1 p0) 0 (List.replicate (p0.Steps.length + 1) ((⟨0, 0⟩ : FlySpan) : FlySpan)) (lst [f1 0 0, f6 2 0]) (sb (by kernel_rfl)) (by first | rfl | ((try simp only [LN, impl_FlySpans_v1, impl_FlySpans_v2, impl_FlySpans_v3, impl_FlySpans_v4, impl_FlySpans_v5]); omega) | (simp; done) | (simp; omega)) hR ?_ ?_
  · skip
    intro i1 s1 x1 hI1 hX1
    try simp only [LN, impl_FlySpans_v1, impl_FlySpans_v2, impl_FlySpans_v3, impl_FlySpans_v4, impl_FlySpans_v5] at hI1
    refine xr hT [] (fun f8 => ⟨[(1, .one (.pt 1 (x1 0) 0)), (4, .one (.c (.v (.int .i64 (p0.Steps.length : Int))))), (5, .one (.c (.mu 16 (x1 1) 2 0 (s1.map FlySpan.row).length))), (18, .one (.c (.v (.int .i64 ((List.replicate (p0.Steps.length + 1) ((⟨0, 0⟩ : FlySpan) : FlySpan)).length : Int))))), (19, .one (.c (.v (.int .i64 ((i1 : Nat) : Int))))), (20, .one (.c (.v (.bool (decide (((i1 : Nat) : Int) < ((List.replicate (p0.Steps.length + 1) ((⟨0, 0⟩ : FlySpan) : FlySpan)).length : Int)))))))], [(1, some (x1 0, .box (FlyPath.cs .bor p0))), (16, some (x1 1, .arr 2 (s1.map FlySpan.row)))], 163⟩) (fun f => by kernel_rfl) (fun f => by kernel_rfl) fun f8 => ?_
    refine w_seq ?_
    refine w_cond rfl (fun h9 => ?_) fun h9 => ?_
    · skip
      have hl1 : i1 < (List.replicate (p0.Steps.length + 1) ((⟨0, 0⟩ : FlySpan) : FlySpan)).length := by have hq := of_decide_eq_true h9; first | omega | ((try simp only [LN, impl_FlySpans_v1, impl_FlySpans_v2, impl_FlySpans_v3, impl_FlySpans_v4, impl_FlySpans_v5] at *); omega)
      have hl1x := hl1; try simp only [LN, impl_FlySpans_v1, impl_FlySpans_v2, impl_FlySpans_v3, impl_FlySpans_v4, impl_FlySpans_v5] at hl1x
      obtain ⟨B1, hB1⟩ : ∃ B, B = impl_FlySpans_b1 p0 i1 s1 := ⟨_, rfl⟩
      have hE1 := hB1
      rw [impl_FlySpans_b1] at hE1
      refine w_skip ?_
      refine w_seq ?_
      refine w_block ?_
      refine xr hT [] (fun f10 => ⟨[(1, .one (.pt 1 (x1 0) 0)), (4, .one (.c (.v (.int .i64 (p0.Steps.length : Int))))), (5, .one (.c (.mu 16 (x1 1) 2 0 (s1.map FlySpan.row).length))), (6, .one (.c (.v (.int .i64 ((i1 : Nat) : Int))))), (18, .one (.c (.v (.int .i64 ((List.replicate (p0.Steps.length + 1) ((⟨0, 0⟩ : FlySpan) : FlySpan)).length : Int))))), (19, .one (.c (.v (.int .i64 ((i1 : Nat) : Int)))))], [(1, some (x1 0, .box (FlyPath.cs .bor p0))), (16, some (x1 1, .arr 2 (s1.map FlySpan.row)))], 163⟩) (fun f => by kernel_rfl) (fun f => by kernel_rfl) fun f10 => ?_
      refine xr hT [ca (c70 p0 ((i1 : Nat) : Int) (by first | assumption | exact (by omega : p0.Steps.length ≤ 1048576)) (by first | assumption | ((try simp only [LN, impl_FlySpans_v1, impl_FlySpans_v2, impl_FlySpans_v3, impl_FlySpans_v4, impl_FlySpans_v5, FlyPath.ok]) <;> omega) | (simp only [LN, impl_FlySpans_v1, impl_FlySpans_v2, impl_FlySpans_v3, impl_FlySpans_v4, impl_FlySpans_v5] <;> assumption)) (by first | assumption | ((try simp only [LN, impl_FlySpans_v1, impl_FlySpans_v2, impl_FlySpans_v3, impl_FlySpans_v4, impl_FlySpans_v5, FlyPath.ok]) <;> omega) | (simp only [LN, impl_FlySpans_v1, impl_FlySpans_v2, impl_FlySpans_v3, impl_FlySpans_v4, impl_FlySpans_v5] <;> assumption))), ix FlySpan.row s1 i1 (by omega), .st inferInstance true FlySpan.row s1 i1 ({ s1.getD i1 default with Low := (impl_FlyPath_bounds p0 ((i1 : Nat) : Int)).1 } : FlySpan) (fun h => by omega), ix FlySpan.row s1 i1 (by omega), .st inferInstance true FlySpan.row (s1.set i1 ({ s1.getD i1 default with Low := (impl_FlyPath_bounds p0 ((i1 : Nat) : Int)).1 } : FlySpan)) i1 ({ (s1.set i1 ({ s1.getD i1 default with Low := (impl_FlyPath_bounds p0 ((i1 : Nat) : Int)).1 } : FlySpan)).getD i1 default with High := (impl_FlyPath_bounds p0 ((i1 : Nat) : Int)).2 } : FlySpan) (fun h => by (first | omega | ((try simp only [LN, impl_FlySpans_v1, impl_FlySpans_v2, impl_FlySpans_v3, impl_FlySpans_v4, impl_FlySpans_v5]); omega) | ((try simp only [wr, IntKind.wrap_i64, LN, impl_FlySpans_v1, impl_FlySpans_v2, impl_FlySpans_v3, impl_FlySpans_v4, impl_FlySpans_v5] at *); omega) | (simp_all <;> omega)))] (fun f11 => ⟨[(1, .one (.pt 1 (x1 0) 0)), (4, .one (.c (.v (.int .i64 (p0.Steps.length : Int))))), (5, .one (.c (.mu 16 (x1 1) 2 0 (s1.map FlySpan.row).length))), (6, .one (.c (.v (.int .i64 ((i1 : Nat) : Int))))), (18, .one (.c (.v (.int .i64 ((List.replicate (p0.Steps.length + 1) ((⟨0, 0⟩ : FlySpan) : FlySpan)).length : Int))))), (19, .one (.c (.v (.int .i64 ((i1 : Nat) : Int)))))], [(1, some (x1 0, .box (FlyPath.cs .bor p0))), (16, some (x1 1, .arr 2 ((impl_FlySpans_v1 p0 i1 s1).map FlySpan.row)))], 163⟩) (fun f => by kernel_rfl) (fun f => by kernel_rfl) fun f11 => ?_
      refine w_sub (s := ⟨[(1, .one (.pt 1 (x1 0) 0)), (4, .one (.c (.v (.int .i64 (p0.Steps.length : Int))))), (5, .one (.c (.mu 16 (x1 1) 2 0 ((impl_FlySpans_v1 p0 i1 s1).map FlySpan.row).length))), (6, .one (.c (.v (.int .i64 ((i1 : Nat) : Int))))), (18, .one (.c (.v (.int .i64 ((List.replicate (p0.Steps.length + 1) ((⟨0, 0⟩ : FlySpan) : FlySpan)).length : Int))))), (19, .one (.c (.v (.int .i64 ((i1 : Nat) : Int)))))], [(1, some (x1 0, .box (FlyPath.cs .bor p0))), (16, some (x1 1, .arr 2 ((impl_FlySpans_v1 p0 i1 s1).map FlySpan.row)))], 163⟩) (cst (by simp only [LN, impl_FlySpans_v1, impl_FlySpans_v2, impl_FlySpans_v3, impl_FlySpans_v4, impl_FlySpans_v5]) (sb (s := ⟨[(1, .one (.pt 1 (x1 0) 0)), (4, .one (.c (.v (.int .i64 (p0.Steps.length : Int))))), (5, .one (.c (.mu 16 (x1 1) 2 0 (s1.map FlySpan.row).length))), (6, .one (.c (.v (.int .i64 ((i1 : Nat) : Int))))), (18, .one (.c (.v (.int .i64 ((List.replicate (p0.Steps.length + 1) ((⟨0, 0⟩ : FlySpan) : FlySpan)).length : Int))))), (19, .one (.c (.v (.int .i64 ((i1 : Nat) : Int)))))], [(1, some (x1 0, .box (FlyPath.cs .bor p0))), (16, some (x1 1, .arr 2 ((impl_FlySpans_v1 p0 i1 s1).map FlySpan.row)))], 163⟩) (by kernel_rfl))) ?_
      refine w_seq ?_
      refine xr hT [] (fun f12 => ⟨[(1, .one (.pt 1 (x1 0) 0)), (4, .one (.c (.v (.int .i64 (p0.Steps.length : Int))))), (5, .one (.c (.mu 16 (x1 1) 2 0 ((impl_FlySpans_v1 p0 i1 s1).map FlySpan.row).length))), (6, .one (.c (.v (.int .i64 ((i1 : Nat) : Int))))), (18, .one (.c (.v (.int .i64 ((List.replicate (p0.Steps.length + 1) ((⟨0, 0⟩ : FlySpan) : FlySpan)).length : Int))))), (19, .one (.c (.v (.int .i64 ((i1 : Nat) : Int))))), (37, .one (.c (.v (.bool (decide (((i1 : Nat) : Int) = 0))))))], [(1, some (x1 0, .box (FlyPath.cs .bor p0))), (16, some (x1 1, .arr 2 ((impl_FlySpans_v1 p0 i1 s1).map FlySpan.row)))], 163⟩) (fun f => by kernel_rfl) (fun f => by kernel_rfl) fun f12 => ?_
      refine w_cond rfl (fun h13 => ?_) fun h13 => ?_
      · rw [if_pos h13] at hE1
        have gh13 := of_decide_eq_true h13
        refine w_exit ?_
        refine x_reg hT [.ex true (((i1 : Nat) : Int) + ((1 : Nat) : Int)) ((((i1 + 1) : Nat) : Int)) (fun _ => wr_nat (n := i1) (c := 1) (by omega))] (fun f14 => impl_FlySpans_I1 p0 fs (i1 + 1) (impl_FlySpans_v1 p0 i1 s1) (lst [x1 0, x1 1])) (fun f => by kernel_rfl) (fun f => by kernel_rfl) fun f14 s' hs' => ?_
        exact ⟨(impl_FlySpans_v1 p0 i1 s1), (lst [x1 0, x1 1]), hl1, (by (try simp only [LN, impl_FlySpans_v1, impl_FlySpans_v2, impl_FlySpans_v3, impl_FlySpans_v4, impl_FlySpans_v5] at *); omega), hX1.trans (forN_next hl1 (hB1.symm.trans hE1)), hs'⟩
      rw [if_neg (nt h13)] at hE1
      have gh13 := of_decide_eq_false h13
      refine w_skip ?_
      refine xd hT hM [ix FlySpan.row (impl_FlySpans_v1 p0 i1 s1) i1 (by (first | omega | ((try simp only [LN, impl_FlySpans_v1, impl_FlySpans_v2, impl_FlySpans_v3, impl_FlySpans_v4, impl_FlySpans_v5]); omega) | ((try simp only [wr, IntKind.wrap_i64, LN, impl_FlySpans_v1, impl_FlySpans_v2, impl_FlySpans_v3, impl_FlySpans_v4, impl_FlySpans_v5] at *); omega) | (simp_all <;> omega))), ix FlySpan.row (impl_FlySpans_v1 p0 i1 s1) i1 (by (first | omega | ((try simp only [LN, impl_FlySpans_v1, impl_FlySpans_v2, impl_FlySpans_v3, impl_FlySpans_v4, impl_FlySpans_v5]); omega) | ((try simp only [wr, IntKind.wrap_i64, LN, impl_FlySpans_v1, impl_FlySpans_v2, impl_FlySpans_v3, impl_FlySpans_v4, impl_FlySpans_v5] at *); omega) | (simp_all <;> omega))), .ex true (((i1 : Nat) : Int) - 1) (((i1 : Nat) : Int) - 1) (fun _ => wr_eq (by omega) (by omega)), iz FlySpan.row (impl_FlySpans_v1 p0 i1 s1) (((i1 : Nat) : Int) - 1) (by (first | omega | ((try simp only [LN, impl_FlySpans_v1, impl_FlySpans_v2, impl_FlySpans_v3, impl_FlySpans_v4, impl_FlySpans_v5]); omega) | ((try simp only [wr, IntKind.wrap_i64, LN, impl_FlySpans_v1, impl_FlySpans_v2, impl_FlySpans_v3, impl_FlySpans_v4, impl_FlySpans_v5] at *); omega) | (simp_all <;> omega))), ix FlySpan.row (impl_FlySpans_v1 p0 i1 s1) ((((i1 : Nat) : Int) - 1).toNat) (by (first | omega | ((try simp only [LN, impl_FlySpans_v1, impl_FlySpans_v2, impl_FlySpans_v3, impl_FlySpans_v4, impl_FlySpans_v5]); omega) | ((try simp only [wr, IntKind.wrap_i64, LN, impl_FlySpans_v1, impl_FlySpans_v2, impl_FlySpans_v3, impl_FlySpans_v4, impl_FlySpans_v5] at *); omega) | (simp_all <;> omega))), .wr, ix FlySpan.row (impl_FlySpans_v1 p0 i1 s1) i1 (by (first | omega | ((try simp only [LN, impl_FlySpans_v1, impl_FlySpans_v2, impl_FlySpans_v3, impl_FlySpans_v4, impl_FlySpans_v5]); omega) | ((try simp only [wr, IntKind.wrap_i64, LN, impl_FlySpans_v1, impl_FlySpans_v2, impl_FlySpans_v3, impl_FlySpans_v4, impl_FlySpans_v5] at *); omega) | (simp_all <;> omega))), .st inferInstance true FlySpan.row (impl_FlySpans_v1 p0 i1 s1) i1 ({ (impl_FlySpans_v1 p0 i1 s1).getD i1 default with Low := max (((impl_FlySpans_v1 p0 i1 s1).getD i1 default).Low) (wr ((((impl_FlySpans_v1 p0 i1 s1).getD ((((i1 : Nat) : Int) - 1).toNat) default).Low) + p0.Kind.Quick)) } : FlySpan) (fun h => by (first | omega | ((try simp only [LN, impl_FlySpans_v1, impl_FlySpans_v2, impl_FlySpans_v3, impl_FlySpans_v4, impl_FlySpans_v5]); omega) | ((try simp only [wr, IntKind.wrap_i64, LN, impl_FlySpans_v1, impl_FlySpans_v2, impl_FlySpans_v3, impl_FlySpans_v4, impl_FlySpans_v5] at *); omega) | (simp_all <;> omega)))] (fun f15 => ⟨[(1, .one (.pt 1 (x1 0) 0)), (4, .one (.c (.v (.int .i64 (p0.Steps.length : Int))))), (5, .one (.c (.mu 16 (x1 1) 2 0 ((impl_FlySpans_v1 p0 i1 s1).map FlySpan.row).length))), (6, .one (.c (.v (.int .i64 ((i1 : Nat) : Int))))), (18, .one (.c (.v (.int .i64 ((List.replicate (p0.Steps.length + 1) ((⟨0, 0⟩ : FlySpan) : FlySpan)).length : Int))))), (19, .one (.c (.v (.int .i64 ((i1 : Nat) : Int)))))], [(1, some (x1 0, .box (FlyPath.cs .bor p0))), (16, some (x1 1, .arr 2 ((impl_FlySpans_v2 p0 i1 s1).map FlySpan.row)))], 163⟩) (fun f => by kernel_rfl) (fun f => by kernel_rfl) (fun f => by kernel_rfl) fun f15 => ?_
      refine w_sub (s := ⟨[(1, .one (.pt 1 (x1 0) 0)), (4, .one (.c (.v (.int .i64 (p0.Steps.length : Int))))), (5, .one (.c (.mu 16 (x1 1) 2 0 ((impl_FlySpans_v2 p0 i1 s1).map FlySpan.row).length))), (6, .one (.c (.v (.int .i64 ((i1 : Nat) : Int))))), (18, .one (.c (.v (.int .i64 ((List.replicate (p0.Steps.length + 1) ((⟨0, 0⟩ : FlySpan) : FlySpan)).length : Int))))), (19, .one (.c (.v (.int .i64 ((i1 : Nat) : Int)))))], [(1, some (x1 0, .box (FlyPath.cs .bor p0))), (16, some (x1 1, .arr 2 ((impl_FlySpans_v2 p0 i1 s1).map FlySpan.row)))], 163⟩) (cst (by simp only [LN, impl_FlySpans_v1, impl_FlySpans_v2, impl_FlySpans_v3, impl_FlySpans_v4, impl_FlySpans_v5]) (sb (s := ⟨[(1, .one (.pt 1 (x1 0) 0)), (4, .one (.c (.v (.int .i64 (p0.Steps.length : Int))))), (5, .one (.c (.mu 16 (x1 1) 2 0 ((impl_FlySpans_v1 p0 i1 s1).map FlySpan.row).length))), (6, .one (.c (.v (.int .i64 ((i1 : Nat) : Int))))), (18, .one (.c (.v (.int .i64 ((List.replicate (p0.Steps.length + 1) ((⟨0, 0⟩ : FlySpan) : FlySpan)).length : Int))))), (19, .one (.c (.v (.int .i64 ((i1 : Nat) : Int)))))], [(1, some (x1 0, .box (FlyPath.cs .bor p0))), (16, some (x1 1, .arr 2 ((impl_FlySpans_v2 p0 i1 s1).map FlySpan.row)))], 163⟩) (by kernel_rfl))) ?_
      refine w_seq ?_
      refine xr hT [.ex true (((i1 : Nat) : Int) - 1) (((i1 : Nat) : Int) - 1) (fun _ => wr_eq (by omega) (by omega)), iz FlyStep.row p0.Steps (((i1 : Nat) : Int) - 1) (by omega)] (fun f16 => ⟨[(1, .one (.pt 1 (x1 0) 0)), (4, .one (.c (.v (.int .i64 (p0.Steps.length : Int))))), (5, .one (.c (.mu 16 (x1 1) 2 0 ((impl_FlySpans_v2 p0 i1 s1).map FlySpan.row).length))), (6, .one (.c (.v (.int .i64 ((i1 : Nat) : Int))))), (18, .one (.c (.v (.int .i64 ((List.replicate (p0.Steps.length + 1) ((⟨0, 0⟩ : FlySpan) : FlySpan)).length : Int))))), (19, .one (.c (.v (.int .i64 ((i1 : Nat) : Int))))), (65, .one (.c (.v (.bool (!((p0.Steps.getD ((((i1 : Nat) : Int) - 1).toNat) default).Hold))))))], [(1, some (x1 0, .box (FlyPath.cs .bor p0))), (16, some (x1 1, .arr 2 ((impl_FlySpans_v2 p0 i1 s1).map FlySpan.row)))], 163⟩) (fun f => by kernel_rfl) (fun f => by kernel_rfl) fun f16 => ?_
      refine w_cond rfl (fun h17 => ?_) fun h17 => ?_
      · rw [if_pos h17] at hE1
        refine xd1 (fun _ => rfl) hT hM [ix FlySpan.row (impl_FlySpans_v2 p0 i1 s1) i1 (by (first | omega | ((try simp only [LN, impl_FlySpans_v1, impl_FlySpans_v2, impl_FlySpans_v3, impl_FlySpans_v4, impl_FlySpans_v5]); omega) | ((try simp only [wr, IntKind.wrap_i64, LN, impl_FlySpans_v1, impl_FlySpans_v2, impl_FlySpans_v3, impl_FlySpans_v4, impl_FlySpans_v5] at *); omega) | (simp_all <;> omega))), ix FlySpan.row (impl_FlySpans_v2 p0 i1 s1) i1 (by (first | omega | ((try simp only [LN, impl_FlySpans_v1, impl_FlySpans_v2, impl_FlySpans_v3, impl_FlySpans_v4, impl_FlySpans_v5]); omega) | ((try simp only [wr, IntKind.wrap_i64, LN, impl_FlySpans_v1, impl_FlySpans_v2, impl_FlySpans_v3, impl_FlySpans_v4, impl_FlySpans_v5] at *); omega) | (simp_all <;> omega))), .ex true (((i1 : Nat) : Int) - 1) (((i1 : Nat) : Int) - 1) (fun _ => wr_eq (by omega) (by omega)), iz FlySpan.row (impl_FlySpans_v2 p0 i1 s1) (((i1 : Nat) : Int) - 1) (by (first | omega | ((try simp only [LN, impl_FlySpans_v1, impl_FlySpans_v2, impl_FlySpans_v3, impl_FlySpans_v4, impl_FlySpans_v5]); omega) | ((try simp only [wr, IntKind.wrap_i64, LN, impl_FlySpans_v1, impl_FlySpans_v2, impl_FlySpans_v3, impl_FlySpans_v4, impl_FlySpans_v5] at *); omega) | (simp_all <;> omega))), ix FlySpan.row (impl_FlySpans_v2 p0 i1 s1) ((((i1 : Nat) : Int) - 1).toNat) (by (first | omega | ((try simp only [LN, impl_FlySpans_v1, impl_FlySpans_v2, impl_FlySpans_v3, impl_FlySpans_v4, impl_FlySpans_v5]); omega) | ((try simp only [wr, IntKind.wrap_i64, LN, impl_FlySpans_v1, impl_FlySpans_v2, impl_FlySpans_v3, impl_FlySpans_v4, impl_FlySpans_v5] at *); omega) | (simp_all <;> omega))), .wr, ix FlySpan.row (impl_FlySpans_v2 p0 i1 s1) i1 (by (first | omega | ((try simp only [LN, impl_FlySpans_v1, impl_FlySpans_v2, impl_FlySpans_v3, impl_FlySpans_v4, impl_FlySpans_v5]); omega) | ((try simp only [wr, IntKind.wrap_i64, LN, impl_FlySpans_v1, impl_FlySpans_v2, impl_FlySpans_v3, impl_FlySpans_v4, impl_FlySpans_v5] at *); omega) | (simp_all <;> omega))), .st inferInstance true FlySpan.row (impl_FlySpans_v2 p0 i1 s1) i1 ({ (impl_FlySpans_v2 p0 i1 s1).getD i1 default with High := min (((impl_FlySpans_v2 p0 i1 s1).getD i1 default).High) (wr ((((impl_FlySpans_v2 p0 i1 s1).getD ((((i1 : Nat) : Int) - 1).toNat) default).High) + p0.Kind.Slow)) } : FlySpan) (fun h => by (first | omega | ((try simp only [LN, impl_FlySpans_v1, impl_FlySpans_v2, impl_FlySpans_v3, impl_FlySpans_v4, impl_FlySpans_v5]); omega) | ((try simp only [wr, IntKind.wrap_i64, LN, impl_FlySpans_v1, impl_FlySpans_v2, impl_FlySpans_v3, impl_FlySpans_v4, impl_FlySpans_v5] at *); omega) | (simp_all <;> omega)))] (fun f18 => ⟨[(1, .one (.pt 1 (x1 0) 0)), (4, .one (.c (.v (.int .i64 (p0.Steps.length : Int))))), (5, .one (.c (.mu 16 (x1 1) 2 0 ((impl_FlySpans_v2 p0 i1 s1).map FlySpan.row).length))), (6, .one (.c (.v (.int .i64 ((i1 : Nat) : Int))))), (18, .one (.c (.v (.int .i64 ((List.replicate (p0.Steps.length + 1) ((⟨0, 0⟩ : FlySpan) : FlySpan)).length : Int))))), (19, .one (.c (.v (.int .i64 ((i1 : Nat) : Int)))))], [(1, some (x1 0, .box (FlyPath.cs .bor p0))), (16, some (x1 1, .arr 2 ((impl_FlySpans_v3 p0 i1 s1).map FlySpan.row)))], 163⟩) (fun f => by kernel_rfl) (fun f => by kernel_rfl) (fun f => by kernel_rfl) fun f18 => ?_
        refine w_sub (s := ⟨[(1, .one (.pt 1 (x1 0) 0)), (4, .one (.c (.v (.int .i64 (p0.Steps.length : Int))))), (5, .one (.c (.mu 16 (x1 1) 2 0 ((impl_FlySpans_v3 p0 i1 s1).map FlySpan.row).length))), (6, .one (.c (.v (.int .i64 ((i1 : Nat) : Int))))), (18, .one (.c (.v (.int .i64 ((List.replicate (p0.Steps.length + 1) ((⟨0, 0⟩ : FlySpan) : FlySpan)).length : Int))))), (19, .one (.c (.v (.int .i64 ((i1 : Nat) : Int)))))], [(1, some (x1 0, .box (FlyPath.cs .bor p0))), (16, some (x1 1, .arr 2 ((impl_FlySpans_v3 p0 i1 s1).map FlySpan.row)))], 163⟩) (cst (by simp only [LN, impl_FlySpans_v1, impl_FlySpans_v2, impl_FlySpans_v3, impl_FlySpans_v4, impl_FlySpans_v5]) (sb (s := ⟨[(1, .one (.pt 1 (x1 0) 0)), (4, .one (.c (.v (.int .i64 (p0.Steps.length : Int))))), (5, .one (.c (.mu 16 (x1 1) 2 0 ((impl_FlySpans_v2 p0 i1 s1).map FlySpan.row).length))), (6, .one (.c (.v (.int .i64 ((i1 : Nat) : Int))))), (18, .one (.c (.v (.int .i64 ((List.replicate (p0.Steps.length + 1) ((⟨0, 0⟩ : FlySpan) : FlySpan)).length : Int))))), (19, .one (.c (.v (.int .i64 ((i1 : Nat) : Int)))))], [(1, some (x1 0, .box (FlyPath.cs .bor p0))), (16, some (x1 1, .arr 2 ((impl_FlySpans_v3 p0 i1 s1).map FlySpan.row)))], 163⟩) (by kernel_rfl))) ?_
        refine xd hT hM [ix FlySpan.row (impl_FlySpans_v3 p0 i1 s1) i1 (by (first | omega | ((try simp only [LN, impl_FlySpans_v1, impl_FlySpans_v2, impl_FlySpans_v3, impl_FlySpans_v4, impl_FlySpans_v5]); omega) | ((try simp only [wr, IntKind.wrap_i64, LN, impl_FlySpans_v1, impl_FlySpans_v2, impl_FlySpans_v3, impl_FlySpans_v4, impl_FlySpans_v5] at *); omega) | (simp_all <;> omega))), ix FlySpan.row (impl_FlySpans_v3 p0 i1 s1) i1 (by (first | omega | ((try simp only [LN, impl_FlySpans_v1, impl_FlySpans_v2, impl_FlySpans_v3, impl_FlySpans_v4, impl_FlySpans_v5]); omega) | ((try simp only [wr, IntKind.wrap_i64, LN, impl_FlySpans_v1, impl_FlySpans_v2, impl_FlySpans_v3, impl_FlySpans_v4, impl_FlySpans_v5] at *); omega) | (simp_all <;> omega))), ix FlySpan.row (impl_FlySpans_v3 p0 i1 s1) i1 (by (first | omega | ((try simp only [LN, impl_FlySpans_v1, impl_FlySpans_v2, impl_FlySpans_v3, impl_FlySpans_v4, impl_FlySpans_v5]); omega) | ((try simp only [wr, IntKind.wrap_i64, LN, impl_FlySpans_v1, impl_FlySpans_v2, impl_FlySpans_v3, impl_FlySpans_v4, impl_FlySpans_v5] at *); omega) | (simp_all <;> omega))), ix FlySpan.row (impl_FlySpans_v3 p0 i1 s1) i1 (by (first | omega | ((try simp only [LN, impl_FlySpans_v1, impl_FlySpans_v2, impl_FlySpans_v3, impl_FlySpans_v4, impl_FlySpans_v5]); omega) | ((try simp only [wr, IntKind.wrap_i64, LN, impl_FlySpans_v1, impl_FlySpans_v2, impl_FlySpans_v3, impl_FlySpans_v4, impl_FlySpans_v5] at *); omega) | (simp_all <;> omega)))] (fun f19 => ⟨[(1, .one (.pt 1 (x1 0) 0)), (4, .one (.c (.v (.int .i64 (p0.Steps.length : Int))))), (5, .one (.c (.mu 16 (x1 1) 2 0 ((impl_FlySpans_v3 p0 i1 s1).map FlySpan.row).length))), (18, .one (.c (.v (.int .i64 ((List.replicate (p0.Steps.length + 1) ((⟨0, 0⟩ : FlySpan) : FlySpan)).length : Int))))), (19, .one (.c (.v (.int .i64 ((i1 : Nat) : Int))))), (96, .one (.c (.v (.bool (decide ((((impl_FlySpans_v3 p0 i1 s1).getD i1 default).High) < (((impl_FlySpans_v3 p0 i1 s1).getD i1 default).Low)))))))], [(1, some (x1 0, .box (FlyPath.cs .bor p0))), (16, some (x1 1, .arr 2 ((impl_FlySpans_v3 p0 i1 s1).map FlySpan.row)))], 163⟩) (fun f => by kernel_rfl) (fun f => by kernel_rfl) (fun f => by kernel_rfl) fun f19 => ?_
        refine w_cond rfl (fun h20 => ?_) fun h20 => ?_
        · rw [if_pos h20] at hE1
          have gh20 := of_decide_eq_true h20
          refine xr hT [] (fun f21 => ⟨[(2, .one (.c (.nl))), (3, .one (.c (.v (.bool false))))], [], 163⟩) (fun f => by kernel_rfl) (fun f => by kernel_rfl) fun f21 => ?_
          refine w_ret ?_
          have hR := hX1.trans (forN_ret hl1 (hB1.symm.trans hE1))
          subst hR
          exact x_ret (by kernel_rfl)
        rw [if_neg (nt h20)] at hE1
        have gh20 := of_decide_eq_false h20
        refine w_skip ?_
        refine x_reg hT [.ex true (((i1 : Nat) : Int) + ((1 : Nat) : Int)) ((((i1 + 1) : Nat) : Int)) (fun _ => wr_nat (n := i1) (c := 1) (by omega))] (fun f22 => impl_FlySpans_I1 p0 fs (i1 + 1) (impl_FlySpans_v3 p0 i1 s1) (lst [x1 0, x1 1])) (fun f => by kernel_rfl) (fun f => by kernel_rfl) fun f22 s' hs' => ?_
        exact ⟨(impl_FlySpans_v3 p0 i1 s1), (lst [x1 0, x1 1]), hl1, (by (try simp only [LN, impl_FlySpans_v1, impl_FlySpans_v2, impl_FlySpans_v3, impl_FlySpans_v4, impl_FlySpans_v5] at *); omega), hX1.trans (forN_next hl1 (hB1.symm.trans hE1)), hs'⟩
      rw [if_neg (nt h17)] at hE1
      refine w_skip ?_
      refine xd hT hM [ix FlySpan.row (impl_FlySpans_v2 p0 i1 s1) i1 (by (first | omega | ((try simp only [LN, impl_FlySpans_v1, impl_FlySpans_v2, impl_FlySpans_v3, impl_FlySpans_v4, impl_FlySpans_v5]); omega) | ((try simp only [wr, IntKind.wrap_i64, LN, impl_FlySpans_v1, impl_FlySpans_v2, impl_FlySpans_v3, impl_FlySpans_v4, impl_FlySpans_v5] at *); omega) | (simp_all <;> omega))), ix FlySpan.row (impl_FlySpans_v2 p0 i1 s1) i1 (by (first | omega | ((try simp only [LN, impl_FlySpans_v1, impl_FlySpans_v2, impl_FlySpans_v3, impl_FlySpans_v4, impl_FlySpans_v5]); omega) | ((try simp only [wr, IntKind.wrap_i64, LN, impl_FlySpans_v1, impl_FlySpans_v2, impl_FlySpans_v3, impl_FlySpans_v4, impl_FlySpans_v5] at *); omega) | (simp_all <;> omega))), ix FlySpan.row (impl_FlySpans_v2 p0 i1 s1) i1 (by (first | omega | ((try simp only [LN, impl_FlySpans_v1, impl_FlySpans_v2, impl_FlySpans_v3, impl_FlySpans_v4, impl_FlySpans_v5]); omega) | ((try simp only [wr, IntKind.wrap_i64, LN, impl_FlySpans_v1, impl_FlySpans_v2, impl_FlySpans_v3, impl_FlySpans_v4, impl_FlySpans_v5] at *); omega) | (simp_all <;> omega))), ix FlySpan.row (impl_FlySpans_v2 p0 i1 s1) i1 (by (first | omega | ((try simp only [LN, impl_FlySpans_v1, impl_FlySpans_v2, impl_FlySpans_v3, impl_FlySpans_v4, impl_FlySpans_v5]); omega) | ((try simp only [wr, IntKind.wrap_i64, LN, impl_FlySpans_v1, impl_FlySpans_v2, impl_FlySpans_v3, impl_FlySpans_v4, impl_FlySpans_v5] at *); omega) | (simp_all <;> omega)))] (fun f23 => ⟨[(1, .one (.pt 1 (x1 0) 0)), (4, .one (.c (.v (.int .i64 (p0.Steps.length : Int))))), (5, .one (.c (.mu 16 (x1 1) 2 0 ((impl_FlySpans_v2 p0 i1 s1).map FlySpan.row).length))), (18, .one (.c (.v (.int .i64 ((List.replicate (p0.Steps.length + 1) ((⟨0, 0⟩ : FlySpan) : FlySpan)).length : Int))))), (19, .one (.c (.v (.int .i64 ((i1 : Nat) : Int))))), (96, .one (.c (.v (.bool (decide ((((impl_FlySpans_v2 p0 i1 s1).getD i1 default).High) < (((impl_FlySpans_v2 p0 i1 s1).getD i1 default).Low)))))))], [(1, some (x1 0, .box (FlyPath.cs .bor p0))), (16, some (x1 1, .arr 2 ((impl_FlySpans_v2 p0 i1 s1).map FlySpan.row)))], 163⟩) (fun f => by kernel_rfl) (fun f => by kernel_rfl) (fun f => by kernel_rfl) fun f23 => ?_
      refine w_cond rfl (fun h24 => ?_) fun h24 => ?_
      · rw [if_pos h24] at hE1
        have gh24 := of_decide_eq_true h24
        refine xr hT [] (fun f25 => ⟨[(2, .one (.c (.nl))), (3, .one (.c (.v (.bool false))))], [], 163⟩) (fun f => by kernel_rfl) (fun f => by kernel_rfl) fun f25 => ?_
        refine w_ret ?_
        have hR := hX1.trans (forN_ret hl1 (hB1.symm.trans hE1))
        subst hR
        exact x_ret (by kernel_rfl)
      rw [if_neg (nt h24)] at hE1
      have gh24 := of_decide_eq_false h24
      refine w_skip ?_
      refine x_reg hT [.ex true (((i1 : Nat) : Int) + ((1 : Nat) : Int)) ((((i1 + 1) : Nat) : Int)) (fun _ => wr_nat (n := i1) (c := 1) (by omega))] (fun f26 => impl_FlySpans_I1 p0 fs (i1 + 1) (impl_FlySpans_v2 p0 i1 s1) (lst [x1 0, x1 1])) (fun f => by kernel_rfl) (fun f => by kernel_rfl) fun f26 s' hs' => ?_
      exact ⟨(impl_FlySpans_v2 p0 i1 s1), (lst [x1 0, x1 1]), hl1, (by (try simp only [LN, impl_FlySpans_v1, impl_FlySpans_v2, impl_FlySpans_v3, impl_FlySpans_v4, impl_FlySpans_v5] at *); omega), hX1.trans (forN_next hl1 (hB1.symm.trans hE1)), hs'⟩
    have hq := of_decide_eq_false h9
    refine w_exit ?_
    exact ⟨s1, (lst [x1 0, x1 1]), (by (try simp only [LN, impl_FlySpans_v1, impl_FlySpans_v2, impl_FlySpans_v3, impl_FlySpans_v4, impl_FlySpans_v5] at *); omega), hX1.trans (forN_end (by first | omega | ((try simp only [LN, impl_FlySpans_v1, impl_FlySpans_v2, impl_FlySpans_v3, impl_FlySpans_v4, impl_FlySpans_v5] at *); omega))), sb (by kernel_rfl)⟩
  intro s1 x1 hF46 hR27
  try simp only [LN, impl_FlySpans_v1, impl_FlySpans_v2, impl_FlySpans_v3, impl_FlySpans_v4, impl_FlySpans_v5] at hF46
  rw [impl_FlySpans_r1] at hR27
  refine w_seq ?_
  refine xr hT [.ex true ((p0.Steps.length : Int) - 1) ((p0.Steps.length : Int) - 1) (fun _ => wr_eq (by omega) (by omega))] (fun f28 => ⟨[(1, .one (.pt 1 (x1 0) 0)), (5, .one (.c (.mu 16 (x1 1) 2 0 (s1.map FlySpan.row).length))), (7, .one (.c (.v (.int .i64 ((p0.Steps.length : Int) - 1)))))], [(1, some (x1 0, .box (FlyPath.cs .bor p0))), (16, some (x1 1, .arr 2 (s1.map FlySpan.row)))], 163⟩) (fun f => by kernel_rfl) (fun f => by kernel_rfl) fun f28 => ?_
  refine w_itrT (fun _ => rfl) (impl_FlySpans_I2 p0 s1 fs) (impl_FlySpans_J2 p0 s1 fs) (fun s2 => s2.2.length = (s1).length ∧ -1 ≤ s2.1 ∧ s2.1 < p0.Steps.length) (fun s2 => s2.2.length = (s1).length) (impl_FlySpans_u2 p0 s1) 2 (impl_FlySpans_b2 p0 s1) (impl_FlySpans_r2 p0 s1) (((p0.Steps.length : Int) - 1, s1)) (lst [x1 0, x1 1]) (sb (by kernel_rfl)) (by first | rfl | ((try simp only [LN, impl_FlySpans_v1, impl_FlySpans_v2, impl_FlySpans_v3, impl_FlySpans_v4, impl_FlySpans_v5]); omega) | (simp; done) | (simp; omega)) hR27 ?_ ?_
  · skip
    intro s2 x2 k2 hI2 hl2 hX2
    try simp only [LN, impl_FlySpans_v1, impl_FlySpans_v2, impl_FlySpans_v3, impl_FlySpans_v4, impl_FlySpans_v5] at hI2
    refine w_seq ?_
    refine xr hT [] (fun f29 => ⟨[(1, .one (.pt 1 (x2 0) 0)), (5, .one (.c (.mu 16 (x2 1) 2 0 (s2.2.map FlySpan.row).length))), (7, .one (.c (.v (.int .i64 s2.1)))), (101, .one (.c (.v (.bool (decide (0 ≤ s2.1))))))], [(1, some (x2 0, .box (FlyPath.cs .bor p0))), (16, some (x2 1, .arr 2 (s2.2.map FlySpan.row)))], 163⟩) (fun f => by kernel_rfl) (fun f => by kernel_rfl) fun f29 => ?_
    obtain ⟨B2, hB2⟩ : ∃ B, B = impl_FlySpans_b2 p0 s1 s2 := ⟨_, rfl⟩
    have hE2 := hB2
    rw [impl_FlySpans_b2] at hE2
    refine w_cond rfl (fun h30 => ?_) fun h30 => ?_
    · rw [if_pos h30] at hE2
      have gh30 := of_decide_eq_true h30
      refine w_skip ?_
      refine w_seq ?_
      refine w_block ?_
      refine xd hT hM [iz FlySpan.row s2.2 (s2.1) (by omega), ix FlySpan.row s2.2 ((s2.1).toNat) (by omega), .ex true (s2.1 + 1) (s2.1 + 1) (fun _ => wr_eq (by omega) (by omega)), iz FlySpan.row s2.2 (s2.1 + 1) (by omega), ix FlySpan.row s2.2 ((s2.1 + 1).toNat) (by omega), .wr, iz FlySpan.row s2.2 (s2.1) (by omega), .st inferInstance true FlySpan.row s2.2 ((s2.1).toNat) ({ s2.2.getD ((s2.1).toNat) default with High := min ((s2.2.getD ((s2.1).toNat) default).High) (wr (((s2.2.getD ((s2.1 + 1).toNat) default).High) - p0.Kind.Quick)) } : FlySpan) (fun h => by omega)] (fun f31 => ⟨[(1, .one (.pt 1 (x2 0) 0)), (5, .one (.c (.mu 16 (x2 1) 2 0 (s2.2.map FlySpan.row).length))), (7, .one (.c (.v (.int .i64 s2.1))))], [(1, some (x2 0, .box (FlyPath.cs .bor p0))), (16, some (x2 1, .arr 2 ((impl_FlySpans_v4 p0 s2).map FlySpan.row)))], 163⟩) (fun f => by kernel_rfl) (fun f => by kernel_rfl) (fun f => by kernel_rfl) fun f31 => ?_
      refine w_sub (s := ⟨[(1, .one (.pt 1 (x2 0) 0)), (5, .one (.c (.mu 16 (x2 1) 2 0 ((impl_FlySpans_v4 p0 s2).map FlySpan.row).length))), (7, .one (.c (.v (.int .i64 s2.1))))], [(1, some (x2 0, .box (FlyPath.cs .bor p0))), (16, some (x2 1, .arr 2 ((impl_FlySpans_v4 p0 s2).map FlySpan.row)))], 163⟩) (cst (by simp only [LN, impl_FlySpans_v1, impl_FlySpans_v2, impl_FlySpans_v3, impl_FlySpans_v4, impl_FlySpans_v5]) (sb (s := ⟨[(1, .one (.pt 1 (x2 0) 0)), (5, .one (.c (.mu 16 (x2 1) 2 0 (s2.2.map FlySpan.row).length))), (7, .one (.c (.v (.int .i64 s2.1))))], [(1, some (x2 0, .box (FlyPath.cs .bor p0))), (16, some (x2 1, .arr 2 ((impl_FlySpans_v4 p0 s2).map FlySpan.row)))], 163⟩) (by kernel_rfl))) ?_
      refine w_seq ?_
      refine xr hT [iz FlyStep.row p0.Steps (s2.1) (by omega)] (fun f32 => ⟨[(1, .one (.pt 1 (x2 0) 0)), (5, .one (.c (.mu 16 (x2 1) 2 0 ((impl_FlySpans_v4 p0 s2).map FlySpan.row).length))), (7, .one (.c (.v (.int .i64 s2.1)))), (130, .one (.c (.v (.bool (!((p0.Steps.getD ((s2.1).toNat) default).Hold))))))], [(1, some (x2 0, .box (FlyPath.cs .bor p0))), (16, some (x2 1, .arr 2 ((impl_FlySpans_v4 p0 s2).map FlySpan.row)))], 163⟩) (fun f => by kernel_rfl) (fun f => by kernel_rfl) fun f32 => ?_
      refine w_cond rfl (fun h33 => ?_) fun h33 => ?_
      · rw [if_pos h33] at hE2
        refine xd1 (fun _ => rfl) hT hM [iz FlySpan.row (impl_FlySpans_v4 p0 s2) (s2.1) (by (first | omega | ((try simp only [LN, impl_FlySpans_v1, impl_FlySpans_v2, impl_FlySpans_v3, impl_FlySpans_v4, impl_FlySpans_v5]); omega) | ((try simp only [wr, IntKind.wrap_i64, LN, impl_FlySpans_v1, impl_FlySpans_v2, impl_FlySpans_v3, impl_FlySpans_v4, impl_FlySpans_v5] at *); omega) | (simp_all <;> omega))), ix FlySpan.row (impl_FlySpans_v4 p0 s2) ((s2.1).toNat) (by (first | omega | ((try simp only [LN, impl_FlySpans_v1, impl_FlySpans_v2, impl_FlySpans_v3, impl_FlySpans_v4, impl_FlySpans_v5]); omega) | ((try simp only [wr, IntKind.wrap_i64, LN, impl_FlySpans_v1, impl_FlySpans_v2, impl_FlySpans_v3, impl_FlySpans_v4, impl_FlySpans_v5] at *); omega) | (simp_all <;> omega))), .ex true (s2.1 + 1) (s2.1 + 1) (fun _ => wr_eq (by omega) (by omega)), iz FlySpan.row (impl_FlySpans_v4 p0 s2) (s2.1 + 1) (by (first | omega | ((try simp only [LN, impl_FlySpans_v1, impl_FlySpans_v2, impl_FlySpans_v3, impl_FlySpans_v4, impl_FlySpans_v5]); omega) | ((try simp only [wr, IntKind.wrap_i64, LN, impl_FlySpans_v1, impl_FlySpans_v2, impl_FlySpans_v3, impl_FlySpans_v4, impl_FlySpans_v5] at *); omega) | (simp_all <;> omega))), ix FlySpan.row (impl_FlySpans_v4 p0 s2) ((s2.1 + 1).toNat) (by (first | omega | ((try simp only [LN, impl_FlySpans_v1, impl_FlySpans_v2, impl_FlySpans_v3, impl_FlySpans_v4, impl_FlySpans_v5]); omega) | ((try simp only [wr, IntKind.wrap_i64, LN, impl_FlySpans_v1, impl_FlySpans_v2, impl_FlySpans_v3, impl_FlySpans_v4, impl_FlySpans_v5] at *); omega) | (simp_all <;> omega))), .wr, iz FlySpan.row (impl_FlySpans_v4 p0 s2) (s2.1) (by (first | omega | ((try simp only [LN, impl_FlySpans_v1, impl_FlySpans_v2, impl_FlySpans_v3, impl_FlySpans_v4, impl_FlySpans_v5]); omega) | ((try simp only [wr, IntKind.wrap_i64, LN, impl_FlySpans_v1, impl_FlySpans_v2, impl_FlySpans_v3, impl_FlySpans_v4, impl_FlySpans_v5] at *); omega) | (simp_all <;> omega))), .st inferInstance true FlySpan.row (impl_FlySpans_v4 p0 s2) ((s2.1).toNat) ({ (impl_FlySpans_v4 p0 s2).getD ((s2.1).toNat) default with Low := max (((impl_FlySpans_v4 p0 s2).getD ((s2.1).toNat) default).Low) (wr ((((impl_FlySpans_v4 p0 s2).getD ((s2.1 + 1).toNat) default).Low) - p0.Kind.Slow)) } : FlySpan) (fun h => by (first | omega | ((try simp only [LN, impl_FlySpans_v1, impl_FlySpans_v2, impl_FlySpans_v3, impl_FlySpans_v4, impl_FlySpans_v5]); omega) | ((try simp only [wr, IntKind.wrap_i64, LN, impl_FlySpans_v1, impl_FlySpans_v2, impl_FlySpans_v3, impl_FlySpans_v4, impl_FlySpans_v5] at *); omega) | (simp_all <;> omega)))] (fun f34 => ⟨[(1, .one (.pt 1 (x2 0) 0)), (5, .one (.c (.mu 16 (x2 1) 2 0 ((impl_FlySpans_v4 p0 s2).map FlySpan.row).length))), (7, .one (.c (.v (.int .i64 s2.1))))], [(1, some (x2 0, .box (FlyPath.cs .bor p0))), (16, some (x2 1, .arr 2 ((impl_FlySpans_v5 p0 s2).map FlySpan.row)))], 163⟩) (fun f => by kernel_rfl) (fun f => by kernel_rfl) (fun f => by kernel_rfl) fun f34 => ?_
        refine w_sub (s := ⟨[(1, .one (.pt 1 (x2 0) 0)), (5, .one (.c (.mu 16 (x2 1) 2 0 ((impl_FlySpans_v5 p0 s2).map FlySpan.row).length))), (7, .one (.c (.v (.int .i64 s2.1))))], [(1, some (x2 0, .box (FlyPath.cs .bor p0))), (16, some (x2 1, .arr 2 ((impl_FlySpans_v5 p0 s2).map FlySpan.row)))], 163⟩) (cst (by simp only [LN, impl_FlySpans_v1, impl_FlySpans_v2, impl_FlySpans_v3, impl_FlySpans_v4, impl_FlySpans_v5]) (sb (s := ⟨[(1, .one (.pt 1 (x2 0) 0)), (5, .one (.c (.mu 16 (x2 1) 2 0 ((impl_FlySpans_v4 p0 s2).map FlySpan.row).length))), (7, .one (.c (.v (.int .i64 s2.1))))], [(1, some (x2 0, .box (FlyPath.cs .bor p0))), (16, some (x2 1, .arr 2 ((impl_FlySpans_v5 p0 s2).map FlySpan.row)))], 163⟩) (by kernel_rfl))) ?_
        refine xd hT hM [iz FlySpan.row (impl_FlySpans_v5 p0 s2) (s2.1) (by (first | omega | ((try simp only [LN, impl_FlySpans_v1, impl_FlySpans_v2, impl_FlySpans_v3, impl_FlySpans_v4, impl_FlySpans_v5]); omega) | ((try simp only [wr, IntKind.wrap_i64, LN, impl_FlySpans_v1, impl_FlySpans_v2, impl_FlySpans_v3, impl_FlySpans_v4, impl_FlySpans_v5] at *); omega) | (simp_all <;> omega))), ix FlySpan.row (impl_FlySpans_v5 p0 s2) ((s2.1).toNat) (by (first | omega | ((try simp only [LN, impl_FlySpans_v1, impl_FlySpans_v2, impl_FlySpans_v3, impl_FlySpans_v4, impl_FlySpans_v5]); omega) | ((try simp only [wr, IntKind.wrap_i64, LN, impl_FlySpans_v1, impl_FlySpans_v2, impl_FlySpans_v3, impl_FlySpans_v4, impl_FlySpans_v5] at *); omega) | (simp_all <;> omega))), iz FlySpan.row (impl_FlySpans_v5 p0 s2) (s2.1) (by (first | omega | ((try simp only [LN, impl_FlySpans_v1, impl_FlySpans_v2, impl_FlySpans_v3, impl_FlySpans_v4, impl_FlySpans_v5]); omega) | ((try simp only [wr, IntKind.wrap_i64, LN, impl_FlySpans_v1, impl_FlySpans_v2, impl_FlySpans_v3, impl_FlySpans_v4, impl_FlySpans_v5] at *); omega) | (simp_all <;> omega))), ix FlySpan.row (impl_FlySpans_v5 p0 s2) ((s2.1).toNat) (by (first | omega | ((try simp only [LN, impl_FlySpans_v1, impl_FlySpans_v2, impl_FlySpans_v3, impl_FlySpans_v4, impl_FlySpans_v5]); omega) | ((try simp only [wr, IntKind.wrap_i64, LN, impl_FlySpans_v1, impl_FlySpans_v2, impl_FlySpans_v3, impl_FlySpans_v4, impl_FlySpans_v5] at *); omega) | (simp_all <;> omega)))] (fun f35 => ⟨[(1, .one (.pt 1 (x2 0) 0)), (5, .one (.c (.mu 16 (x2 1) 2 0 ((impl_FlySpans_v5 p0 s2).map FlySpan.row).length))), (7, .one (.c (.v (.int .i64 s2.1)))), (161, .one (.c (.v (.bool (decide ((((impl_FlySpans_v5 p0 s2).getD ((s2.1).toNat) default).High) < (((impl_FlySpans_v5 p0 s2).getD ((s2.1).toNat) default).Low)))))))], [(1, some (x2 0, .box (FlyPath.cs .bor p0))), (16, some (x2 1, .arr 2 ((impl_FlySpans_v5 p0 s2).map FlySpan.row)))], 163⟩) (fun f => by kernel_rfl) (fun f => by kernel_rfl) (fun f => by kernel_rfl) fun f35 => ?_
        refine w_cond rfl (fun h36 => ?_) fun h36 => ?_
        · rw [if_pos h36] at hE2
          have gh36 := of_decide_eq_true h36
          refine xr hT [] (fun f37 => ⟨[(2, .one (.c (.nl))), (3, .one (.c (.v (.bool false))))], [], 163⟩) (fun f => by kernel_rfl) (fun f => by kernel_rfl) fun f37 => ?_
          refine w_ret ?_
          have hR27 := hX2.trans (itr_ret hl2 (hB2.symm.trans hE2))
          subst hR27
          exact x_ret (by kernel_rfl)
        rw [if_neg (nt h36)] at hE2
        have gh36 := of_decide_eq_false h36
        refine w_skip ?_
        refine x_reg hT [.ex true (s2.1 - 1) (s2.1 - 1) (fun _ => wr_eq (by omega) (by omega))] (fun f38 => impl_FlySpans_I2 p0 s1 fs (s2.1 - 1, (impl_FlySpans_v5 p0 s2)) (lst [x2 0, x2 1])) (fun f => by kernel_rfl) (fun f => by kernel_rfl) fun f38 s' hs' => ?_
        exact ⟨(s2.1 - 1, (impl_FlySpans_v5 p0 s2)), (lst [x2 0, x2 1]), (by simp only [impl_FlySpans_u2]; (first | omega | ((try simp only [LN, impl_FlySpans_v1, impl_FlySpans_v2, impl_FlySpans_v3, impl_FlySpans_v4, impl_FlySpans_v5]); omega) | ((try simp only [wr, IntKind.wrap_i64, LN, impl_FlySpans_v1, impl_FlySpans_v2, impl_FlySpans_v3, impl_FlySpans_v4, impl_FlySpans_v5] at *); omega) | (simp_all <;> omega))), (by (try simp only [LN, impl_FlySpans_v1, impl_FlySpans_v2, impl_FlySpans_v3, impl_FlySpans_v4, impl_FlySpans_v5] at *); omega), hX2.trans (itr_next hl2 (hB2.symm.trans hE2)), hs'⟩
      rw [if_neg (nt h33)] at hE2
      refine w_skip ?_
      refine xd hT hM [iz FlySpan.row (impl_FlySpans_v4 p0 s2) (s2.1) (by (first | omega | ((try simp only [LN, impl_FlySpans_v1, impl_FlySpans_v2, impl_FlySpans_v3, impl_FlySpans_v4, impl_FlySpans_v5]); omega) | ((try simp only [wr, IntKind.wrap_i64, LN, impl_FlySpans_v1, impl_FlySpans_v2, impl_FlySpans_v3, impl_FlySpans_v4, impl_FlySpans_v5] at *); omega) | (simp_all <;> omega))), ix FlySpan.row (impl_FlySpans_v4 p0 s2) ((s2.1).toNat) (by (first | omega | ((try simp only [LN, impl_FlySpans_v1, impl_FlySpans_v2, impl_FlySpans_v3, impl_FlySpans_v4, impl_FlySpans_v5]); omega) | ((try simp only [wr, IntKind.wrap_i64, LN, impl_FlySpans_v1, impl_FlySpans_v2, impl_FlySpans_v3, impl_FlySpans_v4, impl_FlySpans_v5] at *); omega) | (simp_all <;> omega))), iz FlySpan.row (impl_FlySpans_v4 p0 s2) (s2.1) (by (first | omega | ((try simp only [LN, impl_FlySpans_v1, impl_FlySpans_v2, impl_FlySpans_v3, impl_FlySpans_v4, impl_FlySpans_v5]); omega) | ((try simp only [wr, IntKind.wrap_i64, LN, impl_FlySpans_v1, impl_FlySpans_v2, impl_FlySpans_v3, impl_FlySpans_v4, impl_FlySpans_v5] at *); omega) | (simp_all <;> omega))), ix FlySpan.row (impl_FlySpans_v4 p0 s2) ((s2.1).toNat) (by (first | omega | ((try simp only [LN, impl_FlySpans_v1, impl_FlySpans_v2, impl_FlySpans_v3, impl_FlySpans_v4, impl_FlySpans_v5]); omega) | ((try simp only [wr, IntKind.wrap_i64, LN, impl_FlySpans_v1, impl_FlySpans_v2, impl_FlySpans_v3, impl_FlySpans_v4, impl_FlySpans_v5] at *); omega) | (simp_all <;> omega)))] (fun f39 => ⟨[(1, .one (.pt 1 (x2 0) 0)), (5, .one (.c (.mu 16 (x2 1) 2 0 ((impl_FlySpans_v4 p0 s2).map FlySpan.row).length))), (7, .one (.c (.v (.int .i64 s2.1)))), (161, .one (.c (.v (.bool (decide ((((impl_FlySpans_v4 p0 s2).getD ((s2.1).toNat) default).High) < (((impl_FlySpans_v4 p0 s2).getD ((s2.1).toNat) default).Low)))))))], [(1, some (x2 0, .box (FlyPath.cs .bor p0))), (16, some (x2 1, .arr 2 ((impl_FlySpans_v4 p0 s2).map FlySpan.row)))], 163⟩) (fun f => by kernel_rfl) (fun f => by kernel_rfl) (fun f => by kernel_rfl) fun f39 => ?_
      refine w_cond rfl (fun h40 => ?_) fun h40 => ?_
      · rw [if_pos h40] at hE2
        have gh40 := of_decide_eq_true h40
        refine xr hT [] (fun f41 => ⟨[(2, .one (.c (.nl))), (3, .one (.c (.v (.bool false))))], [], 163⟩) (fun f => by kernel_rfl) (fun f => by kernel_rfl) fun f41 => ?_
        refine w_ret ?_
        have hR27 := hX2.trans (itr_ret hl2 (hB2.symm.trans hE2))
        subst hR27
        exact x_ret (by kernel_rfl)
      rw [if_neg (nt h40)] at hE2
      have gh40 := of_decide_eq_false h40
      refine w_skip ?_
      refine x_reg hT [.ex true (s2.1 - 1) (s2.1 - 1) (fun _ => wr_eq (by omega) (by omega))] (fun f42 => impl_FlySpans_I2 p0 s1 fs (s2.1 - 1, (impl_FlySpans_v4 p0 s2)) (lst [x2 0, x2 1])) (fun f => by kernel_rfl) (fun f => by kernel_rfl) fun f42 s' hs' => ?_
      exact ⟨(s2.1 - 1, (impl_FlySpans_v4 p0 s2)), (lst [x2 0, x2 1]), (by simp only [impl_FlySpans_u2]; (first | omega | ((try simp only [LN, impl_FlySpans_v1, impl_FlySpans_v2, impl_FlySpans_v3, impl_FlySpans_v4, impl_FlySpans_v5]); omega) | ((try simp only [wr, IntKind.wrap_i64, LN, impl_FlySpans_v1, impl_FlySpans_v2, impl_FlySpans_v3, impl_FlySpans_v4, impl_FlySpans_v5] at *); omega) | (simp_all <;> omega))), (by (try simp only [LN, impl_FlySpans_v1, impl_FlySpans_v2, impl_FlySpans_v3, impl_FlySpans_v4, impl_FlySpans_v5] at *); omega), hX2.trans (itr_next hl2 (hB2.symm.trans hE2)), hs'⟩
    rw [if_neg (nt h30)] at hE2
    have gh30 := of_decide_eq_false h30
    refine w_exit ?_
    exact ⟨(s2.1, s2.2), (lst [x2 0, x2 1]), (by (try simp only [LN, impl_FlySpans_v1, impl_FlySpans_v2, impl_FlySpans_v3, impl_FlySpans_v4, impl_FlySpans_v5] at *); omega), hX2.trans (itr_brk hl2 (hB2.symm.trans hE2)), (sb (by kernel_rfl))⟩
  intro s2 x2 hF45 hR43
  try simp only [LN, impl_FlySpans_v1, impl_FlySpans_v2, impl_FlySpans_v3, impl_FlySpans_v4, impl_FlySpans_v5] at hF45
  rw [impl_FlySpans_r2] at hR43
  refine xr hT [] (fun f44 => ⟨[(2, .one (.c (.mu 16 (x2 1) 2 0 (s2.2.map FlySpan.row).length))), (3, .one (.c (.v (.bool true))))], [(16, some (x2 1, .arr 2 (s2.2.map FlySpan.row)))], 163⟩) (fun f => by kernel_rfl) (fun f => by kernel_rfl) fun f44 => ?_
  refine w_ret ?_
  subst hR43
  exact x_ret (by kernel_rfl)
theorem f_impl_FlySpans (p0 : FlyPath) (_ : FlyPath.ok p0) : (impl_FlySpans p0).1.length ≤ p0.Steps.length + 1 ∧ ((impl_FlySpans p0).2 = true → (impl_FlySpans p0).1.length = p0.Steps.length + 1) := by
  unfold impl_FlySpans
  rw [ite_all (M := fun r : List FlySpan × Bool => r.1.length ≤ p0.Steps.length + 1 ∧ (r.2 = true → r.1.length = p0.Steps.length + 1))]
  refine ⟨fun _ => by simp, fun _ => ?_⟩
  refine forN_inv (fun (i : Nat) (s : List FlySpan) => s.length = p0.Steps.length + 1) (fun (r : List FlySpan × Bool) => r.1.length ≤ p0.Steps.length + 1 ∧ (r.2 = true → r.1.length = p0.Steps.length + 1)) (List.replicate (p0.Steps.length + 1) (⟨0, 0⟩ : FlySpan)).length (fun j s hj h => ?_) (fun s h => ?_) _ 0 _ rfl (Nat.zero_le _) (by simp)
  · unfold impl_FlySpans_b1
    simp only [all_ite, all_next, all_brk, all_ret]
    (try simp only [LN, impl_FlySpans_v1, impl_FlySpans_v2, impl_FlySpans_v3, impl_FlySpans_v4, impl_FlySpans_v5])
    simp [h]
  · unfold impl_FlySpans_r1
    refine itr_inv (fun (s2 : Int × List FlySpan) => s2.2.length = p0.Steps.length + 1) (impl_FlySpans_u2 p0 s) (fun (r : List FlySpan × Bool) => r.1.length ≤ p0.Steps.length + 1 ∧ (r.2 = true → r.1.length = p0.Steps.length + 1)) (fun s2 h2 => ?_) _ _ (Nat.lt_succ_self _) h
    unfold impl_FlySpans_b2
    simp only [all_ite, all_next, all_brk, all_ret]
    simp only [LN, impl_FlySpans_v1, impl_FlySpans_v2, impl_FlySpans_v3, impl_FlySpans_v4, impl_FlySpans_v5, impl_FlySpans_u2, impl_FlySpans_r2]
    simp only [decide_eq_true_eq]
    refine ⟨fun h0 => ⟨fun _ => ⟨fun _ => by simp, fun _ => ⟨h2, by omega⟩⟩, fun _ => ⟨fun _ => by simp, fun _ => ⟨h2, by omega⟩⟩⟩, fun _ => by simp [h2]⟩

def impl_left_v1 (p0 : FlyPath) (p1 : Int) (p2 : Int) (p3 : Int) : List FlyStep := (((impl_copyPath (⟨p0.Kind, (p0.Steps.drop ((p1).toNat)).take (p0.Steps.length - ((p1).toNat)), p0.From, p0.By⟩ : FlyPath)).Steps).set 0 ({ ((impl_copyPath (⟨p0.Kind, (p0.Steps.drop ((p1).toNat)).take (p0.Steps.length - ((p1).toNat)), p0.From, p0.By⟩ : FlyPath)).Steps).getD 0 default with From := p2 } : FlyStep)).set 0 ({ (((impl_copyPath (⟨p0.Kind, (p0.Steps.drop ((p1).toNat)).take (p0.Steps.length - ((p1).toNat)), p0.From, p0.By⟩ : FlyPath)).Steps).set 0 ({ ((impl_copyPath (⟨p0.Kind, (p0.Steps.drop ((p1).toNat)).take (p0.Steps.length - ((p1).toNat)), p0.From, p0.By⟩ : FlyPath)).Steps).getD 0 default with From := p2 } : FlyStep)).getD 0 default with By := p3 } : FlyStep)
def impl_left_v2 (p0 : FlyPath) (p1 : Int) (p2 : Int) (p3 : Int) (p4 : Int) : List FlyStep := (impl_left_v1 p0 p1 p2 p3).set 1 ({ (impl_left_v1 p0 p1 p2 p3).getD 1 default with From := max (((impl_left_v1 p0 p1 p2 p3).getD 1 default).From) (wr (p4 + 1)) } : FlyStep)
def impl_left_v3 (p0 : FlyPath) (p1 : Int) (p2 : Int) (p3 : Int) (p4 : Int) : Bool := (impl_FlySpans (⟨(impl_copyPath (⟨p0.Kind, (p0.Steps.drop ((p1).toNat)).take (p0.Steps.length - ((p1).toNat)), p0.From, p0.By⟩ : FlyPath)).Kind, (impl_left_v2 p0 p1 p2 p3 p4), (impl_copyPath (⟨p0.Kind, (p0.Steps.drop ((p1).toNat)).take (p0.Steps.length - ((p1).toNat)), p0.From, p0.By⟩ : FlyPath)).From, (impl_copyPath (⟨p0.Kind, (p0.Steps.drop ((p1).toNat)).take (p0.Steps.length - ((p1).toNat)), p0.From, p0.By⟩ : FlyPath)).By⟩ : FlyPath)).2
def impl_left_v4 (p0 : FlyPath) (p1 : Int) (p4 : Int) : Int := max ((impl_copyPath (⟨p0.Kind, (p0.Steps.drop ((p1).toNat)).take (p0.Steps.length - ((p1).toNat)), p0.From, p0.By⟩ : FlyPath)).From) (wr (p4 + 1))
def impl_left_v5 (p0 : FlyPath) (p1 : Int) (p2 : Int) (p3 : Int) (p4 : Int) : Bool := (impl_FlySpans (⟨(impl_copyPath (⟨p0.Kind, (p0.Steps.drop ((p1).toNat)).take (p0.Steps.length - ((p1).toNat)), p0.From, p0.By⟩ : FlyPath)).Kind, (impl_left_v1 p0 p1 p2 p3), (impl_left_v4 p0 p1 p4), (impl_copyPath (⟨p0.Kind, (p0.Steps.drop ((p1).toNat)).take (p0.Steps.length - ((p1).toNat)), p0.From, p0.By⟩ : FlyPath)).By⟩ : FlyPath)).2
/-- impl.left -/
def impl_left (p0 : FlyPath) (p1 : Int) (p2 : Int) (p3 : Int) (p4 : Int) : FlyPath × Bool := (if decide (1 < ((impl_left_v1 p0 p1 p2 p3).length : Int)) then (if !(impl_left_v3 p0 p1 p2 p3 p4) then ((⟨⟨0, 0⟩, [], 0, 0⟩ : FlyPath), false) else ((⟨(impl_copyPath (⟨p0.Kind, (p0.Steps.drop ((p1).toNat)).take (p0.Steps.length - ((p1).toNat)), p0.From, p0.By⟩ : FlyPath)).Kind, (impl_left_v2 p0 p1 p2 p3 p4), (impl_copyPath (⟨p0.Kind, (p0.Steps.drop ((p1).toNat)).take (p0.Steps.length - ((p1).toNat)), p0.From, p0.By⟩ : FlyPath)).From, (impl_copyPath (⟨p0.Kind, (p0.Steps.drop ((p1).toNat)).take (p0.Steps.length - ((p1).toNat)), p0.From, p0.By⟩ : FlyPath)).By⟩ : FlyPath), true)) else (if !(impl_left_v5 p0 p1 p2 p3 p4) then ((⟨⟨0, 0⟩, [], 0, 0⟩ : FlyPath), false) else ((⟨(impl_copyPath (⟨p0.Kind, (p0.Steps.drop ((p1).toNat)).take (p0.Steps.length - ((p1).toNat)), p0.From, p0.By⟩ : FlyPath)).Kind, (impl_left_v1 p0 p1 p2 p3), (impl_left_v4 p0 p1 p4), (impl_copyPath (⟨p0.Kind, (p0.Steps.drop ((p1).toNat)).take (p0.Steps.length - ((p1).toNat)), p0.From, p0.By⟩ : FlyPath)).By⟩ : FlyPath), true)))
theorem c71 (p0 : FlyPath) (p1 : Int) (p2 : Int) (p3 : Int) (p4 : Int) (k0_0 : FlyPath.ok p0) (h0 : 0 ≤ p1) (h1 : p1 < (p0.Steps.length : Int)) : Fn Proofs.Try.prog 71 [⟨.val, true, FlyPath.cs .bor p0⟩, ⟨.val, false, [.v (.int .i64 p1)]⟩, ⟨.val, false, [.v (.int .i64 p2)]⟩, ⟨.val, false, [.v (.int .i64 p3)]⟩, ⟨.val, false, [.v (.int .i64 p4)]⟩] [.ag (FlyPath.cs .own (impl_left p0 p1 p2 p3 p4).1), .c (.v (.bool (impl_left p0 p1 p2 p3 p4).2))] [] := by
  obtain ⟨R, hR⟩ : ∃ R, R = impl_left p0 p1 p2 p3 p4 := ⟨_, rfl⟩
  rw [← hR]
  rw [impl_left] at hR
  refine ⟨fn_intro hT Proofs.Try.func71 rfl rfl fun fs => ?_, _, Proofs.Try.func71, rfl, rfl⟩
  have q0 := k0_0; simp only [FlyPath.ok] at q0
  refine xr hT [] (fun f1 => ⟨[(1, .one (.c (.v (.int .i64 p1)))), (2, .one (.c (.v (.int .i64 p2)))), (3, .one (.c (.v (.int .i64 p3)))), (4, .one (.c (.v (.int .i64 p4)))), (5, .one (.pt 5 (f1 0 0) 0)), (10, .one (.pt 10 (f1 1 0) 0))], [(5, some (f1 0 0, .box (FlyPath.cs .bor p0))), (10, some (f1 1 0, .box [.v (.int .i64 0), .v (.int .i64 0), .nl, .v (.int .i64 0), .v (.int .i64 0)]))], 68⟩) (fun f => by kernel_rfl) (fun f => by kernel_rfl) fun f1 => ?_
  refine xd hT hM [.sl true FlyStep.row p0.Steps (p1) ((p0.Steps.length : Int)) ((p1).toNat) p0.Steps.length (fun h => ⟨by omega, by omega, by omega, by omega⟩), ca (c30 (⟨p0.Kind, (p0.Steps.drop ((p1).toNat)).take (p0.Steps.length - ((p1).toNat)), p0.From, p0.By⟩ : FlyPath) (by first | assumption | exact (show ((p0.Steps.drop ((p1).toNat)).take (p0.Steps.length - ((p1).toNat))).length ≤ 1048576 from by (try simp only [LN, impl_copyPath, impl_left_v1, impl_left_v2, impl_left_v3, impl_left_v4, impl_left_v5]); omega)))] (fun f2 => ⟨[(2, .one (.c (.v (.int .i64 p2)))), (3, .one (.c (.v (.int .i64 p3)))), (4, .one (.c (.v (.int .i64 p4)))), (10, .one (.pt 10 (f1 1 0) 0)), (12, .one (.pt 12 (f2 12 0) 0))], [(10, some (f1 1 0, .box [.v (.int .i64 0), .v (.int .i64 0), .nl, .v (.int .i64 0), .v (.int .i64 0)])), (12, some (f2 12 0, .box [.v (.int .i64 ((impl_copyPath (⟨p0.Kind, (p0.Steps.drop ((p1).toNat)).take (p0.Steps.length - ((p1).toNat)), p0.From, p0.By⟩ : FlyPath)).Kind.Quick)), .v (.int .i64 ((impl_copyPath (⟨p0.Kind, (p0.Steps.drop ((p1).toNat)).take (p0.Steps.length - ((p1).toNat)), p0.From, p0.By⟩ : FlyPath)).Kind.Slow)), .mu 2700002 (gk (f2 11) 0 2) 7 0 (((impl_copyPath (⟨p0.Kind, (p0.Steps.drop ((p1).toNat)).take (p0.Steps.length - ((p1).toNat)), p0.From, p0.By⟩ : FlyPath)).Steps).map FlyStep.row).length, .v (.int .i64 ((impl_copyPath (⟨p0.Kind, (p0.Steps.drop ((p1).toNat)).take (p0.Steps.length - ((p1).toNat)), p0.From, p0.By⟩ : FlyPath)).From)), .v (.int .i64 ((impl_copyPath (⟨p0.Kind, (p0.Steps.drop ((p1).toNat)).take (p0.Steps.length - ((p1).toNat)), p0.From, p0.By⟩ : FlyPath)).By))])), (2700002, some (gk (f2 11) 0 2, .arr 7 (((impl_copyPath (⟨p0.Kind, (p0.Steps.drop ((p1).toNat)).take (p0.Steps.length - ((p1).toNat)), p0.From, p0.By⟩ : FlyPath)).Steps).map FlyStep.row)))], 68⟩) (fun f => by kernel_rfl) (fun f => by kernel_rfl) (fun f => by kernel_rfl) fun f2 => ?_
  refine xd hT hM [ix FlyStep.row ((impl_copyPath (⟨p0.Kind, (p0.Steps.drop ((p1).toNat)).take (p0.Steps.length - ((p1).toNat)), p0.From, p0.By⟩ : FlyPath)).Steps) 0 (by (first | omega | ((try simp only [LN, impl_copyPath, impl_left_v1, impl_left_v2, impl_left_v3, impl_left_v4, impl_left_v5]); omega) | ((try simp only [wr, IntKind.wrap_i64, LN, impl_copyPath, impl_left_v1, impl_left_v2, impl_left_v3, impl_left_v4, impl_left_v5] at *); omega) | (simp_all <;> omega))), .st inferInstance true FlyStep.row ((impl_copyPath (⟨p0.Kind, (p0.Steps.drop ((p1).toNat)).take (p0.Steps.length - ((p1).toNat)), p0.From, p0.By⟩ : FlyPath)).Steps) 0 ({ ((impl_copyPath (⟨p0.Kind, (p0.Steps.drop ((p1).toNat)).take (p0.Steps.length - ((p1).toNat)), p0.From, p0.By⟩ : FlyPath)).Steps).getD 0 default with From := p2 } : FlyStep) (fun h => by (first | omega | ((try simp only [LN, impl_copyPath, impl_left_v1, impl_left_v2, impl_left_v3, impl_left_v4, impl_left_v5]); omega) | ((try simp only [wr, IntKind.wrap_i64, LN, impl_copyPath, impl_left_v1, impl_left_v2, impl_left_v3, impl_left_v4, impl_left_v5] at *); omega) | (simp_all <;> omega))), ix FlyStep.row ((impl_copyPath (⟨p0.Kind, (p0.Steps.drop ((p1).toNat)).take (p0.Steps.length - ((p1).toNat)), p0.From, p0.By⟩ : FlyPath)).Steps) 0 (by (first | omega | ((try simp only [LN, impl_copyPath, impl_left_v1, impl_left_v2, impl_left_v3, impl_left_v4, impl_left_v5]); omega) | ((try simp only [wr, IntKind.wrap_i64, LN, impl_copyPath, impl_left_v1, impl_left_v2, impl_left_v3, impl_left_v4, impl_left_v5] at *); omega) | (simp_all <;> omega))), .st inferInstance true FlyStep.row (((impl_copyPath (⟨p0.Kind, (p0.Steps.drop ((p1).toNat)).take (p0.Steps.length - ((p1).toNat)), p0.From, p0.By⟩ : FlyPath)).Steps).set 0 ({ ((impl_copyPath (⟨p0.Kind, (p0.Steps.drop ((p1).toNat)).take (p0.Steps.length - ((p1).toNat)), p0.From, p0.By⟩ : FlyPath)).Steps).getD 0 default with From := p2 } : FlyStep)) 0 ({ (((impl_copyPath (⟨p0.Kind, (p0.Steps.drop ((p1).toNat)).take (p0.Steps.length - ((p1).toNat)), p0.From, p0.By⟩ : FlyPath)).Steps).set 0 ({ ((impl_copyPath (⟨p0.Kind, (p0.Steps.drop ((p1).toNat)).take (p0.Steps.length - ((p1).toNat)), p0.From, p0.By⟩ : FlyPath)).Steps).getD 0 default with From := p2 } : FlyStep)).getD 0 default with By := p3 } : FlyStep) (fun h => by (first | omega | ((try simp only [LN, impl_copyPath, impl_left_v1, impl_left_v2, impl_left_v3, impl_left_v4, impl_left_v5]); omega) | ((try simp only [wr, IntKind.wrap_i64, LN, impl_copyPath, impl_left_v1, impl_left_v2, impl_left_v3, impl_left_v4, impl_left_v5] at *); omega) | (simp_all <;> omega)))] (fun f3 => ⟨[(4, .one (.c (.v (.int .i64 p4)))), (10, .one (.pt 10 (f1 1 0) 0)), (12, .one (.pt 12 (f2 12 0) 0))], [(10, some (f1 1 0, .box [.v (.int .i64 0), .v (.int .i64 0), .nl, .v (.int .i64 0), .v (.int .i64 0)])), (12, some (f2 12 0, .box [.v (.int .i64 ((impl_copyPath (⟨p0.Kind, (p0.Steps.drop ((p1).toNat)).take (p0.Steps.length - ((p1).toNat)), p0.From, p0.By⟩ : FlyPath)).Kind.Quick)), .v (.int .i64 ((impl_copyPath (⟨p0.Kind, (p0.Steps.drop ((p1).toNat)).take (p0.Steps.length - ((p1).toNat)), p0.From, p0.By⟩ : FlyPath)).Kind.Slow)), .mu 2700002 (gk (f2 11) 0 2) 7 0 (((impl_copyPath (⟨p0.Kind, (p0.Steps.drop ((p1).toNat)).take (p0.Steps.length - ((p1).toNat)), p0.From, p0.By⟩ : FlyPath)).Steps).map FlyStep.row).length, .v (.int .i64 ((impl_copyPath (⟨p0.Kind, (p0.Steps.drop ((p1).toNat)).take (p0.Steps.length - ((p1).toNat)), p0.From, p0.By⟩ : FlyPath)).From)), .v (.int .i64 ((impl_copyPath (⟨p0.Kind, (p0.Steps.drop ((p1).toNat)).take (p0.Steps.length - ((p1).toNat)), p0.From, p0.By⟩ : FlyPath)).By))])), (2700002, some (gk (f2 11) 0 2, .arr 7 ((impl_left_v1 p0 p1 p2 p3).map FlyStep.row)))], 68⟩) (fun f => by kernel_rfl) (fun f => by kernel_rfl) (fun f => by kernel_rfl) fun f3 => ?_
  refine w_sub (s := ⟨[(4, .one (.c (.v (.int .i64 p4)))), (10, .one (.pt 10 (f1 1 0) 0)), (12, .one (.pt 12 (f2 12 0) 0))], [(10, some (f1 1 0, .box [.v (.int .i64 0), .v (.int .i64 0), .nl, .v (.int .i64 0), .v (.int .i64 0)])), (12, some (f2 12 0, .box [.v (.int .i64 ((impl_copyPath (⟨p0.Kind, (p0.Steps.drop ((p1).toNat)).take (p0.Steps.length - ((p1).toNat)), p0.From, p0.By⟩ : FlyPath)).Kind.Quick)), .v (.int .i64 ((impl_copyPath (⟨p0.Kind, (p0.Steps.drop ((p1).toNat)).take (p0.Steps.length - ((p1).toNat)), p0.From, p0.By⟩ : FlyPath)).Kind.Slow)), .mu 2700002 (gk (f2 11) 0 2) 7 0 ((impl_left_v1 p0 p1 p2 p3).map FlyStep.row).length, .v (.int .i64 ((impl_copyPath (⟨p0.Kind, (p0.Steps.drop ((p1).toNat)).take (p0.Steps.length - ((p1).toNat)), p0.From, p0.By⟩ : FlyPath)).From)), .v (.int .i64 ((impl_copyPath (⟨p0.Kind, (p0.Steps.drop ((p1).toNat)).take (p0.Steps.length - ((p1).toNat)), p0.From, p0.By⟩ : FlyPath)).By))])), (2700002, some (gk (f2 11) 0 2, .arr 7 ((impl_left_v1 p0 p1 p2 p3).map FlyStep.row)))], 68⟩) (cst (by simp only [LN, impl_copyPath, impl_left_v1, impl_left_v2, impl_left_v3, impl_left_v4, impl_left_v5]) (sb (s := ⟨[(4, .one (.c (.v (.int .i64 p4)))), (10, .one (.pt 10 (f1 1 0) 0)), (12, .one (.pt 12 (f2 12 0) 0))], [(10, some (f1 1 0, .box [.v (.int .i64 0), .v (.int .i64 0), .nl, .v (.int .i64 0), .v (.int .i64 0)])), (12, some (f2 12 0, .box [.v (.int .i64 ((impl_copyPath (⟨p0.Kind, (p0.Steps.drop ((p1).toNat)).take (p0.Steps.length - ((p1).toNat)), p0.From, p0.By⟩ : FlyPath)).Kind.Quick)), .v (.int .i64 ((impl_copyPath (⟨p0.Kind, (p0.Steps.drop ((p1).toNat)).take (p0.Steps.length - ((p1).toNat)), p0.From, p0.By⟩ : FlyPath)).Kind.Slow)), .mu 2700002 (gk (f2 11) 0 2) 7 0 (((impl_copyPath (⟨p0.Kind, (p0.Steps.drop ((p1).toNat)).take (p0.Steps.length - ((p1).toNat)), p0.From, p0.By⟩ : FlyPath)).Steps).map FlyStep.row).length, .v (.int .i64 ((impl_copyPath (⟨p0.Kind, (p0.Steps.drop ((p1).toNat)).take (p0.Steps.length - ((p1).toNat)), p0.From, p0.By⟩ : FlyPath)).From)), .v (.int .i64 ((impl_copyPath (⟨p0.Kind, (p0.Steps.drop ((p1).toNat)).take (p0.Steps.length - ((p1).toNat)), p0.From, p0.By⟩ : FlyPath)).By))])), (2700002, some (gk (f2 11) 0 2, .arr 7 ((impl_left_v1 p0 p1 p2 p3).map FlyStep.row)))], 68⟩) (by kernel_rfl))) ?_
  refine w_seq ?_
  refine xr hT [.ln FlyStep.row (impl_left_v1 p0 p1 p2 p3)] (fun f4 => ⟨[(4, .one (.c (.v (.int .i64 p4)))), (10, .one (.pt 10 (f1 1 0) 0)), (12, .one (.pt 12 (f2 12 0) 0)), (40, .one (.c (.v (.bool (decide (1 < ((impl_left_v1 p0 p1 p2 p3).length : Int)))))))], [(10, some (f1 1 0, .box [.v (.int .i64 0), .v (.int .i64 0), .nl, .v (.int .i64 0), .v (.int .i64 0)])), (12, some (f2 12 0, .box [.v (.int .i64 ((impl_copyPath (⟨p0.Kind, (p0.Steps.drop ((p1).toNat)).take (p0.Steps.length - ((p1).toNat)), p0.From, p0.By⟩ : FlyPath)).Kind.Quick)), .v (.int .i64 ((impl_copyPath (⟨p0.Kind, (p0.Steps.drop ((p1).toNat)).take (p0.Steps.length - ((p1).toNat)), p0.From, p0.By⟩ : FlyPath)).Kind.Slow)), .mu 2700002 (gk (f2 11) 0 2) 7 0 ((impl_left_v1 p0 p1 p2 p3).map FlyStep.row).length, .v (.int .i64 ((impl_copyPath (⟨p0.Kind, (p0.Steps.drop ((p1).toNat)).take (p0.Steps.length - ((p1).toNat)), p0.From, p0.By⟩ : FlyPath)).From)), .v (.int .i64 ((impl_copyPath (⟨p0.Kind, (p0.Steps.drop ((p1).toNat)).take (p0.Steps.length - ((p1).toNat)), p0.From, p0.By⟩ : FlyPath)).By))])), (2700002, some (gk (f2 11) 0 2, .arr 7 ((impl_left_v1 p0 p1 p2 p3).map FlyStep.row)))], 68⟩) (fun f => by kernel_rfl) (fun f => by kernel_rfl) fun f4 => ?_
  refine w_cond rfl (fun h5 => ?_) fun h5 => ?_
  · rw [if_pos h5] at hR
    have gh5 := of_decide_eq_true h5
    refine xd1 (fun _ => rfl) hT hM [ix FlyStep.row (impl_left_v1 p0 p1 p2 p3) 1 (by (first | omega | ((try simp only [LN, impl_copyPath, impl_left_v1, impl_left_v2, impl_left_v3, impl_left_v4, impl_left_v5]); omega) | ((try simp only [wr, IntKind.wrap_i64, LN, impl_copyPath, impl_left_v1, impl_left_v2, impl_left_v3, impl_left_v4, impl_left_v5] at *); omega) | (simp_all <;> omega))), ix FlyStep.row (impl_left_v1 p0 p1 p2 p3) 1 (by (first | omega | ((try simp only [LN, impl_copyPath, impl_left_v1, impl_left_v2, impl_left_v3, impl_left_v4, impl_left_v5]); omega) | ((try simp only [wr, IntKind.wrap_i64, LN, impl_copyPath, impl_left_v1, impl_left_v2, impl_left_v3, impl_left_v4, impl_left_v5] at *); omega) | (simp_all <;> omega))), .wr, ix FlyStep.row (impl_left_v1 p0 p1 p2 p3) 1 (by (first | omega | ((try simp only [LN, impl_copyPath, impl_left_v1, impl_left_v2, impl_left_v3, impl_left_v4, impl_left_v5]); omega) | ((try simp only [wr, IntKind.wrap_i64, LN, impl_copyPath, impl_left_v1, impl_left_v2, impl_left_v3, impl_left_v4, impl_left_v5] at *); omega) | (simp_all <;> omega))), .st inferInstance true FlyStep.row (impl_left_v1 p0 p1 p2 p3) 1 ({ (impl_left_v1 p0 p1 p2 p3).getD 1 default with From := max (((impl_left_v1 p0 p1 p2 p3).getD 1 default).From) (wr (p4 + 1)) } : FlyStep) (fun h => by (first | omega | ((try simp only [LN, impl_copyPath, impl_left_v1, impl_left_v2, impl_left_v3, impl_left_v4, impl_left_v5]); omega) | ((try simp only [wr, IntKind.wrap_i64, LN, impl_copyPath, impl_left_v1, impl_left_v2, impl_left_v3, impl_left_v4, impl_left_v5] at *); omega) | (simp_all <;> omega)))] (fun f6 => ⟨[(10, .one (.pt 10 (f1 1 0) 0)), (12, .one (.pt 12 (f2 12 0) 0))], [(10, some (f1 1 0, .box [.v (.int .i64 0), .v (.int .i64 0), .nl, .v (.int .i64 0), .v (.int .i64 0)])), (12, some (f2 12 0, .box [.v (.int .i64 ((impl_copyPath (⟨p0.Kind, (p0.Steps.drop ((p1).toNat)).take (p0.Steps.length - ((p1).toNat)), p0.From, p0.By⟩ : FlyPath)).Kind.Quick)), .v (.int .i64 ((impl_copyPath (⟨p0.Kind, (p0.Steps.drop ((p1).toNat)).take (p0.Steps.length - ((p1).toNat)), p0.From, p0.By⟩ : FlyPath)).Kind.Slow)), .mu 2700002 (gk (f2 11) 0 2) 7 0 ((impl_left_v1 p0 p1 p2 p3).map FlyStep.row).length, .v (.int .i64 ((impl_copyPath (⟨p0.Kind, (p0.Steps.drop ((p1).toNat)).take (p0.Steps.length - ((p1).toNat)), p0.From, p0.By⟩ : FlyPath)).From)), .v (.int .i64 ((impl_copyPath (⟨p0.Kind, (p0.Steps.drop ((p1).toNat)).take (p0.Steps.length - ((p1).toNat)), p0.From, p0.By⟩ : FlyPath)).By))])), (2700002, some (gk (f2 11) 0 2, .arr 7 ((impl_left_v2 p0 p1 p2 p3 p4).map FlyStep.row)))], 68⟩) (fun f => by kernel_rfl) (fun f => by kernel_rfl) (fun f => by kernel_rfl) fun f6 => ?_
    refine w_sub (s := ⟨[(10, .one (.pt 10 (f1 1 0) 0)), (12, .one (.pt 12 (f2 12 0) 0))], [(10, some (f1 1 0, .box [.v (.int .i64 0), .v (.int .i64 0), .nl, .v (.int .i64 0), .v (.int .i64 0)])), (12, some (f2 12 0, .box [.v (.int .i64 ((impl_copyPath (⟨p0.Kind, (p0.Steps.drop ((p1).toNat)).take (p0.Steps.length - ((p1).toNat)), p0.From, p0.By⟩ : FlyPath)).Kind.Quick)), .v (.int .i64 ((impl_copyPath (⟨p0.Kind, (p0.Steps.drop ((p1).toNat)).take (p0.Steps.length - ((p1).toNat)), p0.From, p0.By⟩ : FlyPath)).Kind.Slow)), .mu 2700002 (gk (f2 11) 0 2) 7 0 ((impl_left_v2 p0 p1 p2 p3 p4).map FlyStep.row).length, .v (.int .i64 ((impl_copyPath (⟨p0.Kind, (p0.Steps.drop ((p1).toNat)).take (p0.Steps.length - ((p1).toNat)), p0.From, p0.By⟩ : FlyPath)).From)), .v (.int .i64 ((impl_copyPath (⟨p0.Kind, (p0.Steps.drop ((p1).toNat)).take (p0.Steps.length - ((p1).toNat)), p0.From, p0.By⟩ : FlyPath)).By))])), (2700002, some (gk (f2 11) 0 2, .arr 7 ((impl_left_v2 p0 p1 p2 p3 p4).map FlyStep.row)))], 68⟩) (cst (by simp only [LN, impl_copyPath, impl_left_v1, impl_left_v2, impl_left_v3, impl_left_v4, impl_left_v5]) (sb (s := ⟨[(10, .one (.pt 10 (f1 1 0) 0)), (12, .one (.pt 12 (f2 12 0) 0))], [(10, some (f1 1 0, .box [.v (.int .i64 0), .v (.int .i64 0), .nl, .v (.int .i64 0), .v (.int .i64 0)])), (12, some (f2 12 0, .box [.v (.int .i64 ((impl_copyPath (⟨p0.Kind, (p0.Steps.drop ((p1).toNat)).take (p0.Steps.length - ((p1).toNat)), p0.From, p0.By⟩ : FlyPath)).Kind.Quick)), .v (.int .i64 ((impl_copyPath (⟨p0.Kind, (p0.Steps.drop ((p1).toNat)).take (p0.Steps.length - ((p1).toNat)), p0.From, p0.By⟩ : FlyPath)).Kind.Slow)), .mu 2700002 (gk (f2 11) 0 2) 7 0 ((impl_left_v1 p0 p1 p2 p3).map FlyStep.row).length, .v (.int .i64 ((impl_copyPath (⟨p0.Kind, (p0.Steps.drop ((p1).toNat)).take (p0.Steps.length - ((p1).toNat)), p0.From, p0.By⟩ : FlyPath)).From)), .v (.int .i64 ((impl_copyPath (⟨p0.Kind, (p0.Steps.drop ((p1).toNat)).take (p0.Steps.length - ((p1).toNat)), p0.From, p0.By⟩ : FlyPath)).By))])), (2700002, some (gk (f2 11) 0 2, .arr 7 ((impl_left_v2 p0 p1 p2 p3 p4).map FlyStep.row)))], 68⟩) (by kernel_rfl))) ?_
    refine w_seq ?_
    have w8 := f_impl_FlySpans (⟨(impl_copyPath (⟨p0.Kind, (p0.Steps.drop ((p1).toNat)).take (p0.Steps.length - ((p1).toNat)), p0.From, p0.By⟩ : FlyPath)).Kind, (impl_left_v2 p0 p1 p2 p3 p4), (impl_copyPath (⟨p0.Kind, (p0.Steps.drop ((p1).toNat)).take (p0.Steps.length - ((p1).toNat)), p0.From, p0.By⟩ : FlyPath)).From, (impl_copyPath (⟨p0.Kind, (p0.Steps.drop ((p1).toNat)).take (p0.Steps.length - ((p1).toNat)), p0.From, p0.By⟩ : FlyPath)).By⟩ : FlyPath) (by first | assumption | exact (show ((impl_left_v2 p0 p1 p2 p3 p4)).length ≤ 1048576 from by (try simp only [LN, impl_copyPath, impl_left_v1, impl_left_v2, impl_left_v3, impl_left_v4, impl_left_v5]); omega))
    have w8' := w8; try simp only [LN, impl_copyPath, impl_left_v1, impl_left_v2, impl_left_v3, impl_left_v4, impl_left_v5] at w8'
    refine xr hT [ca (c53 (⟨(impl_copyPath (⟨p0.Kind, (p0.Steps.drop ((p1).toNat)).take (p0.Steps.length - ((p1).toNat)), p0.From, p0.By⟩ : FlyPath)).Kind, (impl_left_v2 p0 p1 p2 p3 p4), (impl_copyPath (⟨p0.Kind, (p0.Steps.drop ((p1).toNat)).take (p0.Steps.length - ((p1).toNat)), p0.From, p0.By⟩ : FlyPath)).From, (impl_copyPath (⟨p0.Kind, (p0.Steps.drop ((p1).toNat)).take (p0.Steps.length - ((p1).toNat)), p0.From, p0.By⟩ : FlyPath)).By⟩ : FlyPath) (by first | assumption | exact (show ((impl_left_v2 p0 p1 p2 p3 p4)).length ≤ 1048576 from by (try simp only [LN, impl_copyPath, impl_left_v1, impl_left_v2, impl_left_v3, impl_left_v4, impl_left_v5]); omega)))] (fun f7 => ⟨[(10, .one (.pt 10 (f1 1 0) 0)), (12, .one (.pt 12 (f2 12 0) 0)), (14, .one (.c (.v (.bool (impl_left_v3 p0 p1 p2 p3 p4)))))], [(10, some (f1 1 0, .box [.v (.int .i64 0), .v (.int .i64 0), .nl, .v (.int .i64 0), .v (.int .i64 0)])), (12, some (f2 12 0, .box [.v (.int .i64 ((impl_copyPath (⟨p0.Kind, (p0.Steps.drop ((p1).toNat)).take (p0.Steps.length - ((p1).toNat)), p0.From, p0.By⟩ : FlyPath)).Kind.Quick)), .v (.int .i64 ((impl_copyPath (⟨p0.Kind, (p0.Steps.drop ((p1).toNat)).take (p0.Steps.length - ((p1).toNat)), p0.From, p0.By⟩ : FlyPath)).Kind.Slow)), .mu 2700002 (gk (f2 11) 0 2) 7 0 ((impl_left_v2 p0 p1 p2 p3 p4).map FlyStep.row).length, .v (.int .i64 ((impl_copyPath (⟨p0.Kind, (p0.Steps.drop ((p1).toNat)).take (p0.Steps.length - ((p1).toNat)), p0.From, p0.By⟩ : FlyPath)).From)), .v (.int .i64 ((impl_copyPath (⟨p0.Kind, (p0.Steps.drop ((p1).toNat)).take (p0.Steps.length - ((p1).toNat)), p0.From, p0.By⟩ : FlyPath)).By))])), (2700002, some (gk (f2 11) 0 2, .arr 7 ((impl_left_v2 p0 p1 p2 p3 p4).map FlyStep.row)))], 68⟩) (fun f => by kernel_rfl) (fun f => by kernel_rfl) fun f7 => ?_
    refine xr hT [] (fun f9 => ⟨[(10, .one (.pt 10 (f1 1 0) 0)), (12, .one (.pt 12 (f2 12 0) 0)), (65, .one (.c (.v (.bool (!(impl_left_v3 p0 p1 p2 p3 p4))))))], [(10, some (f1 1 0, .box [.v (.int .i64 0), .v (.int .i64 0), .nl, .v (.int .i64 0), .v (.int .i64 0)])), (12, some (f2 12 0, .box [.v (.int .i64 ((impl_copyPath (⟨p0.Kind, (p0.Steps.drop ((p1).toNat)).take (p0.Steps.length - ((p1).toNat)), p0.From, p0.By⟩ : FlyPath)).Kind.Quick)), .v (.int .i64 ((impl_copyPath (⟨p0.Kind, (p0.Steps.drop ((p1).toNat)).take (p0.Steps.length - ((p1).toNat)), p0.From, p0.By⟩ : FlyPath)).Kind.Slow)), .mu 2700002 (gk (f2 11) 0 2) 7 0 ((impl_left_v2 p0 p1 p2 p3 p4).map FlyStep.row).length, .v (.int .i64 ((impl_copyPath (⟨p0.Kind, (p0.Steps.drop ((p1).toNat)).take (p0.Steps.length - ((p1).toNat)), p0.From, p0.By⟩ : FlyPath)).From)), .v (.int .i64 ((impl_copyPath (⟨p0.Kind, (p0.Steps.drop ((p1).toNat)).take (p0.Steps.length - ((p1).toNat)), p0.From, p0.By⟩ : FlyPath)).By))])), (2700002, some (gk (f2 11) 0 2, .arr 7 ((impl_left_v2 p0 p1 p2 p3 p4).map FlyStep.row)))], 68⟩) (fun f => by kernel_rfl) (fun f => by kernel_rfl) fun f9 => ?_
    refine w_cond rfl (fun h10 => ?_) fun h10 => ?_
    · rw [if_pos h10] at hR
      have gh10 := h10; try simp only [impl_left_v1, impl_left_v2, impl_left_v3, Bool.not_eq_true', Bool.not_eq_false', decide_eq_true_eq, decide_eq_false_iff_not, Bool.and_eq_true, Bool.or_eq_true, Bool.and_eq_false_iff, Bool.or_eq_false_iff] at gh10
      refine xr hT [] (fun f11 => ⟨[(10, .one (.pt 10 (f1 1 0) 0)), (11, .one (.c (.v (.bool false))))], [(10, some (f1 1 0, .box [.v (.int .i64 0), .v (.int .i64 0), .nl, .v (.int .i64 0), .v (.int .i64 0)]))], 68⟩) (fun f => by kernel_rfl) (fun f => by kernel_rfl) fun f11 => ?_
      refine w_ret ?_
      subst hR
      exact x_ret (by kernel_rfl)
    rw [if_neg (nt h10)] at hR
    have gh10 := h10; try simp only [impl_left_v1, impl_left_v2, impl_left_v3, Bool.not_eq_true', Bool.not_eq_false', decide_eq_true_eq, decide_eq_false_iff_not, Bool.and_eq_true, Bool.or_eq_true, Bool.and_eq_false_iff, Bool.or_eq_false_iff] at gh10
    refine w_skip ?_
    refine xr hT [] (fun f12 => ⟨[(10, .one (.pt 10 (f1 1 0) 0)), (11, .one (.c (.v (.bool true))))], [(10, some (f1 1 0, .box [.v (.int .i64 ((impl_copyPath (⟨p0.Kind, (p0.Steps.drop ((p1).toNat)).take (p0.Steps.length - ((p1).toNat)), p0.From, p0.By⟩ : FlyPath)).Kind.Quick)), .v (.int .i64 ((impl_copyPath (⟨p0.Kind, (p0.Steps.drop ((p1).toNat)).take (p0.Steps.length - ((p1).toNat)), p0.From, p0.By⟩ : FlyPath)).Kind.Slow)), .mu 2700002 (gk (f2 11) 0 2) 7 0 ((impl_left_v2 p0 p1 p2 p3 p4).map FlyStep.row).length, .v (.int .i64 ((impl_copyPath (⟨p0.Kind, (p0.Steps.drop ((p1).toNat)).take (p0.Steps.length - ((p1).toNat)), p0.From, p0.By⟩ : FlyPath)).From)), .v (.int .i64 ((impl_copyPath (⟨p0.Kind, (p0.Steps.drop ((p1).toNat)).take (p0.Steps.length - ((p1).toNat)), p0.From, p0.By⟩ : FlyPath)).By))])), (2700002, some (gk (f2 11) 0 2, .arr 7 ((impl_left_v2 p0 p1 p2 p3 p4).map FlyStep.row)))], 68⟩) (fun f => by kernel_rfl) (fun f => by kernel_rfl) fun f12 => ?_
    refine w_ret ?_
    subst hR
    exact x_ret (by kernel_rfl)
  rw [if_neg (nt h5)] at hR
  have gh5 := of_decide_eq_false h5
  refine xr1 (fun _ => rfl) hT [.wr] (fun f13 => ⟨[(10, .one (.pt 10 (f1 1 0) 0)), (12, .one (.pt 12 (f2 12 0) 0))], [(10, some (f1 1 0, .box [.v (.int .i64 0), .v (.int .i64 0), .nl, .v (.int .i64 0), .v (.int .i64 0)])), (12, some (f2 12 0, .box [.v (.int .i64 ((impl_copyPath (⟨p0.Kind, (p0.Steps.drop ((p1).toNat)).take (p0.Steps.length - ((p1).toNat)), p0.From, p0.By⟩ : FlyPath)).Kind.Quick)), .v (.int .i64 ((impl_copyPath (⟨p0.Kind, (p0.Steps.drop ((p1).toNat)).take (p0.Steps.length - ((p1).toNat)), p0.From, p0.By⟩ : FlyPath)).Kind.Slow)), .mu 2700002 (gk (f2 11) 0 2) 7 0 ((impl_left_v1 p0 p1 p2 p3).map FlyStep.row).length, .v (.int .i64 (impl_left_v4 p0 p1 p4)), .v (.int .i64 ((impl_copyPath (⟨p0.Kind, (p0.Steps.drop ((p1).toNat)).take (p0.Steps.length - ((p1).toNat)), p0.From, p0.By⟩ : FlyPath)).By))])), (2700002, some (gk (f2 11) 0 2, .arr 7 ((impl_left_v1 p0 p1 p2 p3).map FlyStep.row)))], 68⟩) (fun f => by kernel_rfl) (fun f => by kernel_rfl) fun f13 => ?_
  refine w_seq ?_
  have w15 := f_impl_FlySpans (⟨(impl_copyPath (⟨p0.Kind, (p0.Steps.drop ((p1).toNat)).take (p0.Steps.length - ((p1).toNat)), p0.From, p0.By⟩ : FlyPath)).Kind, (impl_left_v1 p0 p1 p2 p3), (impl_left_v4 p0 p1 p4), (impl_copyPath (⟨p0.Kind, (p0.Steps.drop ((p1).toNat)).take (p0.Steps.length - ((p1).toNat)), p0.From, p0.By⟩ : FlyPath)).By⟩ : FlyPath) (by first | assumption | exact (show ((impl_left_v1 p0 p1 p2 p3)).length ≤ 1048576 from by (try simp only [LN, impl_copyPath, impl_left_v1, impl_left_v2, impl_left_v3, impl_left_v4, impl_left_v5]); omega))
  have w15' := w15; try simp only [LN, impl_copyPath, impl_left_v1, impl_left_v2, impl_left_v3, impl_left_v4, impl_left_v5] at w15'
  refine xr hT [ca (c53 (⟨(impl_copyPath (⟨p0.Kind, (p0.Steps.drop ((p1).toNat)).take (p0.Steps.length - ((p1).toNat)), p0.From, p0.By⟩ : FlyPath)).Kind, (impl_left_v1 p0 p1 p2 p3), (impl_left_v4 p0 p1 p4), (impl_copyPath (⟨p0.Kind, (p0.Steps.drop ((p1).toNat)).take (p0.Steps.length - ((p1).toNat)), p0.From, p0.By⟩ : FlyPath)).By⟩ : FlyPath) (by first | assumption | exact (show ((impl_left_v1 p0 p1 p2 p3)).length ≤ 1048576 from by (try simp only [LN, impl_copyPath, impl_left_v1, impl_left_v2, impl_left_v3, impl_left_v4, impl_left_v5]); omega)))] (fun f14 => ⟨[(10, .one (.pt 10 (f1 1 0) 0)), (12, .one (.pt 12 (f2 12 0) 0)), (14, .one (.c (.v (.bool (impl_left_v5 p0 p1 p2 p3 p4)))))], [(10, some (f1 1 0, .box [.v (.int .i64 0), .v (.int .i64 0), .nl, .v (.int .i64 0), .v (.int .i64 0)])), (12, some (f2 12 0, .box [.v (.int .i64 ((impl_copyPath (⟨p0.Kind, (p0.Steps.drop ((p1).toNat)).take (p0.Steps.length - ((p1).toNat)), p0.From, p0.By⟩ : FlyPath)).Kind.Quick)), .v (.int .i64 ((impl_copyPath (⟨p0.Kind, (p0.Steps.drop ((p1).toNat)).take (p0.Steps.length - ((p1).toNat)), p0.From, p0.By⟩ : FlyPath)).Kind.Slow)), .mu 2700002 (gk (f2 11) 0 2) 7 0 ((impl_left_v1 p0 p1 p2 p3).map FlyStep.row).length, .v (.int .i64 (impl_left_v4 p0 p1 p4)), .v (.int .i64 ((impl_copyPath (⟨p0.Kind, (p0.Steps.drop ((p1).toNat)).take (p0.Steps.length - ((p1).toNat)), p0.From, p0.By⟩ : FlyPath)).By))])), (2700002, some (gk (f2 11) 0 2, .arr 7 ((impl_left_v1 p0 p1 p2 p3).map FlyStep.row)))], 68⟩) (fun f => by kernel_rfl) (fun f => by kernel_rfl) fun f14 => ?_
  refine xr hT [] (fun f16 => ⟨[(10, .one (.pt 10 (f1 1 0) 0)), (12, .one (.pt 12 (f2 12 0) 0)), (65, .one (.c (.v (.bool (!(impl_left_v5 p0 p1 p2 p3 p4))))))], [(10, some (f1 1 0, .box [.v (.int .i64 0), .v (.int .i64 0), .nl, .v (.int .i64 0), .v (.int .i64 0)])), (12, some (f2 12 0, .box [.v (.int .i64 ((impl_copyPath (⟨p0.Kind, (p0.Steps.drop ((p1).toNat)).take (p0.Steps.length - ((p1).toNat)), p0.From, p0.By⟩ : FlyPath)).Kind.Quick)), .v (.int .i64 ((impl_copyPath (⟨p0.Kind, (p0.Steps.drop ((p1).toNat)).take (p0.Steps.length - ((p1).toNat)), p0.From, p0.By⟩ : FlyPath)).Kind.Slow)), .mu 2700002 (gk (f2 11) 0 2) 7 0 ((impl_left_v1 p0 p1 p2 p3).map FlyStep.row).length, .v (.int .i64 (impl_left_v4 p0 p1 p4)), .v (.int .i64 ((impl_copyPath (⟨p0.Kind, (p0.Steps.drop ((p1).toNat)).take (p0.Steps.length - ((p1).toNat)), p0.From, p0.By⟩ : FlyPath)).By))])), (2700002, some (gk (f2 11) 0 2, .arr 7 ((impl_left_v1 p0 p1 p2 p3).map FlyStep.row)))], 68⟩) (fun f => by kernel_rfl) (fun f => by kernel_rfl) fun f16 => ?_
  refine w_cond rfl (fun h17 => ?_) fun h17 => ?_
  · rw [if_pos h17] at hR
    have gh17 := h17; try simp only [impl_left_v1, impl_left_v4, impl_left_v5, Bool.not_eq_true', Bool.not_eq_false', decide_eq_true_eq, decide_eq_false_iff_not, Bool.and_eq_true, Bool.or_eq_true, Bool.and_eq_false_iff, Bool.or_eq_false_iff] at gh17
    refine xr hT [] (fun f18 => ⟨[(10, .one (.pt 10 (f1 1 0) 0)), (11, .one (.c (.v (.bool false))))], [(10, some (f1 1 0, .box [.v (.int .i64 0), .v (.int .i64 0), .nl, .v (.int .i64 0), .v (.int .i64 0)]))], 68⟩) (fun f => by kernel_rfl) (fun f => by kernel_rfl) fun f18 => ?_
    refine w_ret ?_
    subst hR
    exact x_ret (by kernel_rfl)
  rw [if_neg (nt h17)] at hR
  have gh17 := h17; try simp only [impl_left_v1, impl_left_v4, impl_left_v5, Bool.not_eq_true', Bool.not_eq_false', decide_eq_true_eq, decide_eq_false_iff_not, Bool.and_eq_true, Bool.or_eq_true, Bool.and_eq_false_iff, Bool.or_eq_false_iff] at gh17
  refine w_skip ?_
  refine xr hT [] (fun f19 => ⟨[(10, .one (.pt 10 (f1 1 0) 0)), (11, .one (.c (.v (.bool true))))], [(10, some (f1 1 0, .box [.v (.int .i64 ((impl_copyPath (⟨p0.Kind, (p0.Steps.drop ((p1).toNat)).take (p0.Steps.length - ((p1).toNat)), p0.From, p0.By⟩ : FlyPath)).Kind.Quick)), .v (.int .i64 ((impl_copyPath (⟨p0.Kind, (p0.Steps.drop ((p1).toNat)).take (p0.Steps.length - ((p1).toNat)), p0.From, p0.By⟩ : FlyPath)).Kind.Slow)), .mu 2700002 (gk (f2 11) 0 2) 7 0 ((impl_left_v1 p0 p1 p2 p3).map FlyStep.row).length, .v (.int .i64 (impl_left_v4 p0 p1 p4)), .v (.int .i64 ((impl_copyPath (⟨p0.Kind, (p0.Steps.drop ((p1).toNat)).take (p0.Steps.length - ((p1).toNat)), p0.From, p0.By⟩ : FlyPath)).By))])), (2700002, some (gk (f2 11) 0 2, .arr 7 ((impl_left_v1 p0 p1 p2 p3).map FlyStep.row)))], 68⟩) (fun f => by kernel_rfl) (fun f => by kernel_rfl) fun f19 => ?_
  refine w_ret ?_
  subst hR
  exact x_ret (by kernel_rfl)

def impl_FlyRest_v1 (p0 : FlyPath) (p1 : Int) (p2 : Int) (p3 : Int) : Bool := ((((!(impl_FlyPathOk p0)) || (!(impl_in p1 0 ((p0.Steps.length : Int) - 1)))) || (decide (10000 < p3))) || (decide (p2 < 0))) || (decide (p3 < p2))
/-- impl.FlyRest -/
def impl_FlyRest (p0 : FlyPath) (p1 : Int) (p2 : Int) (p3 : Int) : FlyPath × Bool := (if (impl_FlyRest_v1 p0 p1 p2 p3) then ((⟨⟨0, 0⟩, [], 0, 0⟩ : FlyPath), false) else (((impl_left p0 p1 (max ((p0.Steps.getD ((p1).toNat) default).From) p2) (min ((p0.Steps.getD ((p1).toNat) default).By) p2) p3).1), (impl_left p0 p1 (max ((p0.Steps.getD ((p1).toNat) default).From) p2) (min ((p0.Steps.getD ((p1).toNat) default).By) p2) p3).2))
theorem c54 (p0 : FlyPath) (p1 : Int) (p2 : Int) (p3 : Int) (k0_0 : FlyPath.ok p0) : Fn Proofs.Try.prog 54 [⟨.val, true, FlyPath.cs .bor p0⟩, ⟨.val, false, [.v (.int .i64 p1)]⟩, ⟨.val, false, [.v (.int .i64 p2)]⟩, ⟨.val, false, [.v (.int .i64 p3)]⟩] [.ag (FlyPath.cs .own (impl_FlyRest p0 p1 p2 p3).1), .c (.v (.bool (impl_FlyRest p0 p1 p2 p3).2))] [] := by
  obtain ⟨R, hR⟩ : ∃ R, R = impl_FlyRest p0 p1 p2 p3 := ⟨_, rfl⟩
  rw [← hR]
  rw [impl_FlyRest] at hR
  refine ⟨fn_intro hT Proofs.Try.func54 rfl rfl fun fs => ?_, _, Proofs.Try.func54, rfl, rfl⟩
  have q0 := k0_0; simp only [FlyPath.ok] at q0
  refine xr hT [] (fun f1 => ⟨[(1, .one (.c (.v (.int .i64 p1)))), (2, .one (.c (.v (.int .i64 p2)))), (3, .one (.c (.v (.int .i64 p3)))), (4, .one (.pt 4 (f1 0 0) 0)), (8, .one (.pt 8 (f1 1 0) 0))], [(4, some (f1 0 0, .box (FlyPath.cs .bor p0))), (8, some (f1 1 0, .box [.v (.int .i64 0), .v (.int .i64 0), .nl, .v (.int .i64 0), .v (.int .i64 0)]))], 56⟩) (fun f => by kernel_rfl) (fun f => by kernel_rfl) fun f1 => ?_
  refine w_seq ?_
  refine xr hT [ca (c69 p0 (by first | assumption | exact (by omega : p0.Steps.length ≤ 1048576))), .ln FlyStep.row p0.Steps, .ex (!(!(impl_FlyPathOk p0))) ((p0.Steps.length : Int) - 1) ((p0.Steps.length : Int) - 1) (fun h => by (try simp only [Bool.and_eq_true, Bool.or_eq_true, decide_eq_true_eq, Bool.not_eq_true', decide_eq_false_iff_not] at h); exact wr_eq (by omega) (by omega)), cg (!(!(impl_FlyPathOk p0))) (fun _ => c49 p1 0 ((p0.Steps.length : Int) - 1))] (fun f2 => ⟨[(1, .one (.c (.v (.int .i64 p1)))), (2, .one (.c (.v (.int .i64 p2)))), (3, .one (.c (.v (.int .i64 p3)))), (4, .one (.pt 4 (f1 0 0) 0)), (8, .one (.pt 8 (f1 1 0) 0)), (35, .one (.c (.v (.bool (impl_FlyRest_v1 p0 p1 p2 p3)))))], [(4, some (f1 0 0, .box (FlyPath.cs .bor p0))), (8, some (f1 1 0, .box [.v (.int .i64 0), .v (.int .i64 0), .nl, .v (.int .i64 0), .v (.int .i64 0)]))], 56⟩) (fun f => by kernel_rfl) (fun f => by kernel_rfl) fun f2 => ?_
  refine w_cond rfl (fun h3 => ?_) fun h3 => ?_
  · rw [if_pos h3] at hR
    have gh3 := h3; try simp only [impl_in, impl_FlyRest_v1, Bool.not_eq_true', Bool.not_eq_false', decide_eq_true_eq, decide_eq_false_iff_not, Bool.and_eq_true, Bool.or_eq_true, Bool.and_eq_false_iff, Bool.or_eq_false_iff] at gh3
    refine xr hT [] (fun f4 => ⟨[(8, .one (.pt 8 (f1 1 0) 0)), (9, .one (.c (.v (.bool false))))], [(8, some (f1 1 0, .box [.v (.int .i64 0), .v (.int .i64 0), .nl, .v (.int .i64 0), .v (.int .i64 0)]))], 56⟩) (fun f => by kernel_rfl) (fun f => by kernel_rfl) fun f4 => ?_
    refine w_ret ?_
    subst hR
    exact x_ret (by kernel_rfl)
  rw [if_neg (nt h3)] at hR
  have gh3 := h3; try simp only [impl_in, impl_FlyRest_v1, Bool.not_eq_true', Bool.not_eq_false', decide_eq_true_eq, decide_eq_false_iff_not, Bool.and_eq_true, Bool.or_eq_true, Bool.and_eq_false_iff, Bool.or_eq_false_iff] at gh3
  refine w_skip ?_
  refine xr hT [iz FlyStep.row p0.Steps (p1) (by omega)] (fun f5 => ⟨[(1, .one (.c (.v (.int .i64 p1)))), (2, .one (.c (.v (.int .i64 p2)))), (3, .one (.c (.v (.int .i64 p3)))), (4, .one (.pt 4 (f1 0 0) 0)), (8, .one (.pt 8 (f1 1 0) 0)), (10, .one (.pt 10 (f5 5 0) 0))], [(4, some (f1 0 0, .box (FlyPath.cs .bor p0))), (8, some (f1 1 0, .box [.v (.int .i64 0), .v (.int .i64 0), .nl, .v (.int .i64 0), .v (.int .i64 0)])), (10, some (f5 5 0, .box (FlyStep.cs .bor (p0.Steps.getD ((p1).toNat) default))))], 56⟩) (fun f => by kernel_rfl) (fun f => by kernel_rfl) fun f5 => ?_
  refine xr hT [ca (c71 p0 p1 (max ((p0.Steps.getD ((p1).toNat) default).From) p2) (min ((p0.Steps.getD ((p1).toNat) default).By) p2) p3 (by first | assumption | exact (by omega : p0.Steps.length ≤ 1048576)) (by first | assumption | ((try simp only [LN, impl_FlyRest_v1, FlyPath.ok]) <;> omega) | (simp only [LN, impl_FlyRest_v1] <;> assumption)) (by first | assumption | ((try simp only [LN, impl_FlyRest_v1, FlyPath.ok]) <;> omega) | (simp only [LN, impl_FlyRest_v1] <;> assumption)))] (fun f6 => ⟨[(8, .one (.pt 8 (f1 1 0) 0)), (9, .one (.c (.v (.bool ((impl_left p0 p1 (max ((p0.Steps.getD ((p1).toNat) default).From) p2) (min ((p0.Steps.getD ((p1).toNat) default).By) p2) p3).2)))))], [(8, some (f1 1 0, .box [.v (.int .i64 (((impl_left p0 p1 (max ((p0.Steps.getD ((p1).toNat) default).From) p2) (min ((p0.Steps.getD ((p1).toNat) default).By) p2) p3).1).Kind.Quick)), .v (.int .i64 (((impl_left p0 p1 (max ((p0.Steps.getD ((p1).toNat) default).From) p2) (min ((p0.Steps.getD ((p1).toNat) default).By) p2) p3).1).Kind.Slow)), .mu 5400002 (gk (f6 11) 0 2) 7 0 ((((impl_left p0 p1 (max ((p0.Steps.getD ((p1).toNat) default).From) p2) (min ((p0.Steps.getD ((p1).toNat) default).By) p2) p3).1).Steps).map FlyStep.row).length, .v (.int .i64 (((impl_left p0 p1 (max ((p0.Steps.getD ((p1).toNat) default).From) p2) (min ((p0.Steps.getD ((p1).toNat) default).By) p2) p3).1).From)), .v (.int .i64 (((impl_left p0 p1 (max ((p0.Steps.getD ((p1).toNat) default).From) p2) (min ((p0.Steps.getD ((p1).toNat) default).By) p2) p3).1).By))])), (5400002, some (gk (f6 11) 0 2, .arr 7 ((((impl_left p0 p1 (max ((p0.Steps.getD ((p1).toNat) default).From) p2) (min ((p0.Steps.getD ((p1).toNat) default).By) p2) p3).1).Steps).map FlyStep.row)))], 56⟩) (fun f => by kernel_rfl) (fun f => by kernel_rfl) fun f6 => ?_
  refine w_ret ?_
  subst hR
  exact x_ret (by kernel_rfl)

/-- impl.LinkCraft.stays -/
def impl_LinkCraft_stays (p0 : LinkCraft) (p1 : FlyPath) (p2 : Int) : Bool := (if decide ((p0.Flown.length : Int) = 0) then ((impl_FlySpans p1).2) && (decide (p2 < ((((impl_FlySpans p1).1).getD 0 default).High))) else (impl_FlyRest p1 ((p0.Flown.length : Int) - 1) (p0.Flown.getD (((p0.Flown.length : Int) - 1).toNat) default) p2).2)
theorem c28 (p0 : LinkCraft) (p1 : FlyPath) (p2 : Int) (k0_0 : LinkCraft.ok p0) (k1_0 : FlyPath.ok p1) : Fn Proofs.Try.prog 28 [⟨.val, true, LinkCraft.cs .bor p0⟩, ⟨.val, true, FlyPath.cs .bor p1⟩, ⟨.val, false, [.v (.int .i64 p2)]⟩] [.c (.v (.bool (impl_LinkCraft_stays p0 p1 p2)))] [] := by
  obtain ⟨R, hR⟩ : ∃ R, R = impl_LinkCraft_stays p0 p1 p2 := ⟨_, rfl⟩
  rw [← hR]
  rw [impl_LinkCraft_stays] at hR
  refine ⟨fn_intro hT Proofs.Try.func28 rfl rfl fun fs => ?_, _, Proofs.Try.func28, rfl, rfl⟩
  have q0 := k0_0; simp only [LinkCraft.ok] at q0
  have q1 := k1_0; simp only [FlyPath.ok] at q1
  refine xr hT [] (fun f1 => ⟨[(2, .one (.c (.v (.int .i64 p2)))), (3, .one (.pt 3 (f1 0 0) 0)), (4, .one (.pt 4 (f1 1 0) 0))], [(3, some (f1 0 0, .box (LinkCraft.cs .bor p0))), (4, some (f1 1 0, .box (FlyPath.cs .bor p1)))], 47⟩) (fun f => by kernel_rfl) (fun f => by kernel_rfl) fun f1 => ?_
  refine w_seq ?_
  refine xr hT [.ln Int.row p0.Flown] (fun f2 => ⟨[(2, .one (.c (.v (.int .i64 p2)))), (3, .one (.pt 3 (f1 0 0) 0)), (4, .one (.pt 4 (f1 1 0) 0)), (15, .one (.c (.v (.bool (decide ((p0.Flown.length : Int) = 0))))))], [(3, some (f1 0 0, .box (LinkCraft.cs .bor p0))), (4, some (f1 1 0, .box (FlyPath.cs .bor p1)))], 47⟩) (fun f => by kernel_rfl) (fun f => by kernel_rfl) fun f2 => ?_
  refine w_cond rfl (fun h3 => ?_) fun h3 => ?_
  · rw [if_pos h3] at hR
    have gh3 := of_decide_eq_true h3
    have w5 := f_impl_FlySpans p1 (by first | assumption | exact (by omega : p1.Steps.length ≤ 1048576))
    have w5' := w5; try simp only [LN] at w5'
    refine xr hT [ca (c53 p1 (by first | assumption | exact (by omega : p1.Steps.length ≤ 1048576)))] (fun f4 => ⟨[(2, .one (.c (.v (.int .i64 p2)))), (7, .one (.c (.mu 1900000 (gk (f4 1) 0 0) 2 0 (((impl_FlySpans p1).1).map FlySpan.row).length))), (8, .one (.c (.v (.bool ((impl_FlySpans p1).2)))))], [(1900000, some (gk (f4 1) 0 0, .arr 2 (((impl_FlySpans p1).1).map FlySpan.row)))], 47⟩) (fun f => by kernel_rfl) (fun f => by kernel_rfl) fun f4 => ?_
    refine xr hT [ig ((impl_FlySpans p1).2) FlySpan.row ((impl_FlySpans p1).1) 0 (fun h => by (try simp only [Bool.and_eq_true, Bool.or_eq_true, decide_eq_true_eq, Bool.not_eq_true', decide_eq_false_iff_not] at h); (first | omega | ((try simp only [LN]); omega) | ((try simp only [wr, IntKind.wrap_i64, LN] at *); omega) | (simp_all <;> omega))), .ix inferInstance ((impl_FlySpans p1).2) FlySpan.row ((impl_FlySpans p1).1) (0 : Nat) 0 (fun h => ⟨rfl, by (try simp only [Bool.and_eq_true, Bool.or_eq_true, decide_eq_true_eq, Bool.not_eq_true', decide_eq_false_iff_not] at h); (first | omega | ((try simp only [LN]); omega) | ((try simp only [wr, IntKind.wrap_i64, LN] at *); omega) | (simp_all <;> omega))⟩)] (fun f6 => ⟨[(6, .one (.c (.v (.bool (((impl_FlySpans p1).2) && (decide (p2 < ((((impl_FlySpans p1).1).getD 0 default).High))))))))], [], 47⟩) (fun f => by kernel_rfl) (fun f => by kernel_rfl) fun f6 => ?_
    refine w_ret ?_
    subst hR
    exact x_ret (by kernel_rfl)
  rw [if_neg (nt h3)] at hR
  have gh3 := of_decide_eq_false h3
  refine w_skip ?_
  refine xr hT [.ln Int.row p0.Flown, .ex true ((p0.Flown.length : Int) - 1) ((p0.Flown.length : Int) - 1) (fun _ => wr_eq (by omega) (by omega))] (fun f7 => ⟨[(2, .one (.c (.v (.int .i64 p2)))), (3, .one (.pt 3 (f1 0 0) 0)), (4, .one (.pt 4 (f1 1 0) 0)), (9, .one (.c (.v (.int .i64 ((p0.Flown.length : Int) - 1)))))], [(3, some (f1 0 0, .box (LinkCraft.cs .bor p0))), (4, some (f1 1 0, .box (FlyPath.cs .bor p1)))], 47⟩) (fun f => by kernel_rfl) (fun f => by kernel_rfl) fun f7 => ?_
  refine xd hT hM [iz Int.row p0.Flown ((p0.Flown.length : Int) - 1) (by omega), ca (c54 p1 ((p0.Flown.length : Int) - 1) (p0.Flown.getD (((p0.Flown.length : Int) - 1).toNat) default) p2 (by first | assumption | exact (by omega : p1.Steps.length ≤ 1048576)))] (fun f8 => ⟨[(11, .one (.c (.v (.bool ((impl_FlyRest p1 ((p0.Flown.length : Int) - 1) (p0.Flown.getD (((p0.Flown.length : Int) - 1).toNat) default) p2).2)))))], [], 47⟩) (fun f => by kernel_rfl) (fun f => by kernel_rfl) (fun f => by kernel_rfl) fun f8 => ?_
  refine xr hT [] (fun f9 => ⟨[(6, .one (.c (.v (.bool ((impl_FlyRest p1 ((p0.Flown.length : Int) - 1) (p0.Flown.getD (((p0.Flown.length : Int) - 1).toNat) default) p2).2)))))], [], 47⟩) (fun f => by kernel_rfl) (fun f => by kernel_rfl) fun f9 => ?_
  refine w_ret ?_
  subst hR
  exact x_ret (by kernel_rfl)

def impl_ProbeBoxOk_v1 (p0 : ProbeBox) : Bool := (((((((impl_in p0.X 0 15) && (impl_in p0.Y 0 15)) && (decide (0 ≤ p0.Low))) && (decide (p0.Low ≤ p0.High))) && (decide (p0.High ≤ 6))) && (decide (0 ≤ p0.In))) && (decide (p0.In ≤ p0.Out))) && (decide (p0.Out ≤ 10000))
/-- impl.ProbeBoxOk -/
def impl_ProbeBoxOk (p0 : ProbeBox) : Bool := (impl_ProbeBoxOk_v1 p0)
theorem c81 (p0 : ProbeBox) : Fn Proofs.Try.prog 81 [⟨.val, true, ProbeBox.cs .bor p0⟩] [.c (.v (.bool (impl_ProbeBoxOk p0)))] [] := by
  obtain ⟨R, hR⟩ : ∃ R, R = impl_ProbeBoxOk p0 := ⟨_, rfl⟩
  rw [← hR]
  rw [impl_ProbeBoxOk] at hR
  refine ⟨fn_intro hT Proofs.Try.func81 rfl rfl fun fs => ?_, _, Proofs.Try.func81, rfl, rfl⟩
  refine xr hT [] (fun f1 => ⟨[(1, .one (.pt 1 (f1 0 0) 0))], [(1, some (f1 0 0, .box (ProbeBox.cs .bor p0)))], 45⟩) (fun f => by kernel_rfl) (fun f => by kernel_rfl) fun f1 => ?_
  refine xr hT [ca (c49 p0.X 0 15), cg (impl_in p0.X 0 15) (fun _ => c49 p0.Y 0 15)] (fun f2 => ⟨[(2, .one (.c (.v (.bool (impl_ProbeBoxOk_v1 p0)))))], [], 45⟩) (fun f => by kernel_rfl) (fun f => by kernel_rfl) fun f2 => ?_
  refine w_ret ?_
  subst hR
  exact x_ret (by kernel_rfl)

def impl_ProbeTubeOk_I1 (p0 : ProbeTube) (fs : Nat → Nat → Nat) (i1 : Nat) (s1 : Unit) (x1 : Nat → Nat) : St := ⟨[(1, .one (.pt 1 (x1 0) 0)), (3, .one (.c (.v (.int .i64 ((i1 : Nat) : Int)))))], [(1, some (x1 0, .box (ProbeTube.cs .bor p0)))], 59⟩
def impl_ProbeTubeOk_J1 (p0 : ProbeTube) (fs : Nat → Nat → Nat) (s1 : Unit) (x1 : Nat → Nat) : St := ⟨[(1, .one (.pt 1 (x1 0) 0))], [(1, some (x1 0, .box (ProbeTube.cs .bor p0)))], 59⟩
def impl_ProbeTubeOk_v1 (p0 : ProbeTube) (i1 : Nat) : Bool := !((((decide (97 ≤ ((bget p0.Name i1).toNat : Int))) && (decide (((bget p0.Name i1).toNat : Int) ≤ 122))) || ((decide (48 ≤ ((bget p0.Name i1).toNat : Int))) && (decide (((bget p0.Name i1).toNat : Int) ≤ 57)))) || (decide (((bget p0.Name i1).toNat : Int) = 45)))
def impl_ProbeTubeOk_b1 (p0 : ProbeTube) (i1 : Nat) (s1 : Unit) : Res (Unit) Bool := (if (impl_ProbeTubeOk_v1 p0 i1) then (.ret false) else (.next ()))
def impl_ProbeTubeOk_I2 (p0 : ProbeTube) (s1 : Unit) (fs : Nat → Nat → Nat) (i2 : Nat) (s2 : Unit) (x2 : Nat → Nat) : St := ⟨[(49, .one (.c (.sl .bor 6 (p0.Boxes.map ProbeBox.row)))), (50, .one (.c (.v (.int .i64 (p0.Boxes.length : Int))))), (51, .one (.c (.v (.int .i64 ((i2 : Nat) : Int)))))], [], 59⟩
def impl_ProbeTubeOk_J2 (p0 : ProbeTube) (s1 : Unit) (fs : Nat → Nat → Nat) (s2 : Unit) (x2 : Nat → Nat) : St := ⟨[], [], 59⟩
def impl_ProbeTubeOk_b2 (p0 : ProbeTube) (s1 : Unit) (i2 : Nat) (s2 : Unit) : Res (Unit) Bool := (if !(impl_ProbeBoxOk (p0.Boxes.getD i2 default)) then (.ret false) else (.next ()))
def impl_ProbeTubeOk_r2 (p0 : ProbeTube) (s1 : Unit) (s2 : Unit) : Bool := true
def impl_ProbeTubeOk_r1 (p0 : ProbeTube) (s1 : Unit) : Bool := (Res.fin (impl_ProbeTubeOk_r2 p0 s1) (forN (impl_ProbeTubeOk_b2 p0 s1) (p0.Boxes.length - 0) 0 ()))
/-- impl.ProbeTubeOk -/
def impl_ProbeTubeOk (p0 : ProbeTube) : Bool := (if (!(impl_in (p0.Name.size : Int) 1 8)) || (decide (40 < (p0.Boxes.length : Int))) then false else (Res.fin (impl_ProbeTubeOk_r1 p0) (forN (impl_ProbeTubeOk_b1 p0) (p0.Name.size - 0) 0 ())))
theorem c67 (p0 : ProbeTube) (k0_0 : ProbeTube.ok p0) : Fn Proofs.Try.prog 67 [⟨.val, true, ProbeTube.cs .bor p0⟩] [.c (.v (.bool (impl_ProbeTubeOk p0)))] [] := by
  obtain ⟨R, hR⟩ : ∃ R, R = impl_ProbeTubeOk p0 := ⟨_, rfl⟩
  rw [← hR]
  rw [impl_ProbeTubeOk] at hR
  refine ⟨fn_intro hT Proofs.Try.func67 rfl rfl fun fs => ?_, _, Proofs.Try.func67, rfl, rfl⟩
  have q0 := k0_0; simp only [ProbeTube.ok] at q0
  refine xr hT [] (fun f1 => ⟨[(1, .one (.pt 1 (f1 0 0) 0))], [(1, some (f1 0 0, .box (ProbeTube.cs .bor p0)))], 59⟩) (fun f => by kernel_rfl) (fun f => by kernel_rfl) fun f1 => ?_
  refine w_seq ?_
  refine xr hT [.und Proofs.Try.underlying9, ca (c49 (p0.Name.size : Int) 1 8), .ln ProbeBox.row p0.Boxes] (fun f2 => ⟨[(1, .one (.pt 1 (f1 0 0) 0)), (17, .one (.c (.v (.bool ((!(impl_in (p0.Name.size : Int) 1 8)) || (decide (40 < (p0.Boxes.length : Int))))))))], [(1, some (f1 0 0, .box (ProbeTube.cs .bor p0)))], 59⟩) (fun f => by kernel_rfl) (fun f => by kernel_rfl) fun f2 => ?_
  refine w_cond rfl (fun h3 => ?_) fun h3 => ?_
  · rw [if_pos h3] at hR
    have gh3 := h3; try simp only [impl_in, Bool.not_eq_true', Bool.not_eq_false', decide_eq_true_eq, decide_eq_false_iff_not, Bool.and_eq_true, Bool.or_eq_true, Bool.and_eq_false_iff, Bool.or_eq_false_iff] at gh3
    refine xr hT [] (fun f4 => ⟨[(2, .one (.c (.v (.bool false))))], [], 59⟩) (fun f => by kernel_rfl) (fun f => by kernel_rfl) fun f4 => ?_
    refine w_ret ?_
    subst hR
    exact x_ret (by kernel_rfl)
  rw [if_neg (nt h3)] at hR
  have gh3 := h3; try simp only [impl_in, Bool.not_eq_true', Bool.not_eq_false', decide_eq_true_eq, decide_eq_false_iff_not, Bool.and_eq_true, Bool.or_eq_true, Bool.and_eq_false_iff, Bool.or_eq_false_iff] at gh3
  refine w_skip ?_
  refine w_seq ?_
  refine xr hT [] (fun f5 => ⟨[(1, .one (.pt 1 (f1 0 0) 0)), (3, .one (.c (.v (.int .i64 0))))], [(1, some (f1 0 0, .box (ProbeTube.cs .bor p0)))], 59⟩) (fun f => by kernel_rfl) (fun f => by kernel_rfl) fun f5 => ?_
  refine w_forT (fun _ => rfl) (impl_ProbeTubeOk_I1 p0 fs) (impl_ProbeTubeOk_J1 p0 fs) (fun i1 s1 => True) (fun s1 => True) (p0.Name.size) 0 (impl_ProbeTubeOk_b1 p0) (impl_ProbeTubeOk_r1 p0) 0 (()) (lst [f1 0 0]) (sb (by kernel_rfl)) trivial hR ?_ ?_
  · skip
    intro i1 s1 x1 hI1 hX1
    refine w_seq ?_
    refine xr hT [.und Proofs.Try.underlying9] (fun f6 => ⟨[(1, .one (.pt 1 (x1 0) 0)), (3, .one (.c (.v (.int .i64 ((i1 : Nat) : Int))))), (22, .one (.c (.v (.bool (decide (((i1 : Nat) : Int) < (p0.Name.size : Int)))))))], [(1, some (x1 0, .box (ProbeTube.cs .bor p0)))], 59⟩) (fun f => by kernel_rfl) (fun f => by kernel_rfl) fun f6 => ?_
    refine w_cond rfl (fun h7 => ?_) fun h7 => ?_
    · skip
      have hl1 : i1 < p0.Name.size := by have hq := of_decide_eq_true h7; first | omega | ((try simp only [LN, impl_ProbeTubeOk_v1] at *); omega)
      obtain ⟨B1, hB1⟩ : ∃ B, B = impl_ProbeTubeOk_b1 p0 i1 s1 := ⟨_, rfl⟩
      have hE1 := hB1
      rw [impl_ProbeTubeOk_b1] at hE1
      refine w_skip ?_
      refine w_seq ?_
      refine w_block ?_
      refine xr hT [.und Proofs.Try.underlying9, .bg true p0.Name (((i1 : Nat) : Int)) i1 (fun h => ⟨rfl, by omega⟩)] (fun f8 => ⟨[(1, .one (.pt 1 (x1 0) 0)), (3, .one (.c (.v (.int .i64 ((i1 : Nat) : Int))))), (4, .one (.c (.v (.int .u8 ((bget p0.Name i1).toNat : Int)))))], [(1, some (x1 0, .box (ProbeTube.cs .bor p0)))], 59⟩) (fun f => by kernel_rfl) (fun f => by kernel_rfl) fun f8 => ?_
      refine xr hT [] (fun f9 => ⟨[(1, .one (.pt 1 (x1 0) 0)), (3, .one (.c (.v (.int .i64 ((i1 : Nat) : Int))))), (47, .one (.c (.v (.bool (impl_ProbeTubeOk_v1 p0 i1)))))], [(1, some (x1 0, .box (ProbeTube.cs .bor p0)))], 59⟩) (fun f => by kernel_rfl) (fun f => by kernel_rfl) fun f9 => ?_
      refine w_cond rfl (fun h10 => ?_) fun h10 => ?_
      · rw [if_pos h10] at hE1
        have gh10 := h10; try simp only [impl_ProbeTubeOk_v1, Bool.not_eq_true', Bool.not_eq_false', decide_eq_true_eq, decide_eq_false_iff_not, Bool.and_eq_true, Bool.or_eq_true, Bool.and_eq_false_iff, Bool.or_eq_false_iff] at gh10
        refine xr hT [] (fun f11 => ⟨[(2, .one (.c (.v (.bool false))))], [], 59⟩) (fun f => by kernel_rfl) (fun f => by kernel_rfl) fun f11 => ?_
        refine w_ret ?_
        have hR := hX1.trans (forN_ret hl1 (hB1.symm.trans hE1))
        subst hR
        exact x_ret (by kernel_rfl)
      rw [if_neg (nt h10)] at hE1
      have gh10 := h10; try simp only [impl_ProbeTubeOk_v1, Bool.not_eq_true', Bool.not_eq_false', decide_eq_true_eq, decide_eq_false_iff_not, Bool.and_eq_true, Bool.or_eq_true, Bool.and_eq_false_iff, Bool.or_eq_false_iff] at gh10
      refine w_skip ?_
      refine x_reg hT [.ex true (((i1 : Nat) : Int) + ((1 : Nat) : Int)) ((((i1 + 1) : Nat) : Int)) (fun _ => wr_nat (n := i1) (c := 1) (by omega))] (fun f12 => impl_ProbeTubeOk_I1 p0 fs (i1 + 1) () (lst [x1 0])) (fun f => by kernel_rfl) (fun f => by kernel_rfl) fun f12 s' hs' => ?_
      exact ⟨(), (lst [x1 0]), hl1, trivial, hX1.trans (forN_next hl1 (hB1.symm.trans hE1)), hs'⟩
    have hq := of_decide_eq_false h7
    refine w_exit ?_
    exact ⟨s1, (lst [x1 0]), trivial, hX1.trans (forN_end (by first | omega | ((try simp only [LN, impl_ProbeTubeOk_v1] at *); omega))), sb (by kernel_rfl)⟩
  intro s1 x1 hF25 hR13
  rw [impl_ProbeTubeOk_r1] at hR13
  refine w_seq ?_
  refine xr hT [.ln ProbeBox.row p0.Boxes] (fun f14 => ⟨[(49, .one (.c (.sl .bor 6 (p0.Boxes.map ProbeBox.row)))), (50, .one (.c (.v (.int .i64 (p0.Boxes.length : Int))))), (51, .one (.c (.v (.int .i64 0))))], [], 59⟩) (fun f => by kernel_rfl) (fun f => by kernel_rfl) fun f14 => ?_
  refine w_forT (fun _ => rfl) (impl_ProbeTubeOk_I2 p0 s1 fs) (impl_ProbeTubeOk_J2 p0 s1 fs) (fun i2 s2 => True) (fun s2 => True) (p0.Boxes.length) 2 (impl_ProbeTubeOk_b2 p0 s1) (impl_ProbeTubeOk_r2 p0 s1) 0 (()) (lst []) (sb (by kernel_rfl)) trivial hR13 ?_ ?_
  · skip
    intro i2 s2 x2 hI2 hX2
    refine xr hT [] (fun f15 => ⟨[(49, .one (.c (.sl .bor 6 (p0.Boxes.map ProbeBox.row)))), (50, .one (.c (.v (.int .i64 (p0.Boxes.length : Int))))), (51, .one (.c (.v (.int .i64 ((i2 : Nat) : Int))))), (52, .one (.c (.v (.bool (decide (((i2 : Nat) : Int) < (p0.Boxes.length : Int)))))))], [], 59⟩) (fun f => by kernel_rfl) (fun f => by kernel_rfl) fun f15 => ?_
    refine w_seq ?_
    refine w_cond rfl (fun h16 => ?_) fun h16 => ?_
    · skip
      have hl2 : i2 < p0.Boxes.length := by have hq := of_decide_eq_true h16; first | omega | ((try simp only [LN, impl_ProbeTubeOk_v1] at *); omega)
      obtain ⟨B2, hB2⟩ : ∃ B, B = impl_ProbeTubeOk_b2 p0 s1 i2 s2 := ⟨_, rfl⟩
      have hE2 := hB2
      rw [impl_ProbeTubeOk_b2] at hE2
      refine w_skip ?_
      refine w_seq ?_
      refine w_block ?_
      refine xr hT [ix ProbeBox.row p0.Boxes i2 (by omega)] (fun f17 => ⟨[(6, .one (.pt 6 (f17 2 0) 0)), (49, .one (.c (.sl .bor 6 (p0.Boxes.map ProbeBox.row)))), (50, .one (.c (.v (.int .i64 (p0.Boxes.length : Int))))), (51, .one (.c (.v (.int .i64 ((i2 : Nat) : Int)))))], [(6, some (f17 2 0, .box (ProbeBox.cs .bor (p0.Boxes.getD i2 default))))], 59⟩) (fun f => by kernel_rfl) (fun f => by kernel_rfl) fun f17 => ?_
      refine xr hT [ca (c81 (p0.Boxes.getD i2 default))] (fun f18 => ⟨[(49, .one (.c (.sl .bor 6 (p0.Boxes.map ProbeBox.row)))), (50, .one (.c (.v (.int .i64 (p0.Boxes.length : Int))))), (51, .one (.c (.v (.int .i64 ((i2 : Nat) : Int))))), (57, .one (.c (.v (.bool (!(impl_ProbeBoxOk (p0.Boxes.getD i2 default)))))))], [], 59⟩) (fun f => by kernel_rfl) (fun f => by kernel_rfl) fun f18 => ?_
      refine w_cond rfl (fun h19 => ?_) fun h19 => ?_
      · rw [if_pos h19] at hE2
        refine xr hT [] (fun f20 => ⟨[(2, .one (.c (.v (.bool false))))], [], 59⟩) (fun f => by kernel_rfl) (fun f => by kernel_rfl) fun f20 => ?_
        refine w_ret ?_
        have hR13 := hX2.trans (forN_ret hl2 (hB2.symm.trans hE2))
        subst hR13
        exact x_ret (by kernel_rfl)
      rw [if_neg (nt h19)] at hE2
      refine w_skip ?_
      refine x_reg hT [.ex true (((i2 : Nat) : Int) + ((1 : Nat) : Int)) ((((i2 + 1) : Nat) : Int)) (fun _ => wr_nat (n := i2) (c := 1) (by omega))] (fun f21 => impl_ProbeTubeOk_I2 p0 s1 fs (i2 + 1) () (lst [])) (fun f => by kernel_rfl) (fun f => by kernel_rfl) fun f21 s' hs' => ?_
      exact ⟨(), (lst []), hl2, trivial, hX2.trans (forN_next hl2 (hB2.symm.trans hE2)), hs'⟩
    have hq := of_decide_eq_false h16
    refine w_exit ?_
    exact ⟨s2, (lst []), trivial, hX2.trans (forN_end (by first | omega | ((try simp only [LN, impl_ProbeTubeOk_v1] at *); omega))), sb (by kernel_rfl)⟩
  intro s2 x2 hF24 hR22
  rw [impl_ProbeTubeOk_r2] at hR22
  refine xr hT [] (fun f23 => ⟨[(2, .one (.c (.v (.bool true))))], [], 59⟩) (fun f => by kernel_rfl) (fun f => by kernel_rfl) fun f23 => ?_
  refine w_ret ?_
  subst hR22
  exact x_ret (by kernel_rfl)

/-- impl.name -/
def impl_name (p0 : ByteArray) : Bool := (impl_ProbeTubeOk (⟨p0, []⟩ : ProbeTube))
theorem c48 (p0 : ByteArray) : Fn Proofs.Try.prog 48 [⟨.val, false, [.v (.string p0)]⟩] [.c (.v (.bool (impl_name p0)))] [] := by
  obtain ⟨R, hR⟩ : ∃ R, R = impl_name p0 := ⟨_, rfl⟩
  rw [← hR]
  rw [impl_name] at hR
  refine ⟨fn_intro hT Proofs.Try.func48 rfl rfl fun fs => ?_, _, Proofs.Try.func48, rfl, rfl⟩
  refine xr hT [] (fun f1 => ⟨[(0, .one (.c (.v (.string p0))))], [], 6⟩) (fun f => by kernel_rfl) (fun f => by kernel_rfl) fun f1 => ?_
  refine xr hT [ca (c67 (⟨p0, []⟩ : ProbeTube) (by first | assumption | exact (show ([]).length ≤ 1048576 from by (try simp only [LN]); omega)))] (fun f2 => ⟨[(2, .one (.c (.v (.bool (impl_ProbeTubeOk (⟨p0, []⟩ : ProbeTube))))))], [], 6⟩) (fun f => by kernel_rfl) (fun f => by kernel_rfl) fun f2 => ?_
  refine w_ret ?_
  subst hR
  exact x_ret (by kernel_rfl)

def impl_FlyNext_I1 (p0 : FlyPath) (p1 : (List Int)) (fs : Nat → Nat → Nat) (i1 : Nat) (s1 : List FlyStep) (x1 : Nat → Nat) : St := ⟨[(1, .one (.c (.sl .bor 1 (p1.map Int.row)))), (2, .one (.pt 2 (x1 0) 0)), (4, .one (.pt 4 (x1 1) 0)), (25, .one (.c (.sl .bor 1 (p1.map Int.row)))), (26, .one (.c (.v (.int .i64 (p1.length : Int))))), (27, .one (.c (.v (.int .i64 ((i1 : Nat) : Int)))))], [(2, some (x1 0, .box [.v (.int .i64 ((impl_copyPath p0).Kind.Quick)), .v (.int .i64 ((impl_copyPath p0).Kind.Slow)), .mu 2500002 (x1 2) 7 0 (s1.map FlyStep.row).length, .v (.int .i64 ((impl_copyPath p0).From)), .v (.int .i64 ((impl_copyPath p0).By))])), (4, some (x1 1, .box [.v (.int .i64 0), .v (.int .i64 0)])), (2500002, some (x1 2, .arr 7 (s1.map FlyStep.row)))], 70⟩
def impl_FlyNext_J1 (p0 : FlyPath) (p1 : (List Int)) (fs : Nat → Nat → Nat) (s1 : List FlyStep) (x1 : Nat → Nat) : St := ⟨[(1, .one (.c (.sl .bor 1 (p1.map Int.row)))), (2, .one (.pt 2 (x1 0) 0)), (4, .one (.pt 4 (x1 1) 0))], [(2, some (x1 0, .box [.v (.int .i64 ((impl_copyPath p0).Kind.Quick)), .v (.int .i64 ((impl_copyPath p0).Kind.Slow)), .mu 2500002 (x1 2) 7 0 (s1.map FlyStep.row).length, .v (.int .i64 ((impl_copyPath p0).From)), .v (.int .i64 ((impl_copyPath p0).By))])), (4, some (x1 1, .box [.v (.int .i64 0), .v (.int .i64 0)])), (2500002, some (x1 2, .arr 7 (s1.map FlyStep.row)))], 70⟩
def impl_FlyNext_v1 (p1 : (List Int)) (i1 : Nat) (s1 : List FlyStep) : List FlyStep := (s1.set i1 ({ s1.getD i1 default with From := p1.getD i1 default } : FlyStep)).set i1 ({ (s1.set i1 ({ s1.getD i1 default with From := p1.getD i1 default } : FlyStep)).getD i1 default with By := p1.getD i1 default } : FlyStep)
def impl_FlyNext_b1 (p0 : FlyPath) (p1 : (List Int)) (i1 : Nat) (s1 : List FlyStep) : Res (List FlyStep) (FlySpan × Bool) := (if !(impl_in (p1.getD i1 default) ((s1.getD i1 default).From) ((s1.getD i1 default).By)) then (.ret ((⟨0, 0⟩ : FlySpan), false)) else (.next (impl_FlyNext_v1 p1 i1 s1)))
def impl_FlyNext_r1 (p0 : FlyPath) (p1 : (List Int)) (s1 : List FlyStep) : (FlySpan × Bool) := (if !((impl_FlySpans (⟨(impl_copyPath p0).Kind, s1, (impl_copyPath p0).From, (impl_copyPath p0).By⟩ : FlyPath)).2) then ((⟨0, 0⟩ : FlySpan), false) else (((impl_FlySpans (⟨(impl_copyPath p0).Kind, s1, (impl_copyPath p0).From, (impl_copyPath p0).By⟩ : FlyPath)).1).getD p1.length default, true))
/-- impl.FlyNext -/
def impl_FlyNext (p0 : FlyPath) (p1 : (List Int)) : FlySpan × Bool := (if (!(impl_FlyPathOk p0)) || (decide ((p0.Steps.length : Int) < (p1.length : Int))) then ((⟨0, 0⟩ : FlySpan), false) else (Res.fin (impl_FlyNext_r1 p0 p1) (forN (impl_FlyNext_b1 p0 p1) (p1.length - 0) 0 (impl_copyPath p0).Steps)))
theorem c68 (p0 : FlyPath) (p1 : (List Int)) (k0_0 : FlyPath.ok p0) (k1_0 : p1.length ≤ 1048576) : Fn Proofs.Try.prog 68 [⟨.val, true, FlyPath.cs .bor p0⟩, ⟨.val, false, [.sl .bor 1 (p1.map Int.row)]⟩] [.ag (FlySpan.cs .own (impl_FlyNext p0 p1).1), .c (.v (.bool (impl_FlyNext p0 p1).2))] [] := by
  obtain ⟨R, hR⟩ : ∃ R, R = impl_FlyNext p0 p1 := ⟨_, rfl⟩
  rw [← hR]
  rw [impl_FlyNext] at hR
  refine ⟨fn_intro hT Proofs.Try.func68 rfl rfl fun fs => ?_, _, Proofs.Try.func68, rfl, rfl⟩
  have q0 := k0_0; simp only [FlyPath.ok] at q0
  refine xr hT [] (fun f1 => ⟨[(1, .one (.c (.sl .bor 1 (p1.map Int.row)))), (2, .one (.pt 2 (f1 0 0) 0)), (4, .one (.pt 4 (f1 1 0) 0))], [(2, some (f1 0 0, .box (FlyPath.cs .bor p0))), (4, some (f1 1 0, .box [.v (.int .i64 0), .v (.int .i64 0)]))], 70⟩) (fun f => by kernel_rfl) (fun f => by kernel_rfl) fun f1 => ?_
  refine w_seq ?_
  refine xr hT [ca (c69 p0 (by first | assumption | exact (by omega : p0.Steps.length ≤ 1048576))), .ln Int.row p1, .ln FlyStep.row p0.Steps] (fun f2 => ⟨[(1, .one (.c (.sl .bor 1 (p1.map Int.row)))), (2, .one (.pt 2 (f1 0 0) 0)), (4, .one (.pt 4 (f1 1 0) 0)), (21, .one (.c (.v (.bool ((!(impl_FlyPathOk p0)) || (decide ((p0.Steps.length : Int) < (p1.length : Int))))))))], [(2, some (f1 0 0, .box (FlyPath.cs .bor p0))), (4, some (f1 1 0, .box [.v (.int .i64 0), .v (.int .i64 0)]))], 70⟩) (fun f => by kernel_rfl) (fun f => by kernel_rfl) fun f2 => ?_
  refine w_cond rfl (fun h3 => ?_) fun h3 => ?_
  · rw [if_pos h3] at hR
    have gh3 := h3; try simp only [Bool.not_eq_true', Bool.not_eq_false', decide_eq_true_eq, decide_eq_false_iff_not, Bool.and_eq_true, Bool.or_eq_true, Bool.and_eq_false_iff, Bool.or_eq_false_iff] at gh3
    refine xr hT [] (fun f4 => ⟨[(4, .one (.pt 4 (f1 1 0) 0)), (5, .one (.c (.v (.bool false))))], [(4, some (f1 1 0, .box [.v (.int .i64 0), .v (.int .i64 0)]))], 70⟩) (fun f => by kernel_rfl) (fun f => by kernel_rfl) fun f4 => ?_
    refine w_ret ?_
    subst hR
    exact x_ret (by kernel_rfl)
  rw [if_neg (nt h3)] at hR
  have gh3 := h3; try simp only [Bool.not_eq_true', Bool.not_eq_false', decide_eq_true_eq, decide_eq_false_iff_not, Bool.and_eq_true, Bool.or_eq_true, Bool.and_eq_false_iff, Bool.or_eq_false_iff] at gh3
  refine w_skip ?_
  refine xr hT [ca (c30 p0 (by first | assumption | exact (by omega : p0.Steps.length ≤ 1048576)))] (fun f5 => ⟨[(1, .one (.c (.sl .bor 1 (p1.map Int.row)))), (2, .one (.pt 2 (f1 0 0) 0)), (4, .one (.pt 4 (f1 1 0) 0))], [(2, some (f1 0 0, .box [.v (.int .i64 ((impl_copyPath p0).Kind.Quick)), .v (.int .i64 ((impl_copyPath p0).Kind.Slow)), .mu 2500002 (gk (f5 1) 0 2) 7 0 (((impl_copyPath p0).Steps).map FlyStep.row).length, .v (.int .i64 ((impl_copyPath p0).From)), .v (.int .i64 ((impl_copyPath p0).By))])), (4, some (f1 1 0, .box [.v (.int .i64 0), .v (.int .i64 0)])), (2500002, some (gk (f5 1) 0 2, .arr 7 (((impl_copyPath p0).Steps).map FlyStep.row)))], 70⟩) (fun f => by kernel_rfl) (fun f => by kernel_rfl) fun f5 => ?_
  refine w_seq ?_
  refine xr hT [.ln Int.row p1] (fun f6 => ⟨[(1, .one (.c (.sl .bor 1 (p1.map Int.row)))), (2, .one (.pt 2 (f1 0 0) 0)), (4, .one (.pt 4 (f1 1 0) 0)), (25, .one (.c (.sl .bor 1 (p1.map Int.row)))), (26, .one (.c (.v (.int .i64 (p1.length : Int))))), (27, .one (.c (.v (.int .i64 0))))], [(2, some (f1 0 0, .box [.v (.int .i64 ((impl_copyPath p0).Kind.Quick)), .v (.int .i64 ((impl_copyPath p0).Kind.Slow)), .mu 2500002 (gk (f5 1) 0 2) 7 0 (((impl_copyPath p0).Steps).map FlyStep.row).length, .v (.int .i64 ((impl_copyPath p0).From)), .v (.int .i64 ((impl_copyPath p0).By))])), (4, some (f1 1 0, .box [.v (.int .i64 0), .v (.int .i64 0)])), (2500002, some (gk (f5 1) 0 2, .arr 7 (((impl_copyPath p0).Steps).map FlyStep.row)))], 70⟩) (fun f => by kernel_rfl) (fun f => by kernel_rfl) fun f6 => ?_
  refine w_forT (fun _ => rfl) (impl_FlyNext_I1 p0 p1 fs) (impl_FlyNext_J1 p0 p1 fs) (fun i1 s1 => s1.length = ((impl_copyPath p0).Steps).length) (fun s1 => s1.length = ((impl_copyPath p0).Steps).length) (p1.length) 0 (impl_FlyNext_b1 p0 p1) (impl_FlyNext_r1 p0 p1) 0 ((impl_copyPath p0).Steps) (lst [f1 0 0, f1 1 0, gk (f5 1) 0 2]) (sb (by kernel_rfl)) (by first | rfl | ((try simp only [LN, impl_copyPath, impl_FlyNext_v1]); omega) | (simp; done) | (simp; omega)) hR ?_ ?_
  · skip
    intro i1 s1 x1 hI1 hX1
    try simp only [LN, impl_copyPath, impl_FlyNext_v1] at hI1
    refine xr hT [] (fun f7 => ⟨[(1, .one (.c (.sl .bor 1 (p1.map Int.row)))), (2, .one (.pt 2 (x1 0) 0)), (4, .one (.pt 4 (x1 1) 0)), (25, .one (.c (.sl .bor 1 (p1.map Int.row)))), (26, .one (.c (.v (.int .i64 (p1.length : Int))))), (27, .one (.c (.v (.int .i64 ((i1 : Nat) : Int))))), (28, .one (.c (.v (.bool (decide (((i1 : Nat) : Int) < (p1.length : Int)))))))], [(2, some (x1 0, .box [.v (.int .i64 ((impl_copyPath p0).Kind.Quick)), .v (.int .i64 ((impl_copyPath p0).Kind.Slow)), .mu 2500002 (x1 2) 7 0 (s1.map FlyStep.row).length, .v (.int .i64 ((impl_copyPath p0).From)), .v (.int .i64 ((impl_copyPath p0).By))])), (4, some (x1 1, .box [.v (.int .i64 0), .v (.int .i64 0)])), (2500002, some (x1 2, .arr 7 (s1.map FlyStep.row)))], 70⟩) (fun f => by kernel_rfl) (fun f => by kernel_rfl) fun f7 => ?_
    refine w_seq ?_
    refine w_cond rfl (fun h8 => ?_) fun h8 => ?_
    · skip
      have hl1 : i1 < p1.length := by have hq := of_decide_eq_true h8; first | omega | ((try simp only [LN, impl_copyPath, impl_FlyNext_v1] at *); omega)
      have hl1x := hl1; try simp only [LN, impl_copyPath, impl_FlyNext_v1] at hl1x
      obtain ⟨B1, hB1⟩ : ∃ B, B = impl_FlyNext_b1 p0 p1 i1 s1 := ⟨_, rfl⟩
      have hE1 := hB1
      rw [impl_FlyNext_b1] at hE1
      refine w_skip ?_
      refine w_seq ?_
      refine w_block ?_
      refine xr hT [ix Int.row p1 i1 (by omega)] (fun f9 => ⟨[(1, .one (.c (.sl .bor 1 (p1.map Int.row)))), (2, .one (.pt 2 (x1 0) 0)), (4, .one (.pt 4 (x1 1) 0)), (6, .one (.c (.v (.int .i64 ((i1 : Nat) : Int))))), (7, .one (.c (.v (.int .i64 (p1.getD i1 default))))), (25, .one (.c (.sl .bor 1 (p1.map Int.row)))), (26, .one (.c (.v (.int .i64 (p1.length : Int))))), (27, .one (.c (.v (.int .i64 ((i1 : Nat) : Int)))))], [(2, some (x1 0, .box [.v (.int .i64 ((impl_copyPath p0).Kind.Quick)), .v (.int .i64 ((impl_copyPath p0).Kind.Slow)), .mu 2500002 (x1 2) 7 0 (s1.map FlyStep.row).length, .v (.int .i64 ((impl_copyPath p0).From)), .v (.int .i64 ((impl_copyPath p0).By))])), (4, some (x1 1, .box [.v (.int .i64 0), .v (.int .i64 0)])), (2500002, some (x1 2, .arr 7 (s1.map FlyStep.row)))], 70⟩) (fun f => by kernel_rfl) (fun f => by kernel_rfl) fun f9 => ?_
      refine xr hT [ix FlyStep.row s1 i1 (by omega)] (fun f10 => ⟨[(1, .one (.c (.sl .bor 1 (p1.map Int.row)))), (2, .one (.pt 2 (x1 0) 0)), (4, .one (.pt 4 (x1 1) 0)), (7, .one (.c (.v (.int .i64 (p1.getD i1 default))))), (8, .one (.pa 2500002 (x1 2) 7 i1 0)), (25, .one (.c (.sl .bor 1 (p1.map Int.row)))), (26, .one (.c (.v (.int .i64 (p1.length : Int))))), (27, .one (.c (.v (.int .i64 ((i1 : Nat) : Int)))))], [(2, some (x1 0, .box [.v (.int .i64 ((impl_copyPath p0).Kind.Quick)), .v (.int .i64 ((impl_copyPath p0).Kind.Slow)), .mu 2500002 (x1 2) 7 0 (s1.map FlyStep.row).length, .v (.int .i64 ((impl_copyPath p0).From)), .v (.int .i64 ((impl_copyPath p0).By))])), (4, some (x1 1, .box [.v (.int .i64 0), .v (.int .i64 0)])), (2500002, some (x1 2, .arr 7 (s1.map FlyStep.row)))], 70⟩) (fun f => by kernel_rfl) (fun f => by kernel_rfl) fun f10 => ?_
      refine w_seq ?_
      refine xd hT hM [ix FlyStep.row s1 i1 (by omega), ix FlyStep.row s1 i1 (by omega), ca (c49 (p1.getD i1 default) ((s1.getD i1 default).From) ((s1.getD i1 default).By))] (fun f11 => ⟨[(1, .one (.c (.sl .bor 1 (p1.map Int.row)))), (2, .one (.pt 2 (x1 0) 0)), (4, .one (.pt 4 (x1 1) 0)), (7, .one (.c (.v (.int .i64 (p1.getD i1 default))))), (8, .one (.pa 2500002 (x1 2) 7 i1 0)), (25, .one (.c (.sl .bor 1 (p1.map Int.row)))), (26, .one (.c (.v (.int .i64 (p1.length : Int))))), (27, .one (.c (.v (.int .i64 ((i1 : Nat) : Int))))), (46, .one (.c (.v (.bool (!(impl_in (p1.getD i1 default) ((s1.getD i1 default).From) ((s1.getD i1 default).By)))))))], [(2, some (x1 0, .box [.v (.int .i64 ((impl_copyPath p0).Kind.Quick)), .v (.int .i64 ((impl_copyPath p0).Kind.Slow)), .mu 2500002 (x1 2) 7 0 (s1.map FlyStep.row).length, .v (.int .i64 ((impl_copyPath p0).From)), .v (.int .i64 ((impl_copyPath p0).By))])), (4, some (x1 1, .box [.v (.int .i64 0), .v (.int .i64 0)])), (2500002, some (x1 2, .arr 7 (s1.map FlyStep.row)))], 70⟩) (fun f => by kernel_rfl) (fun f => by kernel_rfl) (fun f => by kernel_rfl) fun f11 => ?_
      refine w_cond rfl (fun h12 => ?_) fun h12 => ?_
      · rw [if_pos h12] at hE1
        have gh12 := h12; try simp only [impl_in, Bool.not_eq_true', Bool.not_eq_false', decide_eq_true_eq, decide_eq_false_iff_not, Bool.and_eq_true, Bool.or_eq_true, Bool.and_eq_false_iff, Bool.or_eq_false_iff] at gh12
        refine xr hT [] (fun f13 => ⟨[(4, .one (.pt 4 (x1 1) 0)), (5, .one (.c (.v (.bool false))))], [(4, some (x1 1, .box [.v (.int .i64 0), .v (.int .i64 0)]))], 70⟩) (fun f => by kernel_rfl) (fun f => by kernel_rfl) fun f13 => ?_
        refine w_ret ?_
        have hR := hX1.trans (forN_ret hl1 (hB1.symm.trans hE1))
        subst hR
        exact x_ret (by kernel_rfl)
      rw [if_neg (nt h12)] at hE1
      have gh12 := h12; try simp only [impl_in, Bool.not_eq_true', Bool.not_eq_false', decide_eq_true_eq, decide_eq_false_iff_not, Bool.and_eq_true, Bool.or_eq_true, Bool.and_eq_false_iff, Bool.or_eq_false_iff] at gh12
      refine w_skip ?_
      refine xr1 (fun _ => rfl) hT [.st inferInstance true FlyStep.row s1 i1 ({ s1.getD i1 default with From := p1.getD i1 default } : FlyStep) (fun h => by omega), .st inferInstance true FlyStep.row (s1.set i1 ({ s1.getD i1 default with From := p1.getD i1 default } : FlyStep)) i1 ({ (s1.set i1 ({ s1.getD i1 default with From := p1.getD i1 default } : FlyStep)).getD i1 default with By := p1.getD i1 default } : FlyStep) (fun h => by (first | omega | ((try simp only [LN, impl_copyPath, impl_FlyNext_v1]); omega) | ((try simp only [wr, IntKind.wrap_i64, LN, impl_copyPath, impl_FlyNext_v1] at *); omega) | (simp_all <;> omega)))] (fun f14 => ⟨[(1, .one (.c (.sl .bor 1 (p1.map Int.row)))), (2, .one (.pt 2 (x1 0) 0)), (4, .one (.pt 4 (x1 1) 0)), (25, .one (.c (.sl .bor 1 (p1.map Int.row)))), (26, .one (.c (.v (.int .i64 (p1.length : Int))))), (27, .one (.c (.v (.int .i64 ((i1 : Nat) : Int)))))], [(2, some (x1 0, .box [.v (.int .i64 ((impl_copyPath p0).Kind.Quick)), .v (.int .i64 ((impl_copyPath p0).Kind.Slow)), .mu 2500002 (x1 2) 7 0 (s1.map FlyStep.row).length, .v (.int .i64 ((impl_copyPath p0).From)), .v (.int .i64 ((impl_copyPath p0).By))])), (4, some (x1 1, .box [.v (.int .i64 0), .v (.int .i64 0)])), (2500002, some (x1 2, .arr 7 ((impl_FlyNext_v1 p1 i1 s1).map FlyStep.row)))], 70⟩) (fun f => by kernel_rfl) (fun f => by kernel_rfl) fun f14 => ?_
      refine w_sub (s := ⟨[(1, .one (.c (.sl .bor 1 (p1.map Int.row)))), (2, .one (.pt 2 (x1 0) 0)), (4, .one (.pt 4 (x1 1) 0)), (25, .one (.c (.sl .bor 1 (p1.map Int.row)))), (26, .one (.c (.v (.int .i64 (p1.length : Int))))), (27, .one (.c (.v (.int .i64 ((i1 : Nat) : Int)))))], [(2, some (x1 0, .box [.v (.int .i64 ((impl_copyPath p0).Kind.Quick)), .v (.int .i64 ((impl_copyPath p0).Kind.Slow)), .mu 2500002 (x1 2) 7 0 ((impl_FlyNext_v1 p1 i1 s1).map FlyStep.row).length, .v (.int .i64 ((impl_copyPath p0).From)), .v (.int .i64 ((impl_copyPath p0).By))])), (4, some (x1 1, .box [.v (.int .i64 0), .v (.int .i64 0)])), (2500002, some (x1 2, .arr 7 ((impl_FlyNext_v1 p1 i1 s1).map FlyStep.row)))], 70⟩) (cst (by simp only [LN, impl_copyPath, impl_FlyNext_v1]) (sb (s := ⟨[(1, .one (.c (.sl .bor 1 (p1.map Int.row)))), (2, .one (.pt 2 (x1 0) 0)), (4, .one (.pt 4 (x1 1) 0)), (25, .one (.c (.sl .bor 1 (p1.map Int.row)))), (26, .one (.c (.v (.int .i64 (p1.length : Int))))), (27, .one (.c (.v (.int .i64 ((i1 : Nat) : Int)))))], [(2, some (x1 0, .box [.v (.int .i64 ((impl_copyPath p0).Kind.Quick)), .v (.int .i64 ((impl_copyPath p0).Kind.Slow)), .mu 2500002 (x1 2) 7 0 (s1.map FlyStep.row).length, .v (.int .i64 ((impl_copyPath p0).From)), .v (.int .i64 ((impl_copyPath p0).By))])), (4, some (x1 1, .box [.v (.int .i64 0), .v (.int .i64 0)])), (2500002, some (x1 2, .arr 7 ((impl_FlyNext_v1 p1 i1 s1).map FlyStep.row)))], 70⟩) (by kernel_rfl))) ?_
      refine x_reg hT [.ex true (((i1 : Nat) : Int) + ((1 : Nat) : Int)) ((((i1 + 1) : Nat) : Int)) (fun _ => wr_nat (n := i1) (c := 1) (by omega))] (fun f15 => impl_FlyNext_I1 p0 p1 fs (i1 + 1) (impl_FlyNext_v1 p1 i1 s1) (lst [x1 0, x1 1, x1 2])) (fun f => by kernel_rfl) (fun f => by kernel_rfl) fun f15 s' hs' => ?_
      exact ⟨(impl_FlyNext_v1 p1 i1 s1), (lst [x1 0, x1 1, x1 2]), hl1, (by (try simp only [LN, impl_copyPath, impl_FlyNext_v1] at *); omega), hX1.trans (forN_next hl1 (hB1.symm.trans hE1)), hs'⟩
    have hq := of_decide_eq_false h8
    refine w_exit ?_
    exact ⟨s1, (lst [x1 0, x1 1, x1 2]), (by (try simp only [LN, impl_copyPath, impl_FlyNext_v1] at *); omega), hX1.trans (forN_end (by first | omega | ((try simp only [LN, impl_copyPath, impl_FlyNext_v1] at *); omega))), sb (by kernel_rfl)⟩
  intro s1 x1 hF23 hR16
  try simp only [LN, impl_copyPath, impl_FlyNext_v1] at hF23
  rw [impl_FlyNext_r1] at hR16
  have w18 := f_impl_FlySpans (⟨(impl_copyPath p0).Kind, s1, (impl_copyPath p0).From, (impl_copyPath p0).By⟩ : FlyPath) (by first | assumption | exact (by omega : s1.length ≤ 1048576))
  have w18' := w18; try simp only [LN, impl_copyPath, impl_FlyNext_v1] at w18'
  refine xr hT [ca (c53 (⟨(impl_copyPath p0).Kind, s1, (impl_copyPath p0).From, (impl_copyPath p0).By⟩ : FlyPath) (by first | assumption | exact (by omega : s1.length ≤ 1048576)))] (fun f17 => ⟨[(1, .one (.c (.sl .bor 1 (p1.map Int.row)))), (4, .one (.pt 4 (x1 1) 0)), (9, .one (.c (.mu 6000000 (gk (f17 1) 0 0) 2 0 (((impl_FlySpans (⟨(impl_copyPath p0).Kind, s1, (impl_copyPath p0).From, (impl_copyPath p0).By⟩ : FlyPath)).1).map FlySpan.row).length))), (10, .one (.c (.v (.bool ((impl_FlySpans (⟨(impl_copyPath p0).Kind, s1, (impl_copyPath p0).From, (impl_copyPath p0).By⟩ : FlyPath)).2)))))], [(4, some (x1 1, .box [.v (.int .i64 0), .v (.int .i64 0)])), (6000000, some (gk (f17 1) 0 0, .arr 2 (((impl_FlySpans (⟨(impl_copyPath p0).Kind, s1, (impl_copyPath p0).From, (impl_copyPath p0).By⟩ : FlyPath)).1).map FlySpan.row)))], 70⟩) (fun f => by kernel_rfl) (fun f => by kernel_rfl) fun f17 => ?_
  refine w_seq ?_
  refine xr hT [] (fun f19 => ⟨[(1, .one (.c (.sl .bor 1 (p1.map Int.row)))), (4, .one (.pt 4 (x1 1) 0)), (9, .one (.c (.mu 6000000 (gk (f17 1) 0 0) 2 0 (((impl_FlySpans (⟨(impl_copyPath p0).Kind, s1, (impl_copyPath p0).From, (impl_copyPath p0).By⟩ : FlyPath)).1).map FlySpan.row).length))), (63, .one (.c (.v (.bool (!((impl_FlySpans (⟨(impl_copyPath p0).Kind, s1, (impl_copyPath p0).From, (impl_copyPath p0).By⟩ : FlyPath)).2))))))], [(4, some (x1 1, .box [.v (.int .i64 0), .v (.int .i64 0)])), (6000000, some (gk (f17 1) 0 0, .arr 2 (((impl_FlySpans (⟨(impl_copyPath p0).Kind, s1, (impl_copyPath p0).From, (impl_copyPath p0).By⟩ : FlyPath)).1).map FlySpan.row)))], 70⟩) (fun f => by kernel_rfl) (fun f => by kernel_rfl) fun f19 => ?_
  refine w_cond rfl (fun h20 => ?_) fun h20 => ?_
  · rw [if_pos h20] at hR16
    refine xr hT [] (fun f21 => ⟨[(4, .one (.pt 4 (x1 1) 0)), (5, .one (.c (.v (.bool false))))], [(4, some (x1 1, .box [.v (.int .i64 0), .v (.int .i64 0)]))], 70⟩) (fun f => by kernel_rfl) (fun f => by kernel_rfl) fun f21 => ?_
    refine w_ret ?_
    subst hR16
    exact x_ret (by kernel_rfl)
  rw [if_neg (nt h20)] at hR16
  refine w_skip ?_
  refine xr hT [.ln Int.row p1, ix FlySpan.row ((impl_FlySpans (⟨(impl_copyPath p0).Kind, s1, (impl_copyPath p0).From, (impl_copyPath p0).By⟩ : FlyPath)).1) p1.length (by (first | omega | ((try simp only [LN, impl_copyPath, impl_FlyNext_v1]); omega) | ((try simp only [wr, IntKind.wrap_i64, LN, impl_copyPath, impl_FlyNext_v1] at *); omega) | (simp_all <;> omega))), ix FlySpan.row ((impl_FlySpans (⟨(impl_copyPath p0).Kind, s1, (impl_copyPath p0).From, (impl_copyPath p0).By⟩ : FlyPath)).1) p1.length (by (first | omega | ((try simp only [LN, impl_copyPath, impl_FlyNext_v1]); omega) | ((try simp only [wr, IntKind.wrap_i64, LN, impl_copyPath, impl_FlyNext_v1] at *); omega) | (simp_all <;> omega)))] (fun f22 => ⟨[(4, .one (.pt 4 (x1 1) 0)), (5, .one (.c (.v (.bool true))))], [(4, some (x1 1, .box (FlySpan.cs .frz (((impl_FlySpans (⟨(impl_copyPath p0).Kind, s1, (impl_copyPath p0).From, (impl_copyPath p0).By⟩ : FlyPath)).1).getD p1.length default))))], 70⟩) (fun f => by kernel_rfl) (fun f => by kernel_rfl) fun f22 => ?_
  refine w_ret ?_
  subst hR16
  exact x_ret (by kernel_rfl)

/-- impl.LinkCraft.begun -/
def impl_LinkCraft_begun (p0 : LinkCraft) : Bool := (if decide ((p0.Path.Steps.length : Int) < (p0.Flown.length : Int)) then false else (impl_FlyNext p0.Path p0.Flown).2)
theorem c50 (p0 : LinkCraft) (k0_0 : LinkCraft.ok p0) : Fn Proofs.Try.prog 50 [⟨.val, true, LinkCraft.cs .bor p0⟩] [.c (.v (.bool (impl_LinkCraft_begun p0)))] [] := by
  obtain ⟨R, hR⟩ : ∃ R, R = impl_LinkCraft_begun p0 := ⟨_, rfl⟩
  rw [← hR]
  rw [impl_LinkCraft_begun] at hR
  refine ⟨fn_intro hT Proofs.Try.func50 rfl rfl fun fs => ?_, _, Proofs.Try.func50, rfl, rfl⟩
  have q0 := k0_0; simp only [LinkCraft.ok] at q0
  refine xr hT [] (fun f1 => ⟨[(1, .one (.pt 1 (f1 0 0) 0))], [(1, some (f1 0 0, .box (LinkCraft.cs .bor p0)))], 22⟩) (fun f => by kernel_rfl) (fun f => by kernel_rfl) fun f1 => ?_
  refine w_seq ?_
  refine xr hT [.ln Int.row p0.Flown, .ln FlyStep.row p0.Path.Steps] (fun f2 => ⟨[(1, .one (.pt 1 (f1 0 0) 0)), (12, .one (.c (.v (.bool (decide ((p0.Path.Steps.length : Int) < (p0.Flown.length : Int)))))))], [(1, some (f1 0 0, .box (LinkCraft.cs .bor p0)))], 22⟩) (fun f => by kernel_rfl) (fun f => by kernel_rfl) fun f2 => ?_
  refine w_cond rfl (fun h3 => ?_) fun h3 => ?_
  · rw [if_pos h3] at hR
    have gh3 := of_decide_eq_true h3
    refine xr hT [] (fun f4 => ⟨[(2, .one (.c (.v (.bool false))))], [], 22⟩) (fun f => by kernel_rfl) (fun f => by kernel_rfl) fun f4 => ?_
    refine w_ret ?_
    subst hR
    exact x_ret (by kernel_rfl)
  rw [if_neg (nt h3)] at hR
  have gh3 := of_decide_eq_false h3
  refine w_skip ?_
  refine xr hT [ca (c68 p0.Path p0.Flown (by first | assumption | exact (by omega : p0.Path.Steps.length ≤ 1048576)) (by omega))] (fun f5 => ⟨[(4, .one (.c (.v (.bool ((impl_FlyNext p0.Path p0.Flown).2)))))], [], 22⟩) (fun f => by kernel_rfl) (fun f => by kernel_rfl) fun f5 => ?_
  refine xr hT [] (fun f6 => ⟨[(2, .one (.c (.v (.bool ((impl_FlyNext p0.Path p0.Flown).2)))))], [], 22⟩) (fun f => by kernel_rfl) (fun f => by kernel_rfl) fun f6 => ?_
  refine w_ret ?_
  subst hR
  exact x_ret (by kernel_rfl)

def impl_LinkCraftOk_v1 (p0 : LinkCraft) (p1 : Int) : Bool := (((((!(impl_name p0.Name)) || (!(impl_in p0.Number 1 1000000))) || (!(impl_in p0.No 0 1000000))) || (decide (p0.No = p0.Number))) || (!(impl_in p1 0 10000))) || (!(impl_LinkCraft_begun p0))
/-- impl.LinkCraftOk -/
def impl_LinkCraftOk (p0 : LinkCraft) (p1 : Int) : Bool := (if (impl_LinkCraftOk_v1 p0 p1) then false else (if (decide (0 < (p0.Flown.length : Int))) && (decide (p1 < (p0.Flown.getD (((p0.Flown.length : Int) - 1).toNat) default))) then false else (impl_LinkCraft_stays p0 p0.Path p1)))
theorem c26 (p0 : LinkCraft) (p1 : Int) (k0_0 : LinkCraft.ok p0) : Fn Proofs.Try.prog 26 [⟨.val, true, LinkCraft.cs .bor p0⟩, ⟨.val, false, [.v (.int .i64 p1)]⟩] [.c (.v (.bool (impl_LinkCraftOk p0 p1)))] [] := by
  obtain ⟨R, hR⟩ : ∃ R, R = impl_LinkCraftOk p0 p1 := ⟨_, rfl⟩
  rw [← hR]
  rw [impl_LinkCraftOk] at hR
  refine ⟨fn_intro hT Proofs.Try.func26 rfl rfl fun fs => ?_, _, Proofs.Try.func26, rfl, rfl⟩
  have q0 := k0_0; simp only [LinkCraft.ok] at q0
  refine xr hT [] (fun f1 => ⟨[(1, .one (.c (.v (.int .i64 p1)))), (2, .one (.pt 2 (f1 0 0) 0))], [(2, some (f1 0 0, .box (LinkCraft.cs .bor p0)))], 59⟩) (fun f => by kernel_rfl) (fun f => by kernel_rfl) fun f1 => ?_
  refine w_seq ?_
  refine xr hT [ca (c48 p0.Name), cg (!(!(impl_name p0.Name))) (fun _ => c49 p0.Number 1 1000000), cg (!((!(impl_name p0.Name)) || (!(impl_in p0.Number 1 1000000)))) (fun _ => c49 p0.No 0 1000000), cg (!((((!(impl_name p0.Name)) || (!(impl_in p0.Number 1 1000000))) || (!(impl_in p0.No 0 1000000))) || (decide (p0.No = p0.Number)))) (fun _ => c49 p1 0 10000), cg (!(((((!(impl_name p0.Name)) || (!(impl_in p0.Number 1 1000000))) || (!(impl_in p0.No 0 1000000))) || (decide (p0.No = p0.Number))) || (!(impl_in p1 0 10000)))) (fun h => by (try simp only [Bool.and_eq_true, Bool.or_eq_true, decide_eq_true_eq, Bool.not_eq_true', decide_eq_false_iff_not] at h); exact c50 p0 (by first | assumption | exact ⟨(by omega : p0.Path.Steps.length ≤ 1048576), (by omega : p0.Flown.length ≤ 1048576)⟩))] (fun f2 => ⟨[(1, .one (.c (.v (.int .i64 p1)))), (2, .one (.pt 2 (f1 0 0) 0)), (38, .one (.c (.v (.bool (impl_LinkCraftOk_v1 p0 p1)))))], [(2, some (f1 0 0, .box (LinkCraft.cs .bor p0)))], 59⟩) (fun f => by kernel_rfl) (fun f => by kernel_rfl) fun f2 => ?_
  refine w_cond rfl (fun h3 => ?_) fun h3 => ?_
  · rw [if_pos h3] at hR
    have gh3 := h3; try simp only [impl_in, impl_LinkCraftOk_v1, Bool.not_eq_true', Bool.not_eq_false', decide_eq_true_eq, decide_eq_false_iff_not, Bool.and_eq_true, Bool.or_eq_true, Bool.and_eq_false_iff, Bool.or_eq_false_iff] at gh3
    refine xr hT [] (fun f4 => ⟨[(4, .one (.c (.v (.bool false))))], [], 59⟩) (fun f => by kernel_rfl) (fun f => by kernel_rfl) fun f4 => ?_
    refine w_ret ?_
    subst hR
    exact x_ret (by kernel_rfl)
  rw [if_neg (nt h3)] at hR
  have gh3 := h3; try simp only [impl_in, impl_LinkCraftOk_v1, Bool.not_eq_true', Bool.not_eq_false', decide_eq_true_eq, decide_eq_false_iff_not, Bool.and_eq_true, Bool.or_eq_true, Bool.and_eq_false_iff, Bool.or_eq_false_iff] at gh3
  refine w_skip ?_
  refine w_seq ?_
  refine xr hT [.ln Int.row p0.Flown] (fun f5 => ⟨[(1, .one (.c (.v (.int .i64 p1)))), (2, .one (.pt 2 (f1 0 0) 0)), (5, .one (.c (.v (.int .i64 (p0.Flown.length : Int)))))], [(2, some (f1 0 0, .box (LinkCraft.cs .bor p0)))], 59⟩) (fun f => by kernel_rfl) (fun f => by kernel_rfl) fun f5 => ?_
  refine xr hT [.ex (decide (0 < (p0.Flown.length : Int))) ((p0.Flown.length : Int) - 1) ((p0.Flown.length : Int) - 1) (fun h => by (try simp only [Bool.and_eq_true, Bool.or_eq_true, decide_eq_true_eq, Bool.not_eq_true', decide_eq_false_iff_not] at h); exact wr_eq (by omega) (by omega)), izg (decide (0 < (p0.Flown.length : Int))) Int.row p0.Flown ((p0.Flown.length : Int) - 1) (fun h => by (try simp only [Bool.and_eq_true, Bool.or_eq_true, decide_eq_true_eq, Bool.not_eq_true', decide_eq_false_iff_not] at h); omega)] (fun f6 => ⟨[(1, .one (.c (.v (.int .i64 p1)))), (2, .one (.pt 2 (f1 0 0) 0)), (53, .one (.c (.v (.bool ((decide (0 < (p0.Flown.length : Int))) && (decide (p1 < (p0.Flown.getD (((p0.Flown.length : Int) - 1).toNat) default))))))))], [(2, some (f1 0 0, .box (LinkCraft.cs .bor p0)))], 59⟩) (fun f => by kernel_rfl) (fun f => by kernel_rfl) fun f6 => ?_
  refine w_cond rfl (fun h7 => ?_) fun h7 => ?_
  · rw [if_pos h7] at hR
    have gh7 := h7; try simp only [Bool.not_eq_true', Bool.not_eq_false', decide_eq_true_eq, decide_eq_false_iff_not, Bool.and_eq_true, Bool.or_eq_true, Bool.and_eq_false_iff, Bool.or_eq_false_iff] at gh7
    refine xr hT [] (fun f8 => ⟨[(4, .one (.c (.v (.bool false))))], [], 59⟩) (fun f => by kernel_rfl) (fun f => by kernel_rfl) fun f8 => ?_
    refine w_ret ?_
    subst hR
    exact x_ret (by kernel_rfl)
  rw [if_neg (nt h7)] at hR
  have gh7 := h7; try simp only [Bool.not_eq_true', Bool.not_eq_false', decide_eq_true_eq, decide_eq_false_iff_not, Bool.and_eq_true, Bool.or_eq_true, Bool.and_eq_false_iff, Bool.or_eq_false_iff] at gh7
  refine w_skip ?_
  refine xr hT [ca (c28 p0 p0.Path p1 (by first | assumption | exact ⟨(by omega : p0.Path.Steps.length ≤ 1048576), (by omega : p0.Flown.length ≤ 1048576)⟩) (by first | assumption | exact (by omega : p0.Path.Steps.length ≤ 1048576)))] (fun f9 => ⟨[(4, .one (.c (.v (.bool (impl_LinkCraft_stays p0 p0.Path p1)))))], [], 59⟩) (fun f => by kernel_rfl) (fun f => by kernel_rfl) fun f9 => ?_
  refine w_ret ?_
  subst hR
  exact x_ret (by kernel_rfl)

/-- impl.flown -/
def impl_flown (p0 : FlyPath) : Bool := (impl_FlySpans p0).2
theorem c51 (p0 : FlyPath) (k0_0 : FlyPath.ok p0) : Fn Proofs.Try.prog 51 [⟨.val, true, FlyPath.cs .bor p0⟩] [.c (.v (.bool (impl_flown p0)))] [] := by
  obtain ⟨R, hR⟩ : ∃ R, R = impl_flown p0 := ⟨_, rfl⟩
  rw [← hR]
  rw [impl_flown] at hR
  refine ⟨fn_intro hT Proofs.Try.func51 rfl rfl fun fs => ?_, _, Proofs.Try.func51, rfl, rfl⟩
  have q0 := k0_0; simp only [FlyPath.ok] at q0
  refine xr hT [] (fun f1 => ⟨[(1, .one (.pt 1 (f1 0 0) 0))], [(1, some (f1 0 0, .box (FlyPath.cs .bor p0)))], 11⟩) (fun f => by kernel_rfl) (fun f => by kernel_rfl) fun f1 => ?_
  have w3 := f_impl_FlySpans p0 (by first | assumption | exact (by omega : p0.Steps.length ≤ 1048576))
  have w3' := w3; try simp only [LN] at w3'
  refine xr hT [ca (c53 p0 (by first | assumption | exact (by omega : p0.Steps.length ≤ 1048576)))] (fun f2 => ⟨[(4, .one (.c (.v (.bool ((impl_FlySpans p0).2)))))], [], 11⟩) (fun f => by kernel_rfl) (fun f => by kernel_rfl) fun f2 => ?_
  refine xr hT [] (fun f4 => ⟨[(2, .one (.c (.v (.bool ((impl_FlySpans p0).2)))))], [], 11⟩) (fun f => by kernel_rfl) (fun f => by kernel_rfl) fun f4 => ?_
  refine w_ret ?_
  subst hR
  exact x_ret (by kernel_rfl)

/-- impl.nothing -/
def impl_nothing (p0 : FlyPath) : Bool := (((FlyKind.beq p0.Kind (⟨0, 0⟩ : FlyKind)) && (decide ((p0.Steps.length : Int) = 0))) && (decide (p0.From = 0))) && (decide (p0.By = 0))
theorem c52 (p0 : FlyPath) (k0_0 : FlyPath.ok p0) : Fn Proofs.Try.prog 52 [⟨.val, true, FlyPath.cs .bor p0⟩] [.c (.v (.bool (impl_nothing p0)))] [] := by
  obtain ⟨R, hR⟩ : ∃ R, R = impl_nothing p0 := ⟨_, rfl⟩
  rw [← hR]
  rw [impl_nothing] at hR
  refine ⟨fn_intro hT Proofs.Try.func52 rfl rfl fun fs => ?_, _, Proofs.Try.func52, rfl, rfl⟩
  have q0 := k0_0; simp only [FlyPath.ok] at q0
  refine xr hT [] (fun f1 => ⟨[(1, .one (.pt 1 (f1 0 0) 0))], [(1, some (f1 0 0, .box (FlyPath.cs .bor p0)))], 23⟩) (fun f => by kernel_rfl) (fun f => by kernel_rfl) fun f1 => ?_
  refine xr hT [.eqs (eqS34 p0.Kind (⟨0, 0⟩ : FlyKind)), .ln FlyStep.row p0.Steps] (fun f2 => ⟨[(2, .one (.c (.v (.bool ((((FlyKind.beq p0.Kind (⟨0, 0⟩ : FlyKind)) && (decide ((p0.Steps.length : Int) = 0))) && (decide (p0.From = 0))) && (decide (p0.By = 0)))))))], [], 23⟩) (fun f => by kernel_rfl) (fun f => by kernel_rfl) fun f2 => ?_
  refine w_ret ?_
  subst hR
  exact x_ret (by kernel_rfl)

/-- impl.LinkWordOk -/
def impl_LinkWordOk (p0 : LinkWord) : Bool := (if ((!(impl_in p0.Kind 1 6)) || (!(impl_name p0.Name))) || (!(impl_in p0.Number 1 1000000)) then false else (if decide (p0.Kind ≤ 2) then (impl_flown p0.Path) else (impl_nothing p0.Path)))
theorem c27 (p0 : LinkWord) (k0_0 : LinkWord.ok p0) : Fn Proofs.Try.prog 27 [⟨.val, true, LinkWord.cs .bor p0⟩] [.c (.v (.bool (impl_LinkWordOk p0)))] [] := by
  obtain ⟨R, hR⟩ : ∃ R, R = impl_LinkWordOk p0 := ⟨_, rfl⟩
  rw [← hR]
  rw [impl_LinkWordOk] at hR
  refine ⟨fn_intro hT Proofs.Try.func27 rfl rfl fun fs => ?_, _, Proofs.Try.func27, rfl, rfl⟩
  have q0 := k0_0; simp only [LinkWord.ok] at q0
  refine xr hT [] (fun f1 => ⟨[(1, .one (.pt 1 (f1 0 0) 0))], [(1, some (f1 0 0, .box (LinkWord.cs .bor p0)))], 28⟩) (fun f => by kernel_rfl) (fun f => by kernel_rfl) fun f1 => ?_
  refine w_seq ?_
  refine xr hT [ca (c49 p0.Kind 1 6), cg (!(!(impl_in p0.Kind 1 6))) (fun _ => c48 p0.Name), cg (!((!(impl_in p0.Kind 1 6)) || (!(impl_name p0.Name)))) (fun _ => c49 p0.Number 1 1000000)] (fun f2 => ⟨[(1, .one (.pt 1 (f1 0 0) 0)), (18, .one (.c (.v (.bool (((!(impl_in p0.Kind 1 6)) || (!(impl_name p0.Name))) || (!(impl_in p0.Number 1 1000000)))))))], [(1, some (f1 0 0, .box (LinkWord.cs .bor p0)))], 28⟩) (fun f => by kernel_rfl) (fun f => by kernel_rfl) fun f2 => ?_
  refine w_cond rfl (fun h3 => ?_) fun h3 => ?_
  · rw [if_pos h3] at hR
    have gh3 := h3; try simp only [impl_in, Bool.not_eq_true', Bool.not_eq_false', decide_eq_true_eq, decide_eq_false_iff_not, Bool.and_eq_true, Bool.or_eq_true, Bool.and_eq_false_iff, Bool.or_eq_false_iff] at gh3
    refine xr hT [] (fun f4 => ⟨[(2, .one (.c (.v (.bool false))))], [], 28⟩) (fun f => by kernel_rfl) (fun f => by kernel_rfl) fun f4 => ?_
    refine w_ret ?_
    subst hR
    exact x_ret (by kernel_rfl)
  rw [if_neg (nt h3)] at hR
  have gh3 := h3; try simp only [impl_in, Bool.not_eq_true', Bool.not_eq_false', decide_eq_true_eq, decide_eq_false_iff_not, Bool.and_eq_true, Bool.or_eq_true, Bool.and_eq_false_iff, Bool.or_eq_false_iff] at gh3
  refine w_skip ?_
  refine w_seq ?_
  refine xr hT [] (fun f5 => ⟨[(1, .one (.pt 1 (f1 0 0) 0)), (21, .one (.c (.v (.bool (decide (p0.Kind ≤ 2))))))], [(1, some (f1 0 0, .box (LinkWord.cs .bor p0)))], 28⟩) (fun f => by kernel_rfl) (fun f => by kernel_rfl) fun f5 => ?_
  refine w_cond rfl (fun h6 => ?_) fun h6 => ?_
  · rw [if_pos h6] at hR
    have gh6 := of_decide_eq_true h6
    refine xr hT [ca (c51 p0.Path (by first | assumption | exact (by omega : p0.Path.Steps.length ≤ 1048576)))] (fun f7 => ⟨[(2, .one (.c (.v (.bool (impl_flown p0.Path)))))], [], 28⟩) (fun f => by kernel_rfl) (fun f => by kernel_rfl) fun f7 => ?_
    refine w_ret ?_
    subst hR
    exact x_ret (by kernel_rfl)
  rw [if_neg (nt h6)] at hR
  have gh6 := of_decide_eq_false h6
  refine w_skip ?_
  refine xr hT [ca (c52 p0.Path (by first | assumption | exact (by omega : p0.Path.Steps.length ≤ 1048576)))] (fun f8 => ⟨[(2, .one (.c (.v (.bool (impl_nothing p0.Path)))))], [], 28⟩) (fun f => by kernel_rfl) (fun f => by kernel_rfl) fun f8 => ?_
  refine w_ret ?_
  subst hR
  exact x_ret (by kernel_rfl)

def impl_FlyShared_I1 (p0 : FlyPath) (p1 : FlyPath) (fs : Nat → Nat → Nat) (s1 : Int) (x1 : Nat → Nat) : St := ⟨[(2, .one (.pt 2 (x1 0) 0)), (3, .one (.pt 3 (x1 1) 0)), (5, .one (.c (.v (.int .i64 s1))))], [(2, some (x1 0, .box (FlyPath.cs .bor p0))), (3, some (x1 1, .box (FlyPath.cs .bor p1)))], 41⟩
def impl_FlyShared_J1 (p0 : FlyPath) (p1 : FlyPath) (fs : Nat → Nat → Nat) (s1 : Int) (x1 : Nat → Nat) : St := ⟨[(5, .one (.c (.v (.int .i64 s1))))], [], 41⟩
def impl_FlyShared_v1 (p0 : FlyPath) (p1 : FlyPath) (s1 : Int) : Bool := (((FlyKind.beq p0.Kind p1.Kind) && (decide (s1 < (p0.Steps.length : Int)))) && (decide (s1 < (p1.Steps.length : Int)))) && (FlyStep.beq (p0.Steps.getD ((s1).toNat) default) (p1.Steps.getD ((s1).toNat) default))
def impl_FlyShared_b1 (p0 : FlyPath) (p1 : FlyPath) (s1 : Int) : Res (Int) Int := (if (impl_FlyShared_v1 p0 p1 s1) then (.next (s1 + 1)) else (.brk s1))
def impl_FlyShared_u1 (p0 : FlyPath) (p1 : FlyPath) (s1 : Int) : Nat :=  ((p0.Steps.length : Int) - s1).toNat
def impl_FlyShared_r1 (p0 : FlyPath) (p1 : FlyPath) (s1 : Int) : Int := s1
/-- impl.FlyShared -/
def impl_FlyShared (p0 : FlyPath) (p1 : FlyPath) : Int := (Res.fin (impl_FlyShared_r1 p0 p1) (itr (impl_FlyShared_b1 p0 p1) (impl_FlyShared_u1 p0 p1 0 + 1) 0))
theorem c29 (p0 : FlyPath) (p1 : FlyPath) (k0_0 : FlyPath.ok p0) (k1_0 : FlyPath.ok p1) : Fn Proofs.Try.prog 29 [⟨.val, true, FlyPath.cs .bor p0⟩, ⟨.val, true, FlyPath.cs .bor p1⟩] [.c (.v (.int .i64 (impl_FlyShared p0 p1)))] [] := by
  obtain ⟨R, hR⟩ : ∃ R, R = impl_FlyShared p0 p1 := ⟨_, rfl⟩
  rw [← hR]
  rw [impl_FlyShared] at hR
  refine ⟨fn_intro hT Proofs.Try.func29 rfl rfl fun fs => ?_, _, Proofs.Try.func29, rfl, rfl⟩
  have q0 := k0_0; simp only [FlyPath.ok] at q0
  have q1 := k1_0; simp only [FlyPath.ok] at q1
  refine xr hT [] (fun f1 => ⟨[(2, .one (.pt 2 (f1 0 0) 0)), (3, .one (.pt 3 (f1 1 0) 0))], [(2, some (f1 0 0, .box (FlyPath.cs .bor p0))), (3, some (f1 1 0, .box (FlyPath.cs .bor p1)))], 41⟩) (fun f => by kernel_rfl) (fun f => by kernel_rfl) fun f1 => ?_
  refine xr hT [] (fun f2 => ⟨[(2, .one (.pt 2 (f1 0 0) 0)), (3, .one (.pt 3 (f1 1 0) 0)), (5, .one (.c (.v (.int .i64 0))))], [(2, some (f1 0 0, .box (FlyPath.cs .bor p0))), (3, some (f1 1 0, .box (FlyPath.cs .bor p1)))], 41⟩) (fun f => by kernel_rfl) (fun f => by kernel_rfl) fun f2 => ?_
  refine w_itr (impl_FlyShared_I1 p0 p1 fs) (impl_FlyShared_J1 p0 p1 fs) (fun s1 => 0 ≤ s1 ∧ s1 ≤ p0.Steps.length ∧ s1 ≤ p1.Steps.length) (fun s1 => True) (impl_FlyShared_u1 p0 p1) 0 (impl_FlyShared_b1 p0 p1) (impl_FlyShared_r1 p0 p1) (0) (lst [f1 0 0, f1 1 0]) (sb (by kernel_rfl)) (by first | rfl | ((try simp only [LN, impl_FlyShared_v1]); omega) | (simp; done) | (simp; omega)) hR ?_ ?_
  · skip
    intro s1 x1 k1 hI1 hl1 hX1
    try simp only [LN, impl_FlyShared_v1] at hI1
    refine w_seq ?_
    refine xd hT hM [.eqs (eqS34 p0.Kind p1.Kind), .ln FlyStep.row p0.Steps, .ln FlyStep.row p1.Steps, izg (((FlyKind.beq p0.Kind p1.Kind) && (decide (s1 < (p0.Steps.length : Int)))) && (decide (s1 < (p1.Steps.length : Int)))) FlyStep.row p0.Steps (s1) (fun h => by (try simp only [Bool.and_eq_true, Bool.or_eq_true, decide_eq_true_eq, Bool.not_eq_true', decide_eq_false_iff_not] at h); omega), izg (((FlyKind.beq p0.Kind p1.Kind) && (decide (s1 < (p0.Steps.length : Int)))) && (decide (s1 < (p1.Steps.length : Int)))) FlyStep.row p1.Steps (s1) (fun h => by (try simp only [Bool.and_eq_true, Bool.or_eq_true, decide_eq_true_eq, Bool.not_eq_true', decide_eq_false_iff_not] at h); omega), .eqs (eqS82 (p0.Steps.getD ((s1).toNat) default) (p1.Steps.getD ((s1).toNat) default))] (fun f3 => ⟨[(2, .one (.pt 2 (x1 0) 0)), (3, .one (.pt 3 (x1 1) 0)), (5, .one (.c (.v (.int .i64 s1)))), (37, .one (.c (.v (.bool (impl_FlyShared_v1 p0 p1 s1)))))], [(2, some (x1 0, .box (FlyPath.cs .bor p0))), (3, some (x1 1, .box (FlyPath.cs .bor p1)))], 41⟩) (fun f => by kernel_rfl) (fun f => by kernel_rfl) (fun f => by kernel_rfl) fun f3 => ?_
    obtain ⟨B1, hB1⟩ : ∃ B, B = impl_FlyShared_b1 p0 p1 s1 := ⟨_, rfl⟩
    have hE1 := hB1
    rw [impl_FlyShared_b1] at hE1
    refine w_cond rfl (fun h4 => ?_) fun h4 => ?_
    · rw [if_pos h4] at hE1
      have gh4 := h4; try simp only [impl_FlyShared_v1, Bool.not_eq_true', Bool.not_eq_false', decide_eq_true_eq, decide_eq_false_iff_not, Bool.and_eq_true, Bool.or_eq_true, Bool.and_eq_false_iff, Bool.or_eq_false_iff] at gh4
      refine w_skip ?_
      refine w_block ?_
      refine x_reg hT [.ex true (s1 + 1) (s1 + 1) (fun _ => wr_eq (by omega) (by omega))] (fun f5 => impl_FlyShared_I1 p0 p1 fs (s1 + 1) (lst [x1 0, x1 1])) (fun f => by kernel_rfl) (fun f => by kernel_rfl) fun f5 s' hs' => ?_
      exact ⟨s1 + 1, (lst [x1 0, x1 1]), (by simp only [impl_FlyShared_u1]; (first | omega | ((try simp only [LN, impl_FlyShared_v1]); omega) | ((try simp only [wr, IntKind.wrap_i64, LN, impl_FlyShared_v1] at *); omega) | (simp_all <;> omega))), (by (try simp only [LN, impl_FlyShared_v1] at *); omega), hX1.trans (itr_next hl1 (hB1.symm.trans hE1)), hs'⟩
    rw [if_neg (nt h4)] at hE1
    have gh4 := h4; try simp only [impl_FlyShared_v1, Bool.not_eq_true', Bool.not_eq_false', decide_eq_true_eq, decide_eq_false_iff_not, Bool.and_eq_true, Bool.or_eq_true, Bool.and_eq_false_iff, Bool.or_eq_false_iff] at gh4
    refine w_exit ?_
    exact ⟨s1, (lst [x1 0, x1 1]), trivial, hX1.trans (itr_brk hl1 (hB1.symm.trans hE1)), (sb (by kernel_rfl))⟩
  intro s1 x1 hF8 hR6
  rw [impl_FlyShared_r1] at hR6
  refine xr hT [] (fun f7 => ⟨[(4, .one (.c (.v (.int .i64 s1))))], [], 41⟩) (fun f => by kernel_rfl) (fun f => by kernel_rfl) fun f7 => ?_
  refine w_ret ?_
  subst hR6
  exact x_ret (by kernel_rfl)

def impl_LinkTake_v1 (p0 : LinkCraft) (p1 : LinkWord) (p2 : Int) : Bool := ((((!(impl_LinkCraftOk p0 p2)) || (!(impl_LinkWordOk p1))) || (!decide (p1.Kind = 2))) || (!(p1.Name.toList == p0.Name.toList))) || (decide (p1.Number < p0.Number))
def impl_LinkTake_v2 (p0 : LinkCraft) (p1 : LinkWord) (p2 : Int) : Bool := (decide (p1.Number ≤ p0.No)) || (!((impl_LinkCraft_stays p0 p1.Path p2) && (decide ((p0.Flown.length : Int) ≤ (impl_FlyShared p0.Path p1.Path)))))
/-- impl.LinkTake -/
def impl_LinkTake (p0 : LinkCraft) (p1 : LinkWord) (p2 : Int) : LinkCraft × LinkWord × Bool := (if (impl_LinkTake_v1 p0 p1 p2) then ((impl_copyCraft p0), (⟨0, ⟨#[]⟩, 0, ⟨⟨0, 0⟩, [], 0, 0⟩⟩ : LinkWord), false) else (if decide (p1.Number = p0.Number) then ((impl_copyCraft p0), (⟨3, p0.Name, p1.Number, ⟨⟨0, 0⟩, [], 0, 0⟩⟩ : LinkWord), true) else (if decide (0 < (p0.Flown.length : Int)) then (if (impl_LinkTake_v2 p0 p1 p2) then ((⟨(impl_copyCraft p0).Name, (impl_copyCraft p0).Number, max ((impl_copyCraft p0).No) p1.Number, (impl_copyCraft p0).Path, (impl_copyCraft p0).Flown⟩ : LinkCraft), (⟨4, p0.Name, p1.Number, ⟨⟨0, 0⟩, [], 0, 0⟩⟩ : LinkWord), true) else ((⟨(impl_copyCraft p0).Name, p1.Number, (impl_copyCraft p0).No, (impl_copyPath p1.Path), (impl_copyCraft p0).Flown⟩ : LinkCraft), (⟨3, p0.Name, p1.Number, ⟨⟨0, 0⟩, [], 0, 0⟩⟩ : LinkWord), true)) else (if (decide (p1.Number ≤ p0.No)) || (!(impl_LinkCraft_stays p0 p1.Path p2)) then ((⟨(impl_copyCraft p0).Name, (impl_copyCraft p0).Number, max ((impl_copyCraft p0).No) p1.Number, (impl_copyCraft p0).Path, (impl_copyCraft p0).Flown⟩ : LinkCraft), (⟨4, p0.Name, p1.Number, ⟨⟨0, 0⟩, [], 0, 0⟩⟩ : LinkWord), true) else ((⟨(impl_copyCraft p0).Name, p1.Number, (impl_copyCraft p0).No, (impl_copyPath p1.Path), (impl_copyCraft p0).Flown⟩ : LinkCraft), (⟨3, p0.Name, p1.Number, ⟨⟨0, 0⟩, [], 0, 0⟩⟩ : LinkWord), true)))))
theorem c9 (p0 : LinkCraft) (p1 : LinkWord) (p2 : Int) (k0_0 : LinkCraft.ok p0) (k1_0 : LinkWord.ok p1) : Fn Proofs.Try.prog 9 [⟨.val, true, LinkCraft.cs .bor p0⟩, ⟨.val, true, LinkWord.cs .bor p1⟩, ⟨.val, false, [.v (.int .i64 p2)]⟩] [.ag (LinkCraft.cs .own (impl_LinkTake p0 p1 p2).1), .ag (LinkWord.cs .own (impl_LinkTake p0 p1 p2).2.1), .c (.v (.bool (impl_LinkTake p0 p1 p2).2.2))] [] := by
  obtain ⟨R, hR⟩ : ∃ R, R = impl_LinkTake p0 p1 p2 := ⟨_, rfl⟩
  rw [← hR]
  rw [impl_LinkTake] at hR
  refine ⟨fn_intro hT Proofs.Try.func9 rfl rfl fun fs => ?_, _, Proofs.Try.func9, rfl, rfl⟩
  have q0 := k0_0; simp only [LinkCraft.ok] at q0
  have q1 := k1_0; simp only [LinkWord.ok] at q1
  refine xr hT [] (fun f1 => ⟨[(2, .one (.c (.v (.int .i64 p2)))), (3, .one (.pt 3 (f1 0 0) 0)), (4, .one (.pt 4 (f1 1 0) 0)), (6, .one (.pt 6 (f1 2 0) 0)), (7, .one (.pt 7 (f1 3 0) 0))], [(3, some (f1 0 0, .box (LinkCraft.cs .bor p0))), (4, some (f1 1 0, .box (LinkWord.cs .bor p1))), (6, some (f1 2 0, .box [.v (.string ⟨#[]⟩), .v (.int .i64 0), .v (.int .i64 0), .v (.int .i64 0), .v (.int .i64 0), .nl, .v (.int .i64 0), .v (.int .i64 0), .nl])), (7, some (f1 3 0, .box [.v (.int .i64 0), .v (.string ⟨#[]⟩), .v (.int .i64 0), .v (.int .i64 0), .v (.int .i64 0), .nl, .v (.int .i64 0), .v (.int .i64 0)]))], 104⟩) (fun f => by kernel_rfl) (fun f => by kernel_rfl) fun f1 => ?_
  refine xr hT [ca (c25 p0 (by first | assumption | exact ⟨(by omega : p0.Path.Steps.length ≤ 1048576), (by omega : p0.Flown.length ≤ 1048576)⟩))] (fun f2 => ⟨[(2, .one (.c (.v (.int .i64 p2)))), (3, .one (.pt 3 (f1 0 0) 0)), (4, .one (.pt 4 (f1 1 0) 0)), (6, .one (.pt 6 (f1 2 0) 0)), (7, .one (.pt 7 (f1 3 0) 0)), (9, .one (.pt 9 (f2 2 0) 0))], [(3, some (f1 0 0, .box (LinkCraft.cs .bor p0))), (4, some (f1 1 0, .box (LinkWord.cs .bor p1))), (6, some (f1 2 0, .box [.v (.string ⟨#[]⟩), .v (.int .i64 0), .v (.int .i64 0), .v (.int .i64 0), .v (.int .i64 0), .nl, .v (.int .i64 0), .v (.int .i64 0), .nl])), (7, some (f1 3 0, .box [.v (.int .i64 0), .v (.string ⟨#[]⟩), .v (.int .i64 0), .v (.int .i64 0), .v (.int .i64 0), .nl, .v (.int .i64 0), .v (.int .i64 0)])), (9, some (f2 2 0, .box [.v (.string ((impl_copyCraft p0).Name)), .v (.int .i64 ((impl_copyCraft p0).Number)), .v (.int .i64 ((impl_copyCraft p0).No)), .v (.int .i64 ((impl_copyCraft p0).Path.Kind.Quick)), .v (.int .i64 ((impl_copyCraft p0).Path.Kind.Slow)), .mu 1500005 (gk (f2 1) 0 5) 7 0 (((impl_copyCraft p0).Path.Steps).map FlyStep.row).length, .v (.int .i64 ((impl_copyCraft p0).Path.From)), .v (.int .i64 ((impl_copyCraft p0).Path.By)), .mu 1500008 (gk (f2 1) 0 8) 1 0 (((impl_copyCraft p0).Flown).map Int.row).length])), (1500005, some (gk (f2 1) 0 5, .arr 7 (((impl_copyCraft p0).Path.Steps).map FlyStep.row))), (1500008, some (gk (f2 1) 0 8, .arr 1 (((impl_copyCraft p0).Flown).map Int.row)))], 104⟩) (fun f => by kernel_rfl) (fun f => by kernel_rfl) fun f2 => ?_
  refine w_seq ?_
  refine xr hT [ca (c26 p0 p2 (by first | assumption | exact ⟨(by omega : p0.Path.Steps.length ≤ 1048576), (by omega : p0.Flown.length ≤ 1048576)⟩)), cg (!(!(impl_LinkCraftOk p0 p2))) (fun h => by (try simp only [Bool.and_eq_true, Bool.or_eq_true, decide_eq_true_eq, Bool.not_eq_true', decide_eq_false_iff_not] at h); exact c27 p1 (by first | assumption | exact (by omega : p1.Path.Steps.length ≤ 1048576)))] (fun f3 => ⟨[(2, .one (.c (.v (.int .i64 p2)))), (3, .one (.pt 3 (f1 0 0) 0)), (4, .one (.pt 4 (f1 1 0) 0)), (6, .one (.pt 6 (f1 2 0) 0)), (7, .one (.pt 7 (f1 3 0) 0)), (9, .one (.pt 9 (f2 2 0) 0)), (42, .one (.c (.v (.bool (impl_LinkTake_v1 p0 p1 p2)))))], [(3, some (f1 0 0, .box (LinkCraft.cs .bor p0))), (4, some (f1 1 0, .box (LinkWord.cs .bor p1))), (6, some (f1 2 0, .box [.v (.string ⟨#[]⟩), .v (.int .i64 0), .v (.int .i64 0), .v (.int .i64 0), .v (.int .i64 0), .nl, .v (.int .i64 0), .v (.int .i64 0), .nl])), (7, some (f1 3 0, .box [.v (.int .i64 0), .v (.string ⟨#[]⟩), .v (.int .i64 0), .v (.int .i64 0), .v (.int .i64 0), .nl, .v (.int .i64 0), .v (.int .i64 0)])), (9, some (f2 2 0, .box [.v (.string ((impl_copyCraft p0).Name)), .v (.int .i64 ((impl_copyCraft p0).Number)), .v (.int .i64 ((impl_copyCraft p0).No)), .v (.int .i64 ((impl_copyCraft p0).Path.Kind.Quick)), .v (.int .i64 ((impl_copyCraft p0).Path.Kind.Slow)), .mu 1500005 (gk (f2 1) 0 5) 7 0 (((impl_copyCraft p0).Path.Steps).map FlyStep.row).length, .v (.int .i64 ((impl_copyCraft p0).Path.From)), .v (.int .i64 ((impl_copyCraft p0).Path.By)), .mu 1500008 (gk (f2 1) 0 8) 1 0 (((impl_copyCraft p0).Flown).map Int.row).length])), (1500005, some (gk (f2 1) 0 5, .arr 7 (((impl_copyCraft p0).Path.Steps).map FlyStep.row))), (1500008, some (gk (f2 1) 0 8, .arr 1 (((impl_copyCraft p0).Flown).map Int.row)))], 104⟩) (fun f => by kernel_rfl) (fun f => by kernel_rfl) fun f3 => ?_
  refine w_cond rfl (fun h4 => ?_) fun h4 => ?_
  · rw [if_pos h4] at hR
    have gh4 := h4; try simp only [impl_LinkTake_v1, Bool.not_eq_true', Bool.not_eq_false', decide_eq_true_eq, decide_eq_false_iff_not, Bool.and_eq_true, Bool.or_eq_true, Bool.and_eq_false_iff, Bool.or_eq_false_iff] at gh4
    refine xr hT [] (fun f5 => ⟨[(6, .one (.pt 6 (f1 2 0) 0)), (7, .one (.pt 7 (f1 3 0) 0)), (8, .one (.c (.v (.bool false))))], [(6, some (f1 2 0, .box [.v (.string ((impl_copyCraft p0).Name)), .v (.int .i64 ((impl_copyCraft p0).Number)), .v (.int .i64 ((impl_copyCraft p0).No)), .v (.int .i64 ((impl_copyCraft p0).Path.Kind.Quick)), .v (.int .i64 ((impl_copyCraft p0).Path.Kind.Slow)), .mu 1500005 (gk (f2 1) 0 5) 7 0 (((impl_copyCraft p0).Path.Steps).map FlyStep.row).length, .v (.int .i64 ((impl_copyCraft p0).Path.From)), .v (.int .i64 ((impl_copyCraft p0).Path.By)), .mu 1500008 (gk (f2 1) 0 8) 1 0 (((impl_copyCraft p0).Flown).map Int.row).length])), (7, some (f1 3 0, .box [.v (.int .i64 0), .v (.string ⟨#[]⟩), .v (.int .i64 0), .v (.int .i64 0), .v (.int .i64 0), .nl, .v (.int .i64 0), .v (.int .i64 0)])), (1500005, some (gk (f2 1) 0 5, .arr 7 (((impl_copyCraft p0).Path.Steps).map FlyStep.row))), (1500008, some (gk (f2 1) 0 8, .arr 1 (((impl_copyCraft p0).Flown).map Int.row)))], 104⟩) (fun f => by kernel_rfl) (fun f => by kernel_rfl) fun f5 => ?_
    refine w_ret ?_
    subst hR
    exact x_ret (by kernel_rfl)
  rw [if_neg (nt h4)] at hR
  have gh4 := h4; try simp only [impl_LinkTake_v1, Bool.not_eq_true', Bool.not_eq_false', decide_eq_true_eq, decide_eq_false_iff_not, Bool.and_eq_true, Bool.or_eq_true, Bool.and_eq_false_iff, Bool.or_eq_false_iff] at gh4
  refine w_skip ?_
  refine xr hT [] (fun f6 => ⟨[(2, .one (.c (.v (.int .i64 p2)))), (3, .one (.pt 3 (f1 0 0) 0)), (4, .one (.pt 4 (f1 1 0) 0)), (6, .one (.pt 6 (f1 2 0) 0)), (7, .one (.pt 7 (f1 3 0) 0)), (9, .one (.pt 9 (f2 2 0) 0)), (10, .one (.pt 10 (f6 5 0) 0))], [(3, some (f1 0 0, .box (LinkCraft.cs .bor p0))), (4, some (f1 1 0, .box (LinkWord.cs .bor p1))), (6, some (f1 2 0, .box [.v (.string ⟨#[]⟩), .v (.int .i64 0), .v (.int .i64 0), .v (.int .i64 0), .v (.int .i64 0), .nl, .v (.int .i64 0), .v (.int .i64 0), .nl])), (7, some (f1 3 0, .box [.v (.int .i64 0), .v (.string ⟨#[]⟩), .v (.int .i64 0), .v (.int .i64 0), .v (.int .i64 0), .nl, .v (.int .i64 0), .v (.int .i64 0)])), (9, some (f2 2 0, .box [.v (.string ((impl_copyCraft p0).Name)), .v (.int .i64 ((impl_copyCraft p0).Number)), .v (.int .i64 ((impl_copyCraft p0).No)), .v (.int .i64 ((impl_copyCraft p0).Path.Kind.Quick)), .v (.int .i64 ((impl_copyCraft p0).Path.Kind.Slow)), .mu 1500005 (gk (f2 1) 0 5) 7 0 (((impl_copyCraft p0).Path.Steps).map FlyStep.row).length, .v (.int .i64 ((impl_copyCraft p0).Path.From)), .v (.int .i64 ((impl_copyCraft p0).Path.By)), .mu 1500008 (gk (f2 1) 0 8) 1 0 (((impl_copyCraft p0).Flown).map Int.row).length])), (10, some (f6 5 0, .box [.v (.int .i64 3), .v (.string p0.Name), .v (.int .i64 p1.Number), .v (.int .i64 0), .v (.int .i64 0), .nl, .v (.int .i64 0), .v (.int .i64 0)])), (1500005, some (gk (f2 1) 0 5, .arr 7 (((impl_copyCraft p0).Path.Steps).map FlyStep.row))), (1500008, some (gk (f2 1) 0 8, .arr 1 (((impl_copyCraft p0).Flown).map Int.row)))], 104⟩) (fun f => by kernel_rfl) (fun f => by kernel_rfl) fun f6 => ?_
  refine w_seq ?_
  refine xr hT [] (fun f7 => ⟨[(2, .one (.c (.v (.int .i64 p2)))), (3, .one (.pt 3 (f1 0 0) 0)), (4, .one (.pt 4 (f1 1 0) 0)), (6, .one (.pt 6 (f1 2 0) 0)), (7, .one (.pt 7 (f1 3 0) 0)), (9, .one (.pt 9 (f2 2 0) 0)), (10, .one (.pt 10 (f6 5 0) 0)), (54, .one (.c (.v (.bool (decide (p1.Number = p0.Number))))))], [(3, some (f1 0 0, .box (LinkCraft.cs .bor p0))), (4, some (f1 1 0, .box (LinkWord.cs .bor p1))), (6, some (f1 2 0, .box [.v (.string ⟨#[]⟩), .v (.int .i64 0), .v (.int .i64 0), .v (.int .i64 0), .v (.int .i64 0), .nl, .v (.int .i64 0), .v (.int .i64 0), .nl])), (7, some (f1 3 0, .box [.v (.int .i64 0), .v (.string ⟨#[]⟩), .v (.int .i64 0), .v (.int .i64 0), .v (.int .i64 0), .nl, .v (.int .i64 0), .v (.int .i64 0)])), (9, some (f2 2 0, .box [.v (.string ((impl_copyCraft p0).Name)), .v (.int .i64 ((impl_copyCraft p0).Number)), .v (.int .i64 ((impl_copyCraft p0).No)), .v (.int .i64 ((impl_copyCraft p0).Path.Kind.Quick)), .v (.int .i64 ((impl_copyCraft p0).Path.Kind.Slow)), .mu 1500005 (gk (f2 1) 0 5) 7 0 (((impl_copyCraft p0).Path.Steps).map FlyStep.row).length, .v (.int .i64 ((impl_copyCraft p0).Path.From)), .v (.int .i64 ((impl_copyCraft p0).Path.By)), .mu 1500008 (gk (f2 1) 0 8) 1 0 (((impl_copyCraft p0).Flown).map Int.row).length])), (10, some (f6 5 0, .box [.v (.int .i64 3), .v (.string p0.Name), .v (.int .i64 p1.Number), .v (.int .i64 0), .v (.int .i64 0), .nl, .v (.int .i64 0), .v (.int .i64 0)])), (1500005, some (gk (f2 1) 0 5, .arr 7 (((impl_copyCraft p0).Path.Steps).map FlyStep.row))), (1500008, some (gk (f2 1) 0 8, .arr 1 (((impl_copyCraft p0).Flown).map Int.row)))], 104⟩) (fun f => by kernel_rfl) (fun f => by kernel_rfl) fun f7 => ?_
  refine w_cond rfl (fun h8 => ?_) fun h8 => ?_
  · rw [if_pos h8] at hR
    have gh8 := of_decide_eq_true h8
    refine xd hT hM [] (fun f9 => ⟨[(6, .one (.pt 6 (f1 2 0) 0)), (7, .one (.pt 7 (f1 3 0) 0)), (8, .one (.c (.v (.bool true))))], [(6, some (f1 2 0, .box [.v (.string ((impl_copyCraft p0).Name)), .v (.int .i64 ((impl_copyCraft p0).Number)), .v (.int .i64 ((impl_copyCraft p0).No)), .v (.int .i64 ((impl_copyCraft p0).Path.Kind.Quick)), .v (.int .i64 ((impl_copyCraft p0).Path.Kind.Slow)), .mu 1500005 (gk (f2 1) 0 5) 7 0 (((impl_copyCraft p0).Path.Steps).map FlyStep.row).length, .v (.int .i64 ((impl_copyCraft p0).Path.From)), .v (.int .i64 ((impl_copyCraft p0).Path.By)), .mu 1500008 (gk (f2 1) 0 8) 1 0 (((impl_copyCraft p0).Flown).map Int.row).length])), (7, some (f1 3 0, .box [.v (.int .i64 3), .v (.string p0.Name), .v (.int .i64 p1.Number), .v (.int .i64 0), .v (.int .i64 0), .nl, .v (.int .i64 0), .v (.int .i64 0)])), (1500005, some (gk (f2 1) 0 5, .arr 7 (((impl_copyCraft p0).Path.Steps).map FlyStep.row))), (1500008, some (gk (f2 1) 0 8, .arr 1 (((impl_copyCraft p0).Flown).map Int.row)))], 104⟩) (fun f => by kernel_rfl) (fun f => by kernel_rfl) (fun f => by kernel_rfl) fun f9 => ?_
    refine w_ret ?_
    subst hR
    exact x_ret (by kernel_rfl)
  rw [if_neg (nt h8)] at hR
  have gh8 := of_decide_eq_false h8
  refine w_skip ?_
  refine xr hT [ca (c28 p0 p1.Path p2 (by first | assumption | exact ⟨(by omega : p0.Path.Steps.length ≤ 1048576), (by omega : p0.Flown.length ≤ 1048576)⟩) (by first | assumption | exact (by omega : p1.Path.Steps.length ≤ 1048576)))] (fun f10 => ⟨[(3, .one (.pt 3 (f1 0 0) 0)), (4, .one (.pt 4 (f1 1 0) 0)), (6, .one (.pt 6 (f1 2 0) 0)), (7, .one (.pt 7 (f1 3 0) 0)), (9, .one (.pt 9 (f2 2 0) 0)), (10, .one (.pt 10 (f6 5 0) 0)), (11, .one (.c (.v (.bool (impl_LinkCraft_stays p0 p1.Path p2)))))], [(3, some (f1 0 0, .box (LinkCraft.cs .bor p0))), (4, some (f1 1 0, .box (LinkWord.cs .bor p1))), (6, some (f1 2 0, .box [.v (.string ⟨#[]⟩), .v (.int .i64 0), .v (.int .i64 0), .v (.int .i64 0), .v (.int .i64 0), .nl, .v (.int .i64 0), .v (.int .i64 0), .nl])), (7, some (f1 3 0, .box [.v (.int .i64 0), .v (.string ⟨#[]⟩), .v (.int .i64 0), .v (.int .i64 0), .v (.int .i64 0), .nl, .v (.int .i64 0), .v (.int .i64 0)])), (9, some (f2 2 0, .box [.v (.string ((impl_copyCraft p0).Name)), .v (.int .i64 ((impl_copyCraft p0).Number)), .v (.int .i64 ((impl_copyCraft p0).No)), .v (.int .i64 ((impl_copyCraft p0).Path.Kind.Quick)), .v (.int .i64 ((impl_copyCraft p0).Path.Kind.Slow)), .mu 1500005 (gk (f2 1) 0 5) 7 0 (((impl_copyCraft p0).Path.Steps).map FlyStep.row).length, .v (.int .i64 ((impl_copyCraft p0).Path.From)), .v (.int .i64 ((impl_copyCraft p0).Path.By)), .mu 1500008 (gk (f2 1) 0 8) 1 0 (((impl_copyCraft p0).Flown).map Int.row).length])), (10, some (f6 5 0, .box [.v (.int .i64 3), .v (.string p0.Name), .v (.int .i64 p1.Number), .v (.int .i64 0), .v (.int .i64 0), .nl, .v (.int .i64 0), .v (.int .i64 0)])), (1500005, some (gk (f2 1) 0 5, .arr 7 (((impl_copyCraft p0).Path.Steps).map FlyStep.row))), (1500008, some (gk (f2 1) 0 8, .arr 1 (((impl_copyCraft p0).Flown).map Int.row)))], 104⟩) (fun f => by kernel_rfl) (fun f => by kernel_rfl) fun f10 => ?_
  refine w_seq ?_
  refine xr hT [.ln Int.row p0.Flown] (fun f11 => ⟨[(3, .one (.pt 3 (f1 0 0) 0)), (4, .one (.pt 4 (f1 1 0) 0)), (6, .one (.pt 6 (f1 2 0) 0)), (7, .one (.pt 7 (f1 3 0) 0)), (9, .one (.pt 9 (f2 2 0) 0)), (10, .one (.pt 10 (f6 5 0) 0)), (11, .one (.c (.v (.bool (impl_LinkCraft_stays p0 p1.Path p2))))), (12, .one (.c (.v (.int .i64 (p0.Flown.length : Int)))))], [(3, some (f1 0 0, .box (LinkCraft.cs .bor p0))), (4, some (f1 1 0, .box (LinkWord.cs .bor p1))), (6, some (f1 2 0, .box [.v (.string ⟨#[]⟩), .v (.int .i64 0), .v (.int .i64 0), .v (.int .i64 0), .v (.int .i64 0), .nl, .v (.int .i64 0), .v (.int .i64 0), .nl])), (7, some (f1 3 0, .box [.v (.int .i64 0), .v (.string ⟨#[]⟩), .v (.int .i64 0), .v (.int .i64 0), .v (.int .i64 0), .nl, .v (.int .i64 0), .v (.int .i64 0)])), (9, some (f2 2 0, .box [.v (.string ((impl_copyCraft p0).Name)), .v (.int .i64 ((impl_copyCraft p0).Number)), .v (.int .i64 ((impl_copyCraft p0).No)), .v (.int .i64 ((impl_copyCraft p0).Path.Kind.Quick)), .v (.int .i64 ((impl_copyCraft p0).Path.Kind.Slow)), .mu 1500005 (gk (f2 1) 0 5) 7 0 (((impl_copyCraft p0).Path.Steps).map FlyStep.row).length, .v (.int .i64 ((impl_copyCraft p0).Path.From)), .v (.int .i64 ((impl_copyCraft p0).Path.By)), .mu 1500008 (gk (f2 1) 0 8) 1 0 (((impl_copyCraft p0).Flown).map Int.row).length])), (10, some (f6 5 0, .box [.v (.int .i64 3), .v (.string p0.Name), .v (.int .i64 p1.Number), .v (.int .i64 0), .v (.int .i64 0), .nl, .v (.int .i64 0), .v (.int .i64 0)])), (1500005, some (gk (f2 1) 0 5, .arr 7 (((impl_copyCraft p0).Path.Steps).map FlyStep.row))), (1500008, some (gk (f2 1) 0 8, .arr 1 (((impl_copyCraft p0).Flown).map Int.row)))], 104⟩) (fun f => by kernel_rfl) (fun f => by kernel_rfl) fun f11 => ?_
  refine xr hT [] (fun f12 => ⟨[(3, .one (.pt 3 (f1 0 0) 0)), (4, .one (.pt 4 (f1 1 0) 0)), (6, .one (.pt 6 (f1 2 0) 0)), (7, .one (.pt 7 (f1 3 0) 0)), (9, .one (.pt 9 (f2 2 0) 0)), (10, .one (.pt 10 (f6 5 0) 0)), (11, .one (.c (.v (.bool (impl_LinkCraft_stays p0 p1.Path p2))))), (12, .one (.c (.v (.int .i64 (p0.Flown.length : Int))))), (66, .one (.c (.v (.bool (decide (0 < (p0.Flown.length : Int)))))))], [(3, some (f1 0 0, .box (LinkCraft.cs .bor p0))), (4, some (f1 1 0, .box (LinkWord.cs .bor p1))), (6, some (f1 2 0, .box [.v (.string ⟨#[]⟩), .v (.int .i64 0), .v (.int .i64 0), .v (.int .i64 0), .v (.int .i64 0), .nl, .v (.int .i64 0), .v (.int .i64 0), .nl])), (7, some (f1 3 0, .box [.v (.int .i64 0), .v (.string ⟨#[]⟩), .v (.int .i64 0), .v (.int .i64 0), .v (.int .i64 0), .nl, .v (.int .i64 0), .v (.int .i64 0)])), (9, some (f2 2 0, .box [.v (.string ((impl_copyCraft p0).Name)), .v (.int .i64 ((impl_copyCraft p0).Number)), .v (.int .i64 ((impl_copyCraft p0).No)), .v (.int .i64 ((impl_copyCraft p0).Path.Kind.Quick)), .v (.int .i64 ((impl_copyCraft p0).Path.Kind.Slow)), .mu 1500005 (gk (f2 1) 0 5) 7 0 (((impl_copyCraft p0).Path.Steps).map FlyStep.row).length, .v (.int .i64 ((impl_copyCraft p0).Path.From)), .v (.int .i64 ((impl_copyCraft p0).Path.By)), .mu 1500008 (gk (f2 1) 0 8) 1 0 (((impl_copyCraft p0).Flown).map Int.row).length])), (10, some (f6 5 0, .box [.v (.int .i64 3), .v (.string p0.Name), .v (.int .i64 p1.Number), .v (.int .i64 0), .v (.int .i64 0), .nl, .v (.int .i64 0), .v (.int .i64 0)])), (1500005, some (gk (f2 1) 0 5, .arr 7 (((impl_copyCraft p0).Path.Steps).map FlyStep.row))), (1500008, some (gk (f2 1) 0 8, .arr 1 (((impl_copyCraft p0).Flown).map Int.row)))], 104⟩) (fun f => by kernel_rfl) (fun f => by kernel_rfl) fun f12 => ?_
  refine w_cond rfl (fun h13 => ?_) fun h13 => ?_
  · rw [if_pos h13] at hR
    have gh13 := of_decide_eq_true h13
    refine xr1 (fun _ => rfl) hT [cg (impl_LinkCraft_stays p0 p1.Path p2) (fun h => by (try simp only [Bool.and_eq_true, Bool.or_eq_true, decide_eq_true_eq, Bool.not_eq_true', decide_eq_false_iff_not] at h); exact c29 p0.Path p1.Path (by first | assumption | exact (by omega : p0.Path.Steps.length ≤ 1048576)) (by first | assumption | exact (by omega : p1.Path.Steps.length ≤ 1048576)))] (fun f14 => ⟨[(3, .one (.pt 3 (f1 0 0) 0)), (4, .one (.pt 4 (f1 1 0) 0)), (6, .one (.pt 6 (f1 2 0) 0)), (7, .one (.pt 7 (f1 3 0) 0)), (9, .one (.pt 9 (f2 2 0) 0)), (10, .one (.pt 10 (f6 5 0) 0)), (11, .one (.c (.v (.bool ((impl_LinkCraft_stays p0 p1.Path p2) && (decide ((p0.Flown.length : Int) ≤ (impl_FlyShared p0.Path p1.Path))))))))], [(3, some (f1 0 0, .box (LinkCraft.cs .bor p0))), (4, some (f1 1 0, .box (LinkWord.cs .bor p1))), (6, some (f1 2 0, .box [.v (.string ⟨#[]⟩), .v (.int .i64 0), .v (.int .i64 0), .v (.int .i64 0), .v (.int .i64 0), .nl, .v (.int .i64 0), .v (.int .i64 0), .nl])), (7, some (f1 3 0, .box [.v (.int .i64 0), .v (.string ⟨#[]⟩), .v (.int .i64 0), .v (.int .i64 0), .v (.int .i64 0), .nl, .v (.int .i64 0), .v (.int .i64 0)])), (9, some (f2 2 0, .box [.v (.string ((impl_copyCraft p0).Name)), .v (.int .i64 ((impl_copyCraft p0).Number)), .v (.int .i64 ((impl_copyCraft p0).No)), .v (.int .i64 ((impl_copyCraft p0).Path.Kind.Quick)), .v (.int .i64 ((impl_copyCraft p0).Path.Kind.Slow)), .mu 1500005 (gk (f2 1) 0 5) 7 0 (((impl_copyCraft p0).Path.Steps).map FlyStep.row).length, .v (.int .i64 ((impl_copyCraft p0).Path.From)), .v (.int .i64 ((impl_copyCraft p0).Path.By)), .mu 1500008 (gk (f2 1) 0 8) 1 0 (((impl_copyCraft p0).Flown).map Int.row).length])), (10, some (f6 5 0, .box [.v (.int .i64 3), .v (.string p0.Name), .v (.int .i64 p1.Number), .v (.int .i64 0), .v (.int .i64 0), .nl, .v (.int .i64 0), .v (.int .i64 0)])), (1500005, some (gk (f2 1) 0 5, .arr 7 (((impl_copyCraft p0).Path.Steps).map FlyStep.row))), (1500008, some (gk (f2 1) 0 8, .arr 1 (((impl_copyCraft p0).Flown).map Int.row)))], 104⟩) (fun f => by kernel_rfl) (fun f => by kernel_rfl) fun f14 => ?_
    refine w_seq ?_
    refine xr hT [] (fun f15 => ⟨[(4, .one (.pt 4 (f1 1 0) 0)), (6, .one (.pt 6 (f1 2 0) 0)), (7, .one (.pt 7 (f1 3 0) 0)), (9, .one (.pt 9 (f2 2 0) 0)), (10, .one (.pt 10 (f6 5 0) 0)), (85, .one (.c (.v (.bool (impl_LinkTake_v2 p0 p1 p2)))))], [(4, some (f1 1 0, .box (LinkWord.cs .bor p1))), (6, some (f1 2 0, .box [.v (.string ⟨#[]⟩), .v (.int .i64 0), .v (.int .i64 0), .v (.int .i64 0), .v (.int .i64 0), .nl, .v (.int .i64 0), .v (.int .i64 0), .nl])), (7, some (f1 3 0, .box [.v (.int .i64 0), .v (.string ⟨#[]⟩), .v (.int .i64 0), .v (.int .i64 0), .v (.int .i64 0), .nl, .v (.int .i64 0), .v (.int .i64 0)])), (9, some (f2 2 0, .box [.v (.string ((impl_copyCraft p0).Name)), .v (.int .i64 ((impl_copyCraft p0).Number)), .v (.int .i64 ((impl_copyCraft p0).No)), .v (.int .i64 ((impl_copyCraft p0).Path.Kind.Quick)), .v (.int .i64 ((impl_copyCraft p0).Path.Kind.Slow)), .mu 1500005 (gk (f2 1) 0 5) 7 0 (((impl_copyCraft p0).Path.Steps).map FlyStep.row).length, .v (.int .i64 ((impl_copyCraft p0).Path.From)), .v (.int .i64 ((impl_copyCraft p0).Path.By)), .mu 1500008 (gk (f2 1) 0 8) 1 0 (((impl_copyCraft p0).Flown).map Int.row).length])), (10, some (f6 5 0, .box [.v (.int .i64 3), .v (.string p0.Name), .v (.int .i64 p1.Number), .v (.int .i64 0), .v (.int .i64 0), .nl, .v (.int .i64 0), .v (.int .i64 0)])), (1500005, some (gk (f2 1) 0 5, .arr 7 (((impl_copyCraft p0).Path.Steps).map FlyStep.row))), (1500008, some (gk (f2 1) 0 8, .arr 1 (((impl_copyCraft p0).Flown).map Int.row)))], 104⟩) (fun f => by kernel_rfl) (fun f => by kernel_rfl) fun f15 => ?_
    refine w_cond rfl (fun h16 => ?_) fun h16 => ?_
    · rw [if_pos h16] at hR
      have gh16 := h16; try simp only [impl_LinkTake_v2, Bool.not_eq_true', Bool.not_eq_false', decide_eq_true_eq, decide_eq_false_iff_not, Bool.and_eq_true, Bool.or_eq_true, Bool.and_eq_false_iff, Bool.or_eq_false_iff] at gh16
      refine xr hT [] (fun f17 => ⟨[(6, .one (.pt 6 (f1 2 0) 0)), (7, .one (.pt 7 (f1 3 0) 0)), (9, .one (.pt 9 (f2 2 0) 0)), (10, .one (.pt 10 (f6 5 0) 0))], [(6, some (f1 2 0, .box [.v (.string ⟨#[]⟩), .v (.int .i64 0), .v (.int .i64 0), .v (.int .i64 0), .v (.int .i64 0), .nl, .v (.int .i64 0), .v (.int .i64 0), .nl])), (7, some (f1 3 0, .box [.v (.int .i64 0), .v (.string ⟨#[]⟩), .v (.int .i64 0), .v (.int .i64 0), .v (.int .i64 0), .nl, .v (.int .i64 0), .v (.int .i64 0)])), (9, some (f2 2 0, .box [.v (.string ((impl_copyCraft p0).Name)), .v (.int .i64 ((impl_copyCraft p0).Number)), .v (.int .i64 (max ((impl_copyCraft p0).No) p1.Number)), .v (.int .i64 ((impl_copyCraft p0).Path.Kind.Quick)), .v (.int .i64 ((impl_copyCraft p0).Path.Kind.Slow)), .mu 1500005 (gk (f2 1) 0 5) 7 0 (((impl_copyCraft p0).Path.Steps).map FlyStep.row).length, .v (.int .i64 ((impl_copyCraft p0).Path.From)), .v (.int .i64 ((impl_copyCraft p0).Path.By)), .mu 1500008 (gk (f2 1) 0 8) 1 0 (((impl_copyCraft p0).Flown).map Int.row).length])), (10, some (f6 5 0, .box [.v (.int .i64 3), .v (.string p0.Name), .v (.int .i64 p1.Number), .v (.int .i64 0), .v (.int .i64 0), .nl, .v (.int .i64 0), .v (.int .i64 0)])), (1500005, some (gk (f2 1) 0 5, .arr 7 (((impl_copyCraft p0).Path.Steps).map FlyStep.row))), (1500008, some (gk (f2 1) 0 8, .arr 1 (((impl_copyCraft p0).Flown).map Int.row)))], 104⟩) (fun f => by kernel_rfl) (fun f => by kernel_rfl) fun f17 => ?_
      refine xr hT [] (fun f18 => ⟨[(6, .one (.pt 6 (f1 2 0) 0)), (7, .one (.pt 7 (f1 3 0) 0)), (9, .one (.pt 9 (f2 2 0) 0)), (10, .one (.pt 10 (f6 5 0) 0))], [(6, some (f1 2 0, .box [.v (.string ⟨#[]⟩), .v (.int .i64 0), .v (.int .i64 0), .v (.int .i64 0), .v (.int .i64 0), .nl, .v (.int .i64 0), .v (.int .i64 0), .nl])), (7, some (f1 3 0, .box [.v (.int .i64 0), .v (.string ⟨#[]⟩), .v (.int .i64 0), .v (.int .i64 0), .v (.int .i64 0), .nl, .v (.int .i64 0), .v (.int .i64 0)])), (9, some (f2 2 0, .box [.v (.string ((impl_copyCraft p0).Name)), .v (.int .i64 ((impl_copyCraft p0).Number)), .v (.int .i64 (max ((impl_copyCraft p0).No) p1.Number)), .v (.int .i64 ((impl_copyCraft p0).Path.Kind.Quick)), .v (.int .i64 ((impl_copyCraft p0).Path.Kind.Slow)), .mu 1500005 (gk (f2 1) 0 5) 7 0 (((impl_copyCraft p0).Path.Steps).map FlyStep.row).length, .v (.int .i64 ((impl_copyCraft p0).Path.From)), .v (.int .i64 ((impl_copyCraft p0).Path.By)), .mu 1500008 (gk (f2 1) 0 8) 1 0 (((impl_copyCraft p0).Flown).map Int.row).length])), (10, some (f6 5 0, .box [.v (.int .i64 4), .v (.string p0.Name), .v (.int .i64 p1.Number), .v (.int .i64 0), .v (.int .i64 0), .nl, .v (.int .i64 0), .v (.int .i64 0)])), (1500005, some (gk (f2 1) 0 5, .arr 7 (((impl_copyCraft p0).Path.Steps).map FlyStep.row))), (1500008, some (gk (f2 1) 0 8, .arr 1 (((impl_copyCraft p0).Flown).map Int.row)))], 104⟩) (fun f => by kernel_rfl) (fun f => by kernel_rfl) fun f18 => ?_
      refine xd hT hM [] (fun f19 => ⟨[(6, .one (.pt 6 (f1 2 0) 0)), (7, .one (.pt 7 (f1 3 0) 0)), (8, .one (.c (.v (.bool true))))], [(6, some (f1 2 0, .box [.v (.string ((impl_copyCraft p0).Name)), .v (.int .i64 ((impl_copyCraft p0).Number)), .v (.int .i64 (max ((impl_copyCraft p0).No) p1.Number)), .v (.int .i64 ((impl_copyCraft p0).Path.Kind.Quick)), .v (.int .i64 ((impl_copyCraft p0).Path.Kind.Slow)), .mu 1500005 (gk (f2 1) 0 5) 7 0 (((impl_copyCraft p0).Path.Steps).map FlyStep.row).length, .v (.int .i64 ((impl_copyCraft p0).Path.From)), .v (.int .i64 ((impl_copyCraft p0).Path.By)), .mu 1500008 (gk (f2 1) 0 8) 1 0 (((impl_copyCraft p0).Flown).map Int.row).length])), (7, some (f1 3 0, .box [.v (.int .i64 4), .v (.string p0.Name), .v (.int .i64 p1.Number), .v (.int .i64 0), .v (.int .i64 0), .nl, .v (.int .i64 0), .v (.int .i64 0)])), (1500005, some (gk (f2 1) 0 5, .arr 7 (((impl_copyCraft p0).Path.Steps).map FlyStep.row))), (1500008, some (gk (f2 1) 0 8, .arr 1 (((impl_copyCraft p0).Flown).map Int.row)))], 104⟩) (fun f => by kernel_rfl) (fun f => by kernel_rfl) (fun f => by kernel_rfl) fun f19 => ?_
      refine w_ret ?_
      subst hR
      exact x_ret (by kernel_rfl)
    rw [if_neg (nt h16)] at hR
    have gh16 := h16; try simp only [impl_LinkTake_v2, Bool.not_eq_true', Bool.not_eq_false', decide_eq_true_eq, decide_eq_false_iff_not, Bool.and_eq_true, Bool.or_eq_true, Bool.and_eq_false_iff, Bool.or_eq_false_iff] at gh16
    refine w_skip ?_
    refine xd hT hM [ca (c30 p1.Path (by first | assumption | exact (by omega : p1.Path.Steps.length ≤ 1048576)))] (fun f20 => ⟨[(6, .one (.pt 6 (f1 2 0) 0)), (7, .one (.pt 7 (f1 3 0) 0)), (9, .one (.pt 9 (f2 2 0) 0)), (10, .one (.pt 10 (f6 5 0) 0))], [(6, some (f1 2 0, .box [.v (.string ⟨#[]⟩), .v (.int .i64 0), .v (.int .i64 0), .v (.int .i64 0), .v (.int .i64 0), .nl, .v (.int .i64 0), .v (.int .i64 0), .nl])), (7, some (f1 3 0, .box [.v (.int .i64 0), .v (.string ⟨#[]⟩), .v (.int .i64 0), .v (.int .i64 0), .v (.int .i64 0), .nl, .v (.int .i64 0), .v (.int .i64 0)])), (9, some (f2 2 0, .box [.v (.string ((impl_copyCraft p0).Name)), .v (.int .i64 p1.Number), .v (.int .i64 ((impl_copyCraft p0).No)), .v (.int .i64 ((impl_copyPath p1.Path).Kind.Quick)), .v (.int .i64 ((impl_copyPath p1.Path).Kind.Slow)), .mu 9800002 (gk (f20 2) 0 2) 7 0 (((impl_copyPath p1.Path).Steps).map FlyStep.row).length, .v (.int .i64 ((impl_copyPath p1.Path).From)), .v (.int .i64 ((impl_copyPath p1.Path).By)), .mu 1500008 (gk (f2 1) 0 8) 1 0 (((impl_copyCraft p0).Flown).map Int.row).length])), (10, some (f6 5 0, .box [.v (.int .i64 3), .v (.string p0.Name), .v (.int .i64 p1.Number), .v (.int .i64 0), .v (.int .i64 0), .nl, .v (.int .i64 0), .v (.int .i64 0)])), (1500008, some (gk (f2 1) 0 8, .arr 1 (((impl_copyCraft p0).Flown).map Int.row))), (9800002, some (gk (f20 2) 0 2, .arr 7 (((impl_copyPath p1.Path).Steps).map FlyStep.row)))], 104⟩) (fun f => by kernel_rfl) (fun f => by kernel_rfl) (fun f => by kernel_rfl) fun f20 => ?_
    refine xd hT hM [] (fun f21 => ⟨[(6, .one (.pt 6 (f1 2 0) 0)), (7, .one (.pt 7 (f1 3 0) 0)), (8, .one (.c (.v (.bool true))))], [(6, some (f1 2 0, .box [.v (.string ((impl_copyCraft p0).Name)), .v (.int .i64 p1.Number), .v (.int .i64 ((impl_copyCraft p0).No)), .v (.int .i64 ((impl_copyPath p1.Path).Kind.Quick)), .v (.int .i64 ((impl_copyPath p1.Path).Kind.Slow)), .mu 9800002 (gk (f20 2) 0 2) 7 0 (((impl_copyPath p1.Path).Steps).map FlyStep.row).length, .v (.int .i64 ((impl_copyPath p1.Path).From)), .v (.int .i64 ((impl_copyPath p1.Path).By)), .mu 1500008 (gk (f2 1) 0 8) 1 0 (((impl_copyCraft p0).Flown).map Int.row).length])), (7, some (f1 3 0, .box [.v (.int .i64 3), .v (.string p0.Name), .v (.int .i64 p1.Number), .v (.int .i64 0), .v (.int .i64 0), .nl, .v (.int .i64 0), .v (.int .i64 0)])), (1500008, some (gk (f2 1) 0 8, .arr 1 (((impl_copyCraft p0).Flown).map Int.row))), (9800002, some (gk (f20 2) 0 2, .arr 7 (((impl_copyPath p1.Path).Steps).map FlyStep.row)))], 104⟩) (fun f => by kernel_rfl) (fun f => by kernel_rfl) (fun f => by kernel_rfl) fun f21 => ?_
    refine w_ret ?_
    subst hR
    exact x_ret (by kernel_rfl)
  rw [if_neg (nt h13)] at hR
  have gh13 := of_decide_eq_false h13
  refine w_skip ?_
  refine w_seq ?_
  refine xr hT [] (fun f22 => ⟨[(4, .one (.pt 4 (f1 1 0) 0)), (6, .one (.pt 6 (f1 2 0) 0)), (7, .one (.pt 7 (f1 3 0) 0)), (9, .one (.pt 9 (f2 2 0) 0)), (10, .one (.pt 10 (f6 5 0) 0)), (85, .one (.c (.v (.bool ((decide (p1.Number ≤ p0.No)) || (!(impl_LinkCraft_stays p0 p1.Path p2)))))))], [(4, some (f1 1 0, .box (LinkWord.cs .bor p1))), (6, some (f1 2 0, .box [.v (.string ⟨#[]⟩), .v (.int .i64 0), .v (.int .i64 0), .v (.int .i64 0), .v (.int .i64 0), .nl, .v (.int .i64 0), .v (.int .i64 0), .nl])), (7, some (f1 3 0, .box [.v (.int .i64 0), .v (.string ⟨#[]⟩), .v (.int .i64 0), .v (.int .i64 0), .v (.int .i64 0), .nl, .v (.int .i64 0), .v (.int .i64 0)])), (9, some (f2 2 0, .box [.v (.string ((impl_copyCraft p0).Name)), .v (.int .i64 ((impl_copyCraft p0).Number)), .v (.int .i64 ((impl_copyCraft p0).No)), .v (.int .i64 ((impl_copyCraft p0).Path.Kind.Quick)), .v (.int .i64 ((impl_copyCraft p0).Path.Kind.Slow)), .mu 1500005 (gk (f2 1) 0 5) 7 0 (((impl_copyCraft p0).Path.Steps).map FlyStep.row).length, .v (.int .i64 ((impl_copyCraft p0).Path.From)), .v (.int .i64 ((impl_copyCraft p0).Path.By)), .mu 1500008 (gk (f2 1) 0 8) 1 0 (((impl_copyCraft p0).Flown).map Int.row).length])), (10, some (f6 5 0, .box [.v (.int .i64 3), .v (.string p0.Name), .v (.int .i64 p1.Number), .v (.int .i64 0), .v (.int .i64 0), .nl, .v (.int .i64 0), .v (.int .i64 0)])), (1500005, some (gk (f2 1) 0 5, .arr 7 (((impl_copyCraft p0).Path.Steps).map FlyStep.row))), (1500008, some (gk (f2 1) 0 8, .arr 1 (((impl_copyCraft p0).Flown).map Int.row)))], 104⟩) (fun f => by kernel_rfl) (fun f => by kernel_rfl) fun f22 => ?_
  refine w_cond rfl (fun h23 => ?_) fun h23 => ?_
  · rw [if_pos h23] at hR
    have gh23 := h23; try simp only [Bool.not_eq_true', Bool.not_eq_false', decide_eq_true_eq, decide_eq_false_iff_not, Bool.and_eq_true, Bool.or_eq_true, Bool.and_eq_false_iff, Bool.or_eq_false_iff] at gh23
    refine xr hT [] (fun f24 => ⟨[(6, .one (.pt 6 (f1 2 0) 0)), (7, .one (.pt 7 (f1 3 0) 0)), (9, .one (.pt 9 (f2 2 0) 0)), (10, .one (.pt 10 (f6 5 0) 0))], [(6, some (f1 2 0, .box [.v (.string ⟨#[]⟩), .v (.int .i64 0), .v (.int .i64 0), .v (.int .i64 0), .v (.int .i64 0), .nl, .v (.int .i64 0), .v (.int .i64 0), .nl])), (7, some (f1 3 0, .box [.v (.int .i64 0), .v (.string ⟨#[]⟩), .v (.int .i64 0), .v (.int .i64 0), .v (.int .i64 0), .nl, .v (.int .i64 0), .v (.int .i64 0)])), (9, some (f2 2 0, .box [.v (.string ((impl_copyCraft p0).Name)), .v (.int .i64 ((impl_copyCraft p0).Number)), .v (.int .i64 (max ((impl_copyCraft p0).No) p1.Number)), .v (.int .i64 ((impl_copyCraft p0).Path.Kind.Quick)), .v (.int .i64 ((impl_copyCraft p0).Path.Kind.Slow)), .mu 1500005 (gk (f2 1) 0 5) 7 0 (((impl_copyCraft p0).Path.Steps).map FlyStep.row).length, .v (.int .i64 ((impl_copyCraft p0).Path.From)), .v (.int .i64 ((impl_copyCraft p0).Path.By)), .mu 1500008 (gk (f2 1) 0 8) 1 0 (((impl_copyCraft p0).Flown).map Int.row).length])), (10, some (f6 5 0, .box [.v (.int .i64 3), .v (.string p0.Name), .v (.int .i64 p1.Number), .v (.int .i64 0), .v (.int .i64 0), .nl, .v (.int .i64 0), .v (.int .i64 0)])), (1500005, some (gk (f2 1) 0 5, .arr 7 (((impl_copyCraft p0).Path.Steps).map FlyStep.row))), (1500008, some (gk (f2 1) 0 8, .arr 1 (((impl_copyCraft p0).Flown).map Int.row)))], 104⟩) (fun f => by kernel_rfl) (fun f => by kernel_rfl) fun f24 => ?_
    refine xr hT [] (fun f25 => ⟨[(6, .one (.pt 6 (f1 2 0) 0)), (7, .one (.pt 7 (f1 3 0) 0)), (9, .one (.pt 9 (f2 2 0) 0)), (10, .one (.pt 10 (f6 5 0) 0))], [(6, some (f1 2 0, .box [.v (.string ⟨#[]⟩), .v (.int .i64 0), .v (.int .i64 0), .v (.int .i64 0), .v (.int .i64 0), .nl, .v (.int .i64 0), .v (.int .i64 0), .nl])), (7, some (f1 3 0, .box [.v (.int .i64 0), .v (.string ⟨#[]⟩), .v (.int .i64 0), .v (.int .i64 0), .v (.int .i64 0), .nl, .v (.int .i64 0), .v (.int .i64 0)])), (9, some (f2 2 0, .box [.v (.string ((impl_copyCraft p0).Name)), .v (.int .i64 ((impl_copyCraft p0).Number)), .v (.int .i64 (max ((impl_copyCraft p0).No) p1.Number)), .v (.int .i64 ((impl_copyCraft p0).Path.Kind.Quick)), .v (.int .i64 ((impl_copyCraft p0).Path.Kind.Slow)), .mu 1500005 (gk (f2 1) 0 5) 7 0 (((impl_copyCraft p0).Path.Steps).map FlyStep.row).length, .v (.int .i64 ((impl_copyCraft p0).Path.From)), .v (.int .i64 ((impl_copyCraft p0).Path.By)), .mu 1500008 (gk (f2 1) 0 8) 1 0 (((impl_copyCraft p0).Flown).map Int.row).length])), (10, some (f6 5 0, .box [.v (.int .i64 4), .v (.string p0.Name), .v (.int .i64 p1.Number), .v (.int .i64 0), .v (.int .i64 0), .nl, .v (.int .i64 0), .v (.int .i64 0)])), (1500005, some (gk (f2 1) 0 5, .arr 7 (((impl_copyCraft p0).Path.Steps).map FlyStep.row))), (1500008, some (gk (f2 1) 0 8, .arr 1 (((impl_copyCraft p0).Flown).map Int.row)))], 104⟩) (fun f => by kernel_rfl) (fun f => by kernel_rfl) fun f25 => ?_
    refine xd hT hM [] (fun f26 => ⟨[(6, .one (.pt 6 (f1 2 0) 0)), (7, .one (.pt 7 (f1 3 0) 0)), (8, .one (.c (.v (.bool true))))], [(6, some (f1 2 0, .box [.v (.string ((impl_copyCraft p0).Name)), .v (.int .i64 ((impl_copyCraft p0).Number)), .v (.int .i64 (max ((impl_copyCraft p0).No) p1.Number)), .v (.int .i64 ((impl_copyCraft p0).Path.Kind.Quick)), .v (.int .i64 ((impl_copyCraft p0).Path.Kind.Slow)), .mu 1500005 (gk (f2 1) 0 5) 7 0 (((impl_copyCraft p0).Path.Steps).map FlyStep.row).length, .v (.int .i64 ((impl_copyCraft p0).Path.From)), .v (.int .i64 ((impl_copyCraft p0).Path.By)), .mu 1500008 (gk (f2 1) 0 8) 1 0 (((impl_copyCraft p0).Flown).map Int.row).length])), (7, some (f1 3 0, .box [.v (.int .i64 4), .v (.string p0.Name), .v (.int .i64 p1.Number), .v (.int .i64 0), .v (.int .i64 0), .nl, .v (.int .i64 0), .v (.int .i64 0)])), (1500005, some (gk (f2 1) 0 5, .arr 7 (((impl_copyCraft p0).Path.Steps).map FlyStep.row))), (1500008, some (gk (f2 1) 0 8, .arr 1 (((impl_copyCraft p0).Flown).map Int.row)))], 104⟩) (fun f => by kernel_rfl) (fun f => by kernel_rfl) (fun f => by kernel_rfl) fun f26 => ?_
    refine w_ret ?_
    subst hR
    exact x_ret (by kernel_rfl)
  rw [if_neg (nt h23)] at hR
  have gh23 := h23; try simp only [Bool.not_eq_true', Bool.not_eq_false', decide_eq_true_eq, decide_eq_false_iff_not, Bool.and_eq_true, Bool.or_eq_true, Bool.and_eq_false_iff, Bool.or_eq_false_iff] at gh23
  refine w_skip ?_
  refine xd hT hM [ca (c30 p1.Path (by first | assumption | exact (by omega : p1.Path.Steps.length ≤ 1048576)))] (fun f27 => ⟨[(6, .one (.pt 6 (f1 2 0) 0)), (7, .one (.pt 7 (f1 3 0) 0)), (9, .one (.pt 9 (f2 2 0) 0)), (10, .one (.pt 10 (f6 5 0) 0))], [(6, some (f1 2 0, .box [.v (.string ⟨#[]⟩), .v (.int .i64 0), .v (.int .i64 0), .v (.int .i64 0), .v (.int .i64 0), .nl, .v (.int .i64 0), .v (.int .i64 0), .nl])), (7, some (f1 3 0, .box [.v (.int .i64 0), .v (.string ⟨#[]⟩), .v (.int .i64 0), .v (.int .i64 0), .v (.int .i64 0), .nl, .v (.int .i64 0), .v (.int .i64 0)])), (9, some (f2 2 0, .box [.v (.string ((impl_copyCraft p0).Name)), .v (.int .i64 p1.Number), .v (.int .i64 ((impl_copyCraft p0).No)), .v (.int .i64 ((impl_copyPath p1.Path).Kind.Quick)), .v (.int .i64 ((impl_copyPath p1.Path).Kind.Slow)), .mu 9800002 (gk (f27 2) 0 2) 7 0 (((impl_copyPath p1.Path).Steps).map FlyStep.row).length, .v (.int .i64 ((impl_copyPath p1.Path).From)), .v (.int .i64 ((impl_copyPath p1.Path).By)), .mu 1500008 (gk (f2 1) 0 8) 1 0 (((impl_copyCraft p0).Flown).map Int.row).length])), (10, some (f6 5 0, .box [.v (.int .i64 3), .v (.string p0.Name), .v (.int .i64 p1.Number), .v (.int .i64 0), .v (.int .i64 0), .nl, .v (.int .i64 0), .v (.int .i64 0)])), (1500008, some (gk (f2 1) 0 8, .arr 1 (((impl_copyCraft p0).Flown).map Int.row))), (9800002, some (gk (f27 2) 0 2, .arr 7 (((impl_copyPath p1.Path).Steps).map FlyStep.row)))], 104⟩) (fun f => by kernel_rfl) (fun f => by kernel_rfl) (fun f => by kernel_rfl) fun f27 => ?_
  refine xd hT hM [] (fun f28 => ⟨[(6, .one (.pt 6 (f1 2 0) 0)), (7, .one (.pt 7 (f1 3 0) 0)), (8, .one (.c (.v (.bool true))))], [(6, some (f1 2 0, .box [.v (.string ((impl_copyCraft p0).Name)), .v (.int .i64 p1.Number), .v (.int .i64 ((impl_copyCraft p0).No)), .v (.int .i64 ((impl_copyPath p1.Path).Kind.Quick)), .v (.int .i64 ((impl_copyPath p1.Path).Kind.Slow)), .mu 9800002 (gk (f27 2) 0 2) 7 0 (((impl_copyPath p1.Path).Steps).map FlyStep.row).length, .v (.int .i64 ((impl_copyPath p1.Path).From)), .v (.int .i64 ((impl_copyPath p1.Path).By)), .mu 1500008 (gk (f2 1) 0 8) 1 0 (((impl_copyCraft p0).Flown).map Int.row).length])), (7, some (f1 3 0, .box [.v (.int .i64 3), .v (.string p0.Name), .v (.int .i64 p1.Number), .v (.int .i64 0), .v (.int .i64 0), .nl, .v (.int .i64 0), .v (.int .i64 0)])), (1500008, some (gk (f2 1) 0 8, .arr 1 (((impl_copyCraft p0).Flown).map Int.row))), (9800002, some (gk (f27 2) 0 2, .arr 7 (((impl_copyPath p1.Path).Steps).map FlyStep.row)))], 104⟩) (fun f => by kernel_rfl) (fun f => by kernel_rfl) (fun f => by kernel_rfl) fun f28 => ?_
  refine w_ret ?_
  subst hR
  exact x_ret (by kernel_rfl)
theorem f_impl_LinkTake (p0 : LinkCraft) (p1 : LinkWord) (p2 : Int) (h0 : LinkCraft.ok p0) (h1 : LinkWord.ok p1) : LinkCraft.ok (impl_LinkTake p0 p1 p2).1 := by
  simp only [LinkCraft.ok, LinkWord.ok] at *
  unfold impl_LinkTake
  (repeat' split) <;> (try simp only [LN, impl_copyCraft, impl_copyPath, impl_LinkTake_v1, impl_LinkTake_v2]) <;> (try simp only [spec_l2Copy, impl_copyPath]) <;> (try simp) <;> omega
theorem g_impl_LinkTake (p0 : LinkCraft) (p1 : LinkWord) (p2 : Int) (h0 : LinkCraft.ok p0) (h1 : LinkWord.ok p1) : LinkWord.ok (impl_LinkTake p0 p1 p2).2.1 := by
  simp only [LinkCraft.ok, LinkWord.ok] at *
  unfold impl_LinkTake
  (repeat' split) <;> (try simp only [LN, impl_copyCraft, impl_copyPath, impl_LinkTake_v1, impl_LinkTake_v2]) <;> (try simp only [spec_l2Copy, impl_copyPath]) <;> (try simp) <;> omega

/-- laws.eqFlyKind -/
def laws_eqFlyKind (p0 : FlyKind) (p1 : FlyKind) : Bool := (if !decide (p0.Quick = p1.Quick) then false else (if !decide (p0.Slow = p1.Slow) then false else true))
theorem c55 (p0 : FlyKind) (p1 : FlyKind) : Fn Proofs.Try.prog 55 [⟨.val, true, FlyKind.cs .bor p0⟩, ⟨.val, true, FlyKind.cs .bor p1⟩] [.c (.v (.bool (laws_eqFlyKind p0 p1)))] [] := by
  obtain ⟨R, hR⟩ : ∃ R, R = laws_eqFlyKind p0 p1 := ⟨_, rfl⟩
  rw [← hR]
  rw [laws_eqFlyKind] at hR
  refine ⟨fn_intro hT Proofs.Try.func55 rfl rfl fun fs => ?_, _, Proofs.Try.func55, rfl, rfl⟩
  refine xr hT [] (fun f1 => ⟨[(2, .one (.pt 2 (f1 0 0) 0)), (3, .one (.pt 3 (f1 1 0) 0))], [(2, some (f1 0 0, .box (FlyKind.cs .bor p0))), (3, some (f1 1 0, .box (FlyKind.cs .bor p1)))], 15⟩) (fun f => by kernel_rfl) (fun f => by kernel_rfl) fun f1 => ?_
  refine w_seq ?_
  refine xr hT [] (fun f2 => ⟨[(2, .one (.pt 2 (f1 0 0) 0)), (3, .one (.pt 3 (f1 1 0) 0)), (9, .one (.c (.v (.bool (!decide (p0.Quick = p1.Quick))))))], [(2, some (f1 0 0, .box (FlyKind.cs .bor p0))), (3, some (f1 1 0, .box (FlyKind.cs .bor p1)))], 15⟩) (fun f => by kernel_rfl) (fun f => by kernel_rfl) fun f2 => ?_
  refine w_cond rfl (fun h3 => ?_) fun h3 => ?_
  · rw [if_pos h3] at hR
    have gh3 := nd1 h3
    refine xr hT [] (fun f4 => ⟨[(4, .one (.c (.v (.bool false))))], [], 15⟩) (fun f => by kernel_rfl) (fun f => by kernel_rfl) fun f4 => ?_
    refine w_ret ?_
    subst hR
    exact x_ret (by kernel_rfl)
  rw [if_neg (nt h3)] at hR
  have gh3 := nd0 h3
  refine w_skip ?_
  refine w_seq ?_
  refine xr hT [] (fun f5 => ⟨[(14, .one (.c (.v (.bool (!decide (p0.Slow = p1.Slow))))))], [], 15⟩) (fun f => by kernel_rfl) (fun f => by kernel_rfl) fun f5 => ?_
  refine w_cond rfl (fun h6 => ?_) fun h6 => ?_
  · rw [if_pos h6] at hR
    have gh6 := nd1 h6
    refine xr hT [] (fun f7 => ⟨[(4, .one (.c (.v (.bool false))))], [], 15⟩) (fun f => by kernel_rfl) (fun f => by kernel_rfl) fun f7 => ?_
    refine w_ret ?_
    subst hR
    exact x_ret (by kernel_rfl)
  rw [if_neg (nt h6)] at hR
  have gh6 := nd0 h6
  refine w_skip ?_
  refine xr hT [] (fun f8 => ⟨[(4, .one (.c (.v (.bool true))))], [], 15⟩) (fun f => by kernel_rfl) (fun f => by kernel_rfl) fun f8 => ?_
  refine w_ret ?_
  subst hR
  exact x_ret (by kernel_rfl)

/-- laws.eqFlyStep -/
def laws_eqFlyStep (p0 : FlyStep) (p1 : FlyStep) : Bool := (if !decide (p0.X = p1.X) then false else (if !decide (p0.Y = p1.Y) then false else (if !decide (p0.Low = p1.Low) then false else (if !decide (p0.High = p1.High) then false else (if !decide (p0.From = p1.From) then false else (if !decide (p0.By = p1.By) then false else (if !(p0.Hold == p1.Hold) then false else true)))))))
theorem c72 (p0 : FlyStep) (p1 : FlyStep) : Fn Proofs.Try.prog 72 [⟨.val, true, FlyStep.cs .bor p0⟩, ⟨.val, true, FlyStep.cs .bor p1⟩] [.c (.v (.bool (laws_eqFlyStep p0 p1)))] [] := by
  obtain ⟨R, hR⟩ : ∃ R, R = laws_eqFlyStep p0 p1 := ⟨_, rfl⟩
  rw [← hR]
  rw [laws_eqFlyStep] at hR
  refine ⟨fn_intro hT Proofs.Try.func72 rfl rfl fun fs => ?_, _, Proofs.Try.func72, rfl, rfl⟩
  refine xr hT [] (fun f1 => ⟨[(2, .one (.pt 2 (f1 0 0) 0)), (3, .one (.pt 3 (f1 1 0) 0))], [(2, some (f1 0 0, .box (FlyStep.cs .bor p0))), (3, some (f1 1 0, .box (FlyStep.cs .bor p1)))], 40⟩) (fun f => by kernel_rfl) (fun f => by kernel_rfl) fun f1 => ?_
  refine w_seq ?_
  refine xr hT [] (fun f2 => ⟨[(2, .one (.pt 2 (f1 0 0) 0)), (3, .one (.pt 3 (f1 1 0) 0)), (9, .one (.c (.v (.bool (!decide (p0.X = p1.X))))))], [(2, some (f1 0 0, .box (FlyStep.cs .bor p0))), (3, some (f1 1 0, .box (FlyStep.cs .bor p1)))], 40⟩) (fun f => by kernel_rfl) (fun f => by kernel_rfl) fun f2 => ?_
  refine w_cond rfl (fun h3 => ?_) fun h3 => ?_
  · rw [if_pos h3] at hR
    have gh3 := nd1 h3
    refine xr hT [] (fun f4 => ⟨[(4, .one (.c (.v (.bool false))))], [], 40⟩) (fun f => by kernel_rfl) (fun f => by kernel_rfl) fun f4 => ?_
    refine w_ret ?_
    subst hR
    exact x_ret (by kernel_rfl)
  rw [if_neg (nt h3)] at hR
  have gh3 := nd0 h3
  refine w_skip ?_
  refine w_seq ?_
  refine xr hT [] (fun f5 => ⟨[(2, .one (.pt 2 (f1 0 0) 0)), (3, .one (.pt 3 (f1 1 0) 0)), (14, .one (.c (.v (.bool (!decide (p0.Y = p1.Y))))))], [(2, some (f1 0 0, .box (FlyStep.cs .bor p0))), (3, some (f1 1 0, .box (FlyStep.cs .bor p1)))], 40⟩) (fun f => by kernel_rfl) (fun f => by kernel_rfl) fun f5 => ?_
  refine w_cond rfl (fun h6 => ?_) fun h6 => ?_
  · rw [if_pos h6] at hR
    have gh6 := nd1 h6
    refine xr hT [] (fun f7 => ⟨[(4, .one (.c (.v (.bool false))))], [], 40⟩) (fun f => by kernel_rfl) (fun f => by kernel_rfl) fun f7 => ?_
    refine w_ret ?_
    subst hR
    exact x_ret (by kernel_rfl)
  rw [if_neg (nt h6)] at hR
  have gh6 := nd0 h6
  refine w_skip ?_
  refine w_seq ?_
  refine xr hT [] (fun f8 => ⟨[(2, .one (.pt 2 (f1 0 0) 0)), (3, .one (.pt 3 (f1 1 0) 0)), (19, .one (.c (.v (.bool (!decide (p0.Low = p1.Low))))))], [(2, some (f1 0 0, .box (FlyStep.cs .bor p0))), (3, some (f1 1 0, .box (FlyStep.cs .bor p1)))], 40⟩) (fun f => by kernel_rfl) (fun f => by kernel_rfl) fun f8 => ?_
  refine w_cond rfl (fun h9 => ?_) fun h9 => ?_
  · rw [if_pos h9] at hR
    have gh9 := nd1 h9
    refine xr hT [] (fun f10 => ⟨[(4, .one (.c (.v (.bool false))))], [], 40⟩) (fun f => by kernel_rfl) (fun f => by kernel_rfl) fun f10 => ?_
    refine w_ret ?_
    subst hR
    exact x_ret (by kernel_rfl)
  rw [if_neg (nt h9)] at hR
  have gh9 := nd0 h9
  refine w_skip ?_
  refine w_seq ?_
  refine xr hT [] (fun f11 => ⟨[(2, .one (.pt 2 (f1 0 0) 0)), (3, .one (.pt 3 (f1 1 0) 0)), (24, .one (.c (.v (.bool (!decide (p0.High = p1.High))))))], [(2, some (f1 0 0, .box (FlyStep.cs .bor p0))), (3, some (f1 1 0, .box (FlyStep.cs .bor p1)))], 40⟩) (fun f => by kernel_rfl) (fun f => by kernel_rfl) fun f11 => ?_
  refine w_cond rfl (fun h12 => ?_) fun h12 => ?_
  · rw [if_pos h12] at hR
    have gh12 := nd1 h12
    refine xr hT [] (fun f13 => ⟨[(4, .one (.c (.v (.bool false))))], [], 40⟩) (fun f => by kernel_rfl) (fun f => by kernel_rfl) fun f13 => ?_
    refine w_ret ?_
    subst hR
    exact x_ret (by kernel_rfl)
  rw [if_neg (nt h12)] at hR
  have gh12 := nd0 h12
  refine w_skip ?_
  refine w_seq ?_
  refine xr hT [] (fun f14 => ⟨[(2, .one (.pt 2 (f1 0 0) 0)), (3, .one (.pt 3 (f1 1 0) 0)), (29, .one (.c (.v (.bool (!decide (p0.From = p1.From))))))], [(2, some (f1 0 0, .box (FlyStep.cs .bor p0))), (3, some (f1 1 0, .box (FlyStep.cs .bor p1)))], 40⟩) (fun f => by kernel_rfl) (fun f => by kernel_rfl) fun f14 => ?_
  refine w_cond rfl (fun h15 => ?_) fun h15 => ?_
  · rw [if_pos h15] at hR
    have gh15 := nd1 h15
    refine xr hT [] (fun f16 => ⟨[(4, .one (.c (.v (.bool false))))], [], 40⟩) (fun f => by kernel_rfl) (fun f => by kernel_rfl) fun f16 => ?_
    refine w_ret ?_
    subst hR
    exact x_ret (by kernel_rfl)
  rw [if_neg (nt h15)] at hR
  have gh15 := nd0 h15
  refine w_skip ?_
  refine w_seq ?_
  refine xr hT [] (fun f17 => ⟨[(2, .one (.pt 2 (f1 0 0) 0)), (3, .one (.pt 3 (f1 1 0) 0)), (34, .one (.c (.v (.bool (!decide (p0.By = p1.By))))))], [(2, some (f1 0 0, .box (FlyStep.cs .bor p0))), (3, some (f1 1 0, .box (FlyStep.cs .bor p1)))], 40⟩) (fun f => by kernel_rfl) (fun f => by kernel_rfl) fun f17 => ?_
  refine w_cond rfl (fun h18 => ?_) fun h18 => ?_
  · rw [if_pos h18] at hR
    have gh18 := nd1 h18
    refine xr hT [] (fun f19 => ⟨[(4, .one (.c (.v (.bool false))))], [], 40⟩) (fun f => by kernel_rfl) (fun f => by kernel_rfl) fun f19 => ?_
    refine w_ret ?_
    subst hR
    exact x_ret (by kernel_rfl)
  rw [if_neg (nt h18)] at hR
  have gh18 := nd0 h18
  refine w_skip ?_
  refine w_seq ?_
  refine xr hT [.und Proofs.Try.underlying4] (fun f20 => ⟨[(39, .one (.c (.v (.bool (!(p0.Hold == p1.Hold))))))], [], 40⟩) (fun f => by kernel_rfl) (fun f => by kernel_rfl) fun f20 => ?_
  refine w_cond rfl (fun h21 => ?_) fun h21 => ?_
  · rw [if_pos h21] at hR
    refine xr hT [] (fun f22 => ⟨[(4, .one (.c (.v (.bool false))))], [], 40⟩) (fun f => by kernel_rfl) (fun f => by kernel_rfl) fun f22 => ?_
    refine w_ret ?_
    subst hR
    exact x_ret (by kernel_rfl)
  rw [if_neg (nt h21)] at hR
  refine w_skip ?_
  refine xr hT [] (fun f23 => ⟨[(4, .one (.c (.v (.bool true))))], [], 40⟩) (fun f => by kernel_rfl) (fun f => by kernel_rfl) fun f23 => ?_
  refine w_ret ?_
  subst hR
  exact x_ret (by kernel_rfl)

def laws_eqFlyStepS_I1 (p0 : (List FlyStep)) (p1 : (List FlyStep)) (fs : Nat → Nat → Nat) (i1 : Nat) (s1 : Unit) (x1 : Nat → Nat) : St := ⟨[(0, .one (.c (.sl .bor 7 (p0.map FlyStep.row)))), (1, .one (.c (.sl .bor 7 (p1.map FlyStep.row)))), (5, .one (.c (.v (.int .i64 ((i1 : Nat) : Int)))))], [], 27⟩
def laws_eqFlyStepS_J1 (p0 : (List FlyStep)) (p1 : (List FlyStep)) (fs : Nat → Nat → Nat) (s1 : Unit) (x1 : Nat → Nat) : St := ⟨[], [], 27⟩
def laws_eqFlyStepS_b1 (p0 : (List FlyStep)) (p1 : (List FlyStep)) (i1 : Nat) (s1 : Unit) : Res (Unit) Bool := (if !(laws_eqFlyStep (p0.getD i1 default) (p1.getD i1 default)) then (.ret false) else (.next ()))
def laws_eqFlyStepS_r1 (p0 : (List FlyStep)) (p1 : (List FlyStep)) (s1 : Unit) : Bool := true
/-- laws.eqFlyStepS -/
def laws_eqFlyStepS (p0 : (List FlyStep)) (p1 : (List FlyStep)) : Bool := (if !decide ((p0.length : Int) = (p1.length : Int)) then false else (Res.fin (laws_eqFlyStepS_r1 p0 p1) (forN (laws_eqFlyStepS_b1 p0 p1) (p0.length - 0) 0 ())))
theorem c56 (p0 : (List FlyStep)) (p1 : (List FlyStep)) (k0_0 : p0.length ≤ 1048576) (k1_0 : p1.length ≤ 1048576) : Fn Proofs.Try.prog 56 [⟨.val, false, [.sl .bor 7 (p0.map FlyStep.row)]⟩, ⟨.val, false, [.sl .bor 7 (p1.map FlyStep.row)]⟩] [.c (.v (.bool (laws_eqFlyStepS p0 p1)))] [] := by
  obtain ⟨R, hR⟩ : ∃ R, R = laws_eqFlyStepS p0 p1 := ⟨_, rfl⟩
  rw [← hR]
  rw [laws_eqFlyStepS] at hR
  refine ⟨fn_intro hT Proofs.Try.func56 rfl rfl fun fs => ?_, _, Proofs.Try.func56, rfl, rfl⟩
  refine xr hT [] (fun f1 => ⟨[(0, .one (.c (.sl .bor 7 (p0.map FlyStep.row)))), (1, .one (.c (.sl .bor 7 (p1.map FlyStep.row))))], [], 27⟩) (fun f => by kernel_rfl) (fun f => by kernel_rfl) fun f1 => ?_
  refine w_seq ?_
  refine xr hT [.ln FlyStep.row p0, .ln FlyStep.row p1] (fun f2 => ⟨[(0, .one (.c (.sl .bor 7 (p0.map FlyStep.row)))), (1, .one (.c (.sl .bor 7 (p1.map FlyStep.row)))), (10, .one (.c (.v (.bool (!decide ((p0.length : Int) = (p1.length : Int)))))))], [], 27⟩) (fun f => by kernel_rfl) (fun f => by kernel_rfl) fun f2 => ?_
  refine w_cond rfl (fun h3 => ?_) fun h3 => ?_
  · rw [if_pos h3] at hR
    have gh3 := nd1 h3
    refine xr hT [] (fun f4 => ⟨[(4, .one (.c (.v (.bool false))))], [], 27⟩) (fun f => by kernel_rfl) (fun f => by kernel_rfl) fun f4 => ?_
    refine w_ret ?_
    subst hR
    exact x_ret (by kernel_rfl)
  rw [if_neg (nt h3)] at hR
  have gh3 := nd0 h3
  refine w_skip ?_
  refine w_seq ?_
  refine xr hT [] (fun f5 => ⟨[(0, .one (.c (.sl .bor 7 (p0.map FlyStep.row)))), (1, .one (.c (.sl .bor 7 (p1.map FlyStep.row)))), (5, .one (.c (.v (.int .i64 0))))], [], 27⟩) (fun f => by kernel_rfl) (fun f => by kernel_rfl) fun f5 => ?_
  refine w_forT (fun _ => rfl) (laws_eqFlyStepS_I1 p0 p1 fs) (laws_eqFlyStepS_J1 p0 p1 fs) (fun i1 s1 => True) (fun s1 => True) (p0.length) 0 (laws_eqFlyStepS_b1 p0 p1) (laws_eqFlyStepS_r1 p0 p1) 0 (()) (lst []) (sb (by kernel_rfl)) trivial hR ?_ ?_
  · skip
    intro i1 s1 x1 hI1 hX1
    refine w_seq ?_
    refine xr hT [.ln FlyStep.row p0] (fun f6 => ⟨[(0, .one (.c (.sl .bor 7 (p0.map FlyStep.row)))), (1, .one (.c (.sl .bor 7 (p1.map FlyStep.row)))), (5, .one (.c (.v (.int .i64 ((i1 : Nat) : Int))))), (14, .one (.c (.v (.bool (decide (((i1 : Nat) : Int) < (p0.length : Int)))))))], [], 27⟩) (fun f => by kernel_rfl) (fun f => by kernel_rfl) fun f6 => ?_
    refine w_cond rfl (fun h7 => ?_) fun h7 => ?_
    · skip
      have hl1 : i1 < p0.length := by have hq := of_decide_eq_true h7; first | omega | ((try simp only [LN] at *); omega)
      obtain ⟨B1, hB1⟩ : ∃ B, B = laws_eqFlyStepS_b1 p0 p1 i1 s1 := ⟨_, rfl⟩
      have hE1 := hB1
      rw [laws_eqFlyStepS_b1] at hE1
      refine w_skip ?_
      refine w_seq ?_
      refine w_block ?_
      refine xd hT hM [ix FlyStep.row p0 i1 (by omega), ix FlyStep.row p1 i1 (by omega), ca (c72 (p0.getD i1 default) (p1.getD i1 default))] (fun f8 => ⟨[(0, .one (.c (.sl .bor 7 (p0.map FlyStep.row)))), (1, .one (.c (.sl .bor 7 (p1.map FlyStep.row)))), (5, .one (.c (.v (.int .i64 ((i1 : Nat) : Int))))), (26, .one (.c (.v (.bool (!(laws_eqFlyStep (p0.getD i1 default) (p1.getD i1 default)))))))], [], 27⟩) (fun f => by kernel_rfl) (fun f => by kernel_rfl) (fun f => by kernel_rfl) fun f8 => ?_
      refine w_cond rfl (fun h9 => ?_) fun h9 => ?_
      · rw [if_pos h9] at hE1
        refine xr hT [] (fun f10 => ⟨[(4, .one (.c (.v (.bool false))))], [], 27⟩) (fun f => by kernel_rfl) (fun f => by kernel_rfl) fun f10 => ?_
        refine w_ret ?_
        have hR := hX1.trans (forN_ret hl1 (hB1.symm.trans hE1))
        subst hR
        exact x_ret (by kernel_rfl)
      rw [if_neg (nt h9)] at hE1
      refine w_skip ?_
      refine x_reg hT [.ex true (((i1 : Nat) : Int) + ((1 : Nat) : Int)) ((((i1 + 1) : Nat) : Int)) (fun _ => wr_nat (n := i1) (c := 1) (by omega))] (fun f11 => laws_eqFlyStepS_I1 p0 p1 fs (i1 + 1) () (lst [])) (fun f => by kernel_rfl) (fun f => by kernel_rfl) fun f11 s' hs' => ?_
      exact ⟨(), (lst []), hl1, trivial, hX1.trans (forN_next hl1 (hB1.symm.trans hE1)), hs'⟩
    have hq := of_decide_eq_false h7
    refine w_exit ?_
    exact ⟨s1, (lst []), trivial, hX1.trans (forN_end (by first | omega | ((try simp only [LN] at *); omega))), sb (by kernel_rfl)⟩
  intro s1 x1 hF14 hR12
  rw [laws_eqFlyStepS_r1] at hR12
  refine xr hT [] (fun f13 => ⟨[(4, .one (.c (.v (.bool true))))], [], 27⟩) (fun f => by kernel_rfl) (fun f => by kernel_rfl) fun f13 => ?_
  refine w_ret ?_
  subst hR12
  exact x_ret (by kernel_rfl)

/-- laws.eqFlyPath -/
def laws_eqFlyPath (p0 : FlyPath) (p1 : FlyPath) : Bool := (if !(laws_eqFlyKind p0.Kind p1.Kind) then false else (if !(laws_eqFlyStepS p0.Steps p1.Steps) then false else (if !decide (p0.From = p1.From) then false else (if !decide (p0.By = p1.By) then false else true))))
theorem c31 (p0 : FlyPath) (p1 : FlyPath) (k0_0 : FlyPath.ok p0) (k1_0 : FlyPath.ok p1) : Fn Proofs.Try.prog 31 [⟨.val, true, FlyPath.cs .bor p0⟩, ⟨.val, true, FlyPath.cs .bor p1⟩] [.c (.v (.bool (laws_eqFlyPath p0 p1)))] [] := by
  obtain ⟨R, hR⟩ : ∃ R, R = laws_eqFlyPath p0 p1 := ⟨_, rfl⟩
  rw [← hR]
  rw [laws_eqFlyPath] at hR
  refine ⟨fn_intro hT Proofs.Try.func31 rfl rfl fun fs => ?_, _, Proofs.Try.func31, rfl, rfl⟩
  have q0 := k0_0; simp only [FlyPath.ok] at q0
  have q1 := k1_0; simp only [FlyPath.ok] at q1
  refine xr hT [] (fun f1 => ⟨[(2, .one (.pt 2 (f1 0 0) 0)), (3, .one (.pt 3 (f1 1 0) 0))], [(2, some (f1 0 0, .box (FlyPath.cs .bor p0))), (3, some (f1 1 0, .box (FlyPath.cs .bor p1)))], 27⟩) (fun f => by kernel_rfl) (fun f => by kernel_rfl) fun f1 => ?_
  refine w_seq ?_
  refine xr hT [ca (c55 p0.Kind p1.Kind)] (fun f2 => ⟨[(2, .one (.pt 2 (f1 0 0) 0)), (3, .one (.pt 3 (f1 1 0) 0)), (10, .one (.c (.v (.bool (!(laws_eqFlyKind p0.Kind p1.Kind))))))], [(2, some (f1 0 0, .box (FlyPath.cs .bor p0))), (3, some (f1 1 0, .box (FlyPath.cs .bor p1)))], 27⟩) (fun f => by kernel_rfl) (fun f => by kernel_rfl) fun f2 => ?_
  refine w_cond rfl (fun h3 => ?_) fun h3 => ?_
  · rw [if_pos h3] at hR
    refine xr hT [] (fun f4 => ⟨[(4, .one (.c (.v (.bool false))))], [], 27⟩) (fun f => by kernel_rfl) (fun f => by kernel_rfl) fun f4 => ?_
    refine w_ret ?_
    subst hR
    exact x_ret (by kernel_rfl)
  rw [if_neg (nt h3)] at hR
  refine w_skip ?_
  refine w_seq ?_
  refine xr hT [ca (c56 p0.Steps p1.Steps (by omega) (by omega))] (fun f5 => ⟨[(2, .one (.pt 2 (f1 0 0) 0)), (3, .one (.pt 3 (f1 1 0) 0)), (16, .one (.c (.v (.bool (!(laws_eqFlyStepS p0.Steps p1.Steps))))))], [(2, some (f1 0 0, .box (FlyPath.cs .bor p0))), (3, some (f1 1 0, .box (FlyPath.cs .bor p1)))], 27⟩) (fun f => by kernel_rfl) (fun f => by kernel_rfl) fun f5 => ?_
  refine w_cond rfl (fun h6 => ?_) fun h6 => ?_
  · rw [if_pos h6] at hR
    refine xr hT [] (fun f7 => ⟨[(4, .one (.c (.v (.bool false))))], [], 27⟩) (fun f => by kernel_rfl) (fun f => by kernel_rfl) fun f7 => ?_
    refine w_ret ?_
    subst hR
    exact x_ret (by kernel_rfl)
  rw [if_neg (nt h6)] at hR
  refine w_skip ?_
  refine w_seq ?_
  refine xr hT [] (fun f8 => ⟨[(2, .one (.pt 2 (f1 0 0) 0)), (3, .one (.pt 3 (f1 1 0) 0)), (21, .one (.c (.v (.bool (!decide (p0.From = p1.From))))))], [(2, some (f1 0 0, .box (FlyPath.cs .bor p0))), (3, some (f1 1 0, .box (FlyPath.cs .bor p1)))], 27⟩) (fun f => by kernel_rfl) (fun f => by kernel_rfl) fun f8 => ?_
  refine w_cond rfl (fun h9 => ?_) fun h9 => ?_
  · rw [if_pos h9] at hR
    have gh9 := nd1 h9
    refine xr hT [] (fun f10 => ⟨[(4, .one (.c (.v (.bool false))))], [], 27⟩) (fun f => by kernel_rfl) (fun f => by kernel_rfl) fun f10 => ?_
    refine w_ret ?_
    subst hR
    exact x_ret (by kernel_rfl)
  rw [if_neg (nt h9)] at hR
  have gh9 := nd0 h9
  refine w_skip ?_
  refine w_seq ?_
  refine xr hT [] (fun f11 => ⟨[(26, .one (.c (.v (.bool (!decide (p0.By = p1.By))))))], [], 27⟩) (fun f => by kernel_rfl) (fun f => by kernel_rfl) fun f11 => ?_
  refine w_cond rfl (fun h12 => ?_) fun h12 => ?_
  · rw [if_pos h12] at hR
    have gh12 := nd1 h12
    refine xr hT [] (fun f13 => ⟨[(4, .one (.c (.v (.bool false))))], [], 27⟩) (fun f => by kernel_rfl) (fun f => by kernel_rfl) fun f13 => ?_
    refine w_ret ?_
    subst hR
    exact x_ret (by kernel_rfl)
  rw [if_neg (nt h12)] at hR
  have gh12 := nd0 h12
  refine w_skip ?_
  refine xr hT [] (fun f14 => ⟨[(4, .one (.c (.v (.bool true))))], [], 27⟩) (fun f => by kernel_rfl) (fun f => by kernel_rfl) fun f14 => ?_
  refine w_ret ?_
  subst hR
  exact x_ret (by kernel_rfl)

def laws_eqIntS_I1 (p0 : (List Int)) (p1 : (List Int)) (fs : Nat → Nat → Nat) (i1 : Nat) (s1 : Unit) (x1 : Nat → Nat) : St := ⟨[(0, .one (.c (.sl .bor 1 (p0.map Int.row)))), (1, .one (.c (.sl .bor 1 (p1.map Int.row)))), (5, .one (.c (.v (.int .i64 ((i1 : Nat) : Int)))))], [], 26⟩
def laws_eqIntS_J1 (p0 : (List Int)) (p1 : (List Int)) (fs : Nat → Nat → Nat) (s1 : Unit) (x1 : Nat → Nat) : St := ⟨[], [], 26⟩
def laws_eqIntS_b1 (p0 : (List Int)) (p1 : (List Int)) (i1 : Nat) (s1 : Unit) : Res (Unit) Bool := (if !decide ((p0.getD i1 default) = (p1.getD i1 default)) then (.ret false) else (.next ()))
def laws_eqIntS_r1 (p0 : (List Int)) (p1 : (List Int)) (s1 : Unit) : Bool := true
/-- laws.eqIntS -/
def laws_eqIntS (p0 : (List Int)) (p1 : (List Int)) : Bool := (if !decide ((p0.length : Int) = (p1.length : Int)) then false else (Res.fin (laws_eqIntS_r1 p0 p1) (forN (laws_eqIntS_b1 p0 p1) (p0.length - 0) 0 ())))
theorem c32 (p0 : (List Int)) (p1 : (List Int)) (k0_0 : p0.length ≤ 1048576) (k1_0 : p1.length ≤ 1048576) : Fn Proofs.Try.prog 32 [⟨.val, false, [.sl .bor 1 (p0.map Int.row)]⟩, ⟨.val, false, [.sl .bor 1 (p1.map Int.row)]⟩] [.c (.v (.bool (laws_eqIntS p0 p1)))] [] := by
  obtain ⟨R, hR⟩ : ∃ R, R = laws_eqIntS p0 p1 := ⟨_, rfl⟩
  rw [← hR]
  rw [laws_eqIntS] at hR
  refine ⟨fn_intro hT Proofs.Try.func32 rfl rfl fun fs => ?_, _, Proofs.Try.func32, rfl, rfl⟩
  refine xr hT [] (fun f1 => ⟨[(0, .one (.c (.sl .bor 1 (p0.map Int.row)))), (1, .one (.c (.sl .bor 1 (p1.map Int.row))))], [], 26⟩) (fun f => by kernel_rfl) (fun f => by kernel_rfl) fun f1 => ?_
  refine w_seq ?_
  refine xr hT [.ln Int.row p0, .ln Int.row p1] (fun f2 => ⟨[(0, .one (.c (.sl .bor 1 (p0.map Int.row)))), (1, .one (.c (.sl .bor 1 (p1.map Int.row)))), (10, .one (.c (.v (.bool (!decide ((p0.length : Int) = (p1.length : Int)))))))], [], 26⟩) (fun f => by kernel_rfl) (fun f => by kernel_rfl) fun f2 => ?_
  refine w_cond rfl (fun h3 => ?_) fun h3 => ?_
  · rw [if_pos h3] at hR
    have gh3 := nd1 h3
    refine xr hT [] (fun f4 => ⟨[(4, .one (.c (.v (.bool false))))], [], 26⟩) (fun f => by kernel_rfl) (fun f => by kernel_rfl) fun f4 => ?_
    refine w_ret ?_
    subst hR
    exact x_ret (by kernel_rfl)
  rw [if_neg (nt h3)] at hR
  have gh3 := nd0 h3
  refine w_skip ?_
  refine w_seq ?_
  refine xr hT [] (fun f5 => ⟨[(0, .one (.c (.sl .bor 1 (p0.map Int.row)))), (1, .one (.c (.sl .bor 1 (p1.map Int.row)))), (5, .one (.c (.v (.int .i64 0))))], [], 26⟩) (fun f => by kernel_rfl) (fun f => by kernel_rfl) fun f5 => ?_
  refine w_forT (fun _ => rfl) (laws_eqIntS_I1 p0 p1 fs) (laws_eqIntS_J1 p0 p1 fs) (fun i1 s1 => True) (fun s1 => True) (p0.length) 0 (laws_eqIntS_b1 p0 p1) (laws_eqIntS_r1 p0 p1) 0 (()) (lst []) (sb (by kernel_rfl)) trivial hR ?_ ?_
  · skip
    intro i1 s1 x1 hI1 hX1
    refine w_seq ?_
    refine xr hT [.ln Int.row p0] (fun f6 => ⟨[(0, .one (.c (.sl .bor 1 (p0.map Int.row)))), (1, .one (.c (.sl .bor 1 (p1.map Int.row)))), (5, .one (.c (.v (.int .i64 ((i1 : Nat) : Int))))), (14, .one (.c (.v (.bool (decide (((i1 : Nat) : Int) < (p0.length : Int)))))))], [], 26⟩) (fun f => by kernel_rfl) (fun f => by kernel_rfl) fun f6 => ?_
    refine w_cond rfl (fun h7 => ?_) fun h7 => ?_
    · skip
      have hl1 : i1 < p0.length := by have hq := of_decide_eq_true h7; first | omega | ((try simp only [LN] at *); omega)
      obtain ⟨B1, hB1⟩ : ∃ B, B = laws_eqIntS_b1 p0 p1 i1 s1 := ⟨_, rfl⟩
      have hE1 := hB1
      rw [laws_eqIntS_b1] at hE1
      refine w_skip ?_
      refine w_seq ?_
      refine w_block ?_
      refine xd hT hM [ix Int.row p0 i1 (by omega), ix Int.row p1 i1 (by omega)] (fun f8 => ⟨[(0, .one (.c (.sl .bor 1 (p0.map Int.row)))), (1, .one (.c (.sl .bor 1 (p1.map Int.row)))), (5, .one (.c (.v (.int .i64 ((i1 : Nat) : Int))))), (25, .one (.c (.v (.bool (!decide ((p0.getD i1 default) = (p1.getD i1 default)))))))], [], 26⟩) (fun f => by kernel_rfl) (fun f => by kernel_rfl) (fun f => by kernel_rfl) fun f8 => ?_
      refine w_cond rfl (fun h9 => ?_) fun h9 => ?_
      · rw [if_pos h9] at hE1
        have gh9 := nd1 h9
        refine xr hT [] (fun f10 => ⟨[(4, .one (.c (.v (.bool false))))], [], 26⟩) (fun f => by kernel_rfl) (fun f => by kernel_rfl) fun f10 => ?_
        refine w_ret ?_
        have hR := hX1.trans (forN_ret hl1 (hB1.symm.trans hE1))
        subst hR
        exact x_ret (by kernel_rfl)
      rw [if_neg (nt h9)] at hE1
      have gh9 := nd0 h9
      refine w_skip ?_
      refine x_reg hT [.ex true (((i1 : Nat) : Int) + ((1 : Nat) : Int)) ((((i1 + 1) : Nat) : Int)) (fun _ => wr_nat (n := i1) (c := 1) (by omega))] (fun f11 => laws_eqIntS_I1 p0 p1 fs (i1 + 1) () (lst [])) (fun f => by kernel_rfl) (fun f => by kernel_rfl) fun f11 s' hs' => ?_
      exact ⟨(), (lst []), hl1, trivial, hX1.trans (forN_next hl1 (hB1.symm.trans hE1)), hs'⟩
    have hq := of_decide_eq_false h7
    refine w_exit ?_
    exact ⟨s1, (lst []), trivial, hX1.trans (forN_end (by first | omega | ((try simp only [LN] at *); omega))), sb (by kernel_rfl)⟩
  intro s1 x1 hF14 hR12
  rw [laws_eqIntS_r1] at hR12
  refine xr hT [] (fun f13 => ⟨[(4, .one (.c (.v (.bool true))))], [], 26⟩) (fun f => by kernel_rfl) (fun f => by kernel_rfl) fun f13 => ?_
  refine w_ret ?_
  subst hR12
  exact x_ret (by kernel_rfl)

/-- laws.eqLinkCraft -/
def laws_eqLinkCraft (p0 : LinkCraft) (p1 : LinkCraft) : Bool := (if !(p0.Name.toList == p1.Name.toList) then false else (if !decide (p0.Number = p1.Number) then false else (if !decide (p0.No = p1.No) then false else (if !(laws_eqFlyPath p0.Path p1.Path) then false else (if !(laws_eqIntS p0.Flown p1.Flown) then false else true)))))
theorem c10 (p0 : LinkCraft) (p1 : LinkCraft) (k0_0 : LinkCraft.ok p0) (k1_0 : LinkCraft.ok p1) : Fn Proofs.Try.prog 10 [⟨.val, true, LinkCraft.cs .bor p0⟩, ⟨.val, true, LinkCraft.cs .bor p1⟩] [.c (.v (.bool (laws_eqLinkCraft p0 p1)))] [] := by
  obtain ⟨R, hR⟩ : ∃ R, R = laws_eqLinkCraft p0 p1 := ⟨_, rfl⟩
  rw [← hR]
  rw [laws_eqLinkCraft] at hR
  refine ⟨fn_intro hT Proofs.Try.func10 rfl rfl fun fs => ?_, _, Proofs.Try.func10, rfl, rfl⟩
  have q0 := k0_0; simp only [LinkCraft.ok] at q0
  have q1 := k1_0; simp only [LinkCraft.ok] at q1
  refine xr hT [] (fun f1 => ⟨[(2, .one (.pt 2 (f1 0 0) 0)), (3, .one (.pt 3 (f1 1 0) 0))], [(2, some (f1 0 0, .box (LinkCraft.cs .bor p0))), (3, some (f1 1 0, .box (LinkCraft.cs .bor p1)))], 32⟩) (fun f => by kernel_rfl) (fun f => by kernel_rfl) fun f1 => ?_
  refine w_seq ?_
  refine xr hT [] (fun f2 => ⟨[(2, .one (.pt 2 (f1 0 0) 0)), (3, .one (.pt 3 (f1 1 0) 0)), (9, .one (.c (.v (.bool (!(p0.Name.toList == p1.Name.toList))))))], [(2, some (f1 0 0, .box (LinkCraft.cs .bor p0))), (3, some (f1 1 0, .box (LinkCraft.cs .bor p1)))], 32⟩) (fun f => by kernel_rfl) (fun f => by kernel_rfl) fun f2 => ?_
  refine w_cond rfl (fun h3 => ?_) fun h3 => ?_
  · rw [if_pos h3] at hR
    refine xr hT [] (fun f4 => ⟨[(4, .one (.c (.v (.bool false))))], [], 32⟩) (fun f => by kernel_rfl) (fun f => by kernel_rfl) fun f4 => ?_
    refine w_ret ?_
    subst hR
    exact x_ret (by kernel_rfl)
  rw [if_neg (nt h3)] at hR
  refine w_skip ?_
  refine w_seq ?_
  refine xr hT [] (fun f5 => ⟨[(2, .one (.pt 2 (f1 0 0) 0)), (3, .one (.pt 3 (f1 1 0) 0)), (14, .one (.c (.v (.bool (!decide (p0.Number = p1.Number))))))], [(2, some (f1 0 0, .box (LinkCraft.cs .bor p0))), (3, some (f1 1 0, .box (LinkCraft.cs .bor p1)))], 32⟩) (fun f => by kernel_rfl) (fun f => by kernel_rfl) fun f5 => ?_
  refine w_cond rfl (fun h6 => ?_) fun h6 => ?_
  · rw [if_pos h6] at hR
    have gh6 := nd1 h6
    refine xr hT [] (fun f7 => ⟨[(4, .one (.c (.v (.bool false))))], [], 32⟩) (fun f => by kernel_rfl) (fun f => by kernel_rfl) fun f7 => ?_
    refine w_ret ?_
    subst hR
    exact x_ret (by kernel_rfl)
  rw [if_neg (nt h6)] at hR
  have gh6 := nd0 h6
  refine w_skip ?_
  refine w_seq ?_
  refine xr hT [] (fun f8 => ⟨[(2, .one (.pt 2 (f1 0 0) 0)), (3, .one (.pt 3 (f1 1 0) 0)), (19, .one (.c (.v (.bool (!decide (p0.No = p1.No))))))], [(2, some (f1 0 0, .box (LinkCraft.cs .bor p0))), (3, some (f1 1 0, .box (LinkCraft.cs .bor p1)))], 32⟩) (fun f => by kernel_rfl) (fun f => by kernel_rfl) fun f8 => ?_
  refine w_cond rfl (fun h9 => ?_) fun h9 => ?_
  · rw [if_pos h9] at hR
    have gh9 := nd1 h9
    refine xr hT [] (fun f10 => ⟨[(4, .one (.c (.v (.bool false))))], [], 32⟩) (fun f => by kernel_rfl) (fun f => by kernel_rfl) fun f10 => ?_
    refine w_ret ?_
    subst hR
    exact x_ret (by kernel_rfl)
  rw [if_neg (nt h9)] at hR
  have gh9 := nd0 h9
  refine w_skip ?_
  refine w_seq ?_
  refine xr hT [ca (c31 p0.Path p1.Path (by first | assumption | exact (by omega : p0.Path.Steps.length ≤ 1048576)) (by first | assumption | exact (by omega : p1.Path.Steps.length ≤ 1048576)))] (fun f11 => ⟨[(2, .one (.pt 2 (f1 0 0) 0)), (3, .one (.pt 3 (f1 1 0) 0)), (25, .one (.c (.v (.bool (!(laws_eqFlyPath p0.Path p1.Path))))))], [(2, some (f1 0 0, .box (LinkCraft.cs .bor p0))), (3, some (f1 1 0, .box (LinkCraft.cs .bor p1)))], 32⟩) (fun f => by kernel_rfl) (fun f => by kernel_rfl) fun f11 => ?_
  refine w_cond rfl (fun h12 => ?_) fun h12 => ?_
  · rw [if_pos h12] at hR
    refine xr hT [] (fun f13 => ⟨[(4, .one (.c (.v (.bool false))))], [], 32⟩) (fun f => by kernel_rfl) (fun f => by kernel_rfl) fun f13 => ?_
    refine w_ret ?_
    subst hR
    exact x_ret (by kernel_rfl)
  rw [if_neg (nt h12)] at hR
  refine w_skip ?_
  refine w_seq ?_
  refine xr hT [ca (c32 p0.Flown p1.Flown (by omega) (by omega))] (fun f14 => ⟨[(31, .one (.c (.v (.bool (!(laws_eqIntS p0.Flown p1.Flown))))))], [], 32⟩) (fun f => by kernel_rfl) (fun f => by kernel_rfl) fun f14 => ?_
  refine w_cond rfl (fun h15 => ?_) fun h15 => ?_
  · rw [if_pos h15] at hR
    refine xr hT [] (fun f16 => ⟨[(4, .one (.c (.v (.bool false))))], [], 32⟩) (fun f => by kernel_rfl) (fun f => by kernel_rfl) fun f16 => ?_
    refine w_ret ?_
    subst hR
    exact x_ret (by kernel_rfl)
  rw [if_neg (nt h15)] at hR
  refine w_skip ?_
  refine xr hT [] (fun f17 => ⟨[(4, .one (.c (.v (.bool true))))], [], 32⟩) (fun f => by kernel_rfl) (fun f => by kernel_rfl) fun f17 => ?_
  refine w_ret ?_
  subst hR
  exact x_ret (by kernel_rfl)

/-- laws.eqLinkWord -/
def laws_eqLinkWord (p0 : LinkWord) (p1 : LinkWord) : Bool := (if !decide (p0.Kind = p1.Kind) then false else (if !(p0.Name.toList == p1.Name.toList) then false else (if !decide (p0.Number = p1.Number) then false else (if !(laws_eqFlyPath p0.Path p1.Path) then false else true))))
theorem c11 (p0 : LinkWord) (p1 : LinkWord) (k0_0 : LinkWord.ok p0) (k1_0 : LinkWord.ok p1) : Fn Proofs.Try.prog 11 [⟨.val, true, LinkWord.cs .bor p0⟩, ⟨.val, true, LinkWord.cs .bor p1⟩] [.c (.v (.bool (laws_eqLinkWord p0 p1)))] [] := by
  obtain ⟨R, hR⟩ : ∃ R, R = laws_eqLinkWord p0 p1 := ⟨_, rfl⟩
  rw [← hR]
  rw [laws_eqLinkWord] at hR
  refine ⟨fn_intro hT Proofs.Try.func11 rfl rfl fun fs => ?_, _, Proofs.Try.func11, rfl, rfl⟩
  have q0 := k0_0; simp only [LinkWord.ok] at q0
  have q1 := k1_0; simp only [LinkWord.ok] at q1
  refine xr hT [] (fun f1 => ⟨[(2, .one (.pt 2 (f1 0 0) 0)), (3, .one (.pt 3 (f1 1 0) 0))], [(2, some (f1 0 0, .box (LinkWord.cs .bor p0))), (3, some (f1 1 0, .box (LinkWord.cs .bor p1)))], 26⟩) (fun f => by kernel_rfl) (fun f => by kernel_rfl) fun f1 => ?_
  refine w_seq ?_
  refine xr hT [] (fun f2 => ⟨[(2, .one (.pt 2 (f1 0 0) 0)), (3, .one (.pt 3 (f1 1 0) 0)), (9, .one (.c (.v (.bool (!decide (p0.Kind = p1.Kind))))))], [(2, some (f1 0 0, .box (LinkWord.cs .bor p0))), (3, some (f1 1 0, .box (LinkWord.cs .bor p1)))], 26⟩) (fun f => by kernel_rfl) (fun f => by kernel_rfl) fun f2 => ?_
  refine w_cond rfl (fun h3 => ?_) fun h3 => ?_
  · rw [if_pos h3] at hR
    have gh3 := nd1 h3
    refine xr hT [] (fun f4 => ⟨[(4, .one (.c (.v (.bool false))))], [], 26⟩) (fun f => by kernel_rfl) (fun f => by kernel_rfl) fun f4 => ?_
    refine w_ret ?_
    subst hR
    exact x_ret (by kernel_rfl)
  rw [if_neg (nt h3)] at hR
  have gh3 := nd0 h3
  refine w_skip ?_
  refine w_seq ?_
  refine xr hT [] (fun f5 => ⟨[(2, .one (.pt 2 (f1 0 0) 0)), (3, .one (.pt 3 (f1 1 0) 0)), (14, .one (.c (.v (.bool (!(p0.Name.toList == p1.Name.toList))))))], [(2, some (f1 0 0, .box (LinkWord.cs .bor p0))), (3, some (f1 1 0, .box (LinkWord.cs .bor p1)))], 26⟩) (fun f => by kernel_rfl) (fun f => by kernel_rfl) fun f5 => ?_
  refine w_cond rfl (fun h6 => ?_) fun h6 => ?_
  · rw [if_pos h6] at hR
    refine xr hT [] (fun f7 => ⟨[(4, .one (.c (.v (.bool false))))], [], 26⟩) (fun f => by kernel_rfl) (fun f => by kernel_rfl) fun f7 => ?_
    refine w_ret ?_
    subst hR
    exact x_ret (by kernel_rfl)
  rw [if_neg (nt h6)] at hR
  refine w_skip ?_
  refine w_seq ?_
  refine xr hT [] (fun f8 => ⟨[(2, .one (.pt 2 (f1 0 0) 0)), (3, .one (.pt 3 (f1 1 0) 0)), (19, .one (.c (.v (.bool (!decide (p0.Number = p1.Number))))))], [(2, some (f1 0 0, .box (LinkWord.cs .bor p0))), (3, some (f1 1 0, .box (LinkWord.cs .bor p1)))], 26⟩) (fun f => by kernel_rfl) (fun f => by kernel_rfl) fun f8 => ?_
  refine w_cond rfl (fun h9 => ?_) fun h9 => ?_
  · rw [if_pos h9] at hR
    have gh9 := nd1 h9
    refine xr hT [] (fun f10 => ⟨[(4, .one (.c (.v (.bool false))))], [], 26⟩) (fun f => by kernel_rfl) (fun f => by kernel_rfl) fun f10 => ?_
    refine w_ret ?_
    subst hR
    exact x_ret (by kernel_rfl)
  rw [if_neg (nt h9)] at hR
  have gh9 := nd0 h9
  refine w_skip ?_
  refine w_seq ?_
  refine xr hT [ca (c31 p0.Path p1.Path (by first | assumption | exact (by omega : p0.Path.Steps.length ≤ 1048576)) (by first | assumption | exact (by omega : p1.Path.Steps.length ≤ 1048576)))] (fun f11 => ⟨[(25, .one (.c (.v (.bool (!(laws_eqFlyPath p0.Path p1.Path))))))], [], 26⟩) (fun f => by kernel_rfl) (fun f => by kernel_rfl) fun f11 => ?_
  refine w_cond rfl (fun h12 => ?_) fun h12 => ?_
  · rw [if_pos h12] at hR
    refine xr hT [] (fun f13 => ⟨[(4, .one (.c (.v (.bool false))))], [], 26⟩) (fun f => by kernel_rfl) (fun f => by kernel_rfl) fun f13 => ?_
    refine w_ret ?_
    subst hR
    exact x_ret (by kernel_rfl)
  rw [if_neg (nt h12)] at hR
  refine w_skip ?_
  refine xr hT [] (fun f14 => ⟨[(4, .one (.c (.v (.bool true))))], [], 26⟩) (fun f => by kernel_rfl) (fun f => by kernel_rfl) fun f14 => ?_
  refine w_ret ?_
  subst hR
  exact x_ret (by kernel_rfl)

def laws_markFlyStepS_I1 (p0 : (List FlyStep)) (p1 : Int) (fs : Nat → Nat → Nat) (i1 : Nat) (s1 : Int × List FlyStep) (x1 : Nat → Nat) : St := ⟨[(0, .one (.c (.mu 1000 (fs 0 0) 7 0 (s1.2.map FlyStep.row).length))), (1, .one (.c (.v (.int .i64 s1.1)))), (5, .one (.c (.v (.int .i64 ((i1 : Nat) : Int)))))], [(1000, some (fs 0 0, .arr 7 (s1.2.map FlyStep.row)))], 64⟩
def laws_markFlyStepS_J1 (p0 : (List FlyStep)) (p1 : Int) (fs : Nat → Nat → Nat) (s1 : Int × List FlyStep) (x1 : Nat → Nat) : St := ⟨[(1, .one (.c (.v (.int .i64 s1.1))))], [(1000, some (fs 0 0, .arr 7 (s1.2.map FlyStep.row)))], 64⟩
def laws_markFlyStepS_v1 (i1 : Nat) (s1 : Int × List FlyStep) : List FlyStep := (s1.2.set i1 ({ s1.2.getD i1 default with X := s1.1 } : FlyStep)).set i1 ({ (s1.2.set i1 ({ s1.2.getD i1 default with X := s1.1 } : FlyStep)).getD i1 default with Y := wr (s1.1 + 1) } : FlyStep)
def laws_markFlyStepS_v2 (i1 : Nat) (s1 : Int × List FlyStep) : List FlyStep := ((laws_markFlyStepS_v1 i1 s1).set i1 ({ (laws_markFlyStepS_v1 i1 s1).getD i1 default with Low := wr ((wr (s1.1 + 1)) + 1) } : FlyStep)).set i1 ({ ((laws_markFlyStepS_v1 i1 s1).set i1 ({ (laws_markFlyStepS_v1 i1 s1).getD i1 default with Low := wr ((wr (s1.1 + 1)) + 1) } : FlyStep)).getD i1 default with High := wr ((wr ((wr (s1.1 + 1)) + 1)) + 1) } : FlyStep)
def laws_markFlyStepS_v3 (i1 : Nat) (s1 : Int × List FlyStep) : List FlyStep := (laws_markFlyStepS_v2 i1 s1).set i1 ({ (laws_markFlyStepS_v2 i1 s1).getD i1 default with From := wr ((wr ((wr ((wr (s1.1 + 1)) + 1)) + 1)) + 1) } : FlyStep)
def laws_markFlyStepS_v4 (i1 : Nat) (s1 : Int × List FlyStep) : List FlyStep := (laws_markFlyStepS_v3 i1 s1).set i1 ({ (laws_markFlyStepS_v3 i1 s1).getD i1 default with By := wr ((wr ((wr ((wr ((wr (s1.1 + 1)) + 1)) + 1)) + 1)) + 1) } : FlyStep)
def laws_markFlyStepS_v5 (i1 : Nat) (s1 : Int × List FlyStep) : List FlyStep := (laws_markFlyStepS_v4 i1 s1).set i1 ({ (laws_markFlyStepS_v4 i1 s1).getD i1 default with Hold := decide ((Int.tmod (wr ((wr ((wr ((wr ((wr ((wr (s1.1 + 1)) + 1)) + 1)) + 1)) + 1)) + 1)) 3) = 0) } : FlyStep)
def laws_markFlyStepS_b1 (p0 : (List FlyStep)) (p1 : Int) (i1 : Nat) (s1 : Int × List FlyStep) : Res (Int × List FlyStep) (Int × (List FlyStep)) := (.next (wr ((wr ((wr ((wr ((wr ((wr ((wr (s1.1 + 1)) + 1)) + 1)) + 1)) + 1)) + 1)) + 1), (laws_markFlyStepS_v5 i1 s1)))
def laws_markFlyStepS_r1 (p0 : (List FlyStep)) (p1 : Int) (s1 : Int × List FlyStep) : (Int × (List FlyStep)) := (s1.1, s1.2)
/-- laws.markFlyStepS -/
def laws_markFlyStepS (p0 : (List FlyStep)) (p1 : Int) : Int × (List FlyStep) := (Res.fin (laws_markFlyStepS_r1 p0 p1) (forN (laws_markFlyStepS_b1 p0 p1) ((p0).length - 0) 0 (p1, p0)))
theorem c57 (p0 : (List FlyStep)) (p1 : Int) (k0_0 : p0.length ≤ 1048576) : Fn Proofs.Try.prog 57 [⟨.mt, false, [.sl .own 7 (p0.map FlyStep.row)]⟩, ⟨.val, false, [.v (.int .i64 p1)]⟩] [.c (.v (.int .i64 (laws_markFlyStepS p0 p1).1))] [[.sl .own 7 ((laws_markFlyStepS p0 p1).2.map FlyStep.row)]] := by
  obtain ⟨R, hR⟩ : ∃ R, R = laws_markFlyStepS p0 p1 := ⟨_, rfl⟩
  rw [← hR]
  rw [laws_markFlyStepS] at hR
  refine ⟨fn_intro hT Proofs.Try.func57 rfl rfl fun fs => ?_, _, Proofs.Try.func57, rfl, rfl⟩
  refine xr hT [] (fun f1 => ⟨[(0, .one (.c (.mu 1000 (fs 0 0) 7 0 (p0.map FlyStep.row).length))), (1, .one (.c (.v (.int .i64 p1))))], [(1000, some (fs 0 0, .arr 7 (p0.map FlyStep.row)))], 64⟩) (fun f => by kernel_rfl) (fun f => by kernel_rfl) fun f1 => ?_
  refine w_seq ?_
  refine xr hT [] (fun f2 => ⟨[(0, .one (.c (.mu 1000 (fs 0 0) 7 0 (p0.map FlyStep.row).length))), (1, .one (.c (.v (.int .i64 p1)))), (5, .one (.c (.v (.int .i64 0))))], [(1000, some (fs 0 0, .arr 7 (p0.map FlyStep.row)))], 64⟩) (fun f => by kernel_rfl) (fun f => by kernel_rfl) fun f2 => ?_
  refine w_forT (fun _ => rfl) (laws_markFlyStepS_I1 p0 p1 fs) (laws_markFlyStepS_J1 p0 p1 fs) (fun i1 s1 => s1.2.length = (p0).length) (fun s1 => s1.2.length = (p0).length) ((p0).length) 0 (laws_markFlyStepS_b1 p0 p1) (laws_markFlyStepS_r1 p0 p1) 0 ((p1, p0)) (lst []) (sb (by kernel_rfl)) (by first | rfl | ((try simp only [LN, laws_markFlyStepS_v1, laws_markFlyStepS_v2, laws_markFlyStepS_v3, laws_markFlyStepS_v4, laws_markFlyStepS_v5]); omega) | (simp; done) | (simp; omega)) hR ?_ ?_
  · skip
    intro i1 s1 x1 hI1 hX1
    try simp only [LN, laws_markFlyStepS_v1, laws_markFlyStepS_v2, laws_markFlyStepS_v3, laws_markFlyStepS_v4, laws_markFlyStepS_v5] at hI1
    refine w_seq ?_
    refine xr hT [.ln FlyStep.row s1.2] (fun f3 => ⟨[(0, .one (.c (.mu 1000 (fs 0 0) 7 0 (s1.2.map FlyStep.row).length))), (1, .one (.c (.v (.int .i64 s1.1)))), (5, .one (.c (.v (.int .i64 ((i1 : Nat) : Int))))), (9, .one (.c (.v (.bool (decide (((i1 : Nat) : Int) < (s1.2.length : Int)))))))], [(1000, some (fs 0 0, .arr 7 (s1.2.map FlyStep.row)))], 64⟩) (fun f => by kernel_rfl) (fun f => by kernel_rfl) fun f3 => ?_
    refine w_cond rfl (fun h4 => ?_) fun h4 => ?_
    · skip
      have hl1 : i1 < (p0).length := by have hq := of_decide_eq_true h4; first | omega | ((try simp only [LN, laws_markFlyStepS_v1, laws_markFlyStepS_v2, laws_markFlyStepS_v3, laws_markFlyStepS_v4, laws_markFlyStepS_v5] at *); omega)
      have hl1x := hl1; try simp only [LN, laws_markFlyStepS_v1, laws_markFlyStepS_v2, laws_markFlyStepS_v3, laws_markFlyStepS_v4, laws_markFlyStepS_v5] at hl1x
      obtain ⟨B1, hB1⟩ : ∃ B, B = laws_markFlyStepS_b1 p0 p1 i1 s1 := ⟨_, rfl⟩
      have hE1 := hB1
      rw [laws_markFlyStepS_b1] at hE1
      refine w_skip ?_
      refine w_seq ?_
      refine w_block ?_
      refine xr hT [ix FlyStep.row s1.2 i1 (by omega), .st inferInstance true FlyStep.row s1.2 i1 ({ s1.2.getD i1 default with X := s1.1 } : FlyStep) (fun h => by omega)] (fun f5 => ⟨[(0, .one (.c (.mu 1000 (fs 0 0) 7 0 (s1.2.map FlyStep.row).length))), (1, .one (.c (.v (.int .i64 s1.1)))), (5, .one (.c (.v (.int .i64 ((i1 : Nat) : Int)))))], [(1000, some (fs 0 0, .arr 7 ((s1.2.set i1 ({ s1.2.getD i1 default with X := s1.1 } : FlyStep)).map FlyStep.row)))], 64⟩) (fun f => by kernel_rfl) (fun f => by kernel_rfl) fun f5 => ?_
      refine w_sub (s := ⟨[(0, .one (.c (.mu 1000 (fs 0 0) 7 0 ((s1.2.set i1 ({ s1.2.getD i1 default with X := s1.1 } : FlyStep)).map FlyStep.row).length))), (1, .one (.c (.v (.int .i64 s1.1)))), (5, .one (.c (.v (.int .i64 ((i1 : Nat) : Int)))))], [(1000, some (fs 0 0, .arr 7 ((s1.2.set i1 ({ s1.2.getD i1 default with X := s1.1 } : FlyStep)).map FlyStep.row)))], 64⟩) (cst (by simp only [LN, laws_markFlyStepS_v1, laws_markFlyStepS_v2, laws_markFlyStepS_v3, laws_markFlyStepS_v4, laws_markFlyStepS_v5]) (sb (s := ⟨[(0, .one (.c (.mu 1000 (fs 0 0) 7 0 (s1.2.map FlyStep.row).length))), (1, .one (.c (.v (.int .i64 s1.1)))), (5, .one (.c (.v (.int .i64 ((i1 : Nat) : Int)))))], [(1000, some (fs 0 0, .arr 7 ((s1.2.set i1 ({ s1.2.getD i1 default with X := s1.1 } : FlyStep)).map FlyStep.row)))], 64⟩) (by kernel_rfl))) ?_
      refine xr hT [.wr] (fun f6 => ⟨[(0, .one (.c (.mu 1000 (fs 0 0) 7 0 ((s1.2.set i1 ({ s1.2.getD i1 default with X := s1.1 } : FlyStep)).map FlyStep.row).length))), (1, .one (.c (.v (.int .i64 (wr (s1.1 + 1)))))), (5, .one (.c (.v (.int .i64 ((i1 : Nat) : Int)))))], [(1000, some (fs 0 0, .arr 7 ((s1.2.set i1 ({ s1.2.getD i1 default with X := s1.1 } : FlyStep)).map FlyStep.row)))], 64⟩) (fun f => by kernel_rfl) (fun f => by kernel_rfl) fun f6 => ?_
      refine xr hT [ix FlyStep.row (s1.2.set i1 ({ s1.2.getD i1 default with X := s1.1 } : FlyStep)) i1 (by (first | omega | ((try simp only [LN, laws_markFlyStepS_v1, laws_markFlyStepS_v2, laws_markFlyStepS_v3, laws_markFlyStepS_v4, laws_markFlyStepS_v5]); omega) | ((try simp only [wr, IntKind.wrap_i64, LN, laws_markFlyStepS_v1, laws_markFlyStepS_v2, laws_markFlyStepS_v3, laws_markFlyStepS_v4, laws_markFlyStepS_v5] at *); omega) | (simp_all <;> omega))), .st inferInstance true FlyStep.row (s1.2.set i1 ({ s1.2.getD i1 default with X := s1.1 } : FlyStep)) i1 ({ (s1.2.set i1 ({ s1.2.getD i1 default with X := s1.1 } : FlyStep)).getD i1 default with Y := wr (s1.1 + 1) } : FlyStep) (fun h => by (first | omega | ((try simp only [LN, laws_markFlyStepS_v1, laws_markFlyStepS_v2, laws_markFlyStepS_v3, laws_markFlyStepS_v4, laws_markFlyStepS_v5]); omega) | ((try simp only [wr, IntKind.wrap_i64, LN, laws_markFlyStepS_v1, laws_markFlyStepS_v2, laws_markFlyStepS_v3, laws_markFlyStepS_v4, laws_markFlyStepS_v5] at *); omega) | (simp_all <;> omega)))] (fun f7 => ⟨[(0, .one (.c (.mu 1000 (fs 0 0) 7 0 ((s1.2.set i1 ({ s1.2.getD i1 default with X := s1.1 } : FlyStep)).map FlyStep.row).length))), (1, .one (.c (.v (.int .i64 (wr (s1.1 + 1)))))), (5, .one (.c (.v (.int .i64 ((i1 : Nat) : Int)))))], [(1000, some (fs 0 0, .arr 7 ((laws_markFlyStepS_v1 i1 s1).map FlyStep.row)))], 64⟩) (fun f => by kernel_rfl) (fun f => by kernel_rfl) fun f7 => ?_
      refine w_sub (s := ⟨[(0, .one (.c (.mu 1000 (fs 0 0) 7 0 ((laws_markFlyStepS_v1 i1 s1).map FlyStep.row).length))), (1, .one (.c (.v (.int .i64 (wr (s1.1 + 1)))))), (5, .one (.c (.v (.int .i64 ((i1 : Nat) : Int)))))], [(1000, some (fs 0 0, .arr 7 ((laws_markFlyStepS_v1 i1 s1).map FlyStep.row)))], 64⟩) (cst (by simp only [LN, laws_markFlyStepS_v1, laws_markFlyStepS_v2, laws_markFlyStepS_v3, laws_markFlyStepS_v4, laws_markFlyStepS_v5]) (sb (s := ⟨[(0, .one (.c (.mu 1000 (fs 0 0) 7 0 ((s1.2.set i1 ({ s1.2.getD i1 default with X := s1.1 } : FlyStep)).map FlyStep.row).length))), (1, .one (.c (.v (.int .i64 (wr (s1.1 + 1)))))), (5, .one (.c (.v (.int .i64 ((i1 : Nat) : Int)))))], [(1000, some (fs 0 0, .arr 7 ((laws_markFlyStepS_v1 i1 s1).map FlyStep.row)))], 64⟩) (by kernel_rfl))) ?_
      refine xr hT [.wr] (fun f8 => ⟨[(0, .one (.c (.mu 1000 (fs 0 0) 7 0 ((laws_markFlyStepS_v1 i1 s1).map FlyStep.row).length))), (1, .one (.c (.v (.int .i64 (wr ((wr (s1.1 + 1)) + 1)))))), (5, .one (.c (.v (.int .i64 ((i1 : Nat) : Int)))))], [(1000, some (fs 0 0, .arr 7 ((laws_markFlyStepS_v1 i1 s1).map FlyStep.row)))], 64⟩) (fun f => by kernel_rfl) (fun f => by kernel_rfl) fun f8 => ?_
      refine xr hT [ix FlyStep.row (laws_markFlyStepS_v1 i1 s1) i1 (by (first | omega | ((try simp only [LN, laws_markFlyStepS_v1, laws_markFlyStepS_v2, laws_markFlyStepS_v3, laws_markFlyStepS_v4, laws_markFlyStepS_v5]); omega) | ((try simp only [wr, IntKind.wrap_i64, LN, laws_markFlyStepS_v1, laws_markFlyStepS_v2, laws_markFlyStepS_v3, laws_markFlyStepS_v4, laws_markFlyStepS_v5] at *); omega) | (simp_all <;> omega))), .st inferInstance true FlyStep.row (laws_markFlyStepS_v1 i1 s1) i1 ({ (laws_markFlyStepS_v1 i1 s1).getD i1 default with Low := wr ((wr (s1.1 + 1)) + 1) } : FlyStep) (fun h => by (first | omega | ((try simp only [LN, laws_markFlyStepS_v1, laws_markFlyStepS_v2, laws_markFlyStepS_v3, laws_markFlyStepS_v4, laws_markFlyStepS_v5]); omega) | ((try simp only [wr, IntKind.wrap_i64, LN, laws_markFlyStepS_v1, laws_markFlyStepS_v2, laws_markFlyStepS_v3, laws_markFlyStepS_v4, laws_markFlyStepS_v5] at *); omega) | (simp_all <;> omega)))] (fun f9 => ⟨[(0, .one (.c (.mu 1000 (fs 0 0) 7 0 ((laws_markFlyStepS_v1 i1 s1).map FlyStep.row).length))), (1, .one (.c (.v (.int .i64 (wr ((wr (s1.1 + 1)) + 1)))))), (5, .one (.c (.v (.int .i64 ((i1 : Nat) : Int)))))], [(1000, some (fs 0 0, .arr 7 (((laws_markFlyStepS_v1 i1 s1).set i1 ({ (laws_markFlyStepS_v1 i1 s1).getD i1 default with Low := wr ((wr (s1.1 + 1)) + 1) } : FlyStep)).map FlyStep.row)))], 64⟩) (fun f => by kernel_rfl) (fun f => by kernel_rfl) fun f9 => ?_
      refine w_sub (s := ⟨[(0, .one (.c (.mu 1000 (fs 0 0) 7 0 (((laws_markFlyStepS_v1 i1 s1).set i1 ({ (laws_markFlyStepS_v1 i1 s1).getD i1 default with Low := wr ((wr (s1.1 + 1)) + 1) } : FlyStep)).map FlyStep.row).length))), (1, .one (.c (.v (.int .i64 (wr ((wr (s1.1 + 1)) + 1)))))), (5, .one (.c (.v (.int .i64 ((i1 : Nat) : Int)))))], [(1000, some (fs 0 0, .arr 7 (((laws_markFlyStepS_v1 i1 s1).set i1 ({ (laws_markFlyStepS_v1 i1 s1).getD i1 default with Low := wr ((wr (s1.1 + 1)) + 1) } : FlyStep)).map FlyStep.row)))], 64⟩) (cst (by simp only [LN, laws_markFlyStepS_v1, laws_markFlyStepS_v2, laws_markFlyStepS_v3, laws_markFlyStepS_v4, laws_markFlyStepS_v5]) (sb (s := ⟨[(0, .one (.c (.mu 1000 (fs 0 0) 7 0 ((laws_markFlyStepS_v1 i1 s1).map FlyStep.row).length))), (1, .one (.c (.v (.int .i64 (wr ((wr (s1.1 + 1)) + 1)))))), (5, .one (.c (.v (.int .i64 ((i1 : Nat) : Int)))))], [(1000, some (fs 0 0, .arr 7 (((laws_markFlyStepS_v1 i1 s1).set i1 ({ (laws_markFlyStepS_v1 i1 s1).getD i1 default with Low := wr ((wr (s1.1 + 1)) + 1) } : FlyStep)).map FlyStep.row)))], 64⟩) (by kernel_rfl))) ?_
      refine xr hT [.wr] (fun f10 => ⟨[(0, .one (.c (.mu 1000 (fs 0 0) 7 0 (((laws_markFlyStepS_v1 i1 s1).set i1 ({ (laws_markFlyStepS_v1 i1 s1).getD i1 default with Low := wr ((wr (s1.1 + 1)) + 1) } : FlyStep)).map FlyStep.row).length))), (1, .one (.c (.v (.int .i64 (wr ((wr ((wr (s1.1 + 1)) + 1)) + 1)))))), (5, .one (.c (.v (.int .i64 ((i1 : Nat) : Int)))))], [(1000, some (fs 0 0, .arr 7 (((laws_markFlyStepS_v1 i1 s1).set i1 ({ (laws_markFlyStepS_v1 i1 s1).getD i1 default with Low := wr ((wr (s1.1 + 1)) + 1) } : FlyStep)).map FlyStep.row)))], 64⟩) (fun f => by kernel_rfl) (fun f => by kernel_rfl) fun f10 => ?_
      refine xr hT [ix FlyStep.row ((laws_markFlyStepS_v1 i1 s1).set i1 ({ (laws_markFlyStepS_v1 i1 s1).getD i1 default with Low := wr ((wr (s1.1 + 1)) + 1) } : FlyStep)) i1 (by (first | omega | ((try simp only [LN, laws_markFlyStepS_v1, laws_markFlyStepS_v2, laws_markFlyStepS_v3, laws_markFlyStepS_v4, laws_markFlyStepS_v5]); omega) | ((try simp only [wr, IntKind.wrap_i64, LN, laws_markFlyStepS_v1, laws_markFlyStepS_v2, laws_markFlyStepS_v3, laws_markFlyStepS_v4, laws_markFlyStepS_v5] at *); omega) | (simp_all <;> omega))), .st inferInstance true FlyStep.row ((laws_markFlyStepS_v1 i1 s1).set i1 ({ (laws_markFlyStepS_v1 i1 s1).getD i1 default with Low := wr ((wr (s1.1 + 1)) + 1) } : FlyStep)) i1 ({ ((laws_markFlyStepS_v1 i1 s1).set i1 ({ (laws_markFlyStepS_v1 i1 s1).getD i1 default with Low := wr ((wr (s1.1 + 1)) + 1) } : FlyStep)).getD i1 default with High := wr ((wr ((wr (s1.1 + 1)) + 1)) + 1) } : FlyStep) (fun h => by (first | omega | ((try simp only [LN, laws_markFlyStepS_v1, laws_markFlyStepS_v2, laws_markFlyStepS_v3, laws_markFlyStepS_v4, laws_markFlyStepS_v5]); omega) | ((try simp only [wr, IntKind.wrap_i64, LN, laws_markFlyStepS_v1, laws_markFlyStepS_v2, laws_markFlyStepS_v3, laws_markFlyStepS_v4, laws_markFlyStepS_v5] at *); omega) | (simp_all <;> omega)))] (fun f11 => ⟨[(0, .one (.c (.mu 1000 (fs 0 0) 7 0 (((laws_markFlyStepS_v1 i1 s1).set i1 ({ (laws_markFlyStepS_v1 i1 s1).getD i1 default with Low := wr ((wr (s1.1 + 1)) + 1) } : FlyStep)).map FlyStep.row).length))), (1, .one (.c (.v (.int .i64 (wr ((wr ((wr (s1.1 + 1)) + 1)) + 1)))))), (5, .one (.c (.v (.int .i64 ((i1 : Nat) : Int)))))], [(1000, some (fs 0 0, .arr 7 ((laws_markFlyStepS_v2 i1 s1).map FlyStep.row)))], 64⟩) (fun f => by kernel_rfl) (fun f => by kernel_rfl) fun f11 => ?_
      refine w_sub (s := ⟨[(0, .one (.c (.mu 1000 (fs 0 0) 7 0 ((laws_markFlyStepS_v2 i1 s1).map FlyStep.row).length))), (1, .one (.c (.v (.int .i64 (wr ((wr ((wr (s1.1 + 1)) + 1)) + 1)))))), (5, .one (.c (.v (.int .i64 ((i1 : Nat) : Int)))))], [(1000, some (fs 0 0, .arr 7 ((laws_markFlyStepS_v2 i1 s1).map FlyStep.row)))], 64⟩) (cst (by simp only [LN, laws_markFlyStepS_v1, laws_markFlyStepS_v2, laws_markFlyStepS_v3, laws_markFlyStepS_v4, laws_markFlyStepS_v5]) (sb (s := ⟨[(0, .one (.c (.mu 1000 (fs 0 0) 7 0 (((laws_markFlyStepS_v1 i1 s1).set i1 ({ (laws_markFlyStepS_v1 i1 s1).getD i1 default with Low := wr ((wr (s1.1 + 1)) + 1) } : FlyStep)).map FlyStep.row).length))), (1, .one (.c (.v (.int .i64 (wr ((wr ((wr (s1.1 + 1)) + 1)) + 1)))))), (5, .one (.c (.v (.int .i64 ((i1 : Nat) : Int)))))], [(1000, some (fs 0 0, .arr 7 ((laws_markFlyStepS_v2 i1 s1).map FlyStep.row)))], 64⟩) (by kernel_rfl))) ?_
      refine xr hT [.wr] (fun f12 => ⟨[(0, .one (.c (.mu 1000 (fs 0 0) 7 0 ((laws_markFlyStepS_v2 i1 s1).map FlyStep.row).length))), (1, .one (.c (.v (.int .i64 (wr ((wr ((wr ((wr (s1.1 + 1)) + 1)) + 1)) + 1)))))), (5, .one (.c (.v (.int .i64 ((i1 : Nat) : Int)))))], [(1000, some (fs 0 0, .arr 7 ((laws_markFlyStepS_v2 i1 s1).map FlyStep.row)))], 64⟩) (fun f => by kernel_rfl) (fun f => by kernel_rfl) fun f12 => ?_
      refine xr hT [ix FlyStep.row (laws_markFlyStepS_v2 i1 s1) i1 (by (first | omega | ((try simp only [LN, laws_markFlyStepS_v1, laws_markFlyStepS_v2, laws_markFlyStepS_v3, laws_markFlyStepS_v4, laws_markFlyStepS_v5]); omega) | ((try simp only [wr, IntKind.wrap_i64, LN, laws_markFlyStepS_v1, laws_markFlyStepS_v2, laws_markFlyStepS_v3, laws_markFlyStepS_v4, laws_markFlyStepS_v5] at *); omega) | (simp_all <;> omega))), .st inferInstance true FlyStep.row (laws_markFlyStepS_v2 i1 s1) i1 ({ (laws_markFlyStepS_v2 i1 s1).getD i1 default with From := wr ((wr ((wr ((wr (s1.1 + 1)) + 1)) + 1)) + 1) } : FlyStep) (fun h => by (first | omega | ((try simp only [LN, laws_markFlyStepS_v1, laws_markFlyStepS_v2, laws_markFlyStepS_v3, laws_markFlyStepS_v4, laws_markFlyStepS_v5]); omega) | ((try simp only [wr, IntKind.wrap_i64, LN, laws_markFlyStepS_v1, laws_markFlyStepS_v2, laws_markFlyStepS_v3, laws_markFlyStepS_v4, laws_markFlyStepS_v5] at *); omega) | (simp_all <;> omega)))] (fun f13 => ⟨[(0, .one (.c (.mu 1000 (fs 0 0) 7 0 ((laws_markFlyStepS_v2 i1 s1).map FlyStep.row).length))), (1, .one (.c (.v (.int .i64 (wr ((wr ((wr ((wr (s1.1 + 1)) + 1)) + 1)) + 1)))))), (5, .one (.c (.v (.int .i64 ((i1 : Nat) : Int)))))], [(1000, some (fs 0 0, .arr 7 ((laws_markFlyStepS_v3 i1 s1).map FlyStep.row)))], 64⟩) (fun f => by kernel_rfl) (fun f => by kernel_rfl) fun f13 => ?_
      refine w_sub (s := ⟨[(0, .one (.c (.mu 1000 (fs 0 0) 7 0 ((laws_markFlyStepS_v3 i1 s1).map FlyStep.row).length))), (1, .one (.c (.v (.int .i64 (wr ((wr ((wr ((wr (s1.1 + 1)) + 1)) + 1)) + 1)))))), (5, .one (.c (.v (.int .i64 ((i1 : Nat) : Int)))))], [(1000, some (fs 0 0, .arr 7 ((laws_markFlyStepS_v3 i1 s1).map FlyStep.row)))], 64⟩) (cst (by simp only [LN, laws_markFlyStepS_v1, laws_markFlyStepS_v2, laws_markFlyStepS_v3, laws_markFlyStepS_v4, laws_markFlyStepS_v5]) (sb (s := ⟨[(0, .one (.c (.mu 1000 (fs 0 0) 7 0 ((laws_markFlyStepS_v2 i1 s1).map FlyStep.row).length))), (1, .one (.c (.v (.int .i64 (wr ((wr ((wr ((wr (s1.1 + 1)) + 1)) + 1)) + 1)))))), (5, .one (.c (.v (.int .i64 ((i1 : Nat) : Int)))))], [(1000, some (fs 0 0, .arr 7 ((laws_markFlyStepS_v3 i1 s1).map FlyStep.row)))], 64⟩) (by kernel_rfl))) ?_
      refine xr hT [.wr] (fun f14 => ⟨[(0, .one (.c (.mu 1000 (fs 0 0) 7 0 ((laws_markFlyStepS_v3 i1 s1).map FlyStep.row).length))), (1, .one (.c (.v (.int .i64 (wr ((wr ((wr ((wr ((wr (s1.1 + 1)) + 1)) + 1)) + 1)) + 1)))))), (5, .one (.c (.v (.int .i64 ((i1 : Nat) : Int)))))], [(1000, some (fs 0 0, .arr 7 ((laws_markFlyStepS_v3 i1 s1).map FlyStep.row)))], 64⟩) (fun f => by kernel_rfl) (fun f => by kernel_rfl) fun f14 => ?_
      refine xr hT [ix FlyStep.row (laws_markFlyStepS_v3 i1 s1) i1 (by (first | omega | ((try simp only [LN, laws_markFlyStepS_v1, laws_markFlyStepS_v2, laws_markFlyStepS_v3, laws_markFlyStepS_v4, laws_markFlyStepS_v5]); omega) | ((try simp only [wr, IntKind.wrap_i64, LN, laws_markFlyStepS_v1, laws_markFlyStepS_v2, laws_markFlyStepS_v3, laws_markFlyStepS_v4, laws_markFlyStepS_v5] at *); omega) | (simp_all <;> omega))), .st inferInstance true FlyStep.row (laws_markFlyStepS_v3 i1 s1) i1 ({ (laws_markFlyStepS_v3 i1 s1).getD i1 default with By := wr ((wr ((wr ((wr ((wr (s1.1 + 1)) + 1)) + 1)) + 1)) + 1) } : FlyStep) (fun h => by (first | omega | ((try simp only [LN, laws_markFlyStepS_v1, laws_markFlyStepS_v2, laws_markFlyStepS_v3, laws_markFlyStepS_v4, laws_markFlyStepS_v5]); omega) | ((try simp only [wr, IntKind.wrap_i64, LN, laws_markFlyStepS_v1, laws_markFlyStepS_v2, laws_markFlyStepS_v3, laws_markFlyStepS_v4, laws_markFlyStepS_v5] at *); omega) | (simp_all <;> omega)))] (fun f15 => ⟨[(0, .one (.c (.mu 1000 (fs 0 0) 7 0 ((laws_markFlyStepS_v3 i1 s1).map FlyStep.row).length))), (1, .one (.c (.v (.int .i64 (wr ((wr ((wr ((wr ((wr (s1.1 + 1)) + 1)) + 1)) + 1)) + 1)))))), (5, .one (.c (.v (.int .i64 ((i1 : Nat) : Int)))))], [(1000, some (fs 0 0, .arr 7 ((laws_markFlyStepS_v4 i1 s1).map FlyStep.row)))], 64⟩) (fun f => by kernel_rfl) (fun f => by kernel_rfl) fun f15 => ?_
      refine w_sub (s := ⟨[(0, .one (.c (.mu 1000 (fs 0 0) 7 0 ((laws_markFlyStepS_v4 i1 s1).map FlyStep.row).length))), (1, .one (.c (.v (.int .i64 (wr ((wr ((wr ((wr ((wr (s1.1 + 1)) + 1)) + 1)) + 1)) + 1)))))), (5, .one (.c (.v (.int .i64 ((i1 : Nat) : Int)))))], [(1000, some (fs 0 0, .arr 7 ((laws_markFlyStepS_v4 i1 s1).map FlyStep.row)))], 64⟩) (cst (by simp only [LN, laws_markFlyStepS_v1, laws_markFlyStepS_v2, laws_markFlyStepS_v3, laws_markFlyStepS_v4, laws_markFlyStepS_v5]) (sb (s := ⟨[(0, .one (.c (.mu 1000 (fs 0 0) 7 0 ((laws_markFlyStepS_v3 i1 s1).map FlyStep.row).length))), (1, .one (.c (.v (.int .i64 (wr ((wr ((wr ((wr ((wr (s1.1 + 1)) + 1)) + 1)) + 1)) + 1)))))), (5, .one (.c (.v (.int .i64 ((i1 : Nat) : Int)))))], [(1000, some (fs 0 0, .arr 7 ((laws_markFlyStepS_v4 i1 s1).map FlyStep.row)))], 64⟩) (by kernel_rfl))) ?_
      refine xr hT [.wr] (fun f16 => ⟨[(0, .one (.c (.mu 1000 (fs 0 0) 7 0 ((laws_markFlyStepS_v4 i1 s1).map FlyStep.row).length))), (1, .one (.c (.v (.int .i64 (wr ((wr ((wr ((wr ((wr ((wr (s1.1 + 1)) + 1)) + 1)) + 1)) + 1)) + 1)))))), (5, .one (.c (.v (.int .i64 ((i1 : Nat) : Int)))))], [(1000, some (fs 0 0, .arr 7 ((laws_markFlyStepS_v4 i1 s1).map FlyStep.row)))], 64⟩) (fun f => by kernel_rfl) (fun f => by kernel_rfl) fun f16 => ?_
      refine xr hT [.nz true 3 (fun h => by omega), ix FlyStep.row (laws_markFlyStepS_v4 i1 s1) i1 (by (first | omega | ((try simp only [LN, laws_markFlyStepS_v1, laws_markFlyStepS_v2, laws_markFlyStepS_v3, laws_markFlyStepS_v4, laws_markFlyStepS_v5]); omega) | ((try simp only [wr, IntKind.wrap_i64, LN, laws_markFlyStepS_v1, laws_markFlyStepS_v2, laws_markFlyStepS_v3, laws_markFlyStepS_v4, laws_markFlyStepS_v5] at *); omega) | (simp_all <;> omega))), .st inferInstance true FlyStep.row (laws_markFlyStepS_v4 i1 s1) i1 ({ (laws_markFlyStepS_v4 i1 s1).getD i1 default with Hold := decide ((Int.tmod (wr ((wr ((wr ((wr ((wr ((wr (s1.1 + 1)) + 1)) + 1)) + 1)) + 1)) + 1)) 3) = 0) } : FlyStep) (fun h => by (first | omega | ((try simp only [LN, laws_markFlyStepS_v1, laws_markFlyStepS_v2, laws_markFlyStepS_v3, laws_markFlyStepS_v4, laws_markFlyStepS_v5]); omega) | ((try simp only [wr, IntKind.wrap_i64, LN, laws_markFlyStepS_v1, laws_markFlyStepS_v2, laws_markFlyStepS_v3, laws_markFlyStepS_v4, laws_markFlyStepS_v5] at *); omega) | (simp_all <;> omega)))] (fun f17 => ⟨[(0, .one (.c (.mu 1000 (fs 0 0) 7 0 ((laws_markFlyStepS_v4 i1 s1).map FlyStep.row).length))), (1, .one (.c (.v (.int .i64 (wr ((wr ((wr ((wr ((wr ((wr (s1.1 + 1)) + 1)) + 1)) + 1)) + 1)) + 1)))))), (5, .one (.c (.v (.int .i64 ((i1 : Nat) : Int)))))], [(1000, some (fs 0 0, .arr 7 ((laws_markFlyStepS_v5 i1 s1).map FlyStep.row)))], 64⟩) (fun f => by kernel_rfl) (fun f => by kernel_rfl) fun f17 => ?_
      refine w_sub (s := ⟨[(0, .one (.c (.mu 1000 (fs 0 0) 7 0 ((laws_markFlyStepS_v5 i1 s1).map FlyStep.row).length))), (1, .one (.c (.v (.int .i64 (wr ((wr ((wr ((wr ((wr ((wr (s1.1 + 1)) + 1)) + 1)) + 1)) + 1)) + 1)))))), (5, .one (.c (.v (.int .i64 ((i1 : Nat) : Int)))))], [(1000, some (fs 0 0, .arr 7 ((laws_markFlyStepS_v5 i1 s1).map FlyStep.row)))], 64⟩) (cst (by simp only [LN, laws_markFlyStepS_v1, laws_markFlyStepS_v2, laws_markFlyStepS_v3, laws_markFlyStepS_v4, laws_markFlyStepS_v5]) (sb (s := ⟨[(0, .one (.c (.mu 1000 (fs 0 0) 7 0 ((laws_markFlyStepS_v4 i1 s1).map FlyStep.row).length))), (1, .one (.c (.v (.int .i64 (wr ((wr ((wr ((wr ((wr ((wr (s1.1 + 1)) + 1)) + 1)) + 1)) + 1)) + 1)))))), (5, .one (.c (.v (.int .i64 ((i1 : Nat) : Int)))))], [(1000, some (fs 0 0, .arr 7 ((laws_markFlyStepS_v5 i1 s1).map FlyStep.row)))], 64⟩) (by kernel_rfl))) ?_
      refine xr1 (fun _ => rfl) hT [.wr] (fun f18 => ⟨[(0, .one (.c (.mu 1000 (fs 0 0) 7 0 ((laws_markFlyStepS_v5 i1 s1).map FlyStep.row).length))), (1, .one (.c (.v (.int .i64 (wr ((wr ((wr ((wr ((wr ((wr ((wr (s1.1 + 1)) + 1)) + 1)) + 1)) + 1)) + 1)) + 1)))))), (5, .one (.c (.v (.int .i64 ((i1 : Nat) : Int)))))], [(1000, some (fs 0 0, .arr 7 ((laws_markFlyStepS_v5 i1 s1).map FlyStep.row)))], 64⟩) (fun f => by kernel_rfl) (fun f => by kernel_rfl) fun f18 => ?_
      refine x_reg hT [.ex true (((i1 : Nat) : Int) + ((1 : Nat) : Int)) ((((i1 + 1) : Nat) : Int)) (fun _ => wr_nat (n := i1) (c := 1) (by omega))] (fun f19 => laws_markFlyStepS_I1 p0 p1 fs (i1 + 1) (wr ((wr ((wr ((wr ((wr ((wr ((wr (s1.1 + 1)) + 1)) + 1)) + 1)) + 1)) + 1)) + 1), (laws_markFlyStepS_v5 i1 s1)) (lst [])) (fun f => by kernel_rfl) (fun f => by kernel_rfl) fun f19 s' hs' => ?_
      exact ⟨(wr ((wr ((wr ((wr ((wr ((wr ((wr (s1.1 + 1)) + 1)) + 1)) + 1)) + 1)) + 1)) + 1), (laws_markFlyStepS_v5 i1 s1)), (lst []), hl1, (by (try simp only [LN, laws_markFlyStepS_v1, laws_markFlyStepS_v2, laws_markFlyStepS_v3, laws_markFlyStepS_v4, laws_markFlyStepS_v5] at *); omega), hX1.trans (forN_next hl1 (hB1.symm.trans hE1)), hs'⟩
    have hq := of_decide_eq_false h4
    refine w_exit ?_
    exact ⟨s1, (lst []), (by (try simp only [LN, laws_markFlyStepS_v1, laws_markFlyStepS_v2, laws_markFlyStepS_v3, laws_markFlyStepS_v4, laws_markFlyStepS_v5] at *); omega), hX1.trans (forN_end (by first | omega | ((try simp only [LN, laws_markFlyStepS_v1, laws_markFlyStepS_v2, laws_markFlyStepS_v3, laws_markFlyStepS_v4, laws_markFlyStepS_v5] at *); omega))), sb (by kernel_rfl)⟩
  intro s1 x1 hF22 hR20
  try simp only [LN, laws_markFlyStepS_v1, laws_markFlyStepS_v2, laws_markFlyStepS_v3, laws_markFlyStepS_v4, laws_markFlyStepS_v5] at hF22
  rw [laws_markFlyStepS_r1] at hR20
  refine xr hT [] (fun f21 => ⟨[(4, .one (.c (.v (.int .i64 s1.1))))], [(1000, some (fs 0 0, .arr 7 (s1.2.map FlyStep.row)))], 64⟩) (fun f => by kernel_rfl) (fun f => by kernel_rfl) fun f21 => ?_
  refine w_ret ?_
  subst hR20
  exact x_ret (by kernel_rfl)
theorem f_laws_markFlyStepS (p0 : List FlyStep) (p1 : Int) : (laws_markFlyStepS p0 p1).2.length = p0.length := by
  unfold laws_markFlyStepS
  refine forN_inv (fun (i : Nat) (s : Int × List FlyStep) => s.2.length = p0.length) (fun (r : Int × List FlyStep) => r.2.length = p0.length) (p0.length) (fun j s hj h => ?_) (fun s h => h) _ 0 _ rfl (Nat.zero_le _) rfl
  unfold laws_markFlyStepS_b1
  simp only [all_next]
  (try simp only [LN, laws_markFlyStepS_v1, laws_markFlyStepS_v2, laws_markFlyStepS_v3, laws_markFlyStepS_v4, laws_markFlyStepS_v5])
  first | done | exact h | simp [h]

/-- laws.markFlyPath -/
def laws_markFlyPath (p0 : FlyPath) (p1 : Int) : Int × FlyPath := ((laws_markFlyStepS p0.Steps p1).1, (⟨p0.Kind, (laws_markFlyStepS p0.Steps p1).2, p0.From, p0.By⟩ : FlyPath))
theorem c33 (p0 : FlyPath) (p1 : Int) (k0_0 : FlyPath.ok p0) : Fn Proofs.Try.prog 33 [⟨.mt, true, FlyPath.cs .own p0⟩, ⟨.val, false, [.v (.int .i64 p1)]⟩] [.c (.v (.int .i64 (laws_markFlyPath p0 p1).1))] [FlyPath.cs .own (laws_markFlyPath p0 p1).2] := by
  obtain ⟨R, hR⟩ : ∃ R, R = laws_markFlyPath p0 p1 := ⟨_, rfl⟩
  rw [← hR]
  rw [laws_markFlyPath] at hR
  refine ⟨fn_intro hT Proofs.Try.func33 rfl rfl fun fs => ?_, _, Proofs.Try.func33, rfl, rfl⟩
  have q0 := k0_0; simp only [FlyPath.ok] at q0
  refine xr hT [] (fun f1 => ⟨[(1, .one (.c (.v (.int .i64 p1)))), (2, .one (.pt 2 (f1 0 0) 0))], [(2, some (f1 0 0, .box [.v (.int .i64 p0.Kind.Quick), .v (.int .i64 p0.Kind.Slow), .mu 1002 (fs 0 2) 7 0 (p0.Steps.map FlyStep.row).length, .v (.int .i64 p0.From), .v (.int .i64 p0.By)])), (1002, some (fs 0 2, .arr 7 (p0.Steps.map FlyStep.row)))], 10⟩) (fun f => by kernel_rfl) (fun f => by kernel_rfl) fun f1 => ?_
  refine xr hT [ca (c57 p0.Steps p1 (by omega))] (fun f2 => ⟨[(1, .one (.c (.v (.int .i64 ((laws_markFlyStepS p0.Steps p1).1)))))], [(1002, some (fs 0 2, .arr 7 (((laws_markFlyStepS p0.Steps p1).2).map FlyStep.row)))], 10⟩) (fun f => by kernel_rfl) (fun f => by kernel_rfl) fun f2 => ?_
  refine xr hT [] (fun f3 => ⟨[(4, .one (.c (.v (.int .i64 ((laws_markFlyStepS p0.Steps p1).1)))))], [(1002, some (fs 0 2, .arr 7 (((laws_markFlyStepS p0.Steps p1).2).map FlyStep.row)))], 10⟩) (fun f => by kernel_rfl) (fun f => by kernel_rfl) fun f3 => ?_
  refine w_ret ?_
  subst hR
  exact x_ret (by kernel_rfl)
theorem f_laws_markFlyPath (p0 : FlyPath) (p1 : Int) : (laws_markFlyPath p0 p1).2.Steps.length = p0.Steps.length := by
  simp only [laws_markFlyPath, LN, f_laws_markFlyStepS, and_self]

def laws_markIntS_I1 (p0 : (List Int)) (p1 : Int) (fs : Nat → Nat → Nat) (i1 : Nat) (s1 : Int × List Int) (x1 : Nat → Nat) : St := ⟨[(0, .one (.c (.mu 1000 (fs 0 0) 1 0 (s1.2.map Int.row).length))), (1, .one (.c (.v (.int .i64 s1.1)))), (5, .one (.c (.v (.int .i64 ((i1 : Nat) : Int)))))], [(1000, some (fs 0 0, .arr 1 (s1.2.map Int.row)))], 19⟩
def laws_markIntS_J1 (p0 : (List Int)) (p1 : Int) (fs : Nat → Nat → Nat) (s1 : Int × List Int) (x1 : Nat → Nat) : St := ⟨[(1, .one (.c (.v (.int .i64 s1.1))))], [(1000, some (fs 0 0, .arr 1 (s1.2.map Int.row)))], 19⟩
def laws_markIntS_b1 (p0 : (List Int)) (p1 : Int) (i1 : Nat) (s1 : Int × List Int) : Res (Int × List Int) (Int × (List Int)) := (.next (wr (s1.1 + 1), s1.2.set i1 (s1.1 : Int)))
def laws_markIntS_r1 (p0 : (List Int)) (p1 : Int) (s1 : Int × List Int) : (Int × (List Int)) := (s1.1, s1.2)
/-- laws.markIntS -/
def laws_markIntS (p0 : (List Int)) (p1 : Int) : Int × (List Int) := (Res.fin (laws_markIntS_r1 p0 p1) (forN (laws_markIntS_b1 p0 p1) ((p0).length - 0) 0 (p1, p0)))
theorem c34 (p0 : (List Int)) (p1 : Int) (k0_0 : p0.length ≤ 1048576) : Fn Proofs.Try.prog 34 [⟨.mt, false, [.sl .own 1 (p0.map Int.row)]⟩, ⟨.val, false, [.v (.int .i64 p1)]⟩] [.c (.v (.int .i64 (laws_markIntS p0 p1).1))] [[.sl .own 1 ((laws_markIntS p0 p1).2.map Int.row)]] := by
  obtain ⟨R, hR⟩ : ∃ R, R = laws_markIntS p0 p1 := ⟨_, rfl⟩
  rw [← hR]
  rw [laws_markIntS] at hR
  refine ⟨fn_intro hT Proofs.Try.func34 rfl rfl fun fs => ?_, _, Proofs.Try.func34, rfl, rfl⟩
  refine xr hT [] (fun f1 => ⟨[(0, .one (.c (.mu 1000 (fs 0 0) 1 0 (p0.map Int.row).length))), (1, .one (.c (.v (.int .i64 p1))))], [(1000, some (fs 0 0, .arr 1 (p0.map Int.row)))], 19⟩) (fun f => by kernel_rfl) (fun f => by kernel_rfl) fun f1 => ?_
  refine w_seq ?_
  refine xr hT [] (fun f2 => ⟨[(0, .one (.c (.mu 1000 (fs 0 0) 1 0 (p0.map Int.row).length))), (1, .one (.c (.v (.int .i64 p1)))), (5, .one (.c (.v (.int .i64 0))))], [(1000, some (fs 0 0, .arr 1 (p0.map Int.row)))], 19⟩) (fun f => by kernel_rfl) (fun f => by kernel_rfl) fun f2 => ?_
  refine w_forT (fun _ => rfl) (laws_markIntS_I1 p0 p1 fs) (laws_markIntS_J1 p0 p1 fs) (fun i1 s1 => s1.2.length = (p0).length) (fun s1 => s1.2.length = (p0).length) ((p0).length) 0 (laws_markIntS_b1 p0 p1) (laws_markIntS_r1 p0 p1) 0 ((p1, p0)) (lst []) (sb (by kernel_rfl)) (by first | rfl | ((try simp only [LN]); omega) | (simp; done) | (simp; omega)) hR ?_ ?_
  · skip
    intro i1 s1 x1 hI1 hX1
    try simp only [LN] at hI1
    refine w_seq ?_
    refine xr hT [.ln Int.row s1.2] (fun f3 => ⟨[(0, .one (.c (.mu 1000 (fs 0 0) 1 0 (s1.2.map Int.row).length))), (1, .one (.c (.v (.int .i64 s1.1)))), (5, .one (.c (.v (.int .i64 ((i1 : Nat) : Int))))), (9, .one (.c (.v (.bool (decide (((i1 : Nat) : Int) < (s1.2.length : Int)))))))], [(1000, some (fs 0 0, .arr 1 (s1.2.map Int.row)))], 19⟩) (fun f => by kernel_rfl) (fun f => by kernel_rfl) fun f3 => ?_
    refine w_cond rfl (fun h4 => ?_) fun h4 => ?_
    · skip
      have hl1 : i1 < (p0).length := by have hq := of_decide_eq_true h4; first | omega | ((try simp only [LN] at *); omega)
      have hl1x := hl1; try simp only [LN] at hl1x
      obtain ⟨B1, hB1⟩ : ∃ B, B = laws_markIntS_b1 p0 p1 i1 s1 := ⟨_, rfl⟩
      have hE1 := hB1
      rw [laws_markIntS_b1] at hE1
      refine w_skip ?_
      refine w_seq ?_
      refine w_block ?_
      refine xr hT [ix Int.row s1.2 i1 (by omega), .st inferInstance true Int.row s1.2 i1 (s1.1 : Int) (fun h => by omega)] (fun f5 => ⟨[(0, .one (.c (.mu 1000 (fs 0 0) 1 0 (s1.2.map Int.row).length))), (1, .one (.c (.v (.int .i64 s1.1)))), (5, .one (.c (.v (.int .i64 ((i1 : Nat) : Int)))))], [(1000, some (fs 0 0, .arr 1 ((s1.2.set i1 (s1.1 : Int)).map Int.row)))], 19⟩) (fun f => by kernel_rfl) (fun f => by kernel_rfl) fun f5 => ?_
      refine w_sub (s := ⟨[(0, .one (.c (.mu 1000 (fs 0 0) 1 0 ((s1.2.set i1 (s1.1 : Int)).map Int.row).length))), (1, .one (.c (.v (.int .i64 s1.1)))), (5, .one (.c (.v (.int .i64 ((i1 : Nat) : Int)))))], [(1000, some (fs 0 0, .arr 1 ((s1.2.set i1 (s1.1 : Int)).map Int.row)))], 19⟩) (cst (by simp only [LN]) (sb (s := ⟨[(0, .one (.c (.mu 1000 (fs 0 0) 1 0 (s1.2.map Int.row).length))), (1, .one (.c (.v (.int .i64 s1.1)))), (5, .one (.c (.v (.int .i64 ((i1 : Nat) : Int)))))], [(1000, some (fs 0 0, .arr 1 ((s1.2.set i1 (s1.1 : Int)).map Int.row)))], 19⟩) (by kernel_rfl))) ?_
      refine xr1 (fun _ => rfl) hT [.wr] (fun f6 => ⟨[(0, .one (.c (.mu 1000 (fs 0 0) 1 0 ((s1.2.set i1 (s1.1 : Int)).map Int.row).length))), (1, .one (.c (.v (.int .i64 (wr (s1.1 + 1)))))), (5, .one (.c (.v (.int .i64 ((i1 : Nat) : Int)))))], [(1000, some (fs 0 0, .arr 1 ((s1.2.set i1 (s1.1 : Int)).map Int.row)))], 19⟩) (fun f => by kernel_rfl) (fun f => by kernel_rfl) fun f6 => ?_
      refine x_reg hT [.ex true (((i1 : Nat) : Int) + ((1 : Nat) : Int)) ((((i1 + 1) : Nat) : Int)) (fun _ => wr_nat (n := i1) (c := 1) (by omega))] (fun f7 => laws_markIntS_I1 p0 p1 fs (i1 + 1) (wr (s1.1 + 1), s1.2.set i1 (s1.1 : Int)) (lst [])) (fun f => by kernel_rfl) (fun f => by kernel_rfl) fun f7 s' hs' => ?_
      exact ⟨(wr (s1.1 + 1), s1.2.set i1 (s1.1 : Int)), (lst []), hl1, (by (try simp only [LN] at *); omega), hX1.trans (forN_next hl1 (hB1.symm.trans hE1)), hs'⟩
    have hq := of_decide_eq_false h4
    refine w_exit ?_
    exact ⟨s1, (lst []), (by (try simp only [LN] at *); omega), hX1.trans (forN_end (by first | omega | ((try simp only [LN] at *); omega))), sb (by kernel_rfl)⟩
  intro s1 x1 hF10 hR8
  try simp only [LN] at hF10
  rw [laws_markIntS_r1] at hR8
  refine xr hT [] (fun f9 => ⟨[(4, .one (.c (.v (.int .i64 s1.1))))], [(1000, some (fs 0 0, .arr 1 (s1.2.map Int.row)))], 19⟩) (fun f => by kernel_rfl) (fun f => by kernel_rfl) fun f9 => ?_
  refine w_ret ?_
  subst hR8
  exact x_ret (by kernel_rfl)
theorem f_laws_markIntS (p0 : List Int) (p1 : Int) : (laws_markIntS p0 p1).2.length = p0.length := by
  unfold laws_markIntS
  refine forN_inv (fun (i : Nat) (s : Int × List Int) => s.2.length = p0.length) (fun (r : Int × List Int) => r.2.length = p0.length) (p0.length) (fun j s hj h => ?_) (fun s h => h) _ 0 _ rfl (Nat.zero_le _) rfl
  unfold laws_markIntS_b1
  simp only [all_next]
  (try simp only [LN])
  first | done | exact h | simp [h]

/-- laws.markLinkCraft -/
def laws_markLinkCraft (p0 : LinkCraft) (p1 : Int) : Int × LinkCraft := ((laws_markIntS p0.Flown ((laws_markFlyPath p0.Path p1).1)).1, (⟨p0.Name, p0.Number, p0.No, ⟨p0.Path.Kind, ((laws_markFlyPath p0.Path p1).2).Steps, p0.Path.From, p0.Path.By⟩, (laws_markIntS p0.Flown ((laws_markFlyPath p0.Path p1).1)).2⟩ : LinkCraft))
theorem c12 (p0 : LinkCraft) (p1 : Int) (k0_0 : LinkCraft.ok p0) : Fn Proofs.Try.prog 12 [⟨.mt, true, LinkCraft.cs .own p0⟩, ⟨.val, false, [.v (.int .i64 p1)]⟩] [.c (.v (.int .i64 (laws_markLinkCraft p0 p1).1))] [LinkCraft.cs .own (laws_markLinkCraft p0 p1).2] := by
  obtain ⟨R, hR⟩ : ∃ R, R = laws_markLinkCraft p0 p1 := ⟨_, rfl⟩
  rw [← hR]
  rw [laws_markLinkCraft] at hR
  refine ⟨fn_intro hT Proofs.Try.func12 rfl rfl fun fs => ?_, _, Proofs.Try.func12, rfl, rfl⟩
  have q0 := k0_0; simp only [LinkCraft.ok] at q0
  refine xr hT [] (fun f1 => ⟨[(1, .one (.c (.v (.int .i64 p1)))), (2, .one (.pt 2 (f1 0 0) 0))], [(2, some (f1 0 0, .box [.v (.string p0.Name), .v (.int .i64 p0.Number), .v (.int .i64 p0.No), .v (.int .i64 p0.Path.Kind.Quick), .v (.int .i64 p0.Path.Kind.Slow), .mu 1005 (fs 0 5) 7 0 (p0.Path.Steps.map FlyStep.row).length, .v (.int .i64 p0.Path.From), .v (.int .i64 p0.Path.By), .mu 1008 (fs 0 8) 1 0 (p0.Flown.map Int.row).length])), (1005, some (fs 0 5, .arr 7 (p0.Path.Steps.map FlyStep.row))), (1008, some (fs 0 8, .arr 1 (p0.Flown.map Int.row)))], 14⟩) (fun f => by kernel_rfl) (fun f => by kernel_rfl) fun f1 => ?_
  refine xr hT [ca (c33 p0.Path p1 (by first | assumption | exact (by omega : p0.Path.Steps.length ≤ 1048576)))] (fun f2 => ⟨[(1, .one (.c (.v (.int .i64 ((laws_markFlyPath p0.Path p1).1))))), (2, .one (.pt 2 (f1 0 0) 0))], [(2, some (f1 0 0, .box [.v (.string p0.Name), .v (.int .i64 p0.Number), .v (.int .i64 p0.No), .v (.int .i64 p0.Path.Kind.Quick), .v (.int .i64 p0.Path.Kind.Slow), .mu 1005 (fs 0 5) 7 0 (p0.Path.Steps.map FlyStep.row).length, .v (.int .i64 p0.Path.From), .v (.int .i64 p0.Path.By), .mu 1008 (fs 0 8) 1 0 (p0.Flown.map Int.row).length])), (1005, some (fs 0 5, .arr 7 ((((laws_markFlyPath p0.Path p1).2).Steps).map FlyStep.row))), (1008, some (fs 0 8, .arr 1 (p0.Flown.map Int.row)))], 14⟩) (fun f => by kernel_rfl) (fun f => by kernel_rfl) fun f2 => ?_
  refine w_sub (s := ⟨[(1, .one (.c (.v (.int .i64 ((laws_markFlyPath p0.Path p1).1))))), (2, .one (.pt 2 (f1 0 0) 0))], [(2, some (f1 0 0, .box [.v (.string p0.Name), .v (.int .i64 p0.Number), .v (.int .i64 p0.No), .v (.int .i64 p0.Path.Kind.Quick), .v (.int .i64 p0.Path.Kind.Slow), .mu 1005 (fs 0 5) 7 0 ((((laws_markFlyPath p0.Path p1).2).Steps).map FlyStep.row).length, .v (.int .i64 p0.Path.From), .v (.int .i64 p0.Path.By), .mu 1008 (fs 0 8) 1 0 (p0.Flown.map Int.row).length])), (1005, some (fs 0 5, .arr 7 ((((laws_markFlyPath p0.Path p1).2).Steps).map FlyStep.row))), (1008, some (fs 0 8, .arr 1 (p0.Flown.map Int.row)))], 14⟩) (cst (by simp only [LN, f_laws_markFlyPath, f_laws_markIntS]) (sb (s := ⟨[(1, .one (.c (.v (.int .i64 ((laws_markFlyPath p0.Path p1).1))))), (2, .one (.pt 2 (f1 0 0) 0))], [(2, some (f1 0 0, .box [.v (.string p0.Name), .v (.int .i64 p0.Number), .v (.int .i64 p0.No), .v (.int .i64 p0.Path.Kind.Quick), .v (.int .i64 p0.Path.Kind.Slow), .mu 1005 (fs 0 5) 7 0 (p0.Path.Steps.map FlyStep.row).length, .v (.int .i64 p0.Path.From), .v (.int .i64 p0.Path.By), .mu 1008 (fs 0 8) 1 0 (p0.Flown.map Int.row).length])), (1005, some (fs 0 5, .arr 7 ((((laws_markFlyPath p0.Path p1).2).Steps).map FlyStep.row))), (1008, some (fs 0 8, .arr 1 (p0.Flown.map Int.row)))], 14⟩) (by kernel_rfl))) ?_
  refine xr hT [ca (c34 p0.Flown ((laws_markFlyPath p0.Path p1).1) (by omega))] (fun f3 => ⟨[(1, .one (.c (.v (.int .i64 ((laws_markIntS p0.Flown ((laws_markFlyPath p0.Path p1).1)).1)))))], [(1005, some (fs 0 5, .arr 7 ((((laws_markFlyPath p0.Path p1).2).Steps).map FlyStep.row))), (1008, some (fs 0 8, .arr 1 (((laws_markIntS p0.Flown ((laws_markFlyPath p0.Path p1).1)).2).map Int.row)))], 14⟩) (fun f => by kernel_rfl) (fun f => by kernel_rfl) fun f3 => ?_
  refine xr hT [] (fun f4 => ⟨[(4, .one (.c (.v (.int .i64 ((laws_markIntS p0.Flown ((laws_markFlyPath p0.Path p1).1)).1)))))], [(1005, some (fs 0 5, .arr 7 ((((laws_markFlyPath p0.Path p1).2).Steps).map FlyStep.row))), (1008, some (fs 0 8, .arr 1 (((laws_markIntS p0.Flown ((laws_markFlyPath p0.Path p1).1)).2).map Int.row)))], 14⟩) (fun f => by kernel_rfl) (fun f => by kernel_rfl) fun f4 => ?_
  refine w_ret ?_
  subst hR
  exact x_ret (by kernel_rfl)
theorem f_laws_markLinkCraft (p0 : LinkCraft) (p1 : Int) : (laws_markLinkCraft p0 p1).2.Path.Steps.length = p0.Path.Steps.length ∧ (laws_markLinkCraft p0 p1).2.Flown.length = p0.Flown.length := by
  simp only [laws_markLinkCraft, LN, f_laws_markFlyPath, f_laws_markIntS, and_self]

/-- laws.markLinkWord -/
def laws_markLinkWord (p0 : LinkWord) (p1 : Int) : Int × LinkWord := ((laws_markFlyPath p0.Path p1).1, (⟨p0.Kind, p0.Name, p0.Number, ⟨p0.Path.Kind, ((laws_markFlyPath p0.Path p1).2).Steps, p0.Path.From, p0.Path.By⟩⟩ : LinkWord))
theorem c13 (p0 : LinkWord) (p1 : Int) (k0_0 : LinkWord.ok p0) : Fn Proofs.Try.prog 13 [⟨.mt, true, LinkWord.cs .own p0⟩, ⟨.val, false, [.v (.int .i64 p1)]⟩] [.c (.v (.int .i64 (laws_markLinkWord p0 p1).1))] [LinkWord.cs .own (laws_markLinkWord p0 p1).2] := by
  obtain ⟨R, hR⟩ : ∃ R, R = laws_markLinkWord p0 p1 := ⟨_, rfl⟩
  rw [← hR]
  rw [laws_markLinkWord] at hR
  refine ⟨fn_intro hT Proofs.Try.func13 rfl rfl fun fs => ?_, _, Proofs.Try.func13, rfl, rfl⟩
  have q0 := k0_0; simp only [LinkWord.ok] at q0
  refine xr hT [] (fun f1 => ⟨[(1, .one (.c (.v (.int .i64 p1)))), (2, .one (.pt 2 (f1 0 0) 0))], [(2, some (f1 0 0, .box [.v (.int .i64 p0.Kind), .v (.string p0.Name), .v (.int .i64 p0.Number), .v (.int .i64 p0.Path.Kind.Quick), .v (.int .i64 p0.Path.Kind.Slow), .mu 1005 (fs 0 5) 7 0 (p0.Path.Steps.map FlyStep.row).length, .v (.int .i64 p0.Path.From), .v (.int .i64 p0.Path.By)])), (1005, some (fs 0 5, .arr 7 (p0.Path.Steps.map FlyStep.row)))], 10⟩) (fun f => by kernel_rfl) (fun f => by kernel_rfl) fun f1 => ?_
  refine xr hT [ca (c33 p0.Path p1 (by first | assumption | exact (by omega : p0.Path.Steps.length ≤ 1048576)))] (fun f2 => ⟨[(1, .one (.c (.v (.int .i64 ((laws_markFlyPath p0.Path p1).1)))))], [(1005, some (fs 0 5, .arr 7 ((((laws_markFlyPath p0.Path p1).2).Steps).map FlyStep.row)))], 10⟩) (fun f => by kernel_rfl) (fun f => by kernel_rfl) fun f2 => ?_
  refine xr hT [] (fun f3 => ⟨[(4, .one (.c (.v (.int .i64 ((laws_markFlyPath p0.Path p1).1)))))], [(1005, some (fs 0 5, .arr 7 ((((laws_markFlyPath p0.Path p1).2).Steps).map FlyStep.row)))], 10⟩) (fun f => by kernel_rfl) (fun f => by kernel_rfl) fun f3 => ?_
  refine w_ret ?_
  subst hR
  exact x_ret (by kernel_rfl)
theorem f_laws_markLinkWord (p0 : LinkWord) (p1 : Int) : (laws_markLinkWord p0 p1).2.Path.Steps.length = p0.Path.Steps.length := by
  simp only [laws_markLinkWord, LN, f_laws_markFlyPath, and_self]

def laws_heldFlyStepS_I1 (p0 : (List FlyStep)) (p1 : Int) (fs : Nat → Nat → Nat) (i1 : Nat) (s1 : Int) (x1 : Nat → Nat) : St := ⟨[(0, .one (.c (.sl .bor 7 (p0.map FlyStep.row)))), (1, .one (.c (.v (.int .i64 s1)))), (5, .one (.c (.v (.int .i64 ((i1 : Nat) : Int)))))], [], 78⟩
def laws_heldFlyStepS_J1 (p0 : (List FlyStep)) (p1 : Int) (fs : Nat → Nat → Nat) (s1 : Int) (x1 : Nat → Nat) : St := ⟨[(1, .one (.c (.v (.int .i64 s1))))], [], 78⟩
def laws_heldFlyStepS_b1 (p0 : (List FlyStep)) (p1 : Int) (i1 : Nat) (s1 : Int) : Res (Int) Int := (if !decide (((p0.getD i1 default).X) = s1) then (.ret (-1)) else (if !decide (((p0.getD i1 default).Y) = (wr (s1 + 1))) then (.ret (-1)) else (if !decide (((p0.getD i1 default).Low) = (wr ((wr (s1 + 1)) + 1))) then (.ret (-1)) else (if !decide (((p0.getD i1 default).High) = (wr ((wr ((wr (s1 + 1)) + 1)) + 1))) then (.ret (-1)) else (if !decide (((p0.getD i1 default).From) = (wr ((wr ((wr ((wr (s1 + 1)) + 1)) + 1)) + 1))) then (.ret (-1)) else (if !decide (((p0.getD i1 default).By) = (wr ((wr ((wr ((wr ((wr (s1 + 1)) + 1)) + 1)) + 1)) + 1))) then (.ret (-1)) else (if !(((p0.getD i1 default).Hold) == (decide ((Int.tmod (wr ((wr ((wr ((wr ((wr ((wr (s1 + 1)) + 1)) + 1)) + 1)) + 1)) + 1)) 3) = 0))) then (.ret (-1)) else (.next (wr ((wr ((wr ((wr ((wr ((wr ((wr (s1 + 1)) + 1)) + 1)) + 1)) + 1)) + 1)) + 1))))))))))
def laws_heldFlyStepS_r1 (p0 : (List FlyStep)) (p1 : Int) (s1 : Int) : Int := s1
/-- laws.heldFlyStepS -/
def laws_heldFlyStepS (p0 : (List FlyStep)) (p1 : Int) : Int := (Res.fin (laws_heldFlyStepS_r1 p0 p1) (forN (laws_heldFlyStepS_b1 p0 p1) (p0.length - 0) 0 p1))
theorem c58 (p0 : (List FlyStep)) (p1 : Int) (k0_0 : p0.length ≤ 1048576) : Fn Proofs.Try.prog 58 [⟨.val, false, [.sl .bor 7 (p0.map FlyStep.row)]⟩, ⟨.val, false, [.v (.int .i64 p1)]⟩] [.c (.v (.int .i64 (laws_heldFlyStepS p0 p1)))] [] := by
  obtain ⟨R, hR⟩ : ∃ R, R = laws_heldFlyStepS p0 p1 := ⟨_, rfl⟩
  rw [← hR]
  rw [laws_heldFlyStepS] at hR
  refine ⟨fn_intro hT Proofs.Try.func58 rfl rfl fun fs => ?_, _, Proofs.Try.func58, rfl, rfl⟩
  refine xr hT [] (fun f1 => ⟨[(0, .one (.c (.sl .bor 7 (p0.map FlyStep.row)))), (1, .one (.c (.v (.int .i64 p1))))], [], 78⟩) (fun f => by kernel_rfl) (fun f => by kernel_rfl) fun f1 => ?_
  refine w_seq ?_
  refine xr hT [] (fun f2 => ⟨[(0, .one (.c (.sl .bor 7 (p0.map FlyStep.row)))), (1, .one (.c (.v (.int .i64 p1)))), (5, .one (.c (.v (.int .i64 0))))], [], 78⟩) (fun f => by kernel_rfl) (fun f => by kernel_rfl) fun f2 => ?_
  refine w_forT (fun _ => rfl) (laws_heldFlyStepS_I1 p0 p1 fs) (laws_heldFlyStepS_J1 p0 p1 fs) (fun i1 s1 => True) (fun s1 => True) (p0.length) 0 (laws_heldFlyStepS_b1 p0 p1) (laws_heldFlyStepS_r1 p0 p1) 0 (p1) (lst []) (sb (by kernel_rfl)) trivial hR ?_ ?_
  · skip
    intro i1 s1 x1 hI1 hX1
    refine w_seq ?_
    refine xr hT [.ln FlyStep.row p0] (fun f3 => ⟨[(0, .one (.c (.sl .bor 7 (p0.map FlyStep.row)))), (1, .one (.c (.v (.int .i64 s1)))), (5, .one (.c (.v (.int .i64 ((i1 : Nat) : Int))))), (9, .one (.c (.v (.bool (decide (((i1 : Nat) : Int) < (p0.length : Int)))))))], [], 78⟩) (fun f => by kernel_rfl) (fun f => by kernel_rfl) fun f3 => ?_
    refine w_cond rfl (fun h4 => ?_) fun h4 => ?_
    · skip
      have hl1 : i1 < p0.length := by have hq := of_decide_eq_true h4; first | omega | ((try simp only [LN] at *); omega)
      obtain ⟨B1, hB1⟩ : ∃ B, B = laws_heldFlyStepS_b1 p0 p1 i1 s1 := ⟨_, rfl⟩
      have hE1 := hB1
      rw [laws_heldFlyStepS_b1] at hE1
      refine w_skip ?_
      refine w_seq ?_
      refine w_block ?_
      refine w_seq ?_
      refine xr hT [ix FlyStep.row p0 i1 (by omega)] (fun f5 => ⟨[(0, .one (.c (.sl .bor 7 (p0.map FlyStep.row)))), (1, .one (.c (.v (.int .i64 s1)))), (5, .one (.c (.v (.int .i64 ((i1 : Nat) : Int))))), (18, .one (.c (.v (.bool (!decide (((p0.getD i1 default).X) = s1))))))], [], 78⟩) (fun f => by kernel_rfl) (fun f => by kernel_rfl) fun f5 => ?_
      refine w_cond rfl (fun h6 => ?_) fun h6 => ?_
      · rw [if_pos h6] at hE1
        have gh6 := nd1 h6
        refine xr hT [] (fun f7 => ⟨[(4, .one (.c (.v (.int .i64 (-1)))))], [], 78⟩) (fun f => by kernel_rfl) (fun f => by kernel_rfl) fun f7 => ?_
        refine w_ret ?_
        have hR := hX1.trans (forN_ret hl1 (hB1.symm.trans hE1))
        subst hR
        exact x_ret (by kernel_rfl)
      rw [if_neg (nt h6)] at hE1
      have gh6 := nd0 h6
      refine w_skip ?_
      refine xr hT [.wr] (fun f8 => ⟨[(0, .one (.c (.sl .bor 7 (p0.map FlyStep.row)))), (1, .one (.c (.v (.int .i64 (wr (s1 + 1)))))), (5, .one (.c (.v (.int .i64 ((i1 : Nat) : Int)))))], [], 78⟩) (fun f => by kernel_rfl) (fun f => by kernel_rfl) fun f8 => ?_
      refine w_seq ?_
      refine xr hT [ix FlyStep.row p0 i1 (by omega)] (fun f9 => ⟨[(0, .one (.c (.sl .bor 7 (p0.map FlyStep.row)))), (1, .one (.c (.v (.int .i64 (wr (s1 + 1)))))), (5, .one (.c (.v (.int .i64 ((i1 : Nat) : Int))))), (27, .one (.c (.v (.bool (!decide (((p0.getD i1 default).Y) = (wr (s1 + 1))))))))], [], 78⟩) (fun f => by kernel_rfl) (fun f => by kernel_rfl) fun f9 => ?_
      refine w_cond rfl (fun h10 => ?_) fun h10 => ?_
      · rw [if_pos h10] at hE1
        have gh10 := nd1 h10
        refine xr hT [] (fun f11 => ⟨[(4, .one (.c (.v (.int .i64 (-1)))))], [], 78⟩) (fun f => by kernel_rfl) (fun f => by kernel_rfl) fun f11 => ?_
        refine w_ret ?_
        have hR := hX1.trans (forN_ret hl1 (hB1.symm.trans hE1))
        subst hR
        exact x_ret (by kernel_rfl)
      rw [if_neg (nt h10)] at hE1
      have gh10 := nd0 h10
      refine w_skip ?_
      refine xr hT [.wr] (fun f12 => ⟨[(0, .one (.c (.sl .bor 7 (p0.map FlyStep.row)))), (1, .one (.c (.v (.int .i64 (wr ((wr (s1 + 1)) + 1)))))), (5, .one (.c (.v (.int .i64 ((i1 : Nat) : Int)))))], [], 78⟩) (fun f => by kernel_rfl) (fun f => by kernel_rfl) fun f12 => ?_
      refine w_seq ?_
      refine xr hT [ix FlyStep.row p0 i1 (by omega)] (fun f13 => ⟨[(0, .one (.c (.sl .bor 7 (p0.map FlyStep.row)))), (1, .one (.c (.v (.int .i64 (wr ((wr (s1 + 1)) + 1)))))), (5, .one (.c (.v (.int .i64 ((i1 : Nat) : Int))))), (36, .one (.c (.v (.bool (!decide (((p0.getD i1 default).Low) = (wr ((wr (s1 + 1)) + 1))))))))], [], 78⟩) (fun f => by kernel_rfl) (fun f => by kernel_rfl) fun f13 => ?_
      refine w_cond rfl (fun h14 => ?_) fun h14 => ?_
      · rw [if_pos h14] at hE1
        have gh14 := nd1 h14
        refine xr hT [] (fun f15 => ⟨[(4, .one (.c (.v (.int .i64 (-1)))))], [], 78⟩) (fun f => by kernel_rfl) (fun f => by kernel_rfl) fun f15 => ?_
        refine w_ret ?_
        have hR := hX1.trans (forN_ret hl1 (hB1.symm.trans hE1))
        subst hR
        exact x_ret (by kernel_rfl)
      rw [if_neg (nt h14)] at hE1
      have gh14 := nd0 h14
      refine w_skip ?_
      refine xr hT [.wr] (fun f16 => ⟨[(0, .one (.c (.sl .bor 7 (p0.map FlyStep.row)))), (1, .one (.c (.v (.int .i64 (wr ((wr ((wr (s1 + 1)) + 1)) + 1)))))), (5, .one (.c (.v (.int .i64 ((i1 : Nat) : Int)))))], [], 78⟩) (fun f => by kernel_rfl) (fun f => by kernel_rfl) fun f16 => ?_
      refine w_seq ?_
      refine xr hT [ix FlyStep.row p0 i1 (by omega)] (fun f17 => ⟨[(0, .one (.c (.sl .bor 7 (p0.map FlyStep.row)))), (1, .one (.c (.v (.int .i64 (wr ((wr ((wr (s1 + 1)) + 1)) + 1)))))), (5, .one (.c (.v (.int .i64 ((i1 : Nat) : Int))))), (45, .one (.c (.v (.bool (!decide (((p0.getD i1 default).High) = (wr ((wr ((wr (s1 + 1)) + 1)) + 1))))))))], [], 78⟩) (fun f => by kernel_rfl) (fun f => by kernel_rfl) fun f17 => ?_
      refine w_cond rfl (fun h18 => ?_) fun h18 => ?_
      · rw [if_pos h18] at hE1
        have gh18 := nd1 h18
        refine xr hT [] (fun f19 => ⟨[(4, .one (.c (.v (.int .i64 (-1)))))], [], 78⟩) (fun f => by kernel_rfl) (fun f => by kernel_rfl) fun f19 => ?_
        refine w_ret ?_
        have hR := hX1.trans (forN_ret hl1 (hB1.symm.trans hE1))
        subst hR
        exact x_ret (by kernel_rfl)
      rw [if_neg (nt h18)] at hE1
      have gh18 := nd0 h18
      refine w_skip ?_
      refine xr hT [.wr] (fun f20 => ⟨[(0, .one (.c (.sl .bor 7 (p0.map FlyStep.row)))), (1, .one (.c (.v (.int .i64 (wr ((wr ((wr ((wr (s1 + 1)) + 1)) + 1)) + 1)))))), (5, .one (.c (.v (.int .i64 ((i1 : Nat) : Int)))))], [], 78⟩) (fun f => by kernel_rfl) (fun f => by kernel_rfl) fun f20 => ?_
      refine w_seq ?_
      refine xr hT [ix FlyStep.row p0 i1 (by omega)] (fun f21 => ⟨[(0, .one (.c (.sl .bor 7 (p0.map FlyStep.row)))), (1, .one (.c (.v (.int .i64 (wr ((wr ((wr ((wr (s1 + 1)) + 1)) + 1)) + 1)))))), (5, .one (.c (.v (.int .i64 ((i1 : Nat) : Int))))), (54, .one (.c (.v (.bool (!decide (((p0.getD i1 default).From) = (wr ((wr ((wr ((wr (s1 + 1)) + 1)) + 1)) + 1))))))))], [], 78⟩) (fun f => by kernel_rfl) (fun f => by kernel_rfl) fun f21 => ?_
      refine w_cond rfl (fun h22 => ?_) fun h22 => ?_
      · rw [if_pos h22] at hE1
        have gh22 := nd1 h22
        refine xr hT [] (fun f23 => ⟨[(4, .one (.c (.v (.int .i64 (-1)))))], [], 78⟩) (fun f => by kernel_rfl) (fun f => by kernel_rfl) fun f23 => ?_
        refine w_ret ?_
        have hR := hX1.trans (forN_ret hl1 (hB1.symm.trans hE1))
        subst hR
        exact x_ret (by kernel_rfl)
      rw [if_neg (nt h22)] at hE1
      have gh22 := nd0 h22
      refine w_skip ?_
      refine xr hT [.wr] (fun f24 => ⟨[(0, .one (.c (.sl .bor 7 (p0.map FlyStep.row)))), (1, .one (.c (.v (.int .i64 (wr ((wr ((wr ((wr ((wr (s1 + 1)) + 1)) + 1)) + 1)) + 1)))))), (5, .one (.c (.v (.int .i64 ((i1 : Nat) : Int)))))], [], 78⟩) (fun f => by kernel_rfl) (fun f => by kernel_rfl) fun f24 => ?_
      refine w_seq ?_
      refine xr hT [ix FlyStep.row p0 i1 (by omega)] (fun f25 => ⟨[(0, .one (.c (.sl .bor 7 (p0.map FlyStep.row)))), (1, .one (.c (.v (.int .i64 (wr ((wr ((wr ((wr ((wr (s1 + 1)) + 1)) + 1)) + 1)) + 1)))))), (5, .one (.c (.v (.int .i64 ((i1 : Nat) : Int))))), (63, .one (.c (.v (.bool (!decide (((p0.getD i1 default).By) = (wr ((wr ((wr ((wr ((wr (s1 + 1)) + 1)) + 1)) + 1)) + 1))))))))], [], 78⟩) (fun f => by kernel_rfl) (fun f => by kernel_rfl) fun f25 => ?_
      refine w_cond rfl (fun h26 => ?_) fun h26 => ?_
      · rw [if_pos h26] at hE1
        have gh26 := nd1 h26
        refine xr hT [] (fun f27 => ⟨[(4, .one (.c (.v (.int .i64 (-1)))))], [], 78⟩) (fun f => by kernel_rfl) (fun f => by kernel_rfl) fun f27 => ?_
        refine w_ret ?_
        have hR := hX1.trans (forN_ret hl1 (hB1.symm.trans hE1))
        subst hR
        exact x_ret (by kernel_rfl)
      rw [if_neg (nt h26)] at hE1
      have gh26 := nd0 h26
      refine w_skip ?_
      refine xr hT [.wr] (fun f28 => ⟨[(0, .one (.c (.sl .bor 7 (p0.map FlyStep.row)))), (1, .one (.c (.v (.int .i64 (wr ((wr ((wr ((wr ((wr ((wr (s1 + 1)) + 1)) + 1)) + 1)) + 1)) + 1)))))), (5, .one (.c (.v (.int .i64 ((i1 : Nat) : Int)))))], [], 78⟩) (fun f => by kernel_rfl) (fun f => by kernel_rfl) fun f28 => ?_
      refine w_seq ?_
      refine xr hT [ix FlyStep.row p0 i1 (by omega), .nz true 3 (fun h => by omega), .und Proofs.Try.underlying4] (fun f29 => ⟨[(0, .one (.c (.sl .bor 7 (p0.map FlyStep.row)))), (1, .one (.c (.v (.int .i64 (wr ((wr ((wr ((wr ((wr ((wr (s1 + 1)) + 1)) + 1)) + 1)) + 1)) + 1)))))), (5, .one (.c (.v (.int .i64 ((i1 : Nat) : Int))))), (74, .one (.c (.v (.bool (!(((p0.getD i1 default).Hold) == (decide ((Int.tmod (wr ((wr ((wr ((wr ((wr ((wr (s1 + 1)) + 1)) + 1)) + 1)) + 1)) + 1)) 3) = 0))))))))], [], 78⟩) (fun f => by kernel_rfl) (fun f => by kernel_rfl) fun f29 => ?_
      refine w_cond rfl (fun h30 => ?_) fun h30 => ?_
      · rw [if_pos h30] at hE1
        have gh30 := h30; try simp only [Bool.not_eq_true', Bool.not_eq_false', decide_eq_true_eq, decide_eq_false_iff_not, Bool.and_eq_true, Bool.or_eq_true, Bool.and_eq_false_iff, Bool.or_eq_false_iff] at gh30
        refine xr hT [] (fun f31 => ⟨[(4, .one (.c (.v (.int .i64 (-1)))))], [], 78⟩) (fun f => by kernel_rfl) (fun f => by kernel_rfl) fun f31 => ?_
        refine w_ret ?_
        have hR := hX1.trans (forN_ret hl1 (hB1.symm.trans hE1))
        subst hR
        exact x_ret (by kernel_rfl)
      rw [if_neg (nt h30)] at hE1
      have gh30 := h30; try simp only [Bool.not_eq_true', Bool.not_eq_false', decide_eq_true_eq, decide_eq_false_iff_not, Bool.and_eq_true, Bool.or_eq_true, Bool.and_eq_false_iff, Bool.or_eq_false_iff] at gh30
      refine w_skip ?_
      refine xr1 (fun _ => rfl) hT [.wr] (fun f32 => ⟨[(0, .one (.c (.sl .bor 7 (p0.map FlyStep.row)))), (1, .one (.c (.v (.int .i64 (wr ((wr ((wr ((wr ((wr ((wr ((wr (s1 + 1)) + 1)) + 1)) + 1)) + 1)) + 1)) + 1)))))), (5, .one (.c (.v (.int .i64 ((i1 : Nat) : Int)))))], [], 78⟩) (fun f => by kernel_rfl) (fun f => by kernel_rfl) fun f32 => ?_
      refine x_reg hT [.ex true (((i1 : Nat) : Int) + ((1 : Nat) : Int)) ((((i1 + 1) : Nat) : Int)) (fun _ => wr_nat (n := i1) (c := 1) (by omega))] (fun f33 => laws_heldFlyStepS_I1 p0 p1 fs (i1 + 1) (wr ((wr ((wr ((wr ((wr ((wr ((wr (s1 + 1)) + 1)) + 1)) + 1)) + 1)) + 1)) + 1)) (lst [])) (fun f => by kernel_rfl) (fun f => by kernel_rfl) fun f33 s' hs' => ?_
      exact ⟨wr ((wr ((wr ((wr ((wr ((wr ((wr (s1 + 1)) + 1)) + 1)) + 1)) + 1)) + 1)) + 1), (lst []), hl1, trivial, hX1.trans (forN_next hl1 (hB1.symm.trans hE1)), hs'⟩
    have hq := of_decide_eq_false h4
    refine w_exit ?_
    exact ⟨s1, (lst []), trivial, hX1.trans (forN_end (by first | omega | ((try simp only [LN] at *); omega))), sb (by kernel_rfl)⟩
  intro s1 x1 hF36 hR34
  rw [laws_heldFlyStepS_r1] at hR34
  refine xr hT [] (fun f35 => ⟨[(4, .one (.c (.v (.int .i64 s1))))], [], 78⟩) (fun f => by kernel_rfl) (fun f => by kernel_rfl) fun f35 => ?_
  refine w_ret ?_
  subst hR34
  exact x_ret (by kernel_rfl)

/-- laws.heldFlyPath -/
def laws_heldFlyPath (p0 : FlyPath) (p1 : Int) : Int := (if decide ((laws_heldFlyStepS p0.Steps p1) < 0) then (-1) else (laws_heldFlyStepS p0.Steps p1))
theorem c35 (p0 : FlyPath) (p1 : Int) (k0_0 : FlyPath.ok p0) : Fn Proofs.Try.prog 35 [⟨.val, true, FlyPath.cs .bor p0⟩, ⟨.val, false, [.v (.int .i64 p1)]⟩] [.c (.v (.int .i64 (laws_heldFlyPath p0 p1)))] [] := by
  obtain ⟨R, hR⟩ : ∃ R, R = laws_heldFlyPath p0 p1 := ⟨_, rfl⟩
  rw [← hR]
  rw [laws_heldFlyPath] at hR
  refine ⟨fn_intro hT Proofs.Try.func35 rfl rfl fun fs => ?_, _, Proofs.Try.func35, rfl, rfl⟩
  have q0 := k0_0; simp only [FlyPath.ok] at q0
  refine xr hT [] (fun f1 => ⟨[(1, .one (.c (.v (.int .i64 p1)))), (2, .one (.pt 2 (f1 0 0) 0))], [(2, some (f1 0 0, .box (FlyPath.cs .bor p0)))], 12⟩) (fun f => by kernel_rfl) (fun f => by kernel_rfl) fun f1 => ?_
  refine xr hT [ca (c58 p0.Steps p1 (by omega))] (fun f2 => ⟨[(1, .one (.c (.v (.int .i64 (laws_heldFlyStepS p0.Steps p1)))))], [], 12⟩) (fun f => by kernel_rfl) (fun f => by kernel_rfl) fun f2 => ?_
  refine w_seq ?_
  refine xr hT [] (fun f3 => ⟨[(1, .one (.c (.v (.int .i64 (laws_heldFlyStepS p0.Steps p1))))), (10, .one (.c (.v (.bool (decide ((laws_heldFlyStepS p0.Steps p1) < 0))))))], [], 12⟩) (fun f => by kernel_rfl) (fun f => by kernel_rfl) fun f3 => ?_
  refine w_cond rfl (fun h4 => ?_) fun h4 => ?_
  · rw [if_pos h4] at hR
    have gh4 := of_decide_eq_true h4
    refine xr hT [] (fun f5 => ⟨[(4, .one (.c (.v (.int .i64 (-1)))))], [], 12⟩) (fun f => by kernel_rfl) (fun f => by kernel_rfl) fun f5 => ?_
    refine w_ret ?_
    subst hR
    exact x_ret (by kernel_rfl)
  rw [if_neg (nt h4)] at hR
  have gh4 := of_decide_eq_false h4
  refine w_skip ?_
  refine xr hT [] (fun f6 => ⟨[(4, .one (.c (.v (.int .i64 (laws_heldFlyStepS p0.Steps p1)))))], [], 12⟩) (fun f => by kernel_rfl) (fun f => by kernel_rfl) fun f6 => ?_
  refine w_ret ?_
  subst hR
  exact x_ret (by kernel_rfl)

def laws_heldIntS_I1 (p0 : (List Int)) (p1 : Int) (fs : Nat → Nat → Nat) (i1 : Nat) (s1 : Int) (x1 : Nat → Nat) : St := ⟨[(0, .one (.c (.sl .bor 1 (p0.map Int.row)))), (1, .one (.c (.v (.int .i64 s1)))), (5, .one (.c (.v (.int .i64 ((i1 : Nat) : Int)))))], [], 21⟩
def laws_heldIntS_J1 (p0 : (List Int)) (p1 : Int) (fs : Nat → Nat → Nat) (s1 : Int) (x1 : Nat → Nat) : St := ⟨[(1, .one (.c (.v (.int .i64 s1))))], [], 21⟩
def laws_heldIntS_b1 (p0 : (List Int)) (p1 : Int) (i1 : Nat) (s1 : Int) : Res (Int) Int := (if !decide ((p0.getD i1 default) = s1) then (.ret (-1)) else (.next (wr (s1 + 1))))
def laws_heldIntS_r1 (p0 : (List Int)) (p1 : Int) (s1 : Int) : Int := s1
/-- laws.heldIntS -/
def laws_heldIntS (p0 : (List Int)) (p1 : Int) : Int := (Res.fin (laws_heldIntS_r1 p0 p1) (forN (laws_heldIntS_b1 p0 p1) (p0.length - 0) 0 p1))
theorem c36 (p0 : (List Int)) (p1 : Int) (k0_0 : p0.length ≤ 1048576) : Fn Proofs.Try.prog 36 [⟨.val, false, [.sl .bor 1 (p0.map Int.row)]⟩, ⟨.val, false, [.v (.int .i64 p1)]⟩] [.c (.v (.int .i64 (laws_heldIntS p0 p1)))] [] := by
  obtain ⟨R, hR⟩ : ∃ R, R = laws_heldIntS p0 p1 := ⟨_, rfl⟩
  rw [← hR]
  rw [laws_heldIntS] at hR
  refine ⟨fn_intro hT Proofs.Try.func36 rfl rfl fun fs => ?_, _, Proofs.Try.func36, rfl, rfl⟩
  refine xr hT [] (fun f1 => ⟨[(0, .one (.c (.sl .bor 1 (p0.map Int.row)))), (1, .one (.c (.v (.int .i64 p1))))], [], 21⟩) (fun f => by kernel_rfl) (fun f => by kernel_rfl) fun f1 => ?_
  refine w_seq ?_
  refine xr hT [] (fun f2 => ⟨[(0, .one (.c (.sl .bor 1 (p0.map Int.row)))), (1, .one (.c (.v (.int .i64 p1)))), (5, .one (.c (.v (.int .i64 0))))], [], 21⟩) (fun f => by kernel_rfl) (fun f => by kernel_rfl) fun f2 => ?_
  refine w_forT (fun _ => rfl) (laws_heldIntS_I1 p0 p1 fs) (laws_heldIntS_J1 p0 p1 fs) (fun i1 s1 => True) (fun s1 => True) (p0.length) 0 (laws_heldIntS_b1 p0 p1) (laws_heldIntS_r1 p0 p1) 0 (p1) (lst []) (sb (by kernel_rfl)) trivial hR ?_ ?_
  · skip
    intro i1 s1 x1 hI1 hX1
    refine w_seq ?_
    refine xr hT [.ln Int.row p0] (fun f3 => ⟨[(0, .one (.c (.sl .bor 1 (p0.map Int.row)))), (1, .one (.c (.v (.int .i64 s1)))), (5, .one (.c (.v (.int .i64 ((i1 : Nat) : Int))))), (9, .one (.c (.v (.bool (decide (((i1 : Nat) : Int) < (p0.length : Int)))))))], [], 21⟩) (fun f => by kernel_rfl) (fun f => by kernel_rfl) fun f3 => ?_
    refine w_cond rfl (fun h4 => ?_) fun h4 => ?_
    · skip
      have hl1 : i1 < p0.length := by have hq := of_decide_eq_true h4; first | omega | ((try simp only [LN] at *); omega)
      obtain ⟨B1, hB1⟩ : ∃ B, B = laws_heldIntS_b1 p0 p1 i1 s1 := ⟨_, rfl⟩
      have hE1 := hB1
      rw [laws_heldIntS_b1] at hE1
      refine w_skip ?_
      refine w_seq ?_
      refine w_block ?_
      refine w_seq ?_
      refine xr hT [ix Int.row p0 i1 (by omega)] (fun f5 => ⟨[(0, .one (.c (.sl .bor 1 (p0.map Int.row)))), (1, .one (.c (.v (.int .i64 s1)))), (5, .one (.c (.v (.int .i64 ((i1 : Nat) : Int))))), (17, .one (.c (.v (.bool (!decide ((p0.getD i1 default) = s1))))))], [], 21⟩) (fun f => by kernel_rfl) (fun f => by kernel_rfl) fun f5 => ?_
      refine w_cond rfl (fun h6 => ?_) fun h6 => ?_
      · rw [if_pos h6] at hE1
        have gh6 := nd1 h6
        refine xr hT [] (fun f7 => ⟨[(4, .one (.c (.v (.int .i64 (-1)))))], [], 21⟩) (fun f => by kernel_rfl) (fun f => by kernel_rfl) fun f7 => ?_
        refine w_ret ?_
        have hR := hX1.trans (forN_ret hl1 (hB1.symm.trans hE1))
        subst hR
        exact x_ret (by kernel_rfl)
      rw [if_neg (nt h6)] at hE1
      have gh6 := nd0 h6
      refine w_skip ?_
      refine xr1 (fun _ => rfl) hT [.wr] (fun f8 => ⟨[(0, .one (.c (.sl .bor 1 (p0.map Int.row)))), (1, .one (.c (.v (.int .i64 (wr (s1 + 1)))))), (5, .one (.c (.v (.int .i64 ((i1 : Nat) : Int)))))], [], 21⟩) (fun f => by kernel_rfl) (fun f => by kernel_rfl) fun f8 => ?_
      refine x_reg hT [.ex true (((i1 : Nat) : Int) + ((1 : Nat) : Int)) ((((i1 + 1) : Nat) : Int)) (fun _ => wr_nat (n := i1) (c := 1) (by omega))] (fun f9 => laws_heldIntS_I1 p0 p1 fs (i1 + 1) (wr (s1 + 1)) (lst [])) (fun f => by kernel_rfl) (fun f => by kernel_rfl) fun f9 s' hs' => ?_
      exact ⟨wr (s1 + 1), (lst []), hl1, trivial, hX1.trans (forN_next hl1 (hB1.symm.trans hE1)), hs'⟩
    have hq := of_decide_eq_false h4
    refine w_exit ?_
    exact ⟨s1, (lst []), trivial, hX1.trans (forN_end (by first | omega | ((try simp only [LN] at *); omega))), sb (by kernel_rfl)⟩
  intro s1 x1 hF12 hR10
  rw [laws_heldIntS_r1] at hR10
  refine xr hT [] (fun f11 => ⟨[(4, .one (.c (.v (.int .i64 s1))))], [], 21⟩) (fun f => by kernel_rfl) (fun f => by kernel_rfl) fun f11 => ?_
  refine w_ret ?_
  subst hR10
  exact x_ret (by kernel_rfl)
end Go.Lap
