/- Walks: models of the functions, and that the code computes them. -/
import Derived.Test.YtfeknndjngaieaaPa
set_option linter.unusedVariables false
set_option linter.unusedSimpArgs false
namespace Go.Lap
open Go.RowKit

def spec_ProbeBoxOk_v1 (p0 : ProbeBox) : Bool := (((((spec_l11In p0.X 0 15) && (spec_l11In p0.Y 0 15)) && (spec_l11In p0.Low 0 p0.High)) && (decide (p0.High ≤ 6))) && (spec_l11In p0.In 0 p0.Out)) && (decide (p0.Out ≤ 10000))
/-- spec.ProbeBoxOk -/
def spec_ProbeBoxOk (p0 : ProbeBox) : Bool := (spec_ProbeBoxOk_v1 p0)
theorem c199 (p0 : ProbeBox) : Fn Proofs.Try.prog 199 [⟨.val, true, ProbeBox.cs .bor p0⟩] [.c (.v (.bool (spec_ProbeBoxOk p0)))] [] := by
  obtain ⟨R, hR⟩ : ∃ R, R = spec_ProbeBoxOk p0 := ⟨_, rfl⟩
  rw [← hR]
  rw [spec_ProbeBoxOk] at hR
  refine ⟨fn_intro hT Proofs.Try.func199 rfl rfl fun fs => ?_, _, Proofs.Try.func199, rfl, rfl⟩
  refine xr hT [] (fun f1 => ⟨[(1, .one (.pt 1 (f1 0 0) 0))], [(1, some (f1 0 0, .box (ProbeBox.cs .bor p0)))], 35⟩) (fun f => by kernel_rfl) (fun f => by kernel_rfl) fun f1 => ?_
  refine xr hT [ca (c174 p0.X 0 15), cg (spec_l11In p0.X 0 15) (fun _ => c174 p0.Y 0 15), cg ((spec_l11In p0.X 0 15) && (spec_l11In p0.Y 0 15)) (fun _ => c174 p0.Low 0 p0.High), cg ((((spec_l11In p0.X 0 15) && (spec_l11In p0.Y 0 15)) && (spec_l11In p0.Low 0 p0.High)) && (decide (p0.High ≤ 6))) (fun _ => c174 p0.In 0 p0.Out)] (fun f2 => ⟨[(2, .one (.c (.v (.bool (spec_ProbeBoxOk_v1 p0)))))], [], 35⟩) (fun f => by kernel_rfl) (fun f => by kernel_rfl) fun f2 => ?_
  refine w_ret ?_
  subst hR
  exact x_ret (by kernel_rfl)

def spec_ProbeTubeOk_I1 (p0 : ProbeTube) (fs : Nat → Nat → Nat) (i1 : Nat) (s1 : Unit) (x1 : Nat → Nat) : St := ⟨[(1, .one (.pt 1 (x1 0) 0)), (3, .one (.c (.v (.int .i64 ((i1 : Nat) : Int)))))], [(1, some (x1 0, .box (ProbeTube.cs .bor p0)))], 28⟩
def spec_ProbeTubeOk_J1 (p0 : ProbeTube) (fs : Nat → Nat → Nat) (s1 : Unit) (x1 : Nat → Nat) : St := ⟨[], [], 28⟩
def spec_ProbeTubeOk_b1 (p0 : ProbeTube) (i1 : Nat) (s1 : Unit) : Res (Unit) Bool := (if !(spec_ProbeBoxOk (p0.Boxes.getD i1 default)) then (.ret false) else (.next ()))
def spec_ProbeTubeOk_r1 (p0 : ProbeTube) (s1 : Unit) : Bool := true
/-- spec.ProbeTubeOk -/
def spec_ProbeTubeOk (p0 : ProbeTube) : Bool := (if (!(spec_l12NameOk p0.Name)) || (decide (40 < (p0.Boxes.length : Int))) then false else (Res.fin (spec_ProbeTubeOk_r1 p0) (forN (spec_ProbeTubeOk_b1 p0) (p0.Boxes.length - 0) 0 ())))
theorem c176 (p0 : ProbeTube) (k0_0 : ProbeTube.ok p0) : Fn Proofs.Try.prog 176 [⟨.val, true, ProbeTube.cs .bor p0⟩] [.c (.v (.bool (spec_ProbeTubeOk p0)))] [] := by
  obtain ⟨R, hR⟩ : ∃ R, R = spec_ProbeTubeOk p0 := ⟨_, rfl⟩
  rw [← hR]
  rw [spec_ProbeTubeOk] at hR
  refine ⟨fn_intro hT Proofs.Try.func176 rfl rfl fun fs => ?_, _, Proofs.Try.func176, rfl, rfl⟩
  have q0 := k0_0; simp only [ProbeTube.ok] at q0
  refine xr hT [] (fun f1 => ⟨[(1, .one (.pt 1 (f1 0 0) 0))], [(1, some (f1 0 0, .box (ProbeTube.cs .bor p0)))], 28⟩) (fun f => by kernel_rfl) (fun f => by kernel_rfl) fun f1 => ?_
  refine w_seq ?_
  refine xr hT [ca (c92 p0.Name), .ln ProbeBox.row p0.Boxes] (fun f2 => ⟨[(1, .one (.pt 1 (f1 0 0) 0)), (13, .one (.c (.v (.bool ((!(spec_l12NameOk p0.Name)) || (decide (40 < (p0.Boxes.length : Int))))))))], [(1, some (f1 0 0, .box (ProbeTube.cs .bor p0)))], 28⟩) (fun f => by kernel_rfl) (fun f => by kernel_rfl) fun f2 => ?_
  refine w_cond rfl (fun h3 => ?_) fun h3 => ?_
  · rw [if_pos h3] at hR
    have gh3 := h3; try simp only [Bool.not_eq_true', Bool.not_eq_false', decide_eq_true_eq, decide_eq_false_iff_not, Bool.and_eq_true, Bool.or_eq_true, Bool.and_eq_false_iff, Bool.or_eq_false_iff] at gh3
    refine xr hT [] (fun f4 => ⟨[(2, .one (.c (.v (.bool false))))], [], 28⟩) (fun f => by kernel_rfl) (fun f => by kernel_rfl) fun f4 => ?_
    refine w_ret ?_
    subst hR
    exact x_ret (by kernel_rfl)
  rw [if_neg (nt h3)] at hR
  have gh3 := h3; try simp only [Bool.not_eq_true', Bool.not_eq_false', decide_eq_true_eq, decide_eq_false_iff_not, Bool.and_eq_true, Bool.or_eq_true, Bool.and_eq_false_iff, Bool.or_eq_false_iff] at gh3
  refine w_skip ?_
  refine w_seq ?_
  refine xr hT [] (fun f5 => ⟨[(1, .one (.pt 1 (f1 0 0) 0)), (3, .one (.c (.v (.int .i64 0))))], [(1, some (f1 0 0, .box (ProbeTube.cs .bor p0)))], 28⟩) (fun f => by kernel_rfl) (fun f => by kernel_rfl) fun f5 => ?_
  refine w_forT (fun _ => rfl) (spec_ProbeTubeOk_I1 p0 fs) (spec_ProbeTubeOk_J1 p0 fs) (fun i1 s1 => True) (fun s1 => True) (p0.Boxes.length) 0 (spec_ProbeTubeOk_b1 p0) (spec_ProbeTubeOk_r1 p0) 0 (()) (lst [f1 0 0]) (sb (by kernel_rfl)) trivial hR ?_ ?_
  · skip
    intro i1 s1 x1 hI1 hX1
    refine w_seq ?_
    refine xr hT [.ln ProbeBox.row p0.Boxes] (fun f6 => ⟨[(1, .one (.pt 1 (x1 0) 0)), (3, .one (.c (.v (.int .i64 ((i1 : Nat) : Int))))), (18, .one (.c (.v (.bool (decide (((i1 : Nat) : Int) < (p0.Boxes.length : Int)))))))], [(1, some (x1 0, .box (ProbeTube.cs .bor p0)))], 28⟩) (fun f => by kernel_rfl) (fun f => by kernel_rfl) fun f6 => ?_
    refine w_cond rfl (fun h7 => ?_) fun h7 => ?_
    · skip
      have hl1 : i1 < p0.Boxes.length := by have hq := of_decide_eq_true h7; first | omega | ((try simp only [LN] at *); omega)
      obtain ⟨B1, hB1⟩ : ∃ B, B = spec_ProbeTubeOk_b1 p0 i1 s1 := ⟨_, rfl⟩
      have hE1 := hB1
      rw [spec_ProbeTubeOk_b1] at hE1
      refine w_skip ?_
      refine w_seq ?_
      refine w_block ?_
      refine xr hT [ix ProbeBox.row p0.Boxes i1 (by omega), ca (c199 (p0.Boxes.getD i1 default))] (fun f8 => ⟨[(1, .one (.pt 1 (x1 0) 0)), (3, .one (.c (.v (.int .i64 ((i1 : Nat) : Int))))), (27, .one (.c (.v (.bool (!(spec_ProbeBoxOk (p0.Boxes.getD i1 default)))))))], [(1, some (x1 0, .box (ProbeTube.cs .bor p0)))], 28⟩) (fun f => by kernel_rfl) (fun f => by kernel_rfl) fun f8 => ?_
      refine w_cond rfl (fun h9 => ?_) fun h9 => ?_
      · rw [if_pos h9] at hE1
        refine xr hT [] (fun f10 => ⟨[(2, .one (.c (.v (.bool false))))], [], 28⟩) (fun f => by kernel_rfl) (fun f => by kernel_rfl) fun f10 => ?_
        refine w_ret ?_
        have hR := hX1.trans (forN_ret hl1 (hB1.symm.trans hE1))
        subst hR
        exact x_ret (by kernel_rfl)
      rw [if_neg (nt h9)] at hE1
      refine w_skip ?_
      refine x_reg hT [.ex true (((i1 : Nat) : Int) + ((1 : Nat) : Int)) ((((i1 + 1) : Nat) : Int)) (fun _ => wr_nat (n := i1) (c := 1) (by omega))] (fun f11 => spec_ProbeTubeOk_I1 p0 fs (i1 + 1) () (lst [x1 0])) (fun f => by kernel_rfl) (fun f => by kernel_rfl) fun f11 s' hs' => ?_
      exact ⟨(), (lst [x1 0]), hl1, trivial, hX1.trans (forN_next hl1 (hB1.symm.trans hE1)), hs'⟩
    have hq := of_decide_eq_false h7
    refine w_exit ?_
    exact ⟨s1, (lst [x1 0]), trivial, hX1.trans (forN_end (by first | omega | ((try simp only [LN] at *); omega))), sb (by kernel_rfl)⟩
  intro s1 x1 hF14 hR12
  rw [spec_ProbeTubeOk_r1] at hR12
  refine xr hT [] (fun f13 => ⟨[(2, .one (.c (.v (.bool true))))], [], 28⟩) (fun f => by kernel_rfl) (fun f => by kernel_rfl) fun f13 => ?_
  refine w_ret ?_
  subst hR12
  exact x_ret (by kernel_rfl)

def spec_ProbeCut_I2 (p0 : ProbeTube) (p1 : Int) (fs : Nat → Nat → Nat) (i2 : Nat) (s2 : List ProbeBox) (x2 : Nat → Nat) : St := ⟨[(1, .one (.c (.v (.int .i64 p1)))), (2, .one (.pt 2 (x2 0) 0)), (4, .one (.pt 4 (x2 1) 0)), (5, .one (.pt 5 (x2 2) 0)), (6, .one (.c (.v (.int .i64 ((i2 : Nat) : Int)))))], [(2, some (x2 0, .box (ProbeTube.cs .bor p0))), (4, some (x2 1, .box [.v (.string ⟨#[]⟩), .nl])), (5, some (x2 2, .box [.v (.string p0.Name), .mu 60501 (x2 3) 6 0 (s2.map ProbeBox.row).length])), (60501, some (x2 3, .arr 6 (s2.map ProbeBox.row)))], 44⟩
def spec_ProbeCut_J2 (p0 : ProbeTube) (p1 : Int) (fs : Nat → Nat → Nat) (s2 : List ProbeBox) (x2 : Nat → Nat) : St := ⟨[(4, .one (.pt 4 (x2 1) 0)), (5, .one (.pt 5 (x2 2) 0))], [(4, some (x2 1, .box [.v (.string ⟨#[]⟩), .nl])), (5, some (x2 2, .box [.v (.string p0.Name), .mu 60501 (x2 3) 6 0 (s2.map ProbeBox.row).length])), (60501, some (x2 3, .arr 6 (s2.map ProbeBox.row)))], 44⟩
def spec_ProbeCut_v1 (p0 : ProbeTube) (p1 : Int) (i2 : Nat) (s2 : List ProbeBox) : List ProbeBox := s2 ++ [(⟨(p0.Boxes.getD i2 default).X, (p0.Boxes.getD i2 default).Y, (p0.Boxes.getD i2 default).Low, (p0.Boxes.getD i2 default).High, p1, (p0.Boxes.getD i2 default).Out⟩ : ProbeBox)]
def spec_ProbeCut_b2 (p0 : ProbeTube) (p1 : Int) (i2 : Nat) (s2 : List ProbeBox) : Res (List ProbeBox) ProbeTube := (if decide (((p0.Boxes.getD i2 default).Out) < p1) then (.next s2) else (if decide (((p0.Boxes.getD i2 default).In) < p1) then (.next (spec_ProbeCut_v1 p0 p1 i2 s2)) else (.next (s2 ++ [p0.Boxes.getD i2 default]))))
def spec_ProbeCut_r2 (p0 : ProbeTube) (p1 : Int) (s2 : List ProbeBox) : ProbeTube := (⟨p0.Name, s2⟩ : ProbeTube)
/-- spec.ProbeCut -/
def spec_ProbeCut (p0 : ProbeTube) (p1 : Int) : ProbeTube := (if !(spec_ProbeTubeOk p0) then (⟨⟨#[]⟩, []⟩ : ProbeTube) else (Res.fin (spec_ProbeCut_r2 p0 p1) (forN (spec_ProbeCut_b2 p0 p1) (p0.Boxes.length - 0) 0 ([] : List ProbeBox))))
theorem c98 (p0 : ProbeTube) (p1 : Int) (k0_0 : ProbeTube.ok p0) : Fn Proofs.Try.prog 98 [⟨.val, true, ProbeTube.cs .bor p0⟩, ⟨.val, false, [.v (.int .i64 p1)]⟩] [.ag (ProbeTube.cs .own (spec_ProbeCut p0 p1))] [] := by
  obtain ⟨R, hR⟩ : ∃ R, R = spec_ProbeCut p0 p1 := ⟨_, rfl⟩
  rw [← hR]
  rw [spec_ProbeCut] at hR
  refine ⟨fn_intro hT Proofs.Try.func98 rfl rfl fun fs => ?_, _, Proofs.Try.func98, rfl, rfl⟩
  have q0 := k0_0; simp only [ProbeTube.ok] at q0
  refine xr hT [] (fun f1 => ⟨[(1, .one (.c (.v (.int .i64 p1)))), (2, .one (.pt 2 (f1 0 0) 0)), (4, .one (.pt 4 (f1 1 0) 0))], [(2, some (f1 0 0, .box (ProbeTube.cs .bor p0))), (4, some (f1 1 0, .box [.v (.string ⟨#[]⟩), .nl]))], 44⟩) (fun f => by kernel_rfl) (fun f => by kernel_rfl) fun f1 => ?_
  refine xr hT [] (fun f2 => ⟨[(1, .one (.c (.v (.int .i64 p1)))), (2, .one (.pt 2 (f1 0 0) 0)), (4, .one (.pt 4 (f1 1 0) 0)), (5, .one (.pt 5 (f2 3 0) 0))], [(2, some (f1 0 0, .box (ProbeTube.cs .bor p0))), (4, some (f1 1 0, .box [.v (.string ⟨#[]⟩), .nl])), (5, some (f2 3 0, .box [.v (.string p0.Name), .nl]))], 44⟩) (fun f => by kernel_rfl) (fun f => by kernel_rfl) fun f2 => ?_
  refine w_seq ?_
  refine xr hT [ca (c176 p0 (by first | assumption | exact (by omega : p0.Boxes.length ≤ 1048576)))] (fun f3 => ⟨[(1, .one (.c (.v (.int .i64 p1)))), (2, .one (.pt 2 (f1 0 0) 0)), (4, .one (.pt 4 (f1 1 0) 0)), (5, .one (.pt 5 (f2 3 0) 0)), (13, .one (.c (.v (.bool (!(spec_ProbeTubeOk p0))))))], [(2, some (f1 0 0, .box (ProbeTube.cs .bor p0))), (4, some (f1 1 0, .box [.v (.string ⟨#[]⟩), .nl])), (5, some (f2 3 0, .box [.v (.string p0.Name), .nl]))], 44⟩) (fun f => by kernel_rfl) (fun f => by kernel_rfl) fun f3 => ?_
  refine w_cond rfl (fun h4 => ?_) fun h4 => ?_
  · rw [if_pos h4] at hR
    refine xr hT [] (fun f5 => ⟨[(4, .one (.pt 4 (f1 1 0) 0))], [(4, some (f1 1 0, .box [.v (.string ⟨#[]⟩), .nl]))], 44⟩) (fun f => by kernel_rfl) (fun f => by kernel_rfl) fun f5 => ?_
    refine w_ret ?_
    subst hR
    exact x_ret (by kernel_rfl)
  rw [if_neg (nt h4)] at hR
  refine w_skip ?_
  refine w_seq ?_
  refine xr hT [] (fun f6 => ⟨[(1, .one (.c (.v (.int .i64 p1)))), (2, .one (.pt 2 (f1 0 0) 0)), (4, .one (.pt 4 (f1 1 0) 0)), (5, .one (.pt 5 (f2 3 0) 0)), (6, .one (.c (.v (.int .i64 0))))], [(2, some (f1 0 0, .box (ProbeTube.cs .bor p0))), (4, some (f1 1 0, .box [.v (.string ⟨#[]⟩), .nl])), (5, some (f2 3 0, .box [.v (.string p0.Name), .nl]))], 44⟩) (fun f => by kernel_rfl) (fun f => by kernel_rfl) fun f6 => ?_
  refine w_ownO 5 1 60501 6 rfl rfl rfl rfl fun σ7 => ?_
  refine w_forT (fun _ => rfl) (spec_ProbeCut_I2 p0 p1 fs) (spec_ProbeCut_J2 p0 p1 fs) (fun i2 s2 => i2 ≤ p0.Boxes.length ∧ s2.length ≤ (([] : List ProbeBox)).length + i2) (fun s2 => s2.length ≤ (([] : List ProbeBox)).length + p0.Boxes.length) (p0.Boxes.length) 0 (spec_ProbeCut_b2 p0 p1) (spec_ProbeCut_r2 p0 p1) 0 (([] : List ProbeBox)) (lst [f1 0 0, f1 1 0, f2 3 0, σ7]) (sb (by kernel_rfl)) (by first | rfl | ((try simp only [LN, spec_ProbeCut_v1]); omega) | (simp; done) | (simp; omega)) hR ?_ ?_
  · skip
    intro i2 s2 x2 hI2 hX2
    try simp only [LN, spec_ProbeCut_v1] at hI2
    refine w_seq ?_
    refine xr hT [.ln ProbeBox.row p0.Boxes] (fun f8 => ⟨[(1, .one (.c (.v (.int .i64 p1)))), (2, .one (.pt 2 (x2 0) 0)), (4, .one (.pt 4 (x2 1) 0)), (5, .one (.pt 5 (x2 2) 0)), (6, .one (.c (.v (.int .i64 ((i2 : Nat) : Int))))), (19, .one (.c (.v (.bool (decide (((i2 : Nat) : Int) < (p0.Boxes.length : Int)))))))], [(2, some (x2 0, .box (ProbeTube.cs .bor p0))), (4, some (x2 1, .box [.v (.string ⟨#[]⟩), .nl])), (5, some (x2 2, .box [.v (.string p0.Name), .mu 60501 (x2 3) 6 0 (s2.map ProbeBox.row).length])), (60501, some (x2 3, .arr 6 (s2.map ProbeBox.row)))], 44⟩) (fun f => by kernel_rfl) (fun f => by kernel_rfl) fun f8 => ?_
    refine w_cond rfl (fun h9 => ?_) fun h9 => ?_
    · skip
      have hl2 : i2 < p0.Boxes.length := by have hq := of_decide_eq_true h9; first | omega | ((try simp only [LN, spec_ProbeCut_v1] at *); omega)
      have hl2x := hl2; try simp only [LN, spec_ProbeCut_v1] at hl2x
      obtain ⟨B2, hB2⟩ : ∃ B, B = spec_ProbeCut_b2 p0 p1 i2 s2 := ⟨_, rfl⟩
      have hE2 := hB2
      rw [spec_ProbeCut_b2] at hE2
      refine w_skip ?_
      refine w_seq ?_
      refine w_block ?_
      refine xr hT [ix ProbeBox.row p0.Boxes i2 (by omega)] (fun f10 => ⟨[(1, .one (.c (.v (.int .i64 p1)))), (2, .one (.pt 2 (x2 0) 0)), (4, .one (.pt 4 (x2 1) 0)), (5, .one (.pt 5 (x2 2) 0)), (6, .one (.c (.v (.int .i64 ((i2 : Nat) : Int))))), (7, .one (.pt 7 (f10 5 0) 0))], [(2, some (x2 0, .box (ProbeTube.cs .bor p0))), (4, some (x2 1, .box [.v (.string ⟨#[]⟩), .nl])), (5, some (x2 2, .box [.v (.string p0.Name), .mu 60501 (x2 3) 6 0 (s2.map ProbeBox.row).length])), (7, some (f10 5 0, .box (ProbeBox.cs .bor (p0.Boxes.getD i2 default)))), (60501, some (x2 3, .arr 6 (s2.map ProbeBox.row)))], 44⟩) (fun f => by kernel_rfl) (fun f => by kernel_rfl) fun f10 => ?_
      refine w_seq ?_
      refine xr hT [] (fun f11 => ⟨[(1, .one (.c (.v (.int .i64 p1)))), (2, .one (.pt 2 (x2 0) 0)), (4, .one (.pt 4 (x2 1) 0)), (5, .one (.pt 5 (x2 2) 0)), (6, .one (.c (.v (.int .i64 ((i2 : Nat) : Int))))), (7, .one (.pt 7 (f10 5 0) 0)), (30, .one (.c (.v (.bool (decide (((p0.Boxes.getD i2 default).Out) < p1))))))], [(2, some (x2 0, .box (ProbeTube.cs .bor p0))), (4, some (x2 1, .box [.v (.string ⟨#[]⟩), .nl])), (5, some (x2 2, .box [.v (.string p0.Name), .mu 60501 (x2 3) 6 0 (s2.map ProbeBox.row).length])), (7, some (f10 5 0, .box (ProbeBox.cs .bor (p0.Boxes.getD i2 default)))), (60501, some (x2 3, .arr 6 (s2.map ProbeBox.row)))], 44⟩) (fun f => by kernel_rfl) (fun f => by kernel_rfl) fun f11 => ?_
      refine w_cond rfl (fun h12 => ?_) fun h12 => ?_
      · rw [if_pos h12] at hE2
        have gh12 := of_decide_eq_true h12
        refine w_exit ?_
        refine x_reg hT [.ex true (((i2 : Nat) : Int) + ((1 : Nat) : Int)) ((((i2 + 1) : Nat) : Int)) (fun _ => wr_nat (n := i2) (c := 1) (by omega))] (fun f13 => spec_ProbeCut_I2 p0 p1 fs (i2 + 1) s2 (lst [x2 0, x2 1, x2 2, x2 3])) (fun f => by kernel_rfl) (fun f => by kernel_rfl) fun f13 s' hs' => ?_
        exact ⟨s2, (lst [x2 0, x2 1, x2 2, x2 3]), hl2, (by (try simp only [LN, spec_ProbeCut_v1] at *); omega), hX2.trans (forN_next hl2 (hB2.symm.trans hE2)), hs'⟩
      rw [if_neg (nt h12)] at hE2
      have gh12 := of_decide_eq_false h12
      refine w_skip ?_
      refine w_seq ?_
      refine xr hT [] (fun f14 => ⟨[(1, .one (.c (.v (.int .i64 p1)))), (2, .one (.pt 2 (x2 0) 0)), (4, .one (.pt 4 (x2 1) 0)), (5, .one (.pt 5 (x2 2) 0)), (6, .one (.c (.v (.int .i64 ((i2 : Nat) : Int))))), (7, .one (.pt 7 (f10 5 0) 0)), (34, .one (.c (.v (.bool (decide (((p0.Boxes.getD i2 default).In) < p1))))))], [(2, some (x2 0, .box (ProbeTube.cs .bor p0))), (4, some (x2 1, .box [.v (.string ⟨#[]⟩), .nl])), (5, some (x2 2, .box [.v (.string p0.Name), .mu 60501 (x2 3) 6 0 (s2.map ProbeBox.row).length])), (7, some (f10 5 0, .box (ProbeBox.cs .bor (p0.Boxes.getD i2 default)))), (60501, some (x2 3, .arr 6 (s2.map ProbeBox.row)))], 44⟩) (fun f => by kernel_rfl) (fun f => by kernel_rfl) fun f14 => ?_
      refine w_cond rfl (fun h15 => ?_) fun h15 => ?_
      · rw [if_pos h15] at hE2
        have gh15 := of_decide_eq_true h15
        refine xr1 (fun _ => rfl) hT [] (fun f16 => ⟨[(1, .one (.c (.v (.int .i64 p1)))), (2, .one (.pt 2 (x2 0) 0)), (4, .one (.pt 4 (x2 1) 0)), (5, .one (.pt 5 (x2 2) 0)), (6, .one (.c (.v (.int .i64 ((i2 : Nat) : Int))))), (7, .one (.pt 7 (f10 5 0) 0))], [(2, some (x2 0, .box (ProbeTube.cs .bor p0))), (4, some (x2 1, .box [.v (.string ⟨#[]⟩), .nl])), (5, some (x2 2, .box [.v (.string p0.Name), .mu 60501 (x2 3) 6 0 (s2.map ProbeBox.row).length])), (7, some (f10 5 0, .box [.v (.int .i64 ((p0.Boxes.getD i2 default).X)), .v (.int .i64 ((p0.Boxes.getD i2 default).Y)), .v (.int .i64 ((p0.Boxes.getD i2 default).Low)), .v (.int .i64 ((p0.Boxes.getD i2 default).High)), .v (.int .i64 p1), .v (.int .i64 ((p0.Boxes.getD i2 default).Out))])), (60501, some (x2 3, .arr 6 (s2.map ProbeBox.row)))], 44⟩) (fun f => by kernel_rfl) (fun f => by kernel_rfl) fun f16 => ?_
        refine xr1 (fun _ => rfl) hT [.rows ProbeBox.row [(⟨(p0.Boxes.getD i2 default).X, (p0.Boxes.getD i2 default).Y, (p0.Boxes.getD i2 default).Low, (p0.Boxes.getD i2 default).High, p1, (p0.Boxes.getD i2 default).Out⟩ : ProbeBox)], .app true ProbeBox.row s2 [(⟨(p0.Boxes.getD i2 default).X, (p0.Boxes.getD i2 default).Y, (p0.Boxes.getD i2 default).Low, (p0.Boxes.getD i2 default).High, p1, (p0.Boxes.getD i2 default).Out⟩ : ProbeBox)] 48 (fun h => by (try simp only [LN, spec_ProbeCut_v1]); omega)] (fun f17 => ⟨[(1, .one (.c (.v (.int .i64 p1)))), (2, .one (.pt 2 (x2 0) 0)), (4, .one (.pt 4 (x2 1) 0)), (5, .one (.pt 5 (x2 2) 0)), (6, .one (.c (.v (.int .i64 ((i2 : Nat) : Int)))))], [(2, some (x2 0, .box (ProbeTube.cs .bor p0))), (4, some (x2 1, .box [.v (.string ⟨#[]⟩), .nl])), (5, some (x2 2, .box [.v (.string p0.Name), .mu 60501 (f17 4 0) 6 0 ((spec_ProbeCut_v1 p0 p1 i2 s2).map ProbeBox.row).length])), (60501, some (f17 4 0, .arr 6 ((spec_ProbeCut_v1 p0 p1 i2 s2).map ProbeBox.row)))], 44⟩) (fun f => by kernel_rfl) (fun f => by kernel_rfl) fun f17 => ?_
        refine x_reg hT [.ex true (((i2 : Nat) : Int) + ((1 : Nat) : Int)) ((((i2 + 1) : Nat) : Int)) (fun _ => wr_nat (n := i2) (c := 1) (by omega))] (fun f18 => spec_ProbeCut_I2 p0 p1 fs (i2 + 1) (spec_ProbeCut_v1 p0 p1 i2 s2) (lst [x2 0, x2 1, x2 2, f17 4 0])) (fun f => by kernel_rfl) (fun f => by kernel_rfl) fun f18 s' hs' => ?_
        exact ⟨(spec_ProbeCut_v1 p0 p1 i2 s2), (lst [x2 0, x2 1, x2 2, f17 4 0]), hl2, (by (try simp only [LN, spec_ProbeCut_v1] at *); omega), hX2.trans (forN_next hl2 (hB2.symm.trans hE2)), hs'⟩
      rw [if_neg (nt h15)] at hE2
      have gh15 := of_decide_eq_false h15
      refine w_skip ?_
      refine xr1 (fun _ => rfl) hT [.rows ProbeBox.row [p0.Boxes.getD i2 default], .app true ProbeBox.row s2 [p0.Boxes.getD i2 default] 48 (fun h => by (try simp only [LN, spec_ProbeCut_v1]); omega)] (fun f19 => ⟨[(1, .one (.c (.v (.int .i64 p1)))), (2, .one (.pt 2 (x2 0) 0)), (4, .one (.pt 4 (x2 1) 0)), (5, .one (.pt 5 (x2 2) 0)), (6, .one (.c (.v (.int .i64 ((i2 : Nat) : Int)))))], [(2, some (x2 0, .box (ProbeTube.cs .bor p0))), (4, some (x2 1, .box [.v (.string ⟨#[]⟩), .nl])), (5, some (x2 2, .box [.v (.string p0.Name), .mu 60501 (f19 4 0) 6 0 ((s2 ++ [p0.Boxes.getD i2 default]).map ProbeBox.row).length])), (60501, some (f19 4 0, .arr 6 ((s2 ++ [p0.Boxes.getD i2 default]).map ProbeBox.row)))], 44⟩) (fun f => by kernel_rfl) (fun f => by kernel_rfl) fun f19 => ?_
      refine x_reg hT [.ex true (((i2 : Nat) : Int) + ((1 : Nat) : Int)) ((((i2 + 1) : Nat) : Int)) (fun _ => wr_nat (n := i2) (c := 1) (by omega))] (fun f20 => spec_ProbeCut_I2 p0 p1 fs (i2 + 1) (s2 ++ [p0.Boxes.getD i2 default]) (lst [x2 0, x2 1, x2 2, f19 4 0])) (fun f => by kernel_rfl) (fun f => by kernel_rfl) fun f20 s' hs' => ?_
      exact ⟨s2 ++ [p0.Boxes.getD i2 default], (lst [x2 0, x2 1, x2 2, f19 4 0]), hl2, (by (try simp only [LN, spec_ProbeCut_v1] at *); omega), hX2.trans (forN_next hl2 (hB2.symm.trans hE2)), hs'⟩
    have hq := of_decide_eq_false h9
    refine w_exit ?_
    exact ⟨s2, (lst [x2 0, x2 1, x2 2, x2 3]), (by (try simp only [LN, spec_ProbeCut_v1] at *); omega), hX2.trans (forN_end (by first | omega | ((try simp only [LN, spec_ProbeCut_v1] at *); omega))), sb (by kernel_rfl)⟩
  intro s2 x2 hF23 hR21
  try simp only [LN, spec_ProbeCut_v1] at hF23
  rw [spec_ProbeCut_r2] at hR21
  refine xr hT [] (fun f22 => ⟨[(4, .one (.pt 4 (x2 1) 0))], [(4, some (x2 1, .box [.v (.string p0.Name), .mu 60501 (x2 3) 6 0 (s2.map ProbeBox.row).length])), (60501, some (x2 3, .arr 6 (s2.map ProbeBox.row)))], 44⟩) (fun f => by kernel_rfl) (fun f => by kernel_rfl) fun f22 => ?_
  refine w_ret ?_
  subst hR21
  exact x_ret (by kernel_rfl)
theorem f_spec_ProbeCut (p0 : ProbeTube) (p1 : Int) (h0 : ProbeTube.ok p0) : (spec_ProbeCut p0 p1).Boxes.length ≤ p0.Boxes.length := by
  unfold spec_ProbeCut
  rw [ite_all (M := fun (r : ProbeTube) => r.Boxes.length ≤ p0.Boxes.length)]
  refine ⟨fun _ => by simp, fun _ => ?_⟩
  refine forN_inv (fun (i : Nat) (s : List ProbeBox) => s.length ≤ i) (fun (r : ProbeTube) => r.Boxes.length ≤ p0.Boxes.length) (p0.Boxes.length) (fun j s hj h => ?_) (fun s h => ?_) _ 0 _ rfl (Nat.zero_le _) (by simp)
  · unfold spec_ProbeCut_b2; simp only [all_ite, all_next, all_brk, all_ret]; (try simp only [LN, spec_ProbeCut_v1]); (repeat' (first | omega | apply And.intro | intro _))
  · unfold spec_ProbeCut_r2; (try simp only []); omega

/-- spec.FlySpans -/
def spec_FlySpans (p0 : FlyPath) : (List FlySpan) × Bool := (if !(spec_FlyPathOk p0) then (([] : List FlySpan), false) else ((spec_l4Spans p0).1, (spec_l4Spans p0).2))
theorem c166 (p0 : FlyPath) (k0_0 : FlyPath.ok p0) : Fn Proofs.Try.prog 166 [⟨.val, true, FlyPath.cs .bor p0⟩] [.c (.sl .own 2 ((spec_FlySpans p0).1.map FlySpan.row)), .c (.v (.bool (spec_FlySpans p0).2))] [] := by
  obtain ⟨R, hR⟩ : ∃ R, R = spec_FlySpans p0 := ⟨_, rfl⟩
  rw [← hR]
  rw [spec_FlySpans] at hR
  refine ⟨fn_intro hT Proofs.Try.func166 rfl rfl fun fs => ?_, _, Proofs.Try.func166, rfl, rfl⟩
  have q0 := k0_0; simp only [FlyPath.ok] at q0
  refine xr hT [] (fun f1 => ⟨[(1, .one (.pt 1 (f1 0 0) 0))], [(1, some (f1 0 0, .box (FlyPath.cs .bor p0)))], 12⟩) (fun f => by kernel_rfl) (fun f => by kernel_rfl) fun f1 => ?_
  refine w_seq ?_
  refine xr hT [ca (c58 p0 (by first | assumption | exact (by omega : p0.Steps.length ≤ 1048576)))] (fun f2 => ⟨[(1, .one (.pt 1 (f1 0 0) 0)), (6, .one (.c (.v (.bool (!(spec_FlyPathOk p0))))))], [(1, some (f1 0 0, .box (FlyPath.cs .bor p0)))], 12⟩) (fun f => by kernel_rfl) (fun f => by kernel_rfl) fun f2 => ?_
  refine w_cond rfl (fun h3 => ?_) fun h3 => ?_
  · rw [if_pos h3] at hR
    refine xr hT [] (fun f4 => ⟨[(2, .one (.c (.mu 7 (f4 0 0) 2 0 (([] : List FlySpan).map FlySpan.row).length))), (3, .one (.c (.v (.bool false))))], [(7, some (f4 0 0, .arr 2 (([] : List FlySpan).map FlySpan.row)))], 12⟩) (fun f => by kernel_rfl) (fun f => by kernel_rfl) fun f4 => ?_
    refine w_ret ?_
    subst hR
    exact x_ret (by kernel_rfl)
  rw [if_neg (nt h3)] at hR
  refine w_skip ?_
  have w6 := f_spec_l4Spans p0 (by first | assumption | exact (by omega : p0.Steps.length ≤ 1048576))
  have w6' := w6; try simp only [LN] at w6'
  refine xr hT [ca (c127 p0 (by first | assumption | exact (by omega : p0.Steps.length ≤ 1048576)))] (fun f5 => ⟨[(2, .one (.c (.mu 1000000 (gk (f5 1) 0 0) 2 0 (((spec_l4Spans p0).1).map FlySpan.row).length))), (3, .one (.c (.v (.bool ((spec_l4Spans p0).2)))))], [(1000000, some (gk (f5 1) 0 0, .arr 2 (((spec_l4Spans p0).1).map FlySpan.row)))], 12⟩) (fun f => by kernel_rfl) (fun f => by kernel_rfl) fun f5 => ?_
  refine w_ret ?_
  subst hR
  exact x_ret (by kernel_rfl)
theorem f_spec_FlySpans (p0 : FlyPath) (h0 : FlyPath.ok p0) : (spec_FlySpans p0).1.length ≤ p0.Steps.length + 1 ∧ ((spec_FlySpans p0).2 = true → (spec_FlySpans p0).1.length = p0.Steps.length + 1) := by
  unfold spec_FlySpans
  split
  · simp
  · exact f_spec_l4Spans p0 h0

def spec_FlyTube_I1 (p0 : FlyPath) (fs : Nat → Nat → Nat) (s1 : List FlyBox × Int) (x1 : Nat → Nat) : St := ⟨[(1, .one (.pt 1 (x1 0) 0)), (3, .one (.c (.mu 8 (x1 1) 6 0 (s1.1.map FlyBox.row).length))), (4, .one (.c (.mu 1200000 (x1 2) 2 0 (((spec_FlySpans p0).1).map FlySpan.row).length))), (5, .one (.c (.v (.bool ((spec_FlySpans p0).2))))), (6, .one (.c (.v (.int .i64 s1.2))))], [(1, some (x1 0, .box (FlyPath.cs .bor p0))), (8, some (x1 1, .arr 6 (s1.1.map FlyBox.row))), (1200000, some (x1 2, .arr 2 (((spec_FlySpans p0).1).map FlySpan.row)))], 54⟩
def spec_FlyTube_J1 (p0 : FlyPath) (fs : Nat → Nat → Nat) (s1 : List FlyBox × Int) (x1 : Nat → Nat) : St := ⟨[(3, .one (.c (.mu 8 (x1 1) 6 0 (s1.1.map FlyBox.row).length)))], [(8, some (x1 1, .arr 6 (s1.1.map FlyBox.row)))], 54⟩
def spec_FlyTube_v1 (p0 : FlyPath) (s1 : List FlyBox × Int) : List FlyBox := s1.1 ++ [(⟨(p0.Steps.getD ((s1.2).toNat) default).X, (p0.Steps.getD ((s1.2).toNat) default).Y, (p0.Steps.getD ((s1.2).toNat) default).Low, (p0.Steps.getD ((s1.2).toNat) default).High, (((spec_FlySpans p0).1).getD ((s1.2).toNat) default).Low, wr (((((spec_FlySpans p0).1).getD ((s1.2 + 1).toNat) default).High) - 1)⟩ : FlyBox)]
def spec_FlyTube_b1 (p0 : FlyPath) (s1 : List FlyBox × Int) : Res (List FlyBox × Int) (List FlyBox) := (if ((spec_FlySpans p0).2) && (decide (s1.2 < (p0.Steps.length : Int))) then (.next ((spec_FlyTube_v1 p0 s1), s1.2 + 1)) else (.brk (s1.1, s1.2)))
def spec_FlyTube_u1 (p0 : FlyPath) (s1 : List FlyBox × Int) : Nat :=  ((p0.Steps.length : Int) - s1.2 + 1).toNat
def spec_FlyTube_r1 (p0 : FlyPath) (s1 : List FlyBox × Int) : (List FlyBox) := s1.1
/-- spec.FlyTube -/
def spec_FlyTube (p0 : FlyPath) : (List FlyBox) := (Res.fin (spec_FlyTube_r1 p0) (itr (spec_FlyTube_b1 p0) (spec_FlyTube_u1 p0 (([] : List FlyBox), 0) + 1) (([] : List FlyBox), 0)))
theorem c168 (p0 : FlyPath) (k0_0 : FlyPath.ok p0) : Fn Proofs.Try.prog 168 [⟨.val, true, FlyPath.cs .bor p0⟩] [.c (.sl .own 6 ((spec_FlyTube p0).map FlyBox.row))] [] := by
  obtain ⟨R, hR⟩ : ∃ R, R = spec_FlyTube p0 := ⟨_, rfl⟩
  rw [← hR]
  rw [spec_FlyTube] at hR
  refine ⟨fn_intro hT Proofs.Try.func168 rfl rfl fun fs => ?_, _, Proofs.Try.func168, rfl, rfl⟩
  have q0 := k0_0; simp only [FlyPath.ok] at q0
  refine xr hT [] (fun f1 => ⟨[(1, .one (.pt 1 (f1 0 0) 0))], [(1, some (f1 0 0, .box (FlyPath.cs .bor p0)))], 54⟩) (fun f => by kernel_rfl) (fun f => by kernel_rfl) fun f1 => ?_
  refine xr hT [] (fun f2 => ⟨[(1, .one (.pt 1 (f1 0 0) 0)), (3, .one (.c (.mu 8 (f2 0 0) 6 0 (([] : List FlyBox).map FlyBox.row).length)))], [(1, some (f1 0 0, .box (FlyPath.cs .bor p0))), (8, some (f2 0 0, .arr 6 (([] : List FlyBox).map FlyBox.row)))], 54⟩) (fun f => by kernel_rfl) (fun f => by kernel_rfl) fun f2 => ?_
  have w4 := f_spec_FlySpans p0 (by first | assumption | exact (by omega : p0.Steps.length ≤ 1048576))
  have w4' := w4; try simp only [LN, spec_FlyTube_v1] at w4'
  refine xr hT [ca (c166 p0 (by first | assumption | exact (by omega : p0.Steps.length ≤ 1048576)))] (fun f3 => ⟨[(1, .one (.pt 1 (f1 0 0) 0)), (3, .one (.c (.mu 8 (f2 0 0) 6 0 (([] : List FlyBox).map FlyBox.row).length))), (4, .one (.c (.mu 1200000 (gk (f3 1) 0 0) 2 0 (((spec_FlySpans p0).1).map FlySpan.row).length))), (5, .one (.c (.v (.bool ((spec_FlySpans p0).2)))))], [(1, some (f1 0 0, .box (FlyPath.cs .bor p0))), (8, some (f2 0 0, .arr 6 (([] : List FlyBox).map FlyBox.row))), (1200000, some (gk (f3 1) 0 0, .arr 2 (((spec_FlySpans p0).1).map FlySpan.row)))], 54⟩) (fun f => by kernel_rfl) (fun f => by kernel_rfl) fun f3 => ?_
  refine w_seq ?_
  refine xr hT [] (fun f5 => ⟨[(1, .one (.pt 1 (f1 0 0) 0)), (3, .one (.c (.mu 8 (f2 0 0) 6 0 (([] : List FlyBox).map FlyBox.row).length))), (4, .one (.c (.mu 1200000 (gk (f3 1) 0 0) 2 0 (((spec_FlySpans p0).1).map FlySpan.row).length))), (5, .one (.c (.v (.bool ((spec_FlySpans p0).2))))), (6, .one (.c (.v (.int .i64 0))))], [(1, some (f1 0 0, .box (FlyPath.cs .bor p0))), (8, some (f2 0 0, .arr 6 (([] : List FlyBox).map FlyBox.row))), (1200000, some (gk (f3 1) 0 0, .arr 2 (((spec_FlySpans p0).1).map FlySpan.row)))], 54⟩) (fun f => by kernel_rfl) (fun f => by kernel_rfl) fun f5 => ?_
  refine w_itrT (fun _ => rfl) (spec_FlyTube_I1 p0 fs) (spec_FlyTube_J1 p0 fs) (fun s1 => 0 ≤ s1.2 ∧ s1.2 ≤ p0.Steps.length ∧ s1.1.length ≤ s1.2) (fun s1 => True) (spec_FlyTube_u1 p0) 0 (spec_FlyTube_b1 p0) (spec_FlyTube_r1 p0) ((([] : List FlyBox), 0)) (lst [f1 0 0, f2 0 0, gk (f3 1) 0 0]) (sb (by kernel_rfl)) (by first | rfl | ((try simp only [LN, spec_FlyTube_v1]); omega) | (simp; done) | (simp; omega)) hR ?_ ?_
  · skip
    intro s1 x1 k1 hI1 hl1 hX1
    try simp only [LN, spec_FlyTube_v1] at hI1
    refine w_seq ?_
    refine xr hT [.ln FlyStep.row p0.Steps] (fun f6 => ⟨[(1, .one (.pt 1 (x1 0) 0)), (3, .one (.c (.mu 8 (x1 1) 6 0 (s1.1.map FlyBox.row).length))), (4, .one (.c (.mu 1200000 (x1 2) 2 0 (((spec_FlySpans p0).1).map FlySpan.row).length))), (5, .one (.c (.v (.bool ((spec_FlySpans p0).2))))), (6, .one (.c (.v (.int .i64 s1.2)))), (21, .one (.c (.v (.bool (((spec_FlySpans p0).2) && (decide (s1.2 < (p0.Steps.length : Int))))))))], [(1, some (x1 0, .box (FlyPath.cs .bor p0))), (8, some (x1 1, .arr 6 (s1.1.map FlyBox.row))), (1200000, some (x1 2, .arr 2 (((spec_FlySpans p0).1).map FlySpan.row)))], 54⟩) (fun f => by kernel_rfl) (fun f => by kernel_rfl) fun f6 => ?_
    obtain ⟨B1, hB1⟩ : ∃ B, B = spec_FlyTube_b1 p0 s1 := ⟨_, rfl⟩
    have hE1 := hB1
    rw [spec_FlyTube_b1] at hE1
    refine w_cond rfl (fun h7 => ?_) fun h7 => ?_
    · rw [if_pos h7] at hE1
      have gh7 := h7; try simp only [Bool.not_eq_true', Bool.not_eq_false', decide_eq_true_eq, decide_eq_false_iff_not, Bool.and_eq_true, Bool.or_eq_true, Bool.and_eq_false_iff, Bool.or_eq_false_iff] at gh7
      refine w_skip ?_
      refine w_seq ?_
      refine w_block ?_
      refine xr hT [iz FlyStep.row p0.Steps (s1.2) (by omega)] (fun f8 => ⟨[(1, .one (.pt 1 (x1 0) 0)), (3, .one (.c (.mu 8 (x1 1) 6 0 (s1.1.map FlyBox.row).length))), (4, .one (.c (.mu 1200000 (x1 2) 2 0 (((spec_FlySpans p0).1).map FlySpan.row).length))), (5, .one (.c (.v (.bool ((spec_FlySpans p0).2))))), (6, .one (.c (.v (.int .i64 s1.2)))), (7, .one (.pt 7 (f8 5 0) 0))], [(1, some (x1 0, .box (FlyPath.cs .bor p0))), (7, some (f8 5 0, .box (FlyStep.cs .bor (p0.Steps.getD ((s1.2).toNat) default)))), (8, some (x1 1, .arr 6 (s1.1.map FlyBox.row))), (1200000, some (x1 2, .arr 2 (((spec_FlySpans p0).1).map FlySpan.row)))], 54⟩) (fun f => by kernel_rfl) (fun f => by kernel_rfl) fun f8 => ?_
      refine xd1 (fun _ => rfl) hT hM [iz FlySpan.row ((spec_FlySpans p0).1) (s1.2) (by (first | omega | ((try simp only [LN, spec_FlyTube_v1]); omega) | ((try simp only [wr, IntKind.wrap_i64, LN, spec_FlyTube_v1] at *); omega) | (simp_all <;> omega))), ix FlySpan.row ((spec_FlySpans p0).1) ((s1.2).toNat) (by (first | omega | ((try simp only [LN, spec_FlyTube_v1]); omega) | ((try simp only [wr, IntKind.wrap_i64, LN, spec_FlyTube_v1] at *); omega) | (simp_all <;> omega))), .ex true (s1.2 + 1) (s1.2 + 1) (fun _ => wr_eq (by omega) (by omega)), iz FlySpan.row ((spec_FlySpans p0).1) (s1.2 + 1) (by (first | omega | ((try simp only [LN, spec_FlyTube_v1]); omega) | ((try simp only [wr, IntKind.wrap_i64, LN, spec_FlyTube_v1] at *); omega) | (simp_all <;> omega))), ix FlySpan.row ((spec_FlySpans p0).1) ((s1.2 + 1).toNat) (by (first | omega | ((try simp only [LN, spec_FlyTube_v1]); omega) | ((try simp only [wr, IntKind.wrap_i64, LN, spec_FlyTube_v1] at *); omega) | (simp_all <;> omega))), .wr, .rows FlyBox.row [(⟨(p0.Steps.getD ((s1.2).toNat) default).X, (p0.Steps.getD ((s1.2).toNat) default).Y, (p0.Steps.getD ((s1.2).toNat) default).Low, (p0.Steps.getD ((s1.2).toNat) default).High, (((spec_FlySpans p0).1).getD ((s1.2).toNat) default).Low, wr (((((spec_FlySpans p0).1).getD ((s1.2 + 1).toNat) default).High) - 1)⟩ : FlyBox)], .app true FlyBox.row s1.1 [(⟨(p0.Steps.getD ((s1.2).toNat) default).X, (p0.Steps.getD ((s1.2).toNat) default).Y, (p0.Steps.getD ((s1.2).toNat) default).Low, (p0.Steps.getD ((s1.2).toNat) default).High, (((spec_FlySpans p0).1).getD ((s1.2).toNat) default).Low, wr (((((spec_FlySpans p0).1).getD ((s1.2 + 1).toNat) default).High) - 1)⟩ : FlyBox)] 48 (fun h => by (try simp only [LN, spec_FlyTube_v1]); omega)] (fun f9 => ⟨[(1, .one (.pt 1 (x1 0) 0)), (3, .one (.c (.mu 8 (f9 23 0) 6 0 ((spec_FlyTube_v1 p0 s1).map FlyBox.row).length))), (4, .one (.c (.mu 1200000 (x1 2) 2 0 (((spec_FlySpans p0).1).map FlySpan.row).length))), (5, .one (.c (.v (.bool ((spec_FlySpans p0).2))))), (6, .one (.c (.v (.int .i64 s1.2))))], [(1, some (x1 0, .box (FlyPath.cs .bor p0))), (8, some (f9 23 0, .arr 6 ((spec_FlyTube_v1 p0 s1).map FlyBox.row))), (1200000, some (x1 2, .arr 2 (((spec_FlySpans p0).1).map FlySpan.row)))], 54⟩) (fun f => by kernel_rfl) (fun f => by kernel_rfl) (fun f => by kernel_rfl) fun f9 => ?_
      refine x_reg hT [.ex true (s1.2 + 1) (s1.2 + 1) (fun _ => wr_eq (by omega) (by omega))] (fun f10 => spec_FlyTube_I1 p0 fs ((spec_FlyTube_v1 p0 s1), s1.2 + 1) (lst [x1 0, f9 23 0, x1 2])) (fun f => by kernel_rfl) (fun f => by kernel_rfl) fun f10 s' hs' => ?_
      exact ⟨((spec_FlyTube_v1 p0 s1), s1.2 + 1), (lst [x1 0, f9 23 0, x1 2]), (by simp only [spec_FlyTube_u1]; (first | omega | ((try simp only [LN, spec_FlyTube_v1]); omega) | ((try simp only [wr, IntKind.wrap_i64, LN, spec_FlyTube_v1] at *); omega) | (simp_all <;> omega))), (by (try simp only [LN, spec_FlyTube_v1] at *); omega), hX1.trans (itr_next hl1 (hB1.symm.trans hE1)), hs'⟩
    rw [if_neg (nt h7)] at hE1
    have gh7 := h7; try simp only [Bool.not_eq_true', Bool.not_eq_false', decide_eq_true_eq, decide_eq_false_iff_not, Bool.and_eq_true, Bool.or_eq_true, Bool.and_eq_false_iff, Bool.or_eq_false_iff] at gh7
    refine w_exit ?_
    exact ⟨(s1.1, s1.2), (lst [x1 0, x1 1, x1 2]), trivial, hX1.trans (itr_brk hl1 (hB1.symm.trans hE1)), (sb (by kernel_rfl))⟩
  intro s1 x1 hF13 hR11
  rw [spec_FlyTube_r1] at hR11
  refine xr hT [] (fun f12 => ⟨[(2, .one (.c (.mu 8 (x1 1) 6 0 (s1.1.map FlyBox.row).length)))], [(8, some (x1 1, .arr 6 (s1.1.map FlyBox.row)))], 54⟩) (fun f => by kernel_rfl) (fun f => by kernel_rfl) fun f12 => ?_
  refine w_ret ?_
  subst hR11
  exact x_ret (by kernel_rfl)
theorem f_spec_FlyTube (p0 : FlyPath) (h0 : FlyPath.ok p0) : (spec_FlyTube p0).length ≤ p0.Steps.length := by
  unfold spec_FlyTube
  refine itr_inv (fun (s : List FlyBox × Int) => (s.1.length : Int) ≤ s.2 ∧ s.2 ≤ (p0.Steps.length : Int)) (spec_FlyTube_u1 p0) (fun (r : List FlyBox) => r.length ≤ p0.Steps.length) (fun s h => ?_) _ _ (Nat.lt_succ_self _) ⟨by simp, by simp⟩
  obtain ⟨ha, hb⟩ := h
  unfold spec_FlyTube_b1
  simp only [all_ite, all_next, all_brk, all_ret]
  refine ⟨fun hc => ?_, fun hc => ?_⟩
  · have hd : s.2 < (p0.Steps.length : Int) := by simp only [Bool.and_eq_true, decide_eq_true_eq] at hc; exact hc.2
    simp only [spec_FlyTube_u1]
    (try simp only [LN, spec_FlyTube_v1])
    refine ⟨⟨?_, ?_⟩, ?_⟩ <;> (try simp) <;> omega
  · unfold spec_FlyTube_r1
    show s.1.length ≤ _
    omega

def spec_l23Tube_I2 (p0 : ByteArray) (p1 : FlyPath) (fs : Nat → Nat → Nat) (i2 : Nat) (s2 : List ProbeBox) (x2 : Nat → Nat) : St := ⟨[(4, .one (.pt 4 (x2 0) 0)), (5, .one (.pt 5 (x2 1) 0)), (6, .one (.c (.mu 1300000 (x2 3) 6 0 ((spec_FlyTube p1).map FlyBox.row).length))), (7, .one (.c (.v (.int .i64 ((i2 : Nat) : Int)))))], [(4, some (x2 0, .box [.v (.string ⟨#[]⟩), .nl])), (5, some (x2 1, .box [.v (.string p0), .mu 60501 (x2 2) 6 0 (s2.map ProbeBox.row).length])), (60501, some (x2 2, .arr 6 (s2.map ProbeBox.row))), (1300000, some (x2 3, .arr 6 ((spec_FlyTube p1).map FlyBox.row)))], 42⟩
def spec_l23Tube_J2 (p0 : ByteArray) (p1 : FlyPath) (fs : Nat → Nat → Nat) (s2 : List ProbeBox) (x2 : Nat → Nat) : St := ⟨[(4, .one (.pt 4 (x2 0) 0)), (5, .one (.pt 5 (x2 1) 0))], [(4, some (x2 0, .box [.v (.string ⟨#[]⟩), .nl])), (5, some (x2 1, .box [.v (.string p0), .mu 60501 (x2 2) 6 0 (s2.map ProbeBox.row).length])), (60501, some (x2 2, .arr 6 (s2.map ProbeBox.row)))], 42⟩
def spec_l23Tube_v1 (p1 : FlyPath) (i2 : Nat) (s2 : List ProbeBox) : List ProbeBox := s2 ++ [(⟨((spec_FlyTube p1).getD i2 default).X, ((spec_FlyTube p1).getD i2 default).Y, ((spec_FlyTube p1).getD i2 default).Low, ((spec_FlyTube p1).getD i2 default).High, ((spec_FlyTube p1).getD i2 default).In, ((spec_FlyTube p1).getD i2 default).Out⟩ : ProbeBox)]
def spec_l23Tube_b2 (p0 : ByteArray) (p1 : FlyPath) (i2 : Nat) (s2 : List ProbeBox) : Res (List ProbeBox) ProbeTube := (.next (spec_l23Tube_v1 p1 i2 s2))
def spec_l23Tube_r2 (p0 : ByteArray) (p1 : FlyPath) (s2 : List ProbeBox) : ProbeTube := (⟨p0, s2⟩ : ProbeTube)
/-- spec.l23Tube -/
def spec_l23Tube (p0 : ByteArray) (p1 : FlyPath) : ProbeTube := (Res.fin (spec_l23Tube_r2 p0 p1) (forN (spec_l23Tube_b2 p0 p1) ((spec_FlyTube p1).length - 0) 0 ([] : List ProbeBox)))
theorem c99 (p0 : ByteArray) (p1 : FlyPath) (k1_0 : FlyPath.ok p1) : Fn Proofs.Try.prog 99 [⟨.val, false, [.v (.string p0)]⟩, ⟨.val, true, FlyPath.cs .bor p1⟩] [.ag (ProbeTube.cs .own (spec_l23Tube p0 p1))] [] := by
  obtain ⟨R, hR⟩ : ∃ R, R = spec_l23Tube p0 p1 := ⟨_, rfl⟩
  rw [← hR]
  rw [spec_l23Tube] at hR
  refine ⟨fn_intro hT Proofs.Try.func99 rfl rfl fun fs => ?_, _, Proofs.Try.func99, rfl, rfl⟩
  have q1 := k1_0; simp only [FlyPath.ok] at q1
  refine xr hT [] (fun f1 => ⟨[(0, .one (.c (.v (.string p0)))), (3, .one (.pt 3 (f1 0 0) 0)), (4, .one (.pt 4 (f1 1 0) 0))], [(3, some (f1 0 0, .box (FlyPath.cs .bor p1))), (4, some (f1 1 0, .box [.v (.string ⟨#[]⟩), .nl]))], 42⟩) (fun f => by kernel_rfl) (fun f => by kernel_rfl) fun f1 => ?_
  refine xr hT [] (fun f2 => ⟨[(3, .one (.pt 3 (f1 0 0) 0)), (4, .one (.pt 4 (f1 1 0) 0)), (5, .one (.pt 5 (f2 2 0) 0))], [(3, some (f1 0 0, .box (FlyPath.cs .bor p1))), (4, some (f1 1 0, .box [.v (.string ⟨#[]⟩), .nl])), (5, some (f2 2 0, .box [.v (.string p0), .nl]))], 42⟩) (fun f => by kernel_rfl) (fun f => by kernel_rfl) fun f2 => ?_
  have w4 := f_spec_FlyTube p1 (by first | assumption | exact (by omega : p1.Steps.length ≤ 1048576))
  have w4' := w4; try simp only [LN, spec_l23Tube_v1] at w4'
  refine xr hT [ca (c168 p1 (by first | assumption | exact (by omega : p1.Steps.length ≤ 1048576)))] (fun f3 => ⟨[(4, .one (.pt 4 (f1 1 0) 0)), (5, .one (.pt 5 (f2 2 0) 0)), (6, .one (.c (.mu 1300000 (gk (f3 1) 0 0) 6 0 ((spec_FlyTube p1).map FlyBox.row).length)))], [(4, some (f1 1 0, .box [.v (.string ⟨#[]⟩), .nl])), (5, some (f2 2 0, .box [.v (.string p0), .nl])), (1300000, some (gk (f3 1) 0 0, .arr 6 ((spec_FlyTube p1).map FlyBox.row)))], 42⟩) (fun f => by kernel_rfl) (fun f => by kernel_rfl) fun f3 => ?_
  refine w_seq ?_
  refine xr hT [] (fun f5 => ⟨[(4, .one (.pt 4 (f1 1 0) 0)), (5, .one (.pt 5 (f2 2 0) 0)), (6, .one (.c (.mu 1300000 (gk (f3 1) 0 0) 6 0 ((spec_FlyTube p1).map FlyBox.row).length))), (7, .one (.c (.v (.int .i64 0))))], [(4, some (f1 1 0, .box [.v (.string ⟨#[]⟩), .nl])), (5, some (f2 2 0, .box [.v (.string p0), .nl])), (1300000, some (gk (f3 1) 0 0, .arr 6 ((spec_FlyTube p1).map FlyBox.row)))], 42⟩) (fun f => by kernel_rfl) (fun f => by kernel_rfl) fun f5 => ?_
  refine w_ownO 5 1 60501 6 rfl rfl rfl rfl fun σ6 => ?_
  refine w_forT (fun _ => rfl) (spec_l23Tube_I2 p0 p1 fs) (spec_l23Tube_J2 p0 p1 fs) (fun i2 s2 => i2 ≤ (spec_FlyTube p1).length ∧ s2.length ≤ (([] : List ProbeBox)).length + i2) (fun s2 => s2.length ≤ (([] : List ProbeBox)).length + (spec_FlyTube p1).length) ((spec_FlyTube p1).length) 0 (spec_l23Tube_b2 p0 p1) (spec_l23Tube_r2 p0 p1) 0 (([] : List ProbeBox)) (lst [f1 1 0, f2 2 0, σ6, gk (f3 1) 0 0]) (sb (by kernel_rfl)) (by first | rfl | ((try simp only [LN, spec_l23Tube_v1]); omega) | (simp; done) | (simp; omega)) hR ?_ ?_
  · skip
    intro i2 s2 x2 hI2 hX2
    try simp only [LN, spec_l23Tube_v1] at hI2
    refine w_seq ?_
    refine xr hT [.ln FlyBox.row (spec_FlyTube p1)] (fun f7 => ⟨[(4, .one (.pt 4 (x2 0) 0)), (5, .one (.pt 5 (x2 1) 0)), (6, .one (.c (.mu 1300000 (x2 3) 6 0 ((spec_FlyTube p1).map FlyBox.row).length))), (7, .one (.c (.v (.int .i64 ((i2 : Nat) : Int))))), (16, .one (.c (.v (.bool (decide (((i2 : Nat) : Int) < ((spec_FlyTube p1).length : Int)))))))], [(4, some (x2 0, .box [.v (.string ⟨#[]⟩), .nl])), (5, some (x2 1, .box [.v (.string p0), .mu 60501 (x2 2) 6 0 (s2.map ProbeBox.row).length])), (60501, some (x2 2, .arr 6 (s2.map ProbeBox.row))), (1300000, some (x2 3, .arr 6 ((spec_FlyTube p1).map FlyBox.row)))], 42⟩) (fun f => by kernel_rfl) (fun f => by kernel_rfl) fun f7 => ?_
    refine w_cond rfl (fun h8 => ?_) fun h8 => ?_
    · skip
      have hl2 : i2 < (spec_FlyTube p1).length := by have hq := of_decide_eq_true h8; first | omega | ((try simp only [LN, spec_l23Tube_v1] at *); omega)
      have hl2x := hl2; try simp only [LN, spec_l23Tube_v1] at hl2x
      obtain ⟨B2, hB2⟩ : ∃ B, B = spec_l23Tube_b2 p0 p1 i2 s2 := ⟨_, rfl⟩
      have hE2 := hB2
      rw [spec_l23Tube_b2] at hE2
      refine w_skip ?_
      refine w_seq ?_
      refine w_block ?_
      refine xr hT [ix FlyBox.row (spec_FlyTube p1) i2 (by (first | omega | ((try simp only [LN, spec_l23Tube_v1]); omega) | ((try simp only [wr, IntKind.wrap_i64, LN, spec_l23Tube_v1] at *); omega) | (simp_all <;> omega))), ix FlyBox.row (spec_FlyTube p1) i2 (by (first | omega | ((try simp only [LN, spec_l23Tube_v1]); omega) | ((try simp only [wr, IntKind.wrap_i64, LN, spec_l23Tube_v1] at *); omega) | (simp_all <;> omega)))] (fun f9 => ⟨[(4, .one (.pt 4 (x2 0) 0)), (5, .one (.pt 5 (x2 1) 0)), (6, .one (.c (.mu 1300000 (x2 3) 6 0 ((spec_FlyTube p1).map FlyBox.row).length))), (7, .one (.c (.v (.int .i64 ((i2 : Nat) : Int))))), (8, .one (.pt 8 (f9 4 0) 0))], [(4, some (x2 0, .box [.v (.string ⟨#[]⟩), .nl])), (5, some (x2 1, .box [.v (.string p0), .mu 60501 (x2 2) 6 0 (s2.map ProbeBox.row).length])), (8, some (f9 4 0, .box (FlyBox.cs .frz ((spec_FlyTube p1).getD i2 default)))), (60501, some (x2 2, .arr 6 (s2.map ProbeBox.row))), (1300000, some (x2 3, .arr 6 ((spec_FlyTube p1).map FlyBox.row)))], 42⟩) (fun f => by kernel_rfl) (fun f => by kernel_rfl) fun f9 => ?_
      refine xr1 (fun _ => rfl) hT [.rows ProbeBox.row [(⟨((spec_FlyTube p1).getD i2 default).X, ((spec_FlyTube p1).getD i2 default).Y, ((spec_FlyTube p1).getD i2 default).Low, ((spec_FlyTube p1).getD i2 default).High, ((spec_FlyTube p1).getD i2 default).In, ((spec_FlyTube p1).getD i2 default).Out⟩ : ProbeBox)], .app true ProbeBox.row s2 [(⟨((spec_FlyTube p1).getD i2 default).X, ((spec_FlyTube p1).getD i2 default).Y, ((spec_FlyTube p1).getD i2 default).Low, ((spec_FlyTube p1).getD i2 default).High, ((spec_FlyTube p1).getD i2 default).In, ((spec_FlyTube p1).getD i2 default).Out⟩ : ProbeBox)] 48 (fun h => by (try simp only [LN, spec_l23Tube_v1]); omega)] (fun f10 => ⟨[(4, .one (.pt 4 (x2 0) 0)), (5, .one (.pt 5 (x2 1) 0)), (6, .one (.c (.mu 1300000 (x2 3) 6 0 ((spec_FlyTube p1).map FlyBox.row).length))), (7, .one (.c (.v (.int .i64 ((i2 : Nat) : Int)))))], [(4, some (x2 0, .box [.v (.string ⟨#[]⟩), .nl])), (5, some (x2 1, .box [.v (.string p0), .mu 60501 (f10 16 0) 6 0 ((spec_l23Tube_v1 p1 i2 s2).map ProbeBox.row).length])), (60501, some (f10 16 0, .arr 6 ((spec_l23Tube_v1 p1 i2 s2).map ProbeBox.row))), (1300000, some (x2 3, .arr 6 ((spec_FlyTube p1).map FlyBox.row)))], 42⟩) (fun f => by kernel_rfl) (fun f => by kernel_rfl) fun f10 => ?_
      refine x_reg hT [.ex true (((i2 : Nat) : Int) + ((1 : Nat) : Int)) ((((i2 + 1) : Nat) : Int)) (fun _ => wr_nat (n := i2) (c := 1) (by omega))] (fun f11 => spec_l23Tube_I2 p0 p1 fs (i2 + 1) (spec_l23Tube_v1 p1 i2 s2) (lst [x2 0, x2 1, f10 16 0, x2 3])) (fun f => by kernel_rfl) (fun f => by kernel_rfl) fun f11 s' hs' => ?_
      exact ⟨(spec_l23Tube_v1 p1 i2 s2), (lst [x2 0, x2 1, f10 16 0, x2 3]), hl2, (by (try simp only [LN, spec_l23Tube_v1] at *); omega), hX2.trans (forN_next hl2 (hB2.symm.trans hE2)), hs'⟩
    have hq := of_decide_eq_false h8
    refine w_exit ?_
    exact ⟨s2, (lst [x2 0, x2 1, x2 2, x2 3]), (by (try simp only [LN, spec_l23Tube_v1] at *); omega), hX2.trans (forN_end (by first | omega | ((try simp only [LN, spec_l23Tube_v1] at *); omega))), sb (by kernel_rfl)⟩
  intro s2 x2 hF14 hR12
  try simp only [LN, spec_l23Tube_v1] at hF14
  rw [spec_l23Tube_r2] at hR12
  refine xr hT [] (fun f13 => ⟨[(4, .one (.pt 4 (x2 0) 0))], [(4, some (x2 0, .box [.v (.string p0), .mu 60501 (x2 2) 6 0 (s2.map ProbeBox.row).length])), (60501, some (x2 2, .arr 6 (s2.map ProbeBox.row)))], 42⟩) (fun f => by kernel_rfl) (fun f => by kernel_rfl) fun f13 => ?_
  refine w_ret ?_
  subst hR12
  exact x_ret (by kernel_rfl)
theorem f_spec_l23Tube (p0 : ByteArray) (p1 : FlyPath) (h0 : FlyPath.ok p1) : (spec_l23Tube p0 p1).Boxes.length ≤ p1.Steps.length := by
  have hl := f_spec_FlyTube p1 h0
  unfold spec_l23Tube
  refine forN_inv (fun (i : Nat) (s : List ProbeBox) => s.length ≤ i) (fun (r : ProbeTube) => r.Boxes.length ≤ p1.Steps.length) ((spec_FlyTube p1).length) (fun j s hj h => ?_) (fun s h => ?_) _ 0 _ rfl (Nat.zero_le _) (by simp)
  · unfold spec_l23Tube_b2; simp only [all_ite, all_next, all_brk, all_ret]; (try simp only [LN, spec_l23Tube_v1]); (repeat' (first | omega | apply And.intro | intro _))
  · unfold spec_l23Tube_r2; (try simp only []); omega

/-- spec.LinkTube -/
def spec_LinkTube (p0 : ByteArray) (p1 : FlyPath) (p2 : Int) : ProbeTube := (spec_ProbeCut (spec_l23Tube p0 p1) p2)
theorem c23 (p0 : ByteArray) (p1 : FlyPath) (p2 : Int) (k1_0 : FlyPath.ok p1) : Fn Proofs.Try.prog 23 [⟨.val, false, [.v (.string p0)]⟩, ⟨.val, true, FlyPath.cs .bor p1⟩, ⟨.val, false, [.v (.int .i64 p2)]⟩] [.ag (ProbeTube.cs .own (spec_LinkTube p0 p1 p2))] [] := by
  obtain ⟨R, hR⟩ : ∃ R, R = spec_LinkTube p0 p1 p2 := ⟨_, rfl⟩
  rw [← hR]
  rw [spec_LinkTube] at hR
  refine ⟨fn_intro hT Proofs.Try.func23 rfl rfl fun fs => ?_, _, Proofs.Try.func23, rfl, rfl⟩
  have q1 := k1_0; simp only [FlyPath.ok] at q1
  refine xr hT [] (fun f1 => ⟨[(0, .one (.c (.v (.string p0)))), (2, .one (.c (.v (.int .i64 p2)))), (4, .one (.pt 4 (f1 0 0) 0)), (6, .one (.pt 6 (f1 1 0) 0))], [(4, some (f1 0 0, .box (FlyPath.cs .bor p1))), (6, some (f1 1 0, .box [.v (.string ⟨#[]⟩), .nl]))], 12⟩) (fun f => by kernel_rfl) (fun f => by kernel_rfl) fun f1 => ?_
  have w3 := f_spec_l23Tube p0 p1 (by first | assumption | exact (by omega : p1.Steps.length ≤ 1048576))
  have w3' := w3; try simp only [LN] at w3'
  have w4 := f_spec_ProbeCut (spec_l23Tube p0 p1) p2 (by first | assumption | exact (show ((spec_l23Tube p0 p1).Boxes).length ≤ 1048576 from by (try simp only [LN]); omega))
  have w4' := w4; try simp only [LN] at w4'
  refine xr hT [ca (c99 p0 p1 (by first | assumption | exact (by omega : p1.Steps.length ≤ 1048576))), ca (c98 (spec_l23Tube p0 p1) p2 (by first | assumption | exact (show ((spec_l23Tube p0 p1).Boxes).length ≤ 1048576 from by (try simp only [LN]); omega)))] (fun f2 => ⟨[(6, .one (.pt 6 (f1 1 0) 0))], [(6, some (f1 1 0, .box [.v (.string ((spec_ProbeCut (spec_l23Tube p0 p1) p2).Name)), .mu 1200001 (gk (f2 4) 0 1) 6 0 (((spec_ProbeCut (spec_l23Tube p0 p1) p2).Boxes).map ProbeBox.row).length])), (1200001, some (gk (f2 4) 0 1, .arr 6 (((spec_ProbeCut (spec_l23Tube p0 p1) p2).Boxes).map ProbeBox.row)))], 12⟩) (fun f => by kernel_rfl) (fun f => by kernel_rfl) fun f2 => ?_
  refine w_ret ?_
  subst hR
  exact x_ret (by kernel_rfl)
theorem f_spec_LinkTube (p0 : ByteArray) (p1 : FlyPath) (p2 : Int) (h0 : FlyPath.ok p1) : (spec_LinkTube p0 p1 p2).Boxes.length ≤ p1.Steps.length := by
  have h1 := f_spec_l23Tube p0 p1 h0
  have h2 := f_spec_ProbeCut (spec_l23Tube p0 p1) p2 (show _ ≤ _ from Nat.le_trans h1 h0)
  unfold spec_LinkTube
  omega

def impl_FlyTube_I1 (p0 : FlyPath) (fs : Nat → Nat → Nat) (i1 : Nat) (s1 : List FlyBox) (x1 : Nat → Nat) : St := ⟨[(3, .one (.c (.mu 1100000 (x1 1) 2 0 (((impl_FlySpans p0).1).map FlySpan.row).length))), (5, .one (.c (.mu 15 (x1 0) 6 0 (s1.map FlyBox.row).length))), (17, .one (.c (.sl .bor 7 (p0.Steps.map FlyStep.row)))), (18, .one (.c (.v (.int .i64 (p0.Steps.length : Int))))), (19, .one (.c (.v (.int .i64 ((i1 : Nat) : Int)))))], [(15, some (x1 0, .arr 6 (s1.map FlyBox.row))), (1100000, some (x1 1, .arr 2 (((impl_FlySpans p0).1).map FlySpan.row)))], 50⟩
def impl_FlyTube_J1 (p0 : FlyPath) (fs : Nat → Nat → Nat) (s1 : List FlyBox) (x1 : Nat → Nat) : St := ⟨[(5, .one (.c (.mu 15 (x1 0) 6 0 (s1.map FlyBox.row).length)))], [(15, some (x1 0, .arr 6 (s1.map FlyBox.row)))], 50⟩
def impl_FlyTube_v1 (p0 : FlyPath) (i1 : Nat) (s1 : List FlyBox) : List FlyBox := s1 ++ [(⟨(p0.Steps.getD i1 default).X, (p0.Steps.getD i1 default).Y, (p0.Steps.getD i1 default).Low, (p0.Steps.getD i1 default).High, (((impl_FlySpans p0).1).getD i1 default).Low, wr (((((impl_FlySpans p0).1).getD (i1 + 1) default).High) - 1)⟩ : FlyBox)]
def impl_FlyTube_b1 (p0 : FlyPath) (i1 : Nat) (s1 : List FlyBox) : Res (List FlyBox) (List FlyBox) := (.next (impl_FlyTube_v1 p0 i1 s1))
def impl_FlyTube_r1 (p0 : FlyPath) (s1 : List FlyBox) : (List FlyBox) := s1
/-- impl.FlyTube -/
def impl_FlyTube (p0 : FlyPath) : (List FlyBox) := (if !((impl_FlySpans p0).2) then [] else (Res.fin (impl_FlyTube_r1 p0) (forN (impl_FlyTube_b1 p0) (p0.Steps.length - 0) 0 ([] : List FlyBox))))
theorem c51 (p0 : FlyPath) (k0_0 : FlyPath.ok p0) : Fn Proofs.Try.prog 51 [⟨.val, true, FlyPath.cs .bor p0⟩] [.c (.sl .own 6 ((impl_FlyTube p0).map FlyBox.row))] [] := by
  obtain ⟨R, hR⟩ : ∃ R, R = impl_FlyTube p0 := ⟨_, rfl⟩
  rw [← hR]
  rw [impl_FlyTube] at hR
  refine ⟨fn_intro hT Proofs.Try.func51 rfl rfl fun fs => ?_, _, Proofs.Try.func51, rfl, rfl⟩
  have q0 := k0_0; simp only [FlyPath.ok] at q0
  refine xr hT [] (fun f1 => ⟨[(1, .one (.pt 1 (f1 0 0) 0))], [(1, some (f1 0 0, .box (FlyPath.cs .bor p0)))], 50⟩) (fun f => by kernel_rfl) (fun f => by kernel_rfl) fun f1 => ?_
  have w3 := f_impl_FlySpans p0 (by first | assumption | exact (by omega : p0.Steps.length ≤ 1048576))
  have w3' := w3; try simp only [LN, impl_FlyTube_v1] at w3'
  refine xr hT [ca (c52 p0 (by first | assumption | exact (by omega : p0.Steps.length ≤ 1048576)))] (fun f2 => ⟨[(1, .one (.pt 1 (f1 0 0) 0)), (3, .one (.c (.mu 1100000 (gk (f2 1) 0 0) 2 0 (((impl_FlySpans p0).1).map FlySpan.row).length))), (4, .one (.c (.v (.bool ((impl_FlySpans p0).2)))))], [(1, some (f1 0 0, .box (FlyPath.cs .bor p0))), (1100000, some (gk (f2 1) 0 0, .arr 2 (((impl_FlySpans p0).1).map FlySpan.row)))], 50⟩) (fun f => by kernel_rfl) (fun f => by kernel_rfl) fun f2 => ?_
  refine w_seq ?_
  refine xr hT [] (fun f4 => ⟨[(1, .one (.pt 1 (f1 0 0) 0)), (3, .one (.c (.mu 1100000 (gk (f2 1) 0 0) 2 0 (((impl_FlySpans p0).1).map FlySpan.row).length))), (14, .one (.c (.v (.bool (!((impl_FlySpans p0).2))))))], [(1, some (f1 0 0, .box (FlyPath.cs .bor p0))), (1100000, some (gk (f2 1) 0 0, .arr 2 (((impl_FlySpans p0).1).map FlySpan.row)))], 50⟩) (fun f => by kernel_rfl) (fun f => by kernel_rfl) fun f4 => ?_
  refine w_cond rfl (fun h5 => ?_) fun h5 => ?_
  · rw [if_pos h5] at hR
    refine xr hT [] (fun f6 => ⟨[(2, .one (.c (.nl)))], [], 50⟩) (fun f => by kernel_rfl) (fun f => by kernel_rfl) fun f6 => ?_
    refine w_ret ?_
    subst hR
    exact x_ret (by kernel_rfl)
  rw [if_neg (nt h5)] at hR
  refine w_skip ?_
  refine xr hT [] (fun f7 => ⟨[(1, .one (.pt 1 (f1 0 0) 0)), (3, .one (.c (.mu 1100000 (gk (f2 1) 0 0) 2 0 (((impl_FlySpans p0).1).map FlySpan.row).length))), (5, .one (.c (.mu 15 (f7 0 0) 6 0 (([] : List FlyBox).map FlyBox.row).length)))], [(1, some (f1 0 0, .box (FlyPath.cs .bor p0))), (15, some (f7 0 0, .arr 6 (([] : List FlyBox).map FlyBox.row))), (1100000, some (gk (f2 1) 0 0, .arr 2 (((impl_FlySpans p0).1).map FlySpan.row)))], 50⟩) (fun f => by kernel_rfl) (fun f => by kernel_rfl) fun f7 => ?_
  refine w_seq ?_
  refine xr hT [.ln FlyStep.row p0.Steps] (fun f8 => ⟨[(3, .one (.c (.mu 1100000 (gk (f2 1) 0 0) 2 0 (((impl_FlySpans p0).1).map FlySpan.row).length))), (5, .one (.c (.mu 15 (f7 0 0) 6 0 (([] : List FlyBox).map FlyBox.row).length))), (17, .one (.c (.sl .bor 7 (p0.Steps.map FlyStep.row)))), (18, .one (.c (.v (.int .i64 (p0.Steps.length : Int))))), (19, .one (.c (.v (.int .i64 0))))], [(15, some (f7 0 0, .arr 6 (([] : List FlyBox).map FlyBox.row))), (1100000, some (gk (f2 1) 0 0, .arr 2 (((impl_FlySpans p0).1).map FlySpan.row)))], 50⟩) (fun f => by kernel_rfl) (fun f => by kernel_rfl) fun f8 => ?_
  refine w_forT (fun _ => rfl) (impl_FlyTube_I1 p0 fs) (impl_FlyTube_J1 p0 fs) (fun i1 s1 => i1 ≤ p0.Steps.length ∧ s1.length ≤ (([] : List FlyBox)).length + i1) (fun s1 => s1.length ≤ (([] : List FlyBox)).length + p0.Steps.length) (p0.Steps.length) 0 (impl_FlyTube_b1 p0) (impl_FlyTube_r1 p0) 0 (([] : List FlyBox)) (lst [f7 0 0, gk (f2 1) 0 0]) (sb (by kernel_rfl)) (by first | rfl | ((try simp only [LN, impl_FlyTube_v1]); omega) | (simp; done) | (simp; omega)) hR ?_ ?_
  · skip
    intro i1 s1 x1 hI1 hX1
    try simp only [LN, impl_FlyTube_v1] at hI1
    refine xr hT [] (fun f9 => ⟨[(3, .one (.c (.mu 1100000 (x1 1) 2 0 (((impl_FlySpans p0).1).map FlySpan.row).length))), (5, .one (.c (.mu 15 (x1 0) 6 0 (s1.map FlyBox.row).length))), (17, .one (.c (.sl .bor 7 (p0.Steps.map FlyStep.row)))), (18, .one (.c (.v (.int .i64 (p0.Steps.length : Int))))), (19, .one (.c (.v (.int .i64 ((i1 : Nat) : Int))))), (20, .one (.c (.v (.bool (decide (((i1 : Nat) : Int) < (p0.Steps.length : Int)))))))], [(15, some (x1 0, .arr 6 (s1.map FlyBox.row))), (1100000, some (x1 1, .arr 2 (((impl_FlySpans p0).1).map FlySpan.row)))], 50⟩) (fun f => by kernel_rfl) (fun f => by kernel_rfl) fun f9 => ?_
    refine w_seq ?_
    refine w_cond rfl (fun h10 => ?_) fun h10 => ?_
    · skip
      have hl1 : i1 < p0.Steps.length := by have hq := of_decide_eq_true h10; first | omega | ((try simp only [LN, impl_FlyTube_v1] at *); omega)
      have hl1x := hl1; try simp only [LN, impl_FlyTube_v1] at hl1x
      obtain ⟨B1, hB1⟩ : ∃ B, B = impl_FlyTube_b1 p0 i1 s1 := ⟨_, rfl⟩
      have hE1 := hB1
      rw [impl_FlyTube_b1] at hE1
      refine w_skip ?_
      refine w_seq ?_
      refine w_block ?_
      refine xr hT [ix FlyStep.row p0.Steps i1 (by omega)] (fun f11 => ⟨[(3, .one (.c (.mu 1100000 (x1 1) 2 0 (((impl_FlySpans p0).1).map FlySpan.row).length))), (5, .one (.c (.mu 15 (x1 0) 6 0 (s1.map FlyBox.row).length))), (6, .one (.c (.v (.int .i64 ((i1 : Nat) : Int))))), (7, .one (.pt 7 (f11 3 0) 0)), (17, .one (.c (.sl .bor 7 (p0.Steps.map FlyStep.row)))), (18, .one (.c (.v (.int .i64 (p0.Steps.length : Int))))), (19, .one (.c (.v (.int .i64 ((i1 : Nat) : Int)))))], [(7, some (f11 3 0, .box (FlyStep.cs .bor (p0.Steps.getD i1 default)))), (15, some (x1 0, .arr 6 (s1.map FlyBox.row))), (1100000, some (x1 1, .arr 2 (((impl_FlySpans p0).1).map FlySpan.row)))], 50⟩) (fun f => by kernel_rfl) (fun f => by kernel_rfl) fun f11 => ?_
      refine xd1 (fun _ => rfl) hT hM [ix FlySpan.row ((impl_FlySpans p0).1) i1 (by (first | omega | ((try simp only [LN, impl_FlyTube_v1]); omega) | ((try simp only [wr, IntKind.wrap_i64, LN, impl_FlyTube_v1] at *); omega) | (simp_all <;> omega))), ix FlySpan.row ((impl_FlySpans p0).1) i1 (by (first | omega | ((try simp only [LN, impl_FlyTube_v1]); omega) | ((try simp only [wr, IntKind.wrap_i64, LN, impl_FlyTube_v1] at *); omega) | (simp_all <;> omega))), .ex true (((i1 : Nat) : Int) + ((1 : Nat) : Int)) ((((i1 + 1) : Nat) : Int)) (fun _ => wr_nat (n := i1) (c := 1) (by omega)), ix FlySpan.row ((impl_FlySpans p0).1) (i1 + 1) (by (first | omega | ((try simp only [LN, impl_FlyTube_v1]); omega) | ((try simp only [wr, IntKind.wrap_i64, LN, impl_FlyTube_v1] at *); omega) | (simp_all <;> omega))), ix FlySpan.row ((impl_FlySpans p0).1) (i1 + 1) (by (first | omega | ((try simp only [LN, impl_FlyTube_v1]); omega) | ((try simp only [wr, IntKind.wrap_i64, LN, impl_FlyTube_v1] at *); omega) | (simp_all <;> omega))), .wr, .rows FlyBox.row [(⟨(p0.Steps.getD i1 default).X, (p0.Steps.getD i1 default).Y, (p0.Steps.getD i1 default).Low, (p0.Steps.getD i1 default).High, (((impl_FlySpans p0).1).getD i1 default).Low, wr (((((impl_FlySpans p0).1).getD (i1 + 1) default).High) - 1)⟩ : FlyBox)], .app true FlyBox.row s1 [(⟨(p0.Steps.getD i1 default).X, (p0.Steps.getD i1 default).Y, (p0.Steps.getD i1 default).Low, (p0.Steps.getD i1 default).High, (((impl_FlySpans p0).1).getD i1 default).Low, wr (((((impl_FlySpans p0).1).getD (i1 + 1) default).High) - 1)⟩ : FlyBox)] 48 (fun h => by (try simp only [LN, impl_FlyTube_v1]); omega)] (fun f12 => ⟨[(3, .one (.c (.mu 1100000 (x1 1) 2 0 (((impl_FlySpans p0).1).map FlySpan.row).length))), (5, .one (.c (.mu 15 (f12 23 0) 6 0 ((impl_FlyTube_v1 p0 i1 s1).map FlyBox.row).length))), (17, .one (.c (.sl .bor 7 (p0.Steps.map FlyStep.row)))), (18, .one (.c (.v (.int .i64 (p0.Steps.length : Int))))), (19, .one (.c (.v (.int .i64 ((i1 : Nat) : Int)))))], [(15, some (f12 23 0, .arr 6 ((impl_FlyTube_v1 p0 i1 s1).map FlyBox.row))), (1100000, some (x1 1, .arr 2 (((impl_FlySpans p0).1).map FlySpan.row)))], 50⟩) (fun f => by kernel_rfl) (fun f => by kernel_rfl) (fun f => by kernel_rfl) fun f12 => ?_
      refine x_reg hT [.ex true (((i1 : Nat) : Int) + ((1 : Nat) : Int)) ((((i1 + 1) : Nat) : Int)) (fun _ => wr_nat (n := i1) (c := 1) (by omega))] (fun f13 => impl_FlyTube_I1 p0 fs (i1 + 1) (impl_FlyTube_v1 p0 i1 s1) (lst [f12 23 0, x1 1])) (fun f => by kernel_rfl) (fun f => by kernel_rfl) fun f13 s' hs' => ?_
      exact ⟨(impl_FlyTube_v1 p0 i1 s1), (lst [f12 23 0, x1 1]), hl1, (by (try simp only [LN, impl_FlyTube_v1] at *); omega), hX1.trans (forN_next hl1 (hB1.symm.trans hE1)), hs'⟩
    have hq := of_decide_eq_false h10
    refine w_exit ?_
    exact ⟨s1, (lst [x1 0, x1 1]), (by (try simp only [LN, impl_FlyTube_v1] at *); omega), hX1.trans (forN_end (by first | omega | ((try simp only [LN, impl_FlyTube_v1] at *); omega))), sb (by kernel_rfl)⟩
  intro s1 x1 hF16 hR14
  try simp only [LN, impl_FlyTube_v1] at hF16
  rw [impl_FlyTube_r1] at hR14
  refine xr hT [] (fun f15 => ⟨[(2, .one (.c (.mu 15 (x1 0) 6 0 (s1.map FlyBox.row).length)))], [(15, some (x1 0, .arr 6 (s1.map FlyBox.row)))], 50⟩) (fun f => by kernel_rfl) (fun f => by kernel_rfl) fun f15 => ?_
  refine w_ret ?_
  subst hR14
  exact x_ret (by kernel_rfl)
theorem f_impl_FlyTube (p0 : FlyPath) (h0 : FlyPath.ok p0) : (impl_FlyTube p0).length ≤ p0.Steps.length := by
  unfold impl_FlyTube
  rw [ite_all (M := fun (r : List FlyBox) => r.length ≤ p0.Steps.length)]
  refine ⟨fun _ => by simp, fun _ => ?_⟩
  refine forN_inv (fun (i : Nat) (s : List FlyBox) => s.length ≤ i) (fun (r : List FlyBox) => r.length ≤ p0.Steps.length) (p0.Steps.length) (fun j s hj h => ?_) (fun s h => ?_) _ 0 _ rfl (Nat.zero_le _) (by simp)
  · unfold impl_FlyTube_b1; simp only [all_ite, all_next, all_brk, all_ret]; (try simp only [LN, impl_FlyTube_v1]); (repeat' (first | omega | apply And.intro | intro _))
  · unfold impl_FlyTube_r1; (try simp only []); omega

def impl_ProbeCut_I2 (p0 : ProbeTube) (p1 : Int) (fs : Nat → Nat → Nat) (i2 : Nat) (s2 : List ProbeBox) (x2 : Nat → Nat) : St := ⟨[(1, .one (.c (.v (.int .i64 p1)))), (4, .one (.pt 4 (x2 0) 0)), (5, .one (.pt 5 (x2 1) 0)), (16, .one (.c (.sl .bor 6 (p0.Boxes.map ProbeBox.row)))), (17, .one (.c (.v (.int .i64 (p0.Boxes.length : Int))))), (18, .one (.c (.v (.int .i64 ((i2 : Nat) : Int)))))], [(4, some (x2 0, .box [.v (.string ⟨#[]⟩), .nl])), (5, some (x2 1, .box [.v (.string p0.Name), .mu 60501 (x2 2) 6 0 (s2.map ProbeBox.row).length])), (60501, some (x2 2, .arr 6 (s2.map ProbeBox.row)))], 39⟩
def impl_ProbeCut_J2 (p0 : ProbeTube) (p1 : Int) (fs : Nat → Nat → Nat) (s2 : List ProbeBox) (x2 : Nat → Nat) : St := ⟨[(4, .one (.pt 4 (x2 0) 0)), (5, .one (.pt 5 (x2 1) 0))], [(4, some (x2 0, .box [.v (.string ⟨#[]⟩), .nl])), (5, some (x2 1, .box [.v (.string p0.Name), .mu 60501 (x2 2) 6 0 (s2.map ProbeBox.row).length])), (60501, some (x2 2, .arr 6 (s2.map ProbeBox.row)))], 39⟩
def impl_ProbeCut_v1 (p0 : ProbeTube) (p1 : Int) (i2 : Nat) (s2 : List ProbeBox) : List ProbeBox := s2 ++ [(⟨(p0.Boxes.getD i2 default).X, (p0.Boxes.getD i2 default).Y, (p0.Boxes.getD i2 default).Low, (p0.Boxes.getD i2 default).High, max ((p0.Boxes.getD i2 default).In) p1, (p0.Boxes.getD i2 default).Out⟩ : ProbeBox)]
def impl_ProbeCut_b2 (p0 : ProbeTube) (p1 : Int) (i2 : Nat) (s2 : List ProbeBox) : Res (List ProbeBox) ProbeTube := (if decide (p1 ≤ ((p0.Boxes.getD i2 default).Out)) then (.next (impl_ProbeCut_v1 p0 p1 i2 s2)) else (.next s2))
def impl_ProbeCut_r2 (p0 : ProbeTube) (p1 : Int) (s2 : List ProbeBox) : ProbeTube := (⟨p0.Name, s2⟩ : ProbeTube)
/-- impl.ProbeCut -/
def impl_ProbeCut (p0 : ProbeTube) (p1 : Int) : ProbeTube := (if !(impl_ProbeTubeOk p0) then (⟨⟨#[]⟩, []⟩ : ProbeTube) else (Res.fin (impl_ProbeCut_r2 p0 p1) (forN (impl_ProbeCut_b2 p0 p1) (p0.Boxes.length - 0) 0 ([] : List ProbeBox))))
theorem c102 (p0 : ProbeTube) (p1 : Int) (k0_0 : ProbeTube.ok p0) : Fn Proofs.Try.prog 102 [⟨.val, true, ProbeTube.cs .bor p0⟩, ⟨.val, false, [.v (.int .i64 p1)]⟩] [.ag (ProbeTube.cs .own (impl_ProbeCut p0 p1))] [] := by
  obtain ⟨R, hR⟩ : ∃ R, R = impl_ProbeCut p0 p1 := ⟨_, rfl⟩
  rw [← hR]
  rw [impl_ProbeCut] at hR
  refine ⟨fn_intro hT Proofs.Try.func102 rfl rfl fun fs => ?_, _, Proofs.Try.func102, rfl, rfl⟩
  have q0 := k0_0; simp only [ProbeTube.ok] at q0
  refine xr hT [] (fun f1 => ⟨[(1, .one (.c (.v (.int .i64 p1)))), (2, .one (.pt 2 (f1 0 0) 0)), (4, .one (.pt 4 (f1 1 0) 0))], [(2, some (f1 0 0, .box (ProbeTube.cs .bor p0))), (4, some (f1 1 0, .box [.v (.string ⟨#[]⟩), .nl]))], 39⟩) (fun f => by kernel_rfl) (fun f => by kernel_rfl) fun f1 => ?_
  refine w_seq ?_
  refine xr hT [ca (c175 p0 (by first | assumption | exact (by omega : p0.Boxes.length ≤ 1048576)))] (fun f2 => ⟨[(1, .one (.c (.v (.int .i64 p1)))), (2, .one (.pt 2 (f1 0 0) 0)), (4, .one (.pt 4 (f1 1 0) 0)), (10, .one (.c (.v (.bool (!(impl_ProbeTubeOk p0))))))], [(2, some (f1 0 0, .box (ProbeTube.cs .bor p0))), (4, some (f1 1 0, .box [.v (.string ⟨#[]⟩), .nl]))], 39⟩) (fun f => by kernel_rfl) (fun f => by kernel_rfl) fun f2 => ?_
  refine w_cond rfl (fun h3 => ?_) fun h3 => ?_
  · rw [if_pos h3] at hR
    refine xr hT [] (fun f4 => ⟨[(4, .one (.pt 4 (f1 1 0) 0))], [(4, some (f1 1 0, .box [.v (.string ⟨#[]⟩), .nl]))], 39⟩) (fun f => by kernel_rfl) (fun f => by kernel_rfl) fun f4 => ?_
    refine w_ret ?_
    subst hR
    exact x_ret (by kernel_rfl)
  rw [if_neg (nt h3)] at hR
  refine w_skip ?_
  refine xr hT [] (fun f5 => ⟨[(1, .one (.c (.v (.int .i64 p1)))), (2, .one (.pt 2 (f1 0 0) 0)), (4, .one (.pt 4 (f1 1 0) 0)), (5, .one (.pt 5 (f5 3 0) 0))], [(2, some (f1 0 0, .box (ProbeTube.cs .bor p0))), (4, some (f1 1 0, .box [.v (.string ⟨#[]⟩), .nl])), (5, some (f5 3 0, .box [.v (.string p0.Name), .nl]))], 39⟩) (fun f => by kernel_rfl) (fun f => by kernel_rfl) fun f5 => ?_
  refine w_seq ?_
  refine xr hT [.ln ProbeBox.row p0.Boxes] (fun f6 => ⟨[(1, .one (.c (.v (.int .i64 p1)))), (4, .one (.pt 4 (f1 1 0) 0)), (5, .one (.pt 5 (f5 3 0) 0)), (16, .one (.c (.sl .bor 6 (p0.Boxes.map ProbeBox.row)))), (17, .one (.c (.v (.int .i64 (p0.Boxes.length : Int))))), (18, .one (.c (.v (.int .i64 0))))], [(4, some (f1 1 0, .box [.v (.string ⟨#[]⟩), .nl])), (5, some (f5 3 0, .box [.v (.string p0.Name), .nl]))], 39⟩) (fun f => by kernel_rfl) (fun f => by kernel_rfl) fun f6 => ?_
  refine w_ownO 5 1 60501 6 rfl rfl rfl rfl fun σ7 => ?_
  refine w_forT (fun _ => rfl) (impl_ProbeCut_I2 p0 p1 fs) (impl_ProbeCut_J2 p0 p1 fs) (fun i2 s2 => i2 ≤ p0.Boxes.length ∧ s2.length ≤ (([] : List ProbeBox)).length + i2) (fun s2 => s2.length ≤ (([] : List ProbeBox)).length + p0.Boxes.length) (p0.Boxes.length) 0 (impl_ProbeCut_b2 p0 p1) (impl_ProbeCut_r2 p0 p1) 0 (([] : List ProbeBox)) (lst [f1 1 0, f5 3 0, σ7]) (sb (by kernel_rfl)) (by first | rfl | ((try simp only [LN, impl_ProbeCut_v1]); omega) | (simp; done) | (simp; omega)) hR ?_ ?_
  · skip
    intro i2 s2 x2 hI2 hX2
    try simp only [LN, impl_ProbeCut_v1] at hI2
    refine xr hT [] (fun f8 => ⟨[(1, .one (.c (.v (.int .i64 p1)))), (4, .one (.pt 4 (x2 0) 0)), (5, .one (.pt 5 (x2 1) 0)), (16, .one (.c (.sl .bor 6 (p0.Boxes.map ProbeBox.row)))), (17, .one (.c (.v (.int .i64 (p0.Boxes.length : Int))))), (18, .one (.c (.v (.int .i64 ((i2 : Nat) : Int))))), (19, .one (.c (.v (.bool (decide (((i2 : Nat) : Int) < (p0.Boxes.length : Int)))))))], [(4, some (x2 0, .box [.v (.string ⟨#[]⟩), .nl])), (5, some (x2 1, .box [.v (.string p0.Name), .mu 60501 (x2 2) 6 0 (s2.map ProbeBox.row).length])), (60501, some (x2 2, .arr 6 (s2.map ProbeBox.row)))], 39⟩) (fun f => by kernel_rfl) (fun f => by kernel_rfl) fun f8 => ?_
    refine w_seq ?_
    refine w_cond rfl (fun h9 => ?_) fun h9 => ?_
    · skip
      have hl2 : i2 < p0.Boxes.length := by have hq := of_decide_eq_true h9; first | omega | ((try simp only [LN, impl_ProbeCut_v1] at *); omega)
      have hl2x := hl2; try simp only [LN, impl_ProbeCut_v1] at hl2x
      obtain ⟨B2, hB2⟩ : ∃ B, B = impl_ProbeCut_b2 p0 p1 i2 s2 := ⟨_, rfl⟩
      have hE2 := hB2
      rw [impl_ProbeCut_b2] at hE2
      refine w_skip ?_
      refine w_seq ?_
      refine w_block ?_
      refine xr hT [ix ProbeBox.row p0.Boxes i2 (by omega)] (fun f10 => ⟨[(1, .one (.c (.v (.int .i64 p1)))), (4, .one (.pt 4 (x2 0) 0)), (5, .one (.pt 5 (x2 1) 0)), (7, .one (.pt 7 (f10 2 0) 0)), (16, .one (.c (.sl .bor 6 (p0.Boxes.map ProbeBox.row)))), (17, .one (.c (.v (.int .i64 (p0.Boxes.length : Int))))), (18, .one (.c (.v (.int .i64 ((i2 : Nat) : Int)))))], [(4, some (x2 0, .box [.v (.string ⟨#[]⟩), .nl])), (5, some (x2 1, .box [.v (.string p0.Name), .mu 60501 (x2 2) 6 0 (s2.map ProbeBox.row).length])), (7, some (f10 2 0, .box (ProbeBox.cs .bor (p0.Boxes.getD i2 default)))), (60501, some (x2 2, .arr 6 (s2.map ProbeBox.row)))], 39⟩) (fun f => by kernel_rfl) (fun f => by kernel_rfl) fun f10 => ?_
      refine xr hT [] (fun f11 => ⟨[(1, .one (.c (.v (.int .i64 p1)))), (4, .one (.pt 4 (x2 0) 0)), (5, .one (.pt 5 (x2 1) 0)), (7, .one (.pt 7 (f10 2 0) 0)), (16, .one (.c (.sl .bor 6 (p0.Boxes.map ProbeBox.row)))), (17, .one (.c (.v (.int .i64 (p0.Boxes.length : Int))))), (18, .one (.c (.v (.int .i64 ((i2 : Nat) : Int))))), (25, .one (.c (.v (.bool (decide (p1 ≤ ((p0.Boxes.getD i2 default).Out)))))))], [(4, some (x2 0, .box [.v (.string ⟨#[]⟩), .nl])), (5, some (x2 1, .box [.v (.string p0.Name), .mu 60501 (x2 2) 6 0 (s2.map ProbeBox.row).length])), (7, some (f10 2 0, .box (ProbeBox.cs .bor (p0.Boxes.getD i2 default)))), (60501, some (x2 2, .arr 6 (s2.map ProbeBox.row)))], 39⟩) (fun f => by kernel_rfl) (fun f => by kernel_rfl) fun f11 => ?_
      refine w_cond rfl (fun h12 => ?_) fun h12 => ?_
      · rw [if_pos h12] at hE2
        have gh12 := of_decide_eq_true h12
        refine xr hT [] (fun f13 => ⟨[(1, .one (.c (.v (.int .i64 p1)))), (4, .one (.pt 4 (x2 0) 0)), (5, .one (.pt 5 (x2 1) 0)), (7, .one (.pt 7 (f10 2 0) 0)), (16, .one (.c (.sl .bor 6 (p0.Boxes.map ProbeBox.row)))), (17, .one (.c (.v (.int .i64 (p0.Boxes.length : Int))))), (18, .one (.c (.v (.int .i64 ((i2 : Nat) : Int)))))], [(4, some (x2 0, .box [.v (.string ⟨#[]⟩), .nl])), (5, some (x2 1, .box [.v (.string p0.Name), .mu 60501 (x2 2) 6 0 (s2.map ProbeBox.row).length])), (7, some (f10 2 0, .box [.v (.int .i64 ((p0.Boxes.getD i2 default).X)), .v (.int .i64 ((p0.Boxes.getD i2 default).Y)), .v (.int .i64 ((p0.Boxes.getD i2 default).Low)), .v (.int .i64 ((p0.Boxes.getD i2 default).High)), .v (.int .i64 (max ((p0.Boxes.getD i2 default).In) p1)), .v (.int .i64 ((p0.Boxes.getD i2 default).Out))])), (60501, some (x2 2, .arr 6 (s2.map ProbeBox.row)))], 39⟩) (fun f => by kernel_rfl) (fun f => by kernel_rfl) fun f13 => ?_
        refine xr1 (fun _ => rfl) hT [.rows ProbeBox.row [(⟨(p0.Boxes.getD i2 default).X, (p0.Boxes.getD i2 default).Y, (p0.Boxes.getD i2 default).Low, (p0.Boxes.getD i2 default).High, max ((p0.Boxes.getD i2 default).In) p1, (p0.Boxes.getD i2 default).Out⟩ : ProbeBox)], .app true ProbeBox.row s2 [(⟨(p0.Boxes.getD i2 default).X, (p0.Boxes.getD i2 default).Y, (p0.Boxes.getD i2 default).Low, (p0.Boxes.getD i2 default).High, max ((p0.Boxes.getD i2 default).In) p1, (p0.Boxes.getD i2 default).Out⟩ : ProbeBox)] 48 (fun h => by (try simp only [LN, impl_ProbeCut_v1]); omega)] (fun f14 => ⟨[(1, .one (.c (.v (.int .i64 p1)))), (4, .one (.pt 4 (x2 0) 0)), (5, .one (.pt 5 (x2 1) 0)), (16, .one (.c (.sl .bor 6 (p0.Boxes.map ProbeBox.row)))), (17, .one (.c (.v (.int .i64 (p0.Boxes.length : Int))))), (18, .one (.c (.v (.int .i64 ((i2 : Nat) : Int)))))], [(4, some (x2 0, .box [.v (.string ⟨#[]⟩), .nl])), (5, some (x2 1, .box [.v (.string p0.Name), .mu 60501 (f14 4 0) 6 0 ((impl_ProbeCut_v1 p0 p1 i2 s2).map ProbeBox.row).length])), (60501, some (f14 4 0, .arr 6 ((impl_ProbeCut_v1 p0 p1 i2 s2).map ProbeBox.row)))], 39⟩) (fun f => by kernel_rfl) (fun f => by kernel_rfl) fun f14 => ?_
        refine x_reg hT [.ex true (((i2 : Nat) : Int) + ((1 : Nat) : Int)) ((((i2 + 1) : Nat) : Int)) (fun _ => wr_nat (n := i2) (c := 1) (by omega))] (fun f15 => impl_ProbeCut_I2 p0 p1 fs (i2 + 1) (impl_ProbeCut_v1 p0 p1 i2 s2) (lst [x2 0, x2 1, f14 4 0])) (fun f => by kernel_rfl) (fun f => by kernel_rfl) fun f15 s' hs' => ?_
        exact ⟨(impl_ProbeCut_v1 p0 p1 i2 s2), (lst [x2 0, x2 1, f14 4 0]), hl2, (by (try simp only [LN, impl_ProbeCut_v1] at *); omega), hX2.trans (forN_next hl2 (hB2.symm.trans hE2)), hs'⟩
      rw [if_neg (nt h12)] at hE2
      have gh12 := of_decide_eq_false h12
      refine w_skip ?_
      refine x_reg hT [.ex true (((i2 : Nat) : Int) + ((1 : Nat) : Int)) ((((i2 + 1) : Nat) : Int)) (fun _ => wr_nat (n := i2) (c := 1) (by omega))] (fun f16 => impl_ProbeCut_I2 p0 p1 fs (i2 + 1) s2 (lst [x2 0, x2 1, x2 2])) (fun f => by kernel_rfl) (fun f => by kernel_rfl) fun f16 s' hs' => ?_
      exact ⟨s2, (lst [x2 0, x2 1, x2 2]), hl2, (by (try simp only [LN, impl_ProbeCut_v1] at *); omega), hX2.trans (forN_next hl2 (hB2.symm.trans hE2)), hs'⟩
    have hq := of_decide_eq_false h9
    refine w_exit ?_
    exact ⟨s2, (lst [x2 0, x2 1, x2 2]), (by (try simp only [LN, impl_ProbeCut_v1] at *); omega), hX2.trans (forN_end (by first | omega | ((try simp only [LN, impl_ProbeCut_v1] at *); omega))), sb (by kernel_rfl)⟩
  intro s2 x2 hF19 hR17
  try simp only [LN, impl_ProbeCut_v1] at hF19
  rw [impl_ProbeCut_r2] at hR17
  refine xr hT [] (fun f18 => ⟨[(4, .one (.pt 4 (x2 0) 0))], [(4, some (x2 0, .box [.v (.string p0.Name), .mu 60501 (x2 2) 6 0 (s2.map ProbeBox.row).length])), (60501, some (x2 2, .arr 6 (s2.map ProbeBox.row)))], 39⟩) (fun f => by kernel_rfl) (fun f => by kernel_rfl) fun f18 => ?_
  refine w_ret ?_
  subst hR17
  exact x_ret (by kernel_rfl)
theorem f_impl_ProbeCut (p0 : ProbeTube) (p1 : Int) (h0 : ProbeTube.ok p0) : (impl_ProbeCut p0 p1).Boxes.length ≤ p0.Boxes.length := by
  unfold impl_ProbeCut
  rw [ite_all (M := fun (r : ProbeTube) => r.Boxes.length ≤ p0.Boxes.length)]
  refine ⟨fun _ => by simp, fun _ => ?_⟩
  refine forN_inv (fun (i : Nat) (s : List ProbeBox) => s.length ≤ i) (fun (r : ProbeTube) => r.Boxes.length ≤ p0.Boxes.length) (p0.Boxes.length) (fun j s hj h => ?_) (fun s h => ?_) _ 0 _ rfl (Nat.zero_le _) (by simp)
  · unfold impl_ProbeCut_b2; simp only [all_ite, all_next, all_brk, all_ret]; (try simp only [LN, impl_ProbeCut_v1]); (repeat' (first | omega | apply And.intro | intro _))
  · unfold impl_ProbeCut_r2; (try simp only []); omega

def impl_LinkTube_I2 (p0 : ByteArray) (p1 : FlyPath) (p2 : Int) (fs : Nat → Nat → Nat) (i2 : Nat) (s2 : List ProbeBox) (x2 : Nat → Nat) : St := ⟨[(2, .one (.c (.v (.int .i64 p2)))), (6, .one (.pt 6 (x2 0) 0)), (7, .one (.pt 7 (x2 1) 0)), (13, .one (.c (.mu 1400000 (x2 3) 6 0 ((impl_FlyTube p1).map FlyBox.row).length))), (14, .one (.c (.v (.int .i64 ((impl_FlyTube p1).length : Int))))), (15, .one (.c (.v (.int .i64 ((i2 : Nat) : Int)))))], [(6, some (x2 0, .box [.v (.string ⟨#[]⟩), .nl])), (7, some (x2 1, .box [.v (.string p0), .mu 60701 (x2 2) 6 0 (s2.map ProbeBox.row).length])), (60701, some (x2 2, .arr 6 (s2.map ProbeBox.row))), (1400000, some (x2 3, .arr 6 ((impl_FlyTube p1).map FlyBox.row)))], 29⟩
def impl_LinkTube_J2 (p0 : ByteArray) (p1 : FlyPath) (p2 : Int) (fs : Nat → Nat → Nat) (s2 : List ProbeBox) (x2 : Nat → Nat) : St := ⟨[(2, .one (.c (.v (.int .i64 p2)))), (6, .one (.pt 6 (x2 0) 0)), (7, .one (.pt 7 (x2 1) 0))], [(6, some (x2 0, .box [.v (.string ⟨#[]⟩), .nl])), (7, some (x2 1, .box [.v (.string p0), .mu 60701 (x2 2) 6 0 (s2.map ProbeBox.row).length])), (60701, some (x2 2, .arr 6 (s2.map ProbeBox.row)))], 29⟩
def impl_LinkTube_v1 (p1 : FlyPath) (i2 : Nat) (s2 : List ProbeBox) : List ProbeBox := s2 ++ [(⟨((impl_FlyTube p1).getD i2 default).X, ((impl_FlyTube p1).getD i2 default).Y, ((impl_FlyTube p1).getD i2 default).Low, ((impl_FlyTube p1).getD i2 default).High, ((impl_FlyTube p1).getD i2 default).In, ((impl_FlyTube p1).getD i2 default).Out⟩ : ProbeBox)]
def impl_LinkTube_b2 (p0 : ByteArray) (p1 : FlyPath) (p2 : Int) (i2 : Nat) (s2 : List ProbeBox) : Res (List ProbeBox) ProbeTube := (.next (impl_LinkTube_v1 p1 i2 s2))
def impl_LinkTube_r2 (p0 : ByteArray) (p1 : FlyPath) (p2 : Int) (s2 : List ProbeBox) : ProbeTube := (impl_ProbeCut (⟨p0, s2⟩ : ProbeTube) p2)
/-- impl.LinkTube -/
def impl_LinkTube (p0 : ByteArray) (p1 : FlyPath) (p2 : Int) : ProbeTube := (Res.fin (impl_LinkTube_r2 p0 p1 p2) (forN (impl_LinkTube_b2 p0 p1 p2) ((impl_FlyTube p1).length - 0) 0 ([] : List ProbeBox)))
theorem c25 (p0 : ByteArray) (p1 : FlyPath) (p2 : Int) (k1_0 : FlyPath.ok p1) : Fn Proofs.Try.prog 25 [⟨.val, false, [.v (.string p0)]⟩, ⟨.val, true, FlyPath.cs .bor p1⟩, ⟨.val, false, [.v (.int .i64 p2)]⟩] [.ag (ProbeTube.cs .own (impl_LinkTube p0 p1 p2))] [] := by
  obtain ⟨R, hR⟩ : ∃ R, R = impl_LinkTube p0 p1 p2 := ⟨_, rfl⟩
  rw [← hR]
  rw [impl_LinkTube] at hR
  refine ⟨fn_intro hT Proofs.Try.func25 rfl rfl fun fs => ?_, _, Proofs.Try.func25, rfl, rfl⟩
  have q1 := k1_0; simp only [FlyPath.ok] at q1
  refine xr hT [] (fun f1 => ⟨[(0, .one (.c (.v (.string p0)))), (2, .one (.c (.v (.int .i64 p2)))), (4, .one (.pt 4 (f1 0 0) 0)), (6, .one (.pt 6 (f1 1 0) 0))], [(4, some (f1 0 0, .box (FlyPath.cs .bor p1))), (6, some (f1 1 0, .box [.v (.string ⟨#[]⟩), .nl]))], 29⟩) (fun f => by kernel_rfl) (fun f => by kernel_rfl) fun f1 => ?_
  refine xr hT [] (fun f2 => ⟨[(2, .one (.c (.v (.int .i64 p2)))), (4, .one (.pt 4 (f1 0 0) 0)), (6, .one (.pt 6 (f1 1 0) 0)), (7, .one (.pt 7 (f2 2 0) 0))], [(4, some (f1 0 0, .box (FlyPath.cs .bor p1))), (6, some (f1 1 0, .box [.v (.string ⟨#[]⟩), .nl])), (7, some (f2 2 0, .box [.v (.string p0), .nl]))], 29⟩) (fun f => by kernel_rfl) (fun f => by kernel_rfl) fun f2 => ?_
  refine w_seq ?_
  have w4 := f_impl_FlyTube p1 (by first | assumption | exact (by omega : p1.Steps.length ≤ 1048576))
  have w4' := w4; try simp only [LN, impl_LinkTube_v1] at w4'
  refine xr hT [ca (c51 p1 (by first | assumption | exact (by omega : p1.Steps.length ≤ 1048576))), .ln FlyBox.row (impl_FlyTube p1)] (fun f3 => ⟨[(2, .one (.c (.v (.int .i64 p2)))), (6, .one (.pt 6 (f1 1 0) 0)), (7, .one (.pt 7 (f2 2 0) 0)), (13, .one (.c (.mu 1400000 (gk (f3 1) 0 0) 6 0 ((impl_FlyTube p1).map FlyBox.row).length))), (14, .one (.c (.v (.int .i64 ((impl_FlyTube p1).length : Int))))), (15, .one (.c (.v (.int .i64 0))))], [(6, some (f1 1 0, .box [.v (.string ⟨#[]⟩), .nl])), (7, some (f2 2 0, .box [.v (.string p0), .nl])), (1400000, some (gk (f3 1) 0 0, .arr 6 ((impl_FlyTube p1).map FlyBox.row)))], 29⟩) (fun f => by kernel_rfl) (fun f => by kernel_rfl) fun f3 => ?_
  refine w_ownO 7 1 60701 6 rfl rfl rfl rfl fun σ5 => ?_
  refine w_forT (fun _ => rfl) (impl_LinkTube_I2 p0 p1 p2 fs) (impl_LinkTube_J2 p0 p1 p2 fs) (fun i2 s2 => i2 ≤ (impl_FlyTube p1).length ∧ s2.length ≤ (([] : List ProbeBox)).length + i2) (fun s2 => s2.length ≤ (([] : List ProbeBox)).length + (impl_FlyTube p1).length) ((impl_FlyTube p1).length) 0 (impl_LinkTube_b2 p0 p1 p2) (impl_LinkTube_r2 p0 p1 p2) 0 (([] : List ProbeBox)) (lst [f1 1 0, f2 2 0, σ5, gk (f3 1) 0 0]) (sb (by kernel_rfl)) (by first | rfl | ((try simp only [LN, impl_LinkTube_v1]); omega) | (simp; done) | (simp; omega)) hR ?_ ?_
  · skip
    intro i2 s2 x2 hI2 hX2
    try simp only [LN, impl_LinkTube_v1] at hI2
    refine xr hT [] (fun f6 => ⟨[(2, .one (.c (.v (.int .i64 p2)))), (6, .one (.pt 6 (x2 0) 0)), (7, .one (.pt 7 (x2 1) 0)), (13, .one (.c (.mu 1400000 (x2 3) 6 0 ((impl_FlyTube p1).map FlyBox.row).length))), (14, .one (.c (.v (.int .i64 ((impl_FlyTube p1).length : Int))))), (15, .one (.c (.v (.int .i64 ((i2 : Nat) : Int))))), (16, .one (.c (.v (.bool (decide (((i2 : Nat) : Int) < ((impl_FlyTube p1).length : Int)))))))], [(6, some (x2 0, .box [.v (.string ⟨#[]⟩), .nl])), (7, some (x2 1, .box [.v (.string p0), .mu 60701 (x2 2) 6 0 (s2.map ProbeBox.row).length])), (60701, some (x2 2, .arr 6 (s2.map ProbeBox.row))), (1400000, some (x2 3, .arr 6 ((impl_FlyTube p1).map FlyBox.row)))], 29⟩) (fun f => by kernel_rfl) (fun f => by kernel_rfl) fun f6 => ?_
    refine w_seq ?_
    refine w_cond rfl (fun h7 => ?_) fun h7 => ?_
    · skip
      have hl2 : i2 < (impl_FlyTube p1).length := by have hq := of_decide_eq_true h7; first | omega | ((try simp only [LN, impl_LinkTube_v1] at *); omega)
      have hl2x := hl2; try simp only [LN, impl_LinkTube_v1] at hl2x
      obtain ⟨B2, hB2⟩ : ∃ B, B = impl_LinkTube_b2 p0 p1 p2 i2 s2 := ⟨_, rfl⟩
      have hE2 := hB2
      rw [impl_LinkTube_b2] at hE2
      refine w_skip ?_
      refine w_seq ?_
      refine w_block ?_
      refine xr hT [ix FlyBox.row (impl_FlyTube p1) i2 (by (first | omega | ((try simp only [LN, impl_LinkTube_v1]); omega) | ((try simp only [wr, IntKind.wrap_i64, LN, impl_LinkTube_v1] at *); omega) | (simp_all <;> omega))), ix FlyBox.row (impl_FlyTube p1) i2 (by (first | omega | ((try simp only [LN, impl_LinkTube_v1]); omega) | ((try simp only [wr, IntKind.wrap_i64, LN, impl_LinkTube_v1] at *); omega) | (simp_all <;> omega)))] (fun f8 => ⟨[(2, .one (.c (.v (.int .i64 p2)))), (6, .one (.pt 6 (x2 0) 0)), (7, .one (.pt 7 (x2 1) 0)), (9, .one (.pt 9 (f8 2 0) 0)), (13, .one (.c (.mu 1400000 (x2 3) 6 0 ((impl_FlyTube p1).map FlyBox.row).length))), (14, .one (.c (.v (.int .i64 ((impl_FlyTube p1).length : Int))))), (15, .one (.c (.v (.int .i64 ((i2 : Nat) : Int)))))], [(6, some (x2 0, .box [.v (.string ⟨#[]⟩), .nl])), (7, some (x2 1, .box [.v (.string p0), .mu 60701 (x2 2) 6 0 (s2.map ProbeBox.row).length])), (9, some (f8 2 0, .box (FlyBox.cs .frz ((impl_FlyTube p1).getD i2 default)))), (60701, some (x2 2, .arr 6 (s2.map ProbeBox.row))), (1400000, some (x2 3, .arr 6 ((impl_FlyTube p1).map FlyBox.row)))], 29⟩) (fun f => by kernel_rfl) (fun f => by kernel_rfl) fun f8 => ?_
      refine xr1 (fun _ => rfl) hT [.rows ProbeBox.row [(⟨((impl_FlyTube p1).getD i2 default).X, ((impl_FlyTube p1).getD i2 default).Y, ((impl_FlyTube p1).getD i2 default).Low, ((impl_FlyTube p1).getD i2 default).High, ((impl_FlyTube p1).getD i2 default).In, ((impl_FlyTube p1).getD i2 default).Out⟩ : ProbeBox)], .app true ProbeBox.row s2 [(⟨((impl_FlyTube p1).getD i2 default).X, ((impl_FlyTube p1).getD i2 default).Y, ((impl_FlyTube p1).getD i2 default).Low, ((impl_FlyTube p1).getD i2 default).High, ((impl_FlyTube p1).getD i2 default).In, ((impl_FlyTube p1).getD i2 default).Out⟩ : ProbeBox)] 48 (fun h => by (try simp only [LN, impl_LinkTube_v1]); omega)] (fun f9 => ⟨[(2, .one (.c (.v (.int .i64 p2)))), (6, .one (.pt 6 (x2 0) 0)), (7, .one (.pt 7 (x2 1) 0)), (13, .one (.c (.mu 1400000 (x2 3) 6 0 ((impl_FlyTube p1).map FlyBox.row).length))), (14, .one (.c (.v (.int .i64 ((impl_FlyTube p1).length : Int))))), (15, .one (.c (.v (.int .i64 ((i2 : Nat) : Int)))))], [(6, some (x2 0, .box [.v (.string ⟨#[]⟩), .nl])), (7, some (x2 1, .box [.v (.string p0), .mu 60701 (f9 4 0) 6 0 ((impl_LinkTube_v1 p1 i2 s2).map ProbeBox.row).length])), (60701, some (f9 4 0, .arr 6 ((impl_LinkTube_v1 p1 i2 s2).map ProbeBox.row))), (1400000, some (x2 3, .arr 6 ((impl_FlyTube p1).map FlyBox.row)))], 29⟩) (fun f => by kernel_rfl) (fun f => by kernel_rfl) fun f9 => ?_
      refine x_reg hT [.ex true (((i2 : Nat) : Int) + ((1 : Nat) : Int)) ((((i2 + 1) : Nat) : Int)) (fun _ => wr_nat (n := i2) (c := 1) (by omega))] (fun f10 => impl_LinkTube_I2 p0 p1 p2 fs (i2 + 1) (impl_LinkTube_v1 p1 i2 s2) (lst [x2 0, x2 1, f9 4 0, x2 3])) (fun f => by kernel_rfl) (fun f => by kernel_rfl) fun f10 s' hs' => ?_
      exact ⟨(impl_LinkTube_v1 p1 i2 s2), (lst [x2 0, x2 1, f9 4 0, x2 3]), hl2, (by (try simp only [LN, impl_LinkTube_v1] at *); omega), hX2.trans (forN_next hl2 (hB2.symm.trans hE2)), hs'⟩
    have hq := of_decide_eq_false h7
    refine w_exit ?_
    exact ⟨s2, (lst [x2 0, x2 1, x2 2, x2 3]), (by (try simp only [LN, impl_LinkTube_v1] at *); omega), hX2.trans (forN_end (by first | omega | ((try simp only [LN, impl_LinkTube_v1] at *); omega))), sb (by kernel_rfl)⟩
  intro s2 x2 hF14 hR11
  try simp only [LN, impl_LinkTube_v1] at hF14
  rw [impl_LinkTube_r2] at hR11
  have w13 := f_impl_ProbeCut (⟨p0, s2⟩ : ProbeTube) p2 (by first | assumption | exact (by omega : s2.length ≤ 1048576))
  have w13' := w13; try simp only [LN, impl_LinkTube_v1] at w13'
  refine xr hT [ca (c102 (⟨p0, s2⟩ : ProbeTube) p2 (by first | assumption | exact (by omega : s2.length ≤ 1048576)))] (fun f12 => ⟨[(6, .one (.pt 6 (x2 0) 0))], [(6, some (x2 0, .box [.v (.string ((impl_ProbeCut (⟨p0, s2⟩ : ProbeTube) p2).Name)), .mu 2900001 (gk (f12 2) 0 1) 6 0 (((impl_ProbeCut (⟨p0, s2⟩ : ProbeTube) p2).Boxes).map ProbeBox.row).length])), (2900001, some (gk (f12 2) 0 1, .arr 6 (((impl_ProbeCut (⟨p0, s2⟩ : ProbeTube) p2).Boxes).map ProbeBox.row)))], 29⟩) (fun f => by kernel_rfl) (fun f => by kernel_rfl) fun f12 => ?_
  refine w_ret ?_
  subst hR11
  exact x_ret (by kernel_rfl)
theorem f_impl_LinkTube (p0 : ByteArray) (p1 : FlyPath) (p2 : Int) (h0 : FlyPath.ok p1) : (impl_LinkTube p0 p1 p2).Boxes.length ≤ p1.Steps.length := by
  have hl := f_impl_FlyTube p1 h0
  unfold impl_LinkTube
  refine forN_inv (fun (i : Nat) (s : List ProbeBox) => s.length ≤ i) (fun (r : ProbeTube) => r.Boxes.length ≤ p1.Steps.length) ((impl_FlyTube p1).length) (fun j s hj h => ?_) (fun s h => ?_) _ 0 _ rfl (Nat.zero_le _) (by simp)
  · unfold impl_LinkTube_b2; simp only [all_next]; (try simp only [LN, impl_LinkTube_v1]); omega
  · unfold impl_LinkTube_r2
    have hk : FlyPath.ok p1 → p1.Steps.length ≤ 1048576 := fun h => h
    have h2 := f_impl_ProbeCut ⟨p0, s⟩ p2 (show s.length ≤ _ from by have := hk h0; omega)
    simp only at h2
    omega

/-- laws.szLinkHeld -/
def laws_szLinkHeld (p0 : LinkHeld) (p1 : Int) : Int := (if decide ((wr (p1 - (p0.Name.size : Int))) < 0) then (-1) else (if decide ((laws_szFlyPath p0.Path (wr (p1 - (p0.Name.size : Int)))) < 0) then (-1) else (if decide ((laws_szFlyPath p0.Next (laws_szFlyPath p0.Path (wr (p1 - (p0.Name.size : Int))))) < 0) then (-1) else (laws_szFlyPath p0.Next (laws_szFlyPath p0.Path (wr (p1 - (p0.Name.size : Int))))))))
theorem c180 (p0 : LinkHeld) (p1 : Int) (k0_0 : LinkHeld.big p0) : Fn Proofs.Try.prog 180 [⟨.val, true, LinkHeld.cs .bor p0⟩, ⟨.val, false, [.v (.int .i64 p1)]⟩] [.c (.v (.int .i64 (laws_szLinkHeld p0 p1)))] [] := by
  obtain ⟨R, hR⟩ : ∃ R, R = laws_szLinkHeld p0 p1 := ⟨_, rfl⟩
  rw [← hR]
  rw [laws_szLinkHeld] at hR
  refine ⟨fn_intro hT Proofs.Try.func180 rfl rfl fun fs => ?_, _, Proofs.Try.func180, rfl, rfl⟩
  have q0 := k0_0; simp only [LinkHeld.big] at q0
  refine xr hT [] (fun f1 => ⟨[(1, .one (.c (.v (.int .i64 p1)))), (2, .one (.pt 2 (f1 0 0) 0))], [(2, some (f1 0 0, .box (LinkHeld.cs .bor p0)))], 25⟩) (fun f => by kernel_rfl) (fun f => by kernel_rfl) fun f1 => ?_
  refine xr hT [.und Proofs.Try.underlying9, .wr] (fun f2 => ⟨[(1, .one (.c (.v (.int .i64 (wr (p1 - (p0.Name.size : Int))))))), (2, .one (.pt 2 (f1 0 0) 0))], [(2, some (f1 0 0, .box (LinkHeld.cs .bor p0)))], 25⟩) (fun f => by kernel_rfl) (fun f => by kernel_rfl) fun f2 => ?_
  refine w_seq ?_
  refine xr hT [] (fun f3 => ⟨[(1, .one (.c (.v (.int .i64 (wr (p1 - (p0.Name.size : Int))))))), (2, .one (.pt 2 (f1 0 0) 0)), (11, .one (.c (.v (.bool (decide ((wr (p1 - (p0.Name.size : Int))) < 0))))))], [(2, some (f1 0 0, .box (LinkHeld.cs .bor p0)))], 25⟩) (fun f => by kernel_rfl) (fun f => by kernel_rfl) fun f3 => ?_
  refine w_cond rfl (fun h4 => ?_) fun h4 => ?_
  · rw [if_pos h4] at hR
    have gh4 := of_decide_eq_true h4
    refine xr hT [] (fun f5 => ⟨[(4, .one (.c (.v (.int .i64 (-1)))))], [], 25⟩) (fun f => by kernel_rfl) (fun f => by kernel_rfl) fun f5 => ?_
    refine w_ret ?_
    subst hR
    exact x_ret (by kernel_rfl)
  rw [if_neg (nt h4)] at hR
  have gh4 := of_decide_eq_false h4
  refine w_skip ?_
  refine xr hT [ca (c22 p0.Path (wr (p1 - (p0.Name.size : Int))) (by first | assumption | exact (by omega : p0.Path.Steps.length ≤ 9223372036854775807)))] (fun f6 => ⟨[(1, .one (.c (.v (.int .i64 (laws_szFlyPath p0.Path (wr (p1 - (p0.Name.size : Int)))))))), (2, .one (.pt 2 (f1 0 0) 0))], [(2, some (f1 0 0, .box (LinkHeld.cs .bor p0)))], 25⟩) (fun f => by kernel_rfl) (fun f => by kernel_rfl) fun f6 => ?_
  refine w_seq ?_
  refine xr hT [] (fun f7 => ⟨[(1, .one (.c (.v (.int .i64 (laws_szFlyPath p0.Path (wr (p1 - (p0.Name.size : Int)))))))), (2, .one (.pt 2 (f1 0 0) 0)), (17, .one (.c (.v (.bool (decide ((laws_szFlyPath p0.Path (wr (p1 - (p0.Name.size : Int)))) < 0))))))], [(2, some (f1 0 0, .box (LinkHeld.cs .bor p0)))], 25⟩) (fun f => by kernel_rfl) (fun f => by kernel_rfl) fun f7 => ?_
  refine w_cond rfl (fun h8 => ?_) fun h8 => ?_
  · rw [if_pos h8] at hR
    have gh8 := of_decide_eq_true h8
    refine xr hT [] (fun f9 => ⟨[(4, .one (.c (.v (.int .i64 (-1)))))], [], 25⟩) (fun f => by kernel_rfl) (fun f => by kernel_rfl) fun f9 => ?_
    refine w_ret ?_
    subst hR
    exact x_ret (by kernel_rfl)
  rw [if_neg (nt h8)] at hR
  have gh8 := of_decide_eq_false h8
  refine w_skip ?_
  refine xr hT [ca (c22 p0.Next (laws_szFlyPath p0.Path (wr (p1 - (p0.Name.size : Int)))) (by first | assumption | exact (by omega : p0.Next.Steps.length ≤ 9223372036854775807)))] (fun f10 => ⟨[(1, .one (.c (.v (.int .i64 (laws_szFlyPath p0.Next (laws_szFlyPath p0.Path (wr (p1 - (p0.Name.size : Int)))))))))], [], 25⟩) (fun f => by kernel_rfl) (fun f => by kernel_rfl) fun f10 => ?_
  refine w_seq ?_
  refine xr hT [] (fun f11 => ⟨[(1, .one (.c (.v (.int .i64 (laws_szFlyPath p0.Next (laws_szFlyPath p0.Path (wr (p1 - (p0.Name.size : Int))))))))), (23, .one (.c (.v (.bool (decide ((laws_szFlyPath p0.Next (laws_szFlyPath p0.Path (wr (p1 - (p0.Name.size : Int))))) < 0))))))], [], 25⟩) (fun f => by kernel_rfl) (fun f => by kernel_rfl) fun f11 => ?_
  refine w_cond rfl (fun h12 => ?_) fun h12 => ?_
  · rw [if_pos h12] at hR
    have gh12 := of_decide_eq_true h12
    refine xr hT [] (fun f13 => ⟨[(4, .one (.c (.v (.int .i64 (-1)))))], [], 25⟩) (fun f => by kernel_rfl) (fun f => by kernel_rfl) fun f13 => ?_
    refine w_ret ?_
    subst hR
    exact x_ret (by kernel_rfl)
  rw [if_neg (nt h12)] at hR
  have gh12 := of_decide_eq_false h12
  refine w_skip ?_
  refine xr hT [] (fun f14 => ⟨[(4, .one (.c (.v (.int .i64 (laws_szFlyPath p0.Next (laws_szFlyPath p0.Path (wr (p1 - (p0.Name.size : Int)))))))))], [], 25⟩) (fun f => by kernel_rfl) (fun f => by kernel_rfl) fun f14 => ?_
  refine w_ret ?_
  subst hR
  exact x_ret (by kernel_rfl)
theorem f_laws_szLinkHeld (p0 : LinkHeld) (p1 : Int) (hb : LinkHeld.big p0) (h1 : 0 ≤ p1) (h2 : p1 ≤ 1048576) (h : 0 ≤ laws_szLinkHeld p0 p1) : LinkHeld.ok p0 ∧ laws_szLinkHeld p0 p1 ≤ p1 := by
  obtain ⟨b1, b2, b3⟩ := hb
  have e : wr (p1 - (p0.Name.size : Int)) = p1 - (p0.Name.size : Int) := wr_eq (by omega) (by omega)
  unfold laws_szLinkHeld at h ⊢
  rw [e] at h ⊢
  by_cases q : p1 - (p0.Name.size : Int) < 0
  · simp only [q, decide_true, if_true] at h; omega
  simp only [q, decide_false, Bool.false_eq_true, if_false] at h ⊢
  by_cases q2 : laws_szFlyPath p0.Path (p1 - (p0.Name.size : Int)) < 0
  · simp only [q2, decide_true, if_true] at h; omega
  simp only [q2, decide_false, Bool.false_eq_true, if_false] at h ⊢
  have w1 := f_laws_szFlyPath p0.Path _ b2 (by omega) (by omega) (by omega : 0 ≤ laws_szFlyPath p0.Path (p1 - (p0.Name.size : Int)))
  by_cases q3 : laws_szFlyPath p0.Next (laws_szFlyPath p0.Path (p1 - (p0.Name.size : Int))) < 0
  · simp only [q3, decide_true, if_true] at h; omega
  simp only [q3, decide_false, Bool.false_eq_true, if_false] at h ⊢
  have w2 := f_laws_szFlyPath p0.Next _ b3 (by omega) (by omega) h
  exact ⟨⟨w1.1, w2.1⟩, by omega⟩

def laws_szLinkHeldS_I1 (p0 : (List LinkHeld)) (p1 : Int) (fs : Nat → Nat → Nat) (i1 : Nat) (s1 : Int) (x1 : Nat → Nat) : St := ⟨[(0, .one (.c (.sl .bor 13 (p0.map LinkHeld.row)))), (1, .one (.c (.v (.int .i64 s1)))), (5, .one (.c (.v (.int .i64 ((i1 : Nat) : Int)))))], [], 27⟩
def laws_szLinkHeldS_J1 (p0 : (List LinkHeld)) (p1 : Int) (fs : Nat → Nat → Nat) (s1 : Int) (x1 : Nat → Nat) : St := ⟨[(1, .one (.c (.v (.int .i64 s1))))], [], 27⟩
def laws_szLinkHeldS_b1 (p0 : (List LinkHeld)) (p1 : Int) (i1 : Nat) (s1 : Int) : Res (Int) Int := (if decide ((laws_szLinkHeld (p0.getD i1 default) s1) < 0) then (.ret (-1)) else (.next (laws_szLinkHeld (p0.getD i1 default) s1)))
def laws_szLinkHeldS_r1 (p0 : (List LinkHeld)) (p1 : Int) (s1 : Int) : Int := s1
/-- laws.szLinkHeldS -/
def laws_szLinkHeldS (p0 : (List LinkHeld)) (p1 : Int) : Int := (if decide ((wr (p1 - (p0.length : Int))) < 0) then (-1) else (Res.fin (laws_szLinkHeldS_r1 p0 p1) (forN (laws_szLinkHeldS_b1 p0 p1) (p0.length - 0) 0 (wr (p1 - (p0.length : Int))))))
theorem c109 (p0 : (List LinkHeld)) (p1 : Int) (k0_0 : p0.length ≤ 9223372036854775807) (k0_1 : ∀ y ∈ p0, LinkHeld.big y) : Fn Proofs.Try.prog 109 [⟨.val, false, [.sl .bor 13 (p0.map LinkHeld.row)]⟩, ⟨.val, false, [.v (.int .i64 p1)]⟩] [.c (.v (.int .i64 (laws_szLinkHeldS p0 p1)))] [] := by
  obtain ⟨R, hR⟩ : ∃ R, R = laws_szLinkHeldS p0 p1 := ⟨_, rfl⟩
  rw [← hR]
  rw [laws_szLinkHeldS] at hR
  refine ⟨fn_intro hT Proofs.Try.func109 rfl rfl fun fs => ?_, _, Proofs.Try.func109, rfl, rfl⟩
  refine xr hT [] (fun f1 => ⟨[(0, .one (.c (.sl .bor 13 (p0.map LinkHeld.row)))), (1, .one (.c (.v (.int .i64 p1))))], [], 27⟩) (fun f => by kernel_rfl) (fun f => by kernel_rfl) fun f1 => ?_
  refine xr hT [.ln LinkHeld.row p0, .wr] (fun f2 => ⟨[(0, .one (.c (.sl .bor 13 (p0.map LinkHeld.row)))), (1, .one (.c (.v (.int .i64 (wr (p1 - (p0.length : Int)))))))], [], 27⟩) (fun f => by kernel_rfl) (fun f => by kernel_rfl) fun f2 => ?_
  refine w_seq ?_
  refine xr hT [] (fun f3 => ⟨[(0, .one (.c (.sl .bor 13 (p0.map LinkHeld.row)))), (1, .one (.c (.v (.int .i64 (wr (p1 - (p0.length : Int))))))), (11, .one (.c (.v (.bool (decide ((wr (p1 - (p0.length : Int))) < 0))))))], [], 27⟩) (fun f => by kernel_rfl) (fun f => by kernel_rfl) fun f3 => ?_
  refine w_cond rfl (fun h4 => ?_) fun h4 => ?_
  · rw [if_pos h4] at hR
    have gh4 := of_decide_eq_true h4
    refine xr hT [] (fun f5 => ⟨[(4, .one (.c (.v (.int .i64 (-1)))))], [], 27⟩) (fun f => by kernel_rfl) (fun f => by kernel_rfl) fun f5 => ?_
    refine w_ret ?_
    subst hR
    exact x_ret (by kernel_rfl)
  rw [if_neg (nt h4)] at hR
  have gh4 := of_decide_eq_false h4
  refine w_skip ?_
  refine w_seq ?_
  refine xr hT [] (fun f6 => ⟨[(0, .one (.c (.sl .bor 13 (p0.map LinkHeld.row)))), (1, .one (.c (.v (.int .i64 (wr (p1 - (p0.length : Int))))))), (5, .one (.c (.v (.int .i64 0))))], [], 27⟩) (fun f => by kernel_rfl) (fun f => by kernel_rfl) fun f6 => ?_
  refine w_forT (fun _ => rfl) (laws_szLinkHeldS_I1 p0 p1 fs) (laws_szLinkHeldS_J1 p0 p1 fs) (fun i1 s1 => True) (fun s1 => True) (p0.length) 0 (laws_szLinkHeldS_b1 p0 p1) (laws_szLinkHeldS_r1 p0 p1) 0 (wr (p1 - (p0.length : Int))) (lst []) (sb (by kernel_rfl)) trivial hR ?_ ?_
  · skip
    intro i1 s1 x1 hI1 hX1
    refine w_seq ?_
    refine xr hT [.ln LinkHeld.row p0] (fun f7 => ⟨[(0, .one (.c (.sl .bor 13 (p0.map LinkHeld.row)))), (1, .one (.c (.v (.int .i64 s1)))), (5, .one (.c (.v (.int .i64 ((i1 : Nat) : Int))))), (15, .one (.c (.v (.bool (decide (((i1 : Nat) : Int) < (p0.length : Int)))))))], [], 27⟩) (fun f => by kernel_rfl) (fun f => by kernel_rfl) fun f7 => ?_
    refine w_cond rfl (fun h8 => ?_) fun h8 => ?_
    · skip
      have hl1 : i1 < p0.length := by have hq := of_decide_eq_true h8; first | omega | ((try simp only [LN] at *); omega)
      obtain ⟨B1, hB1⟩ : ∃ B, B = laws_szLinkHeldS_b1 p0 p1 i1 s1 := ⟨_, rfl⟩
      have hE1 := hB1
      rw [laws_szLinkHeldS_b1] at hE1
      refine w_skip ?_
      refine w_seq ?_
      refine w_block ?_
      try have e10 := okget (xs := p0) (k := i1) (k0_1) (by first | omega | ((try simp only [LN]); omega))
      try simp only [LinkHeld.big] at e10
      refine xr hT [ix LinkHeld.row p0 i1 (by omega), .rw (FlyStep.rv ((p0.getD i1 default).Path.Steps)), .rw (FlyStep.rv ((p0.getD i1 default).Next.Steps)), ca (c180 (p0.getD i1 default) s1 (by first | assumption | exact ⟨(by omega : ((p0.getD i1 default).Name).size ≤ 9223372036854775807), (by omega : ((p0.getD i1 default).Path.Steps).length ≤ 9223372036854775807), (by omega : ((p0.getD i1 default).Next.Steps).length ≤ 9223372036854775807)⟩))] (fun f9 => ⟨[(0, .one (.c (.sl .bor 13 (p0.map LinkHeld.row)))), (1, .one (.c (.v (.int .i64 (laws_szLinkHeld (p0.getD i1 default) s1))))), (5, .one (.c (.v (.int .i64 ((i1 : Nat) : Int)))))], [], 27⟩) (fun f => by kernel_rfl) (fun f => by kernel_rfl) fun f9 => ?_
      refine xr hT [] (fun f11 => ⟨[(0, .one (.c (.sl .bor 13 (p0.map LinkHeld.row)))), (1, .one (.c (.v (.int .i64 (laws_szLinkHeld (p0.getD i1 default) s1))))), (5, .one (.c (.v (.int .i64 ((i1 : Nat) : Int))))), (25, .one (.c (.v (.bool (decide ((laws_szLinkHeld (p0.getD i1 default) s1) < 0))))))], [], 27⟩) (fun f => by kernel_rfl) (fun f => by kernel_rfl) fun f11 => ?_
      refine w_cond rfl (fun h12 => ?_) fun h12 => ?_
      · rw [if_pos h12] at hE1
        have gh12 := of_decide_eq_true h12
        refine xr hT [] (fun f13 => ⟨[(4, .one (.c (.v (.int .i64 (-1)))))], [], 27⟩) (fun f => by kernel_rfl) (fun f => by kernel_rfl) fun f13 => ?_
        refine w_ret ?_
        have hR := hX1.trans (forN_ret hl1 (hB1.symm.trans hE1))
        subst hR
        exact x_ret (by kernel_rfl)
      rw [if_neg (nt h12)] at hE1
      have gh12 := of_decide_eq_false h12
      refine w_skip ?_
      refine x_reg hT [.ex true (((i1 : Nat) : Int) + ((1 : Nat) : Int)) ((((i1 + 1) : Nat) : Int)) (fun _ => wr_nat (n := i1) (c := 1) (by omega))] (fun f14 => laws_szLinkHeldS_I1 p0 p1 fs (i1 + 1) (laws_szLinkHeld (p0.getD i1 default) s1) (lst [])) (fun f => by kernel_rfl) (fun f => by kernel_rfl) fun f14 s' hs' => ?_
      exact ⟨(laws_szLinkHeld (p0.getD i1 default) s1), (lst []), hl1, trivial, hX1.trans (forN_next hl1 (hB1.symm.trans hE1)), hs'⟩
    have hq := of_decide_eq_false h8
    refine w_exit ?_
    exact ⟨s1, (lst []), trivial, hX1.trans (forN_end (by first | omega | ((try simp only [LN] at *); omega))), sb (by kernel_rfl)⟩
  intro s1 x1 hF17 hR15
  rw [laws_szLinkHeldS_r1] at hR15
  refine xr hT [] (fun f16 => ⟨[(4, .one (.c (.v (.int .i64 s1))))], [], 27⟩) (fun f => by kernel_rfl) (fun f => by kernel_rfl) fun f16 => ?_
  refine w_ret ?_
  subst hR15
  exact x_ret (by kernel_rfl)
theorem f_laws_szLinkHeldS (p0 : List LinkHeld) (p1 : Int) (hb1 : p0.length ≤ 9223372036854775807) (hb2 : ∀ y ∈ p0, LinkHeld.big y) (h1 : 0 ≤ p1) (h2 : p1 ≤ 1048576) (h : 0 ≤ laws_szLinkHeldS p0 p1) : (p0.length ≤ 1048576 ∧ ∀ y ∈ p0, LinkHeld.ok y) ∧ laws_szLinkHeldS p0 p1 ≤ p1 := by
  have e : wr (p1 - (p0.length : Int)) = p1 - (p0.length : Int) := wr_eq (by omega) (by omega)
  unfold laws_szLinkHeldS at h ⊢
  rw [e] at h ⊢
  by_cases q : p1 - (p0.length : Int) < 0
  · simp only [q, decide_true, if_true] at h; omega
  · simp only [q, decide_false, Bool.false_eq_true, if_false] at h ⊢
    have key := forN_inv (body := laws_szLinkHeldS_b1 p0 p1) (rest := laws_szLinkHeldS_r1 p0 p1) (fun i s => 0 ≤ s ∧ s ≤ p1 ∧ ∀ k, k < i → LinkHeld.ok (p0.getD k default)) (fun r => 0 ≤ r → (∀ y ∈ p0, LinkHeld.ok y) ∧ r ≤ p1) p0.length (fun j s hj hI => by
      obtain ⟨a, b, c⟩ := hI
      unfold laws_szLinkHeldS_b1
      by_cases q2 : laws_szLinkHeld (p0.getD j default) s < 0
      · simp only [q2, decide_true, if_true, all_ret]; intro h0; omega
      · simp only [q2, decide_false, Bool.false_eq_true, if_false, all_next]
        have w := f_laws_szLinkHeld (p0.getD j default) s (okget hb2 hj) a (by omega) (by omega)
        refine ⟨by omega, by omega, fun k hk => ?_⟩
        by_cases ek : k = j
        · subst ek; exact w.1
        · exact c k (by omega)) (fun s hI => by
      obtain ⟨a, b, c⟩ := hI
      intro _
      refine ⟨fun y hy => ?_, b⟩
      obtain ⟨i, hi, rfl⟩ := List.getElem_of_mem hy
      have := c i hi
      rw [show p0.getD i default = p0[i] by simp [List.getD, List.getElem?_eq_getElem hi]] at this
      exact this) (p0.length - 0) 0 (p1 - (p0.length : Int)) rfl (Nat.zero_le _) ⟨by omega, by omega, fun k hk => by omega⟩
    have w := key h
    exact ⟨⟨by omega, w.1⟩, w.2⟩

/-- laws.szLinkBook -/
def laws_szLinkBook (p0 : LinkBook) (p1 : Int) : Int := (if decide ((laws_szLinkHeldS p0.Held p1) < 0) then (-1) else (laws_szLinkHeldS p0.Held p1))
theorem c31 (p0 : LinkBook) (p1 : Int) (k0_0 : LinkBook.big p0) : Fn Proofs.Try.prog 31 [⟨.val, true, LinkBook.cs .bor p0⟩, ⟨.val, false, [.v (.int .i64 p1)]⟩] [.c (.v (.int .i64 (laws_szLinkBook p0 p1)))] [] := by
  obtain ⟨R, hR⟩ : ∃ R, R = laws_szLinkBook p0 p1 := ⟨_, rfl⟩
  rw [← hR]
  rw [laws_szLinkBook] at hR
  refine ⟨fn_intro hT Proofs.Try.func31 rfl rfl fun fs => ?_, _, Proofs.Try.func31, rfl, rfl⟩
  have q0 := k0_0; simp only [LinkBook.big] at q0
  refine xr hT [] (fun f1 => ⟨[(1, .one (.c (.v (.int .i64 p1)))), (2, .one (.pt 2 (f1 0 0) 0))], [(2, some (f1 0 0, .box (LinkBook.cs .bor p0)))], 12⟩) (fun f => by kernel_rfl) (fun f => by kernel_rfl) fun f1 => ?_
  refine xr hT [ca (c109 p0.Held p1 (by omega) (q0.2))] (fun f2 => ⟨[(1, .one (.c (.v (.int .i64 (laws_szLinkHeldS p0.Held p1)))))], [], 12⟩) (fun f => by kernel_rfl) (fun f => by kernel_rfl) fun f2 => ?_
  refine w_seq ?_
  refine xr hT [] (fun f3 => ⟨[(1, .one (.c (.v (.int .i64 (laws_szLinkHeldS p0.Held p1))))), (10, .one (.c (.v (.bool (decide ((laws_szLinkHeldS p0.Held p1) < 0))))))], [], 12⟩) (fun f => by kernel_rfl) (fun f => by kernel_rfl) fun f3 => ?_
  refine w_cond rfl (fun h4 => ?_) fun h4 => ?_
  · rw [if_pos h4] at hR
    have gh4 := of_decide_eq_true h4
    refine xr hT [] (fun f5 => ⟨[(4, .one (.c (.v (.int .i64 (-1)))))], [], 12⟩) (fun f => by kernel_rfl) (fun f => by kernel_rfl) fun f5 => ?_
    refine w_ret ?_
    subst hR
    exact x_ret (by kernel_rfl)
  rw [if_neg (nt h4)] at hR
  have gh4 := of_decide_eq_false h4
  refine w_skip ?_
  refine xr hT [] (fun f6 => ⟨[(4, .one (.c (.v (.int .i64 (laws_szLinkHeldS p0.Held p1)))))], [], 12⟩) (fun f => by kernel_rfl) (fun f => by kernel_rfl) fun f6 => ?_
  refine w_ret ?_
  subst hR
  exact x_ret (by kernel_rfl)
theorem f_laws_szLinkBook (p0 : LinkBook) (p1 : Int) (hb : LinkBook.big p0) (h1 : 0 ≤ p1) (h2 : p1 ≤ 1048576) (h : 0 ≤ laws_szLinkBook p0 p1) : LinkBook.ok p0 ∧ laws_szLinkBook p0 p1 ≤ p1 := by
  unfold laws_szLinkBook at h ⊢
  by_cases q : laws_szLinkHeldS p0.Held p1 < 0
  · simp only [q, decide_true, if_true] at h; omega
  · simp only [q, decide_false, Bool.false_eq_true, if_false] at h ⊢
    exact f_laws_szLinkHeldS p0.Held p1 hb.1 hb.2 h1 h2 h

/-- laws.toLinkHeld -/
def laws_toLinkHeld (p0 : LinkHeld) : LinkHeld := (⟨p0.Name, p0.Number, (laws_toFlyPath p0.Path), p0.Sent, (laws_toFlyPath p0.Next)⟩ : LinkHeld)
theorem c181 (p0 : LinkHeld) (k0_0 : LinkHeld.ok p0) : Fn Proofs.Try.prog 181 [⟨.val, true, LinkHeld.cs .bor p0⟩] [.ag (LinkHeld.cs .own (laws_toLinkHeld p0))] [] := by
  obtain ⟨R, hR⟩ : ∃ R, R = laws_toLinkHeld p0 := ⟨_, rfl⟩
  rw [← hR]
  rw [laws_toLinkHeld] at hR
  refine ⟨fn_intro hT Proofs.Try.func181 rfl rfl fun fs => ?_, _, Proofs.Try.func181, rfl, rfl⟩
  have q0 := k0_0; simp only [LinkHeld.ok] at q0
  refine xr hT [] (fun f1 => ⟨[(1, .one (.pt 1 (f1 0 0) 0)), (2, .one (.pt 2 (f1 1 0) 0))], [(1, some (f1 0 0, .box (LinkHeld.cs .bor p0))), (2, some (f1 1 0, .box [.v (.string ⟨#[]⟩), .v (.int .i64 0), .v (.int .i64 0), .v (.int .i64 0), .nl, .v (.int .i64 0), .v (.int .i64 0), .v (.int .i64 0), .v (.int .i64 0), .v (.int .i64 0), .nl, .v (.int .i64 0), .v (.int .i64 0)]))], 22⟩) (fun f => by kernel_rfl) (fun f => by kernel_rfl) fun f1 => ?_
  refine xr hT [] (fun f2 => ⟨[(1, .one (.pt 1 (f1 0 0) 0)), (2, .one (.pt 2 (f1 1 0) 0)), (3, .one (.pt 3 (f2 0 0) 0))], [(1, some (f1 0 0, .box (LinkHeld.cs .bor p0))), (2, some (f1 1 0, .box [.v (.string ⟨#[]⟩), .v (.int .i64 0), .v (.int .i64 0), .v (.int .i64 0), .nl, .v (.int .i64 0), .v (.int .i64 0), .v (.int .i64 0), .v (.int .i64 0), .v (.int .i64 0), .nl, .v (.int .i64 0), .v (.int .i64 0)])), (3, some (f2 0 0, .box [.v (.string ⟨#[]⟩), .v (.int .i64 0), .v (.int .i64 0), .v (.int .i64 0), .nl, .v (.int .i64 0), .v (.int .i64 0), .v (.int .i64 0), .v (.int .i64 0), .v (.int .i64 0), .nl, .v (.int .i64 0), .v (.int .i64 0)]))], 22⟩) (fun f => by kernel_rfl) (fun f => by kernel_rfl) fun f2 => ?_
  refine xr hT [] (fun f3 => ⟨[(1, .one (.pt 1 (f1 0 0) 0)), (2, .one (.pt 2 (f1 1 0) 0)), (3, .one (.pt 3 (f2 0 0) 0))], [(1, some (f1 0 0, .box (LinkHeld.cs .bor p0))), (2, some (f1 1 0, .box [.v (.string ⟨#[]⟩), .v (.int .i64 0), .v (.int .i64 0), .v (.int .i64 0), .nl, .v (.int .i64 0), .v (.int .i64 0), .v (.int .i64 0), .v (.int .i64 0), .v (.int .i64 0), .nl, .v (.int .i64 0), .v (.int .i64 0)])), (3, some (f2 0 0, .box [.v (.string p0.Name), .v (.int .i64 0), .v (.int .i64 0), .v (.int .i64 0), .nl, .v (.int .i64 0), .v (.int .i64 0), .v (.int .i64 0), .v (.int .i64 0), .v (.int .i64 0), .nl, .v (.int .i64 0), .v (.int .i64 0)]))], 22⟩) (fun f => by kernel_rfl) (fun f => by kernel_rfl) fun f3 => ?_
  refine xr hT [] (fun f4 => ⟨[(1, .one (.pt 1 (f1 0 0) 0)), (2, .one (.pt 2 (f1 1 0) 0)), (3, .one (.pt 3 (f2 0 0) 0))], [(1, some (f1 0 0, .box (LinkHeld.cs .bor p0))), (2, some (f1 1 0, .box [.v (.string ⟨#[]⟩), .v (.int .i64 0), .v (.int .i64 0), .v (.int .i64 0), .nl, .v (.int .i64 0), .v (.int .i64 0), .v (.int .i64 0), .v (.int .i64 0), .v (.int .i64 0), .nl, .v (.int .i64 0), .v (.int .i64 0)])), (3, some (f2 0 0, .box [.v (.string p0.Name), .v (.int .i64 p0.Number), .v (.int .i64 0), .v (.int .i64 0), .nl, .v (.int .i64 0), .v (.int .i64 0), .v (.int .i64 0), .v (.int .i64 0), .v (.int .i64 0), .nl, .v (.int .i64 0), .v (.int .i64 0)]))], 22⟩) (fun f => by kernel_rfl) (fun f => by kernel_rfl) fun f4 => ?_
  refine xr hT [ca (c24 p0.Path (by first | assumption | exact (by omega : p0.Path.Steps.length ≤ 1048576)))] (fun f5 => ⟨[(1, .one (.pt 1 (f1 0 0) 0)), (2, .one (.pt 2 (f1 1 0) 0)), (3, .one (.pt 3 (f2 0 0) 0))], [(1, some (f1 0 0, .box (LinkHeld.cs .bor p0))), (2, some (f1 1 0, .box [.v (.string ⟨#[]⟩), .v (.int .i64 0), .v (.int .i64 0), .v (.int .i64 0), .nl, .v (.int .i64 0), .v (.int .i64 0), .v (.int .i64 0), .v (.int .i64 0), .v (.int .i64 0), .nl, .v (.int .i64 0), .v (.int .i64 0)])), (3, some (f2 0 0, .box [.v (.string p0.Name), .v (.int .i64 p0.Number), .v (.int .i64 ((laws_toFlyPath p0.Path).Kind.Quick)), .v (.int .i64 ((laws_toFlyPath p0.Path).Kind.Slow)), .mu 1300002 (gk (f5 2) 0 2) 7 0 (((laws_toFlyPath p0.Path).Steps).map FlyStep.row).length, .v (.int .i64 ((laws_toFlyPath p0.Path).From)), .v (.int .i64 ((laws_toFlyPath p0.Path).By)), .v (.int .i64 0), .v (.int .i64 0), .v (.int .i64 0), .nl, .v (.int .i64 0), .v (.int .i64 0)])), (1300002, some (gk (f5 2) 0 2, .arr 7 (((laws_toFlyPath p0.Path).Steps).map FlyStep.row)))], 22⟩) (fun f => by kernel_rfl) (fun f => by kernel_rfl) fun f5 => ?_
  refine xr hT [] (fun f6 => ⟨[(1, .one (.pt 1 (f1 0 0) 0)), (2, .one (.pt 2 (f1 1 0) 0)), (3, .one (.pt 3 (f2 0 0) 0))], [(1, some (f1 0 0, .box (LinkHeld.cs .bor p0))), (2, some (f1 1 0, .box [.v (.string ⟨#[]⟩), .v (.int .i64 0), .v (.int .i64 0), .v (.int .i64 0), .nl, .v (.int .i64 0), .v (.int .i64 0), .v (.int .i64 0), .v (.int .i64 0), .v (.int .i64 0), .nl, .v (.int .i64 0), .v (.int .i64 0)])), (3, some (f2 0 0, .box [.v (.string p0.Name), .v (.int .i64 p0.Number), .v (.int .i64 ((laws_toFlyPath p0.Path).Kind.Quick)), .v (.int .i64 ((laws_toFlyPath p0.Path).Kind.Slow)), .mu 1300002 (gk (f5 2) 0 2) 7 0 (((laws_toFlyPath p0.Path).Steps).map FlyStep.row).length, .v (.int .i64 ((laws_toFlyPath p0.Path).From)), .v (.int .i64 ((laws_toFlyPath p0.Path).By)), .v (.int .i64 p0.Sent), .v (.int .i64 0), .v (.int .i64 0), .nl, .v (.int .i64 0), .v (.int .i64 0)])), (1300002, some (gk (f5 2) 0 2, .arr 7 (((laws_toFlyPath p0.Path).Steps).map FlyStep.row)))], 22⟩) (fun f => by kernel_rfl) (fun f => by kernel_rfl) fun f6 => ?_
  refine xr hT [ca (c24 p0.Next (by first | assumption | exact (by omega : p0.Next.Steps.length ≤ 1048576)))] (fun f7 => ⟨[(2, .one (.pt 2 (f1 1 0) 0)), (3, .one (.pt 3 (f2 0 0) 0))], [(2, some (f1 1 0, .box [.v (.string ⟨#[]⟩), .v (.int .i64 0), .v (.int .i64 0), .v (.int .i64 0), .nl, .v (.int .i64 0), .v (.int .i64 0), .v (.int .i64 0), .v (.int .i64 0), .v (.int .i64 0), .nl, .v (.int .i64 0), .v (.int .i64 0)])), (3, some (f2 0 0, .box [.v (.string p0.Name), .v (.int .i64 p0.Number), .v (.int .i64 ((laws_toFlyPath p0.Path).Kind.Quick)), .v (.int .i64 ((laws_toFlyPath p0.Path).Kind.Slow)), .mu 1300002 (gk (f5 2) 0 2) 7 0 (((laws_toFlyPath p0.Path).Steps).map FlyStep.row).length, .v (.int .i64 ((laws_toFlyPath p0.Path).From)), .v (.int .i64 ((laws_toFlyPath p0.Path).By)), .v (.int .i64 p0.Sent), .v (.int .i64 ((laws_toFlyPath p0.Next).Kind.Quick)), .v (.int .i64 ((laws_toFlyPath p0.Next).Kind.Slow)), .mu 2000002 (gk (f7 2) 0 2) 7 0 (((laws_toFlyPath p0.Next).Steps).map FlyStep.row).length, .v (.int .i64 ((laws_toFlyPath p0.Next).From)), .v (.int .i64 ((laws_toFlyPath p0.Next).By))])), (1300002, some (gk (f5 2) 0 2, .arr 7 (((laws_toFlyPath p0.Path).Steps).map FlyStep.row))), (2000002, some (gk (f7 2) 0 2, .arr 7 (((laws_toFlyPath p0.Next).Steps).map FlyStep.row)))], 22⟩) (fun f => by kernel_rfl) (fun f => by kernel_rfl) fun f7 => ?_
  refine xr hT [] (fun f8 => ⟨[(2, .one (.pt 2 (f1 1 0) 0))], [(2, some (f1 1 0, .box [.v (.string p0.Name), .v (.int .i64 p0.Number), .v (.int .i64 ((laws_toFlyPath p0.Path).Kind.Quick)), .v (.int .i64 ((laws_toFlyPath p0.Path).Kind.Slow)), .mu 1300002 (gk (f5 2) 0 2) 7 0 (((laws_toFlyPath p0.Path).Steps).map FlyStep.row).length, .v (.int .i64 ((laws_toFlyPath p0.Path).From)), .v (.int .i64 ((laws_toFlyPath p0.Path).By)), .v (.int .i64 p0.Sent), .v (.int .i64 ((laws_toFlyPath p0.Next).Kind.Quick)), .v (.int .i64 ((laws_toFlyPath p0.Next).Kind.Slow)), .mu 2000002 (gk (f7 2) 0 2) 7 0 (((laws_toFlyPath p0.Next).Steps).map FlyStep.row).length, .v (.int .i64 ((laws_toFlyPath p0.Next).From)), .v (.int .i64 ((laws_toFlyPath p0.Next).By))])), (1300002, some (gk (f5 2) 0 2, .arr 7 (((laws_toFlyPath p0.Path).Steps).map FlyStep.row))), (2000002, some (gk (f7 2) 0 2, .arr 7 (((laws_toFlyPath p0.Next).Steps).map FlyStep.row)))], 22⟩) (fun f => by kernel_rfl) (fun f => by kernel_rfl) fun f8 => ?_
  refine w_ret ?_
  subst hR
  exact x_ret (by kernel_rfl)
theorem f_laws_toLinkHeld (p0 : LinkHeld) : laws_toLinkHeld p0 = p0 := by
  unfold laws_toLinkHeld
  simp only [LN, f_laws_toFlyPath]

def laws_toLinkHeldS_I1 (p0 : (List LinkHeld)) (fs : Nat → Nat → Nat) (i1 : Nat) (s1 : List LinkHeld) (x1 : Nat → Nat) : St := ⟨[(0, .one (.c (.sl .bor 13 (p0.map LinkHeld.row)))), (3, .one (.c (.mu 7 (x1 0) 13 0 (s1.map LinkHeld.row).length))), (4, .one (.c (.v (.int .i64 ((i1 : Nat) : Int)))))], [(7, some (x1 0, .arr 13 (s1.map LinkHeld.row)))], 23⟩
def laws_toLinkHeldS_J1 (p0 : (List LinkHeld)) (fs : Nat → Nat → Nat) (s1 : List LinkHeld) (x1 : Nat → Nat) : St := ⟨[(3, .one (.c (.mu 7 (x1 0) 13 0 (s1.map LinkHeld.row).length)))], [(7, some (x1 0, .arr 13 (s1.map LinkHeld.row)))], 23⟩
def laws_toLinkHeldS_b1 (p0 : (List LinkHeld)) (i1 : Nat) (s1 : List LinkHeld) : Res (List LinkHeld) (List LinkHeld) := (.next (s1.set i1 (laws_toLinkHeld (p0.getD i1 default))))
def laws_toLinkHeldS_r1 (p0 : (List LinkHeld)) (s1 : List LinkHeld) : (List LinkHeld) := s1
/-- laws.toLinkHeldS -/
def laws_toLinkHeldS (p0 : (List LinkHeld)) : (List LinkHeld) := (Res.fin (laws_toLinkHeldS_r1 p0) (forN (laws_toLinkHeldS_b1 p0) (p0.length - 0) 0 (List.replicate p0.length ((⟨⟨#[]⟩, 0, ⟨⟨0, 0⟩, [], 0, 0⟩, 0, ⟨⟨0, 0⟩, [], 0, 0⟩⟩ : LinkHeld) : LinkHeld))))
theorem c112 (p0 : (List LinkHeld)) (k0_0 : p0.length ≤ 1048576) (k0_1 : ∀ y ∈ p0, LinkHeld.ok y) : Fn Proofs.Try.prog 112 [⟨.val, false, [.sl .bor 13 (p0.map LinkHeld.row)]⟩] [.c (.sl .own 13 ((laws_toLinkHeldS p0).map LinkHeld.row))] [] := by
  obtain ⟨R, hR⟩ : ∃ R, R = laws_toLinkHeldS p0 := ⟨_, rfl⟩
  rw [← hR]
  rw [laws_toLinkHeldS] at hR
  refine ⟨fn_intro hT Proofs.Try.func112 rfl rfl fun fs => ?_, _, Proofs.Try.func112, rfl, rfl⟩
  refine xr hT [] (fun f1 => ⟨[(0, .one (.c (.sl .bor 13 (p0.map LinkHeld.row))))], [], 23⟩) (fun f => by kernel_rfl) (fun f => by kernel_rfl) fun f1 => ?_
  refine xr hT [.ln LinkHeld.row p0, .mk true LinkHeld.row ((⟨⟨#[]⟩, 0, ⟨⟨0, 0⟩, [], 0, 0⟩, 0, ⟨⟨0, 0⟩, [], 0, 0⟩⟩ : LinkHeld) : LinkHeld) ((p0.length : Int)) p0.length 144 (fun h => ⟨rfl, by omega⟩)] (fun f2 => ⟨[(0, .one (.c (.sl .bor 13 (p0.map LinkHeld.row)))), (3, .one (.c (.mu 7 (f2 2 0) 13 0 ((List.replicate p0.length ((⟨⟨#[]⟩, 0, ⟨⟨0, 0⟩, [], 0, 0⟩, 0, ⟨⟨0, 0⟩, [], 0, 0⟩⟩ : LinkHeld) : LinkHeld)).map LinkHeld.row).length)))], [(7, some (f2 2 0, .arr 13 ((List.replicate p0.length ((⟨⟨#[]⟩, 0, ⟨⟨0, 0⟩, [], 0, 0⟩, 0, ⟨⟨0, 0⟩, [], 0, 0⟩⟩ : LinkHeld) : LinkHeld)).map LinkHeld.row)))], 23⟩) (fun f => by kernel_rfl) (fun f => by kernel_rfl) fun f2 => ?_
  refine w_seq ?_
  refine xr hT [] (fun f3 => ⟨[(0, .one (.c (.sl .bor 13 (p0.map LinkHeld.row)))), (3, .one (.c (.mu 7 (f2 2 0) 13 0 ((List.replicate p0.length ((⟨⟨#[]⟩, 0, ⟨⟨0, 0⟩, [], 0, 0⟩, 0, ⟨⟨0, 0⟩, [], 0, 0⟩⟩ : LinkHeld) : LinkHeld)).map LinkHeld.row).length))), (4, .one (.c (.v (.int .i64 0))))], [(7, some (f2 2 0, .arr 13 ((List.replicate p0.length ((⟨⟨#[]⟩, 0, ⟨⟨0, 0⟩, [], 0, 0⟩, 0, ⟨⟨0, 0⟩, [], 0, 0⟩⟩ : LinkHeld) : LinkHeld)).map LinkHeld.row)))], 23⟩) (fun f => by kernel_rfl) (fun f => by kernel_rfl) fun f3 => ?_
  refine w_forT (fun _ => rfl) (laws_toLinkHeldS_I1 p0 fs) (laws_toLinkHeldS_J1 p0 fs) (fun i1 s1 => s1.length = (List.replicate p0.length ((⟨⟨#[]⟩, 0, ⟨⟨0, 0⟩, [], 0, 0⟩, 0, ⟨⟨0, 0⟩, [], 0, 0⟩⟩ : LinkHeld) : LinkHeld)).length) (fun s1 => s1.length = (List.replicate p0.length ((⟨⟨#[]⟩, 0, ⟨⟨0, 0⟩, [], 0, 0⟩, 0, ⟨⟨0, 0⟩, [], 0, 0⟩⟩ : LinkHeld) : LinkHeld)).length) (p0.length) 0 (laws_toLinkHeldS_b1 p0) (laws_toLinkHeldS_r1 p0) 0 (List.replicate p0.length ((⟨⟨#[]⟩, 0, ⟨⟨0, 0⟩, [], 0, 0⟩, 0, ⟨⟨0, 0⟩, [], 0, 0⟩⟩ : LinkHeld) : LinkHeld)) (lst [f2 2 0]) (sb (by kernel_rfl)) (by first | rfl | ((try simp only [LN, f_laws_toLinkHeld]); omega) | (simp; done) | (simp; omega)) hR ?_ ?_
  · skip
    intro i1 s1 x1 hI1 hX1
    try simp only [LN, f_laws_toLinkHeld] at hI1
    refine w_seq ?_
    refine xr hT [.ln LinkHeld.row p0] (fun f4 => ⟨[(0, .one (.c (.sl .bor 13 (p0.map LinkHeld.row)))), (3, .one (.c (.mu 7 (x1 0) 13 0 (s1.map LinkHeld.row).length))), (4, .one (.c (.v (.int .i64 ((i1 : Nat) : Int))))), (11, .one (.c (.v (.bool (decide (((i1 : Nat) : Int) < (p0.length : Int)))))))], [(7, some (x1 0, .arr 13 (s1.map LinkHeld.row)))], 23⟩) (fun f => by kernel_rfl) (fun f => by kernel_rfl) fun f4 => ?_
    refine w_cond rfl (fun h5 => ?_) fun h5 => ?_
    · skip
      have hl1 : i1 < p0.length := by have hq := of_decide_eq_true h5; first | omega | ((try simp only [LN, f_laws_toLinkHeld] at *); omega)
      have hl1x := hl1; try simp only [LN, f_laws_toLinkHeld] at hl1x
      obtain ⟨B1, hB1⟩ : ∃ B, B = laws_toLinkHeldS_b1 p0 i1 s1 := ⟨_, rfl⟩
      have hE1 := hB1
      rw [laws_toLinkHeldS_b1] at hE1
      refine w_skip ?_
      refine w_seq ?_
      refine w_block ?_
      try have e7 := okget (xs := p0) (k := i1) (k0_1) (by first | omega | ((try simp only [LN, f_laws_toLinkHeld]); omega))
      try simp only [LinkHeld.ok] at e7
      refine xr1 (fun _ => rfl) hT [ix LinkHeld.row p0 i1 (by omega), .rw (FlyStep.rv ((p0.getD i1 default).Path.Steps)), .rw (FlyStep.rv ((p0.getD i1 default).Next.Steps)), ca (c181 (p0.getD i1 default) (by first | assumption | exact ⟨(by omega : ((p0.getD i1 default).Path.Steps).length ≤ 1048576), (by omega : ((p0.getD i1 default).Next.Steps).length ≤ 1048576)⟩)), ix LinkHeld.row s1 i1 (by omega), .st inferInstance true LinkHeld.row s1 i1 (laws_toLinkHeld (p0.getD i1 default)) (fun h => by omega), .rw (FlyStep.rv ((laws_toLinkHeld (p0.getD i1 default)).Path.Steps)), .rw (FlyStep.rv ((laws_toLinkHeld (p0.getD i1 default)).Next.Steps))] (fun f6 => ⟨[(0, .one (.c (.sl .bor 13 (p0.map LinkHeld.row)))), (3, .one (.c (.mu 7 (x1 0) 13 0 (s1.map LinkHeld.row).length))), (4, .one (.c (.v (.int .i64 ((i1 : Nat) : Int)))))], [(7, some (x1 0, .arr 13 ((s1.set i1 (laws_toLinkHeld (p0.getD i1 default))).map LinkHeld.row)))], 23⟩) (fun f => by kernel_rfl) (fun f => by kernel_rfl) fun f6 => ?_
      refine w_sub (s := ⟨[(0, .one (.c (.sl .bor 13 (p0.map LinkHeld.row)))), (3, .one (.c (.mu 7 (x1 0) 13 0 ((s1.set i1 (laws_toLinkHeld (p0.getD i1 default))).map LinkHeld.row).length))), (4, .one (.c (.v (.int .i64 ((i1 : Nat) : Int)))))], [(7, some (x1 0, .arr 13 ((s1.set i1 (laws_toLinkHeld (p0.getD i1 default))).map LinkHeld.row)))], 23⟩) (cst (by simp only [LN, f_laws_toLinkHeld]) (sb (s := ⟨[(0, .one (.c (.sl .bor 13 (p0.map LinkHeld.row)))), (3, .one (.c (.mu 7 (x1 0) 13 0 (s1.map LinkHeld.row).length))), (4, .one (.c (.v (.int .i64 ((i1 : Nat) : Int)))))], [(7, some (x1 0, .arr 13 ((s1.set i1 (laws_toLinkHeld (p0.getD i1 default))).map LinkHeld.row)))], 23⟩) (by kernel_rfl))) ?_
      refine x_reg hT [.ex true (((i1 : Nat) : Int) + ((1 : Nat) : Int)) ((((i1 + 1) : Nat) : Int)) (fun _ => wr_nat (n := i1) (c := 1) (by omega))] (fun f8 => laws_toLinkHeldS_I1 p0 fs (i1 + 1) (s1.set i1 (laws_toLinkHeld (p0.getD i1 default))) (lst [x1 0])) (fun f => by kernel_rfl) (fun f => by kernel_rfl) fun f8 s' hs' => ?_
      exact ⟨s1.set i1 (laws_toLinkHeld (p0.getD i1 default)), (lst [x1 0]), hl1, (by (try simp only [LN, f_laws_toLinkHeld] at *); omega), hX1.trans (forN_next hl1 (hB1.symm.trans hE1)), hs'⟩
    have hq := of_decide_eq_false h5
    refine w_exit ?_
    exact ⟨s1, (lst [x1 0]), (by (try simp only [LN, f_laws_toLinkHeld] at *); omega), hX1.trans (forN_end (by first | omega | ((try simp only [LN, f_laws_toLinkHeld] at *); omega))), sb (by kernel_rfl)⟩
  intro s1 x1 hF11 hR9
  try simp only [LN, f_laws_toLinkHeld] at hF11
  rw [laws_toLinkHeldS_r1] at hR9
  refine xr hT [] (fun f10 => ⟨[(2, .one (.c (.mu 7 (x1 0) 13 0 (s1.map LinkHeld.row).length)))], [(7, some (x1 0, .arr 13 (s1.map LinkHeld.row)))], 23⟩) (fun f => by kernel_rfl) (fun f => by kernel_rfl) fun f10 => ?_
  refine w_ret ?_
  subst hR9
  exact x_ret (by kernel_rfl)
theorem f_laws_toLinkHeldS (p0 : List LinkHeld) : laws_toLinkHeldS p0 = p0 := by
  refine (forN_copy laws_toLinkHeld p0 _ (fun s => s) (body := laws_toLinkHeldS_b1 p0) (fun i s => rfl) p0.length rfl).trans ?_
  rw [show laws_toLinkHeld = id from funext fun x => f_laws_toLinkHeld x]; exact List.map_id _

/-- laws.toLinkBook -/
def laws_toLinkBook (p0 : LinkBook) : LinkBook := (⟨p0.Last, (laws_toLinkHeldS p0.Held)⟩ : LinkBook)
theorem c34 (p0 : LinkBook) (k0_0 : LinkBook.ok p0) : Fn Proofs.Try.prog 34 [⟨.val, true, LinkBook.cs .bor p0⟩] [.ag (LinkBook.cs .own (laws_toLinkBook p0))] [] := by
  obtain ⟨R, hR⟩ : ∃ R, R = laws_toLinkBook p0 := ⟨_, rfl⟩
  rw [← hR]
  rw [laws_toLinkBook] at hR
  refine ⟨fn_intro hT Proofs.Try.func34 rfl rfl fun fs => ?_, _, Proofs.Try.func34, rfl, rfl⟩
  have q0 := k0_0; simp only [LinkBook.ok] at q0
  refine xr hT [] (fun f1 => ⟨[(1, .one (.pt 1 (f1 0 0) 0)), (2, .one (.pt 2 (f1 1 0) 0))], [(1, some (f1 0 0, .box (LinkBook.cs .bor p0))), (2, some (f1 1 0, .box [.v (.int .i64 0), .nl]))], 12⟩) (fun f => by kernel_rfl) (fun f => by kernel_rfl) fun f1 => ?_
  refine xr hT [] (fun f2 => ⟨[(1, .one (.pt 1 (f1 0 0) 0)), (2, .one (.pt 2 (f1 1 0) 0)), (3, .one (.pt 3 (f2 0 0) 0))], [(1, some (f1 0 0, .box (LinkBook.cs .bor p0))), (2, some (f1 1 0, .box [.v (.int .i64 0), .nl])), (3, some (f2 0 0, .box [.v (.int .i64 0), .nl]))], 12⟩) (fun f => by kernel_rfl) (fun f => by kernel_rfl) fun f2 => ?_
  refine xr hT [] (fun f3 => ⟨[(1, .one (.pt 1 (f1 0 0) 0)), (2, .one (.pt 2 (f1 1 0) 0)), (3, .one (.pt 3 (f2 0 0) 0))], [(1, some (f1 0 0, .box (LinkBook.cs .bor p0))), (2, some (f1 1 0, .box [.v (.int .i64 0), .nl])), (3, some (f2 0 0, .box [.v (.int .i64 p0.Last), .nl]))], 12⟩) (fun f => by kernel_rfl) (fun f => by kernel_rfl) fun f3 => ?_
  refine xr hT [ca (c112 p0.Held (by omega) (q0.2))] (fun f4 => ⟨[(2, .one (.pt 2 (f1 1 0) 0)), (3, .one (.pt 3 (f2 0 0) 0))], [(2, some (f1 1 0, .box [.v (.int .i64 0), .nl])), (3, some (f2 0 0, .box [.v (.int .i64 p0.Last), .mu 1000000 (gk (f4 2) 0 0) 13 0 ((laws_toLinkHeldS p0.Held).map LinkHeld.row).length])), (1000000, some (gk (f4 2) 0 0, .arr 13 ((laws_toLinkHeldS p0.Held).map LinkHeld.row)))], 12⟩) (fun f => by kernel_rfl) (fun f => by kernel_rfl) fun f4 => ?_
  refine xr hT [] (fun f5 => ⟨[(2, .one (.pt 2 (f1 1 0) 0))], [(2, some (f1 1 0, .box [.v (.int .i64 p0.Last), .mu 1000000 (gk (f4 2) 0 0) 13 0 ((laws_toLinkHeldS p0.Held).map LinkHeld.row).length])), (1000000, some (gk (f4 2) 0 0, .arr 13 ((laws_toLinkHeldS p0.Held).map LinkHeld.row)))], 12⟩) (fun f => by kernel_rfl) (fun f => by kernel_rfl) fun f5 => ?_
  refine w_ret ?_
  subst hR
  exact x_ret (by kernel_rfl)
theorem f_laws_toLinkBook (p0 : LinkBook) : laws_toLinkBook p0 = p0 := by
  unfold laws_toLinkBook
  simp only [LN, f_laws_toLinkHeldS]

/-- laws.eqLinkHeld -/
def laws_eqLinkHeld (p0 : LinkHeld) (p1 : LinkHeld) : Bool := (if !(p0.Name.toList == p1.Name.toList) then false else (if !decide (p0.Number = p1.Number) then false else (if !(laws_eqFlyPath p0.Path p1.Path) then false else (if !decide (p0.Sent = p1.Sent) then false else (if !(laws_eqFlyPath p0.Next p1.Next) then false else true)))))
theorem c183 (p0 : LinkHeld) (p1 : LinkHeld) (k0_0 : LinkHeld.ok p0) (k1_0 : LinkHeld.ok p1) : Fn Proofs.Try.prog 183 [⟨.val, true, LinkHeld.cs .bor p0⟩, ⟨.val, true, LinkHeld.cs .bor p1⟩] [.c (.v (.bool (laws_eqLinkHeld p0 p1)))] [] := by
  obtain ⟨R, hR⟩ : ∃ R, R = laws_eqLinkHeld p0 p1 := ⟨_, rfl⟩
  rw [← hR]
  rw [laws_eqLinkHeld] at hR
  refine ⟨fn_intro hT Proofs.Try.func183 rfl rfl fun fs => ?_, _, Proofs.Try.func183, rfl, rfl⟩
  have q0 := k0_0; simp only [LinkHeld.ok] at q0
  have q1 := k1_0; simp only [LinkHeld.ok] at q1
  refine xr hT [] (fun f1 => ⟨[(2, .one (.pt 2 (f1 0 0) 0)), (3, .one (.pt 3 (f1 1 0) 0))], [(2, some (f1 0 0, .box (LinkHeld.cs .bor p0))), (3, some (f1 1 0, .box (LinkHeld.cs .bor p1)))], 32⟩) (fun f => by kernel_rfl) (fun f => by kernel_rfl) fun f1 => ?_
  refine w_seq ?_
  refine xr hT [] (fun f2 => ⟨[(2, .one (.pt 2 (f1 0 0) 0)), (3, .one (.pt 3 (f1 1 0) 0)), (9, .one (.c (.v (.bool (!(p0.Name.toList == p1.Name.toList))))))], [(2, some (f1 0 0, .box (LinkHeld.cs .bor p0))), (3, some (f1 1 0, .box (LinkHeld.cs .bor p1)))], 32⟩) (fun f => by kernel_rfl) (fun f => by kernel_rfl) fun f2 => ?_
  refine w_cond rfl (fun h3 => ?_) fun h3 => ?_
  · rw [if_pos h3] at hR
    refine xr hT [] (fun f4 => ⟨[(4, .one (.c (.v (.bool false))))], [], 32⟩) (fun f => by kernel_rfl) (fun f => by kernel_rfl) fun f4 => ?_
    refine w_ret ?_
    subst hR
    exact x_ret (by kernel_rfl)
  rw [if_neg (nt h3)] at hR
  refine w_skip ?_
  refine w_seq ?_
  refine xr hT [] (fun f5 => ⟨[(2, .one (.pt 2 (f1 0 0) 0)), (3, .one (.pt 3 (f1 1 0) 0)), (14, .one (.c (.v (.bool (!decide (p0.Number = p1.Number))))))], [(2, some (f1 0 0, .box (LinkHeld.cs .bor p0))), (3, some (f1 1 0, .box (LinkHeld.cs .bor p1)))], 32⟩) (fun f => by kernel_rfl) (fun f => by kernel_rfl) fun f5 => ?_
  refine w_cond rfl (fun h6 => ?_) fun h6 => ?_
  · rw [if_pos h6] at hR
    have gh6 := nd1 h6
    refine xr hT [] (fun f7 => ⟨[(4, .one (.c (.v (.bool false))))], [], 32⟩) (fun f => by kernel_rfl) (fun f => by kernel_rfl) fun f7 => ?_
    refine w_ret ?_
    subst hR
    exact x_ret (by kernel_rfl)
  rw [if_neg (nt h6)] at hR
  have gh6 := nd0 h6
  refine w_skip ?_
  refine w_seq ?_
  refine xr hT [ca (c27 p0.Path p1.Path (by first | assumption | exact (by omega : p0.Path.Steps.length ≤ 1048576)) (by first | assumption | exact (by omega : p1.Path.Steps.length ≤ 1048576)))] (fun f8 => ⟨[(2, .one (.pt 2 (f1 0 0) 0)), (3, .one (.pt 3 (f1 1 0) 0)), (20, .one (.c (.v (.bool (!(laws_eqFlyPath p0.Path p1.Path))))))], [(2, some (f1 0 0, .box (LinkHeld.cs .bor p0))), (3, some (f1 1 0, .box (LinkHeld.cs .bor p1)))], 32⟩) (fun f => by kernel_rfl) (fun f => by kernel_rfl) fun f8 => ?_
  refine w_cond rfl (fun h9 => ?_) fun h9 => ?_
  · rw [if_pos h9] at hR
    refine xr hT [] (fun f10 => ⟨[(4, .one (.c (.v (.bool false))))], [], 32⟩) (fun f => by kernel_rfl) (fun f => by kernel_rfl) fun f10 => ?_
    refine w_ret ?_
    subst hR
    exact x_ret (by kernel_rfl)
  rw [if_neg (nt h9)] at hR
  refine w_skip ?_
  refine w_seq ?_
  refine xr hT [] (fun f11 => ⟨[(2, .one (.pt 2 (f1 0 0) 0)), (3, .one (.pt 3 (f1 1 0) 0)), (25, .one (.c (.v (.bool (!decide (p0.Sent = p1.Sent))))))], [(2, some (f1 0 0, .box (LinkHeld.cs .bor p0))), (3, some (f1 1 0, .box (LinkHeld.cs .bor p1)))], 32⟩) (fun f => by kernel_rfl) (fun f => by kernel_rfl) fun f11 => ?_
  refine w_cond rfl (fun h12 => ?_) fun h12 => ?_
  · rw [if_pos h12] at hR
    have gh12 := nd1 h12
    refine xr hT [] (fun f13 => ⟨[(4, .one (.c (.v (.bool false))))], [], 32⟩) (fun f => by kernel_rfl) (fun f => by kernel_rfl) fun f13 => ?_
    refine w_ret ?_
    subst hR
    exact x_ret (by kernel_rfl)
  rw [if_neg (nt h12)] at hR
  have gh12 := nd0 h12
  refine w_skip ?_
  refine w_seq ?_
  refine xr hT [ca (c27 p0.Next p1.Next (by first | assumption | exact (by omega : p0.Next.Steps.length ≤ 1048576)) (by first | assumption | exact (by omega : p1.Next.Steps.length ≤ 1048576)))] (fun f14 => ⟨[(31, .one (.c (.v (.bool (!(laws_eqFlyPath p0.Next p1.Next))))))], [], 32⟩) (fun f => by kernel_rfl) (fun f => by kernel_rfl) fun f14 => ?_
  refine w_cond rfl (fun h15 => ?_) fun h15 => ?_
  · rw [if_pos h15] at hR
    refine xr hT [] (fun f16 => ⟨[(4, .one (.c (.v (.bool false))))], [], 32⟩) (fun f => by kernel_rfl) (fun f => by kernel_rfl) fun f16 => ?_
    refine w_ret ?_
    subst hR
    exact x_ret (by kernel_rfl)
  rw [if_neg (nt h15)] at hR
  refine w_skip ?_
  refine xr hT [] (fun f17 => ⟨[(4, .one (.c (.v (.bool true))))], [], 32⟩) (fun f => by kernel_rfl) (fun f => by kernel_rfl) fun f17 => ?_
  refine w_ret ?_
  subst hR
  exact x_ret (by kernel_rfl)

def laws_eqLinkHeldS_I1 (p0 : (List LinkHeld)) (p1 : (List LinkHeld)) (fs : Nat → Nat → Nat) (i1 : Nat) (s1 : Unit) (x1 : Nat → Nat) : St := ⟨[(0, .one (.c (.sl .bor 13 (p0.map LinkHeld.row)))), (1, .one (.c (.sl .bor 13 (p1.map LinkHeld.row)))), (5, .one (.c (.v (.int .i64 ((i1 : Nat) : Int)))))], [], 27⟩
def laws_eqLinkHeldS_J1 (p0 : (List LinkHeld)) (p1 : (List LinkHeld)) (fs : Nat → Nat → Nat) (s1 : Unit) (x1 : Nat → Nat) : St := ⟨[], [], 27⟩
def laws_eqLinkHeldS_b1 (p0 : (List LinkHeld)) (p1 : (List LinkHeld)) (i1 : Nat) (s1 : Unit) : Res (Unit) Bool := (if !(laws_eqLinkHeld (p0.getD i1 default) (p1.getD i1 default)) then (.ret false) else (.next ()))
def laws_eqLinkHeldS_r1 (p0 : (List LinkHeld)) (p1 : (List LinkHeld)) (s1 : Unit) : Bool := true
/-- laws.eqLinkHeldS -/
def laws_eqLinkHeldS (p0 : (List LinkHeld)) (p1 : (List LinkHeld)) : Bool := (if !decide ((p0.length : Int) = (p1.length : Int)) then false else (Res.fin (laws_eqLinkHeldS_r1 p0 p1) (forN (laws_eqLinkHeldS_b1 p0 p1) (p0.length - 0) 0 ())))
theorem c115 (p0 : (List LinkHeld)) (p1 : (List LinkHeld)) (k0_0 : p0.length ≤ 1048576) (k0_1 : ∀ y ∈ p0, LinkHeld.ok y) (k1_0 : p1.length ≤ 1048576) (k1_1 : ∀ y ∈ p1, LinkHeld.ok y) : Fn Proofs.Try.prog 115 [⟨.val, false, [.sl .bor 13 (p0.map LinkHeld.row)]⟩, ⟨.val, false, [.sl .bor 13 (p1.map LinkHeld.row)]⟩] [.c (.v (.bool (laws_eqLinkHeldS p0 p1)))] [] := by
  obtain ⟨R, hR⟩ : ∃ R, R = laws_eqLinkHeldS p0 p1 := ⟨_, rfl⟩
  rw [← hR]
  rw [laws_eqLinkHeldS] at hR
  refine ⟨fn_intro hT Proofs.Try.func115 rfl rfl fun fs => ?_, _, Proofs.Try.func115, rfl, rfl⟩
  refine xr hT [] (fun f1 => ⟨[(0, .one (.c (.sl .bor 13 (p0.map LinkHeld.row)))), (1, .one (.c (.sl .bor 13 (p1.map LinkHeld.row))))], [], 27⟩) (fun f => by kernel_rfl) (fun f => by kernel_rfl) fun f1 => ?_
  refine w_seq ?_
  refine xr hT [.ln LinkHeld.row p0, .ln LinkHeld.row p1] (fun f2 => ⟨[(0, .one (.c (.sl .bor 13 (p0.map LinkHeld.row)))), (1, .one (.c (.sl .bor 13 (p1.map LinkHeld.row)))), (10, .one (.c (.v (.bool (!decide ((p0.length : Int) = (p1.length : Int)))))))], [], 27⟩) (fun f => by kernel_rfl) (fun f => by kernel_rfl) fun f2 => ?_
  refine w_cond rfl (fun h3 => ?_) fun h3 => ?_
  · rw [if_pos h3] at hR
    have gh3 := nd1 h3
    refine xr hT [] (fun f4 => ⟨[(4, .one (.c (.v (.bool false))))], [], 27⟩) (fun f => by kernel_rfl) (fun f => by kernel_rfl) fun f4 => ?_
    refine w_ret ?_
    subst hR
    exact x_ret (by kernel_rfl)
  rw [if_neg (nt h3)] at hR
  have gh3 := nd0 h3
  refine w_skip ?_
  refine w_seq ?_
  refine xr hT [] (fun f5 => ⟨[(0, .one (.c (.sl .bor 13 (p0.map LinkHeld.row)))), (1, .one (.c (.sl .bor 13 (p1.map LinkHeld.row)))), (5, .one (.c (.v (.int .i64 0))))], [], 27⟩) (fun f => by kernel_rfl) (fun f => by kernel_rfl) fun f5 => ?_
  refine w_forT (fun _ => rfl) (laws_eqLinkHeldS_I1 p0 p1 fs) (laws_eqLinkHeldS_J1 p0 p1 fs) (fun i1 s1 => True) (fun s1 => True) (p0.length) 0 (laws_eqLinkHeldS_b1 p0 p1) (laws_eqLinkHeldS_r1 p0 p1) 0 (()) (lst []) (sb (by kernel_rfl)) trivial hR ?_ ?_
  · skip
    intro i1 s1 x1 hI1 hX1
    refine w_seq ?_
    refine xr hT [.ln LinkHeld.row p0] (fun f6 => ⟨[(0, .one (.c (.sl .bor 13 (p0.map LinkHeld.row)))), (1, .one (.c (.sl .bor 13 (p1.map LinkHeld.row)))), (5, .one (.c (.v (.int .i64 ((i1 : Nat) : Int))))), (14, .one (.c (.v (.bool (decide (((i1 : Nat) : Int) < (p0.length : Int)))))))], [], 27⟩) (fun f => by kernel_rfl) (fun f => by kernel_rfl) fun f6 => ?_
    refine w_cond rfl (fun h7 => ?_) fun h7 => ?_
    · skip
      have hl1 : i1 < p0.length := by have hq := of_decide_eq_true h7; first | omega | ((try simp only [LN] at *); omega)
      obtain ⟨B1, hB1⟩ : ∃ B, B = laws_eqLinkHeldS_b1 p0 p1 i1 s1 := ⟨_, rfl⟩
      have hE1 := hB1
      rw [laws_eqLinkHeldS_b1] at hE1
      refine w_skip ?_
      refine w_seq ?_
      refine w_block ?_
      try have e9 := okget (xs := p0) (k := i1) (k0_1) (by first | omega | ((try simp only [LN]); omega))
      try simp only [LinkHeld.ok] at e9
      try have e10 := okget (xs := p1) (k := i1) (k1_1) (by first | omega | ((try simp only [LN]); omega))
      try simp only [LinkHeld.ok] at e10
      refine xd hT hM [ix LinkHeld.row p0 i1 (by omega), .rw (FlyStep.rv ((p0.getD i1 default).Path.Steps)), .rw (FlyStep.rv ((p0.getD i1 default).Next.Steps)), ix LinkHeld.row p1 i1 (by omega), .rw (FlyStep.rv ((p1.getD i1 default).Path.Steps)), .rw (FlyStep.rv ((p1.getD i1 default).Next.Steps)), ca (c183 (p0.getD i1 default) (p1.getD i1 default) (by first | assumption | exact ⟨(by omega : ((p0.getD i1 default).Path.Steps).length ≤ 1048576), (by omega : ((p0.getD i1 default).Next.Steps).length ≤ 1048576)⟩) (by first | assumption | exact ⟨(by omega : ((p1.getD i1 default).Path.Steps).length ≤ 1048576), (by omega : ((p1.getD i1 default).Next.Steps).length ≤ 1048576)⟩))] (fun f8 => ⟨[(0, .one (.c (.sl .bor 13 (p0.map LinkHeld.row)))), (1, .one (.c (.sl .bor 13 (p1.map LinkHeld.row)))), (5, .one (.c (.v (.int .i64 ((i1 : Nat) : Int))))), (26, .one (.c (.v (.bool (!(laws_eqLinkHeld (p0.getD i1 default) (p1.getD i1 default)))))))], [], 27⟩) (fun f => by kernel_rfl) (fun f => by kernel_rfl) (fun f => by kernel_rfl) fun f8 => ?_
      refine w_cond rfl (fun h11 => ?_) fun h11 => ?_
      · rw [if_pos h11] at hE1
        refine xr hT [] (fun f12 => ⟨[(4, .one (.c (.v (.bool false))))], [], 27⟩) (fun f => by kernel_rfl) (fun f => by kernel_rfl) fun f12 => ?_
        refine w_ret ?_
        have hR := hX1.trans (forN_ret hl1 (hB1.symm.trans hE1))
        subst hR
        exact x_ret (by kernel_rfl)
      rw [if_neg (nt h11)] at hE1
      refine w_skip ?_
      refine x_reg hT [.ex true (((i1 : Nat) : Int) + ((1 : Nat) : Int)) ((((i1 + 1) : Nat) : Int)) (fun _ => wr_nat (n := i1) (c := 1) (by omega))] (fun f13 => laws_eqLinkHeldS_I1 p0 p1 fs (i1 + 1) () (lst [])) (fun f => by kernel_rfl) (fun f => by kernel_rfl) fun f13 s' hs' => ?_
      exact ⟨(), (lst []), hl1, trivial, hX1.trans (forN_next hl1 (hB1.symm.trans hE1)), hs'⟩
    have hq := of_decide_eq_false h7
    refine w_exit ?_
    exact ⟨s1, (lst []), trivial, hX1.trans (forN_end (by first | omega | ((try simp only [LN] at *); omega))), sb (by kernel_rfl)⟩
  intro s1 x1 hF16 hR14
  rw [laws_eqLinkHeldS_r1] at hR14
  refine xr hT [] (fun f15 => ⟨[(4, .one (.c (.v (.bool true))))], [], 27⟩) (fun f => by kernel_rfl) (fun f => by kernel_rfl) fun f15 => ?_
  refine w_ret ?_
  subst hR14
  exact x_ret (by kernel_rfl)

/-- laws.eqLinkBook -/
def laws_eqLinkBook (p0 : LinkBook) (p1 : LinkBook) : Bool := (if !decide (p0.Last = p1.Last) then false else (if !(laws_eqLinkHeldS p0.Held p1.Held) then false else true))
theorem c37 (p0 : LinkBook) (p1 : LinkBook) (k0_0 : LinkBook.ok p0) (k1_0 : LinkBook.ok p1) : Fn Proofs.Try.prog 37 [⟨.val, true, LinkBook.cs .bor p0⟩, ⟨.val, true, LinkBook.cs .bor p1⟩] [.c (.v (.bool (laws_eqLinkBook p0 p1)))] [] := by
  obtain ⟨R, hR⟩ : ∃ R, R = laws_eqLinkBook p0 p1 := ⟨_, rfl⟩
  rw [← hR]
  rw [laws_eqLinkBook] at hR
  refine ⟨fn_intro hT Proofs.Try.func37 rfl rfl fun fs => ?_, _, Proofs.Try.func37, rfl, rfl⟩
  have q0 := k0_0; simp only [LinkBook.ok] at q0
  have q1 := k1_0; simp only [LinkBook.ok] at q1
  refine xr hT [] (fun f1 => ⟨[(2, .one (.pt 2 (f1 0 0) 0)), (3, .one (.pt 3 (f1 1 0) 0))], [(2, some (f1 0 0, .box (LinkBook.cs .bor p0))), (3, some (f1 1 0, .box (LinkBook.cs .bor p1)))], 16⟩) (fun f => by kernel_rfl) (fun f => by kernel_rfl) fun f1 => ?_
  refine w_seq ?_
  refine xr hT [] (fun f2 => ⟨[(2, .one (.pt 2 (f1 0 0) 0)), (3, .one (.pt 3 (f1 1 0) 0)), (9, .one (.c (.v (.bool (!decide (p0.Last = p1.Last))))))], [(2, some (f1 0 0, .box (LinkBook.cs .bor p0))), (3, some (f1 1 0, .box (LinkBook.cs .bor p1)))], 16⟩) (fun f => by kernel_rfl) (fun f => by kernel_rfl) fun f2 => ?_
  refine w_cond rfl (fun h3 => ?_) fun h3 => ?_
  · rw [if_pos h3] at hR
    have gh3 := nd1 h3
    refine xr hT [] (fun f4 => ⟨[(4, .one (.c (.v (.bool false))))], [], 16⟩) (fun f => by kernel_rfl) (fun f => by kernel_rfl) fun f4 => ?_
    refine w_ret ?_
    subst hR
    exact x_ret (by kernel_rfl)
  rw [if_neg (nt h3)] at hR
  have gh3 := nd0 h3
  refine w_skip ?_
  refine w_seq ?_
  refine xr hT [ca (c115 p0.Held p1.Held (by omega) (q0.2) (by omega) (q1.2))] (fun f5 => ⟨[(15, .one (.c (.v (.bool (!(laws_eqLinkHeldS p0.Held p1.Held))))))], [], 16⟩) (fun f => by kernel_rfl) (fun f => by kernel_rfl) fun f5 => ?_
  refine w_cond rfl (fun h6 => ?_) fun h6 => ?_
  · rw [if_pos h6] at hR
    refine xr hT [] (fun f7 => ⟨[(4, .one (.c (.v (.bool false))))], [], 16⟩) (fun f => by kernel_rfl) (fun f => by kernel_rfl) fun f7 => ?_
    refine w_ret ?_
    subst hR
    exact x_ret (by kernel_rfl)
  rw [if_neg (nt h6)] at hR
  refine w_skip ?_
  refine xr hT [] (fun f8 => ⟨[(4, .one (.c (.v (.bool true))))], [], 16⟩) (fun f => by kernel_rfl) (fun f => by kernel_rfl) fun f8 => ?_
  refine w_ret ?_
  subst hR
  exact x_ret (by kernel_rfl)

/-- spec.l21Can -/
def spec_l21Can (p0 : FlyPath) : Bool := (spec_FlySpans p0).2
theorem c159 (p0 : FlyPath) (k0_0 : FlyPath.ok p0) : Fn Proofs.Try.prog 159 [⟨.val, true, FlyPath.cs .bor p0⟩] [.c (.v (.bool (spec_l21Can p0)))] [] := by
  obtain ⟨R, hR⟩ : ∃ R, R = spec_l21Can p0 := ⟨_, rfl⟩
  rw [← hR]
  rw [spec_l21Can] at hR
  refine ⟨fn_intro hT Proofs.Try.func159 rfl rfl fun fs => ?_, _, Proofs.Try.func159, rfl, rfl⟩
  have q0 := k0_0; simp only [FlyPath.ok] at q0
  refine xr hT [] (fun f1 => ⟨[(1, .one (.pt 1 (f1 0 0) 0))], [(1, some (f1 0 0, .box (FlyPath.cs .bor p0)))], 11⟩) (fun f => by kernel_rfl) (fun f => by kernel_rfl) fun f1 => ?_
  have w3 := f_spec_FlySpans p0 (by first | assumption | exact (by omega : p0.Steps.length ≤ 1048576))
  have w3' := w3; try simp only [LN] at w3'
  refine xr hT [ca (c166 p0 (by first | assumption | exact (by omega : p0.Steps.length ≤ 1048576)))] (fun f2 => ⟨[(4, .one (.c (.v (.bool ((spec_FlySpans p0).2)))))], [], 11⟩) (fun f => by kernel_rfl) (fun f => by kernel_rfl) fun f2 => ?_
  refine xr hT [] (fun f4 => ⟨[(2, .one (.c (.v (.bool ((spec_FlySpans p0).2)))))], [], 11⟩) (fun f => by kernel_rfl) (fun f => by kernel_rfl) fun f4 => ?_
  refine w_ret ?_
  subst hR
  exact x_ret (by kernel_rfl)

/-- spec.l21None -/
def spec_l21None (p0 : FlyPath) : Bool := (((FlyKind.beq p0.Kind (⟨0, 0⟩ : FlyKind)) && (decide ((p0.Steps.length : Int) = 0))) && (decide (p0.From = 0))) && (decide (p0.By = 0))
theorem c191 (p0 : FlyPath) (k0_0 : FlyPath.ok p0) : Fn Proofs.Try.prog 191 [⟨.val, true, FlyPath.cs .bor p0⟩] [.c (.v (.bool (spec_l21None p0)))] [] := by
  obtain ⟨R, hR⟩ : ∃ R, R = spec_l21None p0 := ⟨_, rfl⟩
  rw [← hR]
  rw [spec_l21None] at hR
  refine ⟨fn_intro hT Proofs.Try.func191 rfl rfl fun fs => ?_, _, Proofs.Try.func191, rfl, rfl⟩
  have q0 := k0_0; simp only [FlyPath.ok] at q0
  refine xr hT [] (fun f1 => ⟨[(1, .one (.pt 1 (f1 0 0) 0))], [(1, some (f1 0 0, .box (FlyPath.cs .bor p0)))], 23⟩) (fun f => by kernel_rfl) (fun f => by kernel_rfl) fun f1 => ?_
  refine xr hT [.eqs (eqS32 p0.Kind (⟨0, 0⟩ : FlyKind)), .ln FlyStep.row p0.Steps] (fun f2 => ⟨[(2, .one (.c (.v (.bool ((((FlyKind.beq p0.Kind (⟨0, 0⟩ : FlyKind)) && (decide ((p0.Steps.length : Int) = 0))) && (decide (p0.From = 0))) && (decide (p0.By = 0)))))))], [], 23⟩) (fun f => by kernel_rfl) (fun f => by kernel_rfl) fun f2 => ?_
  refine w_ret ?_
  subst hR
  exact x_ret (by kernel_rfl)

/-- spec.l23HeldOk -/
def spec_l23HeldOk (p0 : LinkHeld) : Bool := (if ((!(spec_l12NameOk p0.Name)) || (decide (p0.Number < 1))) || (!(spec_l21Can p0.Path)) then false else ((spec_l21None p0.Next) && (decide (p0.Sent = 0))) || ((spec_l21Can p0.Next) && (decide (p0.Number < p0.Sent))))
theorem c153 (p0 : LinkHeld) (k0_0 : LinkHeld.ok p0) : Fn Proofs.Try.prog 153 [⟨.val, true, LinkHeld.cs .bor p0⟩] [.c (.v (.bool (spec_l23HeldOk p0)))] [] := by
  obtain ⟨R, hR⟩ : ∃ R, R = spec_l23HeldOk p0 := ⟨_, rfl⟩
  rw [← hR]
  rw [spec_l23HeldOk] at hR
  refine ⟨fn_intro hT Proofs.Try.func153 rfl rfl fun fs => ?_, _, Proofs.Try.func153, rfl, rfl⟩
  have q0 := k0_0; simp only [LinkHeld.ok] at q0
  refine xr hT [] (fun f1 => ⟨[(1, .one (.pt 1 (f1 0 0) 0))], [(1, some (f1 0 0, .box (LinkHeld.cs .bor p0)))], 38⟩) (fun f => by kernel_rfl) (fun f => by kernel_rfl) fun f1 => ?_
  refine w_seq ?_
  refine xr hT [ca (c92 p0.Name), cg (!((!(spec_l12NameOk p0.Name)) || (decide (p0.Number < 1)))) (fun h => by (try simp only [Bool.and_eq_true, Bool.or_eq_true, decide_eq_true_eq, Bool.not_eq_true', decide_eq_false_iff_not] at h); exact c159 p0.Path (by first | assumption | exact (by omega : p0.Path.Steps.length ≤ 1048576)))] (fun f2 => ⟨[(1, .one (.pt 1 (f1 0 0) 0)), (17, .one (.c (.v (.bool (((!(spec_l12NameOk p0.Name)) || (decide (p0.Number < 1))) || (!(spec_l21Can p0.Path)))))))], [(1, some (f1 0 0, .box (LinkHeld.cs .bor p0)))], 38⟩) (fun f => by kernel_rfl) (fun f => by kernel_rfl) fun f2 => ?_
  refine w_cond rfl (fun h3 => ?_) fun h3 => ?_
  · rw [if_pos h3] at hR
    have gh3 := h3; try simp only [Bool.not_eq_true', Bool.not_eq_false', decide_eq_true_eq, decide_eq_false_iff_not, Bool.and_eq_true, Bool.or_eq_true, Bool.and_eq_false_iff, Bool.or_eq_false_iff] at gh3
    refine xr hT [] (fun f4 => ⟨[(2, .one (.c (.v (.bool false))))], [], 38⟩) (fun f => by kernel_rfl) (fun f => by kernel_rfl) fun f4 => ?_
    refine w_ret ?_
    subst hR
    exact x_ret (by kernel_rfl)
  rw [if_neg (nt h3)] at hR
  have gh3 := h3; try simp only [Bool.not_eq_true', Bool.not_eq_false', decide_eq_true_eq, decide_eq_false_iff_not, Bool.and_eq_true, Bool.or_eq_true, Bool.and_eq_false_iff, Bool.or_eq_false_iff] at gh3
  refine w_skip ?_
  refine xr hT [ca (c191 p0.Next (by first | assumption | exact (by omega : p0.Next.Steps.length ≤ 1048576))), cg (!((spec_l21None p0.Next) && (decide (p0.Sent = 0)))) (fun h => by (try simp only [Bool.and_eq_true, Bool.or_eq_true, decide_eq_true_eq, Bool.not_eq_true', decide_eq_false_iff_not] at h); exact c159 p0.Next (by first | assumption | exact (by omega : p0.Next.Steps.length ≤ 1048576)))] (fun f5 => ⟨[(2, .one (.c (.v (.bool (((spec_l21None p0.Next) && (decide (p0.Sent = 0))) || ((spec_l21Can p0.Next) && (decide (p0.Number < p0.Sent))))))))], [], 38⟩) (fun f => by kernel_rfl) (fun f => by kernel_rfl) fun f5 => ?_
  refine w_ret ?_
  subst hR
  exact x_ret (by kernel_rfl)

def spec_l23Same_v1 (p0 : LinkHeld) (p1 : LinkHeld) : Bool := (((decide (p0.Number = p1.Number)) || (decide (p0.Number = p1.Sent))) || (decide (p0.Sent = p1.Number))) || ((decide (p0.Sent = p1.Sent)) && (decide (0 < p0.Sent)))
/-- spec.l23Same -/
def spec_l23Same (p0 : LinkHeld) (p1 : LinkHeld) : Bool := (spec_l23Same_v1 p0 p1)
theorem c154 (p0 : LinkHeld) (p1 : LinkHeld) (k0_0 : LinkHeld.ok p0) (k1_0 : LinkHeld.ok p1) : Fn Proofs.Try.prog 154 [⟨.val, true, LinkHeld.cs .bor p0⟩, ⟨.val, true, LinkHeld.cs .bor p1⟩] [.c (.v (.bool (spec_l23Same p0 p1)))] [] := by
  obtain ⟨R, hR⟩ : ∃ R, R = spec_l23Same p0 p1 := ⟨_, rfl⟩
  rw [← hR]
  rw [spec_l23Same] at hR
  refine ⟨fn_intro hT Proofs.Try.func154 rfl rfl fun fs => ?_, _, Proofs.Try.func154, rfl, rfl⟩
  have q0 := k0_0; simp only [LinkHeld.ok] at q0
  have q1 := k1_0; simp only [LinkHeld.ok] at q1
  refine xr hT [] (fun f1 => ⟨[(2, .one (.pt 2 (f1 0 0) 0)), (3, .one (.pt 3 (f1 1 0) 0))], [(2, some (f1 0 0, .box (LinkHeld.cs .bor p0))), (3, some (f1 1 0, .box (LinkHeld.cs .bor p1)))], 36⟩) (fun f => by kernel_rfl) (fun f => by kernel_rfl) fun f1 => ?_
  refine xr hT [] (fun f2 => ⟨[(4, .one (.c (.v (.bool (spec_l23Same_v1 p0 p1)))))], [], 36⟩) (fun f => by kernel_rfl) (fun f => by kernel_rfl) fun f2 => ?_
  refine w_ret ?_
  subst hR
  exact x_ret (by kernel_rfl)

def spec_l11Close_v1 (p0 : ProbeBox) (p1 : ProbeBox) : Bool := (((((!(spec_l11In (wr (p0.X - p1.X)) (-1) 1)) || (!(spec_l11In (wr (p0.Y - p1.Y)) (-1) 1))) || (decide (p1.High < p0.Low))) || (decide (p0.High < p1.Low))) || (decide (p1.Out < p0.In))) || (decide (p0.Out < p1.In))
/-- spec.l11Close -/
def spec_l11Close (p0 : ProbeBox) (p1 : ProbeBox) : Int × Bool := (if (spec_l11Close_v1 p0 p1) then (0, false) else (if decide (p1.In < p0.In) then (p0.In, true) else (p1.In, true)))
theorem c205 (p0 : ProbeBox) (p1 : ProbeBox) : Fn Proofs.Try.prog 205 [⟨.val, true, ProbeBox.cs .bor p0⟩, ⟨.val, true, ProbeBox.cs .bor p1⟩] [.c (.v (.int .i64 (spec_l11Close p0 p1).1)), .c (.v (.bool (spec_l11Close p0 p1).2))] [] := by
  obtain ⟨R, hR⟩ : ∃ R, R = spec_l11Close p0 p1 := ⟨_, rfl⟩
  rw [← hR]
  rw [spec_l11Close] at hR
  refine ⟨fn_intro hT Proofs.Try.func205 rfl rfl fun fs => ?_, _, Proofs.Try.func205, rfl, rfl⟩
  refine xr hT [] (fun f1 => ⟨[(2, .one (.pt 2 (f1 0 0) 0)), (3, .one (.pt 3 (f1 1 0) 0))], [(2, some (f1 0 0, .box (ProbeBox.cs .bor p0))), (3, some (f1 1 0, .box (ProbeBox.cs .bor p1)))], 59⟩) (fun f => by kernel_rfl) (fun f => by kernel_rfl) fun f1 => ?_
  refine w_seq ?_
  refine xr hT [.wr, ca (c174 (wr (p0.X - p1.X)) (-1) 1), .wr, cg (!(!(spec_l11In (wr (p0.X - p1.X)) (-1) 1))) (fun _ => c174 (wr (p0.Y - p1.Y)) (-1) 1)] (fun f2 => ⟨[(2, .one (.pt 2 (f1 0 0) 0)), (3, .one (.pt 3 (f1 1 0) 0)), (49, .one (.c (.v (.bool (spec_l11Close_v1 p0 p1)))))], [(2, some (f1 0 0, .box (ProbeBox.cs .bor p0))), (3, some (f1 1 0, .box (ProbeBox.cs .bor p1)))], 59⟩) (fun f => by kernel_rfl) (fun f => by kernel_rfl) fun f2 => ?_
  refine w_cond rfl (fun h3 => ?_) fun h3 => ?_
  · rw [if_pos h3] at hR
    have gh3 := h3; try simp only [spec_l11In, spec_l11Close_v1, Bool.not_eq_true', Bool.not_eq_false', decide_eq_true_eq, decide_eq_false_iff_not, Bool.and_eq_true, Bool.or_eq_true, Bool.and_eq_false_iff, Bool.or_eq_false_iff] at gh3
    refine xr hT [] (fun f4 => ⟨[(4, .one (.c (.v (.int .i64 0)))), (5, .one (.c (.v (.bool false))))], [], 59⟩) (fun f => by kernel_rfl) (fun f => by kernel_rfl) fun f4 => ?_
    refine w_ret ?_
    subst hR
    exact x_ret (by kernel_rfl)
  rw [if_neg (nt h3)] at hR
  have gh3 := h3; try simp only [spec_l11In, spec_l11Close_v1, Bool.not_eq_true', Bool.not_eq_false', decide_eq_true_eq, decide_eq_false_iff_not, Bool.and_eq_true, Bool.or_eq_true, Bool.and_eq_false_iff, Bool.or_eq_false_iff] at gh3
  refine w_skip ?_
  refine w_seq ?_
  refine xr hT [] (fun f5 => ⟨[(2, .one (.pt 2 (f1 0 0) 0)), (3, .one (.pt 3 (f1 1 0) 0)), (54, .one (.c (.v (.bool (decide (p1.In < p0.In))))))], [(2, some (f1 0 0, .box (ProbeBox.cs .bor p0))), (3, some (f1 1 0, .box (ProbeBox.cs .bor p1)))], 59⟩) (fun f => by kernel_rfl) (fun f => by kernel_rfl) fun f5 => ?_
  refine w_cond rfl (fun h6 => ?_) fun h6 => ?_
  · rw [if_pos h6] at hR
    have gh6 := of_decide_eq_true h6
    refine xr hT [] (fun f7 => ⟨[(4, .one (.c (.v (.int .i64 p0.In)))), (5, .one (.c (.v (.bool true))))], [], 59⟩) (fun f => by kernel_rfl) (fun f => by kernel_rfl) fun f7 => ?_
    refine w_ret ?_
    subst hR
    exact x_ret (by kernel_rfl)
  rw [if_neg (nt h6)] at hR
  have gh6 := of_decide_eq_false h6
  refine w_skip ?_
  refine xr hT [] (fun f8 => ⟨[(4, .one (.c (.v (.int .i64 p1.In)))), (5, .one (.c (.v (.bool true))))], [], 59⟩) (fun f => by kernel_rfl) (fun f => by kernel_rfl) fun f8 => ?_
  refine w_ret ?_
  subst hR
  exact x_ret (by kernel_rfl)

def spec_l13Meet_I1 (p0 : ProbeTube) (p1 : ProbeTube) (fs : Nat → Nat → Nat) (i1 : Nat) (s1 : Bool × ByteArray × ByteArray × Int × Int × Int) (x1 : Nat → Nat) : St := ⟨[(2, .one (.pt 2 (x1 0) 0)), (3, .one (.pt 3 (x1 1) 0)), (4, .one (.pt 4 (x1 2) 0)), (6, .one (.pt 6 (x1 3) 0)), (7, .one (.c (.v (.bool s1.1)))), (8, .one (.c (.v (.int .i64 ((i1 : Nat) : Int)))))], [(2, some (x1 0, .box (ProbeTube.cs .bor p0))), (3, some (x1 1, .box (ProbeTube.cs .bor p1))), (4, some (x1 2, .box [.v (.string ⟨#[]⟩), .v (.string ⟨#[]⟩), .v (.int .i64 0), .v (.int .i64 0), .v (.int .i64 0)])), (6, some (x1 3, .box [.v (.string s1.2.1), .v (.string s1.2.2.1), .v (.int .i64 s1.2.2.2.1), .v (.int .i64 s1.2.2.2.2.1), .v (.int .i64 s1.2.2.2.2.2)]))], 62⟩
def spec_l13Meet_J1 (p0 : ProbeTube) (p1 : ProbeTube) (fs : Nat → Nat → Nat) (s1 : Bool × ByteArray × ByteArray × Int × Int × Int) (x1 : Nat → Nat) : St := ⟨[(4, .one (.pt 4 (x1 2) 0)), (6, .one (.pt 6 (x1 3) 0)), (7, .one (.c (.v (.bool s1.1))))], [(4, some (x1 2, .box [.v (.string ⟨#[]⟩), .v (.string ⟨#[]⟩), .v (.int .i64 0), .v (.int .i64 0), .v (.int .i64 0)])), (6, some (x1 3, .box [.v (.string s1.2.1), .v (.string s1.2.2.1), .v (.int .i64 s1.2.2.2.1), .v (.int .i64 s1.2.2.2.2.1), .v (.int .i64 s1.2.2.2.2.2)]))], 62⟩
def spec_l13Meet_I2 (p0 : ProbeTube) (p1 : ProbeTube) (i1 : Nat) (s1 : Bool × ByteArray × ByteArray × Int × Int × Int) (fs : Nat → Nat → Nat) (i2 : Nat) (s2 : Bool × ByteArray × ByteArray × Int × Int × Int) (x2 : Nat → Nat) : St := ⟨[(2, .one (.pt 2 (x2 0) 0)), (3, .one (.pt 3 (x2 1) 0)), (4, .one (.pt 4 (x2 2) 0)), (6, .one (.pt 6 (x2 3) 0)), (7, .one (.c (.v (.bool s2.1)))), (8, .one (.c (.v (.int .i64 ((i1 : Nat) : Int))))), (9, .one (.c (.v (.int .i64 ((i2 : Nat) : Int)))))], [(2, some (x2 0, .box (ProbeTube.cs .bor p0))), (3, some (x2 1, .box (ProbeTube.cs .bor p1))), (4, some (x2 2, .box [.v (.string ⟨#[]⟩), .v (.string ⟨#[]⟩), .v (.int .i64 0), .v (.int .i64 0), .v (.int .i64 0)])), (6, some (x2 3, .box [.v (.string s2.2.1), .v (.string s2.2.2.1), .v (.int .i64 s2.2.2.2.1), .v (.int .i64 s2.2.2.2.2.1), .v (.int .i64 s2.2.2.2.2.2)]))], 62⟩
def spec_l13Meet_J2 (p0 : ProbeTube) (p1 : ProbeTube) (i1 : Nat) (s1 : Bool × ByteArray × ByteArray × Int × Int × Int) (fs : Nat → Nat → Nat) (s2 : Bool × ByteArray × ByteArray × Int × Int × Int) (x2 : Nat → Nat) : St := ⟨[(2, .one (.pt 2 (x2 0) 0)), (3, .one (.pt 3 (x2 1) 0)), (4, .one (.pt 4 (x2 2) 0)), (6, .one (.pt 6 (x2 3) 0)), (7, .one (.c (.v (.bool s2.1)))), (8, .one (.c (.v (.int .i64 ((i1 : Nat) : Int)))))], [(2, some (x2 0, .box (ProbeTube.cs .bor p0))), (3, some (x2 1, .box (ProbeTube.cs .bor p1))), (4, some (x2 2, .box [.v (.string ⟨#[]⟩), .v (.string ⟨#[]⟩), .v (.int .i64 0), .v (.int .i64 0), .v (.int .i64 0)])), (6, some (x2 3, .box [.v (.string s2.2.1), .v (.string s2.2.2.1), .v (.int .i64 s2.2.2.2.1), .v (.int .i64 s2.2.2.2.2.1), .v (.int .i64 s2.2.2.2.2.2)]))], 62⟩
def spec_l13Meet_v1 (p0 : ProbeTube) (p1 : ProbeTube) (i1 : Nat) (i2 : Nat) (s2 : Bool × ByteArray × ByteArray × Int × Int × Int) : Bool := ((spec_l11Close (p0.Boxes.getD i1 default) (p1.Boxes.getD i2 default)).2) && ((!s2.1) || (decide (((spec_l11Close (p0.Boxes.getD i1 default) (p1.Boxes.getD i2 default)).1) < s2.2.2.2.1)))
def spec_l13Meet_b2 (p0 : ProbeTube) (p1 : ProbeTube) (i1 : Nat) (s1 : Bool × ByteArray × ByteArray × Int × Int × Int) (i2 : Nat) (s2 : Bool × ByteArray × ByteArray × Int × Int × Int) : Res (Bool × ByteArray × ByteArray × Int × Int × Int) (Res (Bool × ByteArray × ByteArray × Int × Int × Int) (ProbeClash × Bool)) := (if (spec_l13Meet_v1 p0 p1 i1 i2 s2) then (.next (true, p0.Name, p1.Name, (spec_l11Close (p0.Boxes.getD i1 default) (p1.Boxes.getD i2 default)).1, ((i1 : Nat) : Int), ((i2 : Nat) : Int))) else (.next (s2.1, s2.2.1, s2.2.2.1, s2.2.2.2.1, s2.2.2.2.2.1, s2.2.2.2.2.2)))
def spec_l13Meet_r2 (p0 : ProbeTube) (p1 : ProbeTube) (i1 : Nat) (s1 : Bool × ByteArray × ByteArray × Int × Int × Int) (s2 : Bool × ByteArray × ByteArray × Int × Int × Int) : (Res (Bool × ByteArray × ByteArray × Int × Int × Int) (ProbeClash × Bool)) := (.next (s2.1, s2.2.1, s2.2.2.1, s2.2.2.2.1, s2.2.2.2.2.1, s2.2.2.2.2.2))
def spec_l13Meet_b1 (p0 : ProbeTube) (p1 : ProbeTube) (i1 : Nat) (s1 : Bool × ByteArray × ByteArray × Int × Int × Int) : Res (Bool × ByteArray × ByteArray × Int × Int × Int) (ProbeClash × Bool) := (Res.fin (spec_l13Meet_r2 p0 p1 i1 s1) (forN (spec_l13Meet_b2 p0 p1 i1 s1) (p1.Boxes.length - 0) 0 (s1.1, s1.2.1, s1.2.2.1, s1.2.2.2.1, s1.2.2.2.2.1, s1.2.2.2.2.2)))
def spec_l13Meet_r1 (p0 : ProbeTube) (p1 : ProbeTube) (s1 : Bool × ByteArray × ByteArray × Int × Int × Int) : (ProbeClash × Bool) := ((⟨s1.2.1, s1.2.2.1, s1.2.2.2.1, s1.2.2.2.2.1, s1.2.2.2.2.2⟩ : ProbeClash), s1.1)
/-- spec.l13Meet -/
def spec_l13Meet (p0 : ProbeTube) (p1 : ProbeTube) : ProbeClash × Bool := (Res.fin (spec_l13Meet_r1 p0 p1) (forN (spec_l13Meet_b1 p0 p1) (p0.Boxes.length - 0) 0 (false, ⟨#[]⟩, ⟨#[]⟩, 0, 0, 0)))
theorem c203 (p0 : ProbeTube) (p1 : ProbeTube) (k0_0 : ProbeTube.ok p0) (k1_0 : ProbeTube.ok p1) : Fn Proofs.Try.prog 203 [⟨.val, true, ProbeTube.cs .bor p0⟩, ⟨.val, true, ProbeTube.cs .bor p1⟩] [.ag (ProbeClash.cs .own (spec_l13Meet p0 p1).1), .c (.v (.bool (spec_l13Meet p0 p1).2))] [] := by
  obtain ⟨R, hR⟩ : ∃ R, R = spec_l13Meet p0 p1 := ⟨_, rfl⟩
  rw [← hR]
  rw [spec_l13Meet] at hR
  refine ⟨fn_intro hT Proofs.Try.func203 rfl rfl fun fs => ?_, _, Proofs.Try.func203, rfl, rfl⟩
  have q0 := k0_0; simp only [ProbeTube.ok] at q0
  have q1 := k1_0; simp only [ProbeTube.ok] at q1
  refine xr hT [] (fun f1 => ⟨[(2, .one (.pt 2 (f1 0 0) 0)), (3, .one (.pt 3 (f1 1 0) 0)), (4, .one (.pt 4 (f1 2 0) 0))], [(2, some (f1 0 0, .box (ProbeTube.cs .bor p0))), (3, some (f1 1 0, .box (ProbeTube.cs .bor p1))), (4, some (f1 2 0, .box [.v (.string ⟨#[]⟩), .v (.string ⟨#[]⟩), .v (.int .i64 0), .v (.int .i64 0), .v (.int .i64 0)]))], 62⟩) (fun f => by kernel_rfl) (fun f => by kernel_rfl) fun f1 => ?_
  refine xr hT [] (fun f2 => ⟨[(2, .one (.pt 2 (f1 0 0) 0)), (3, .one (.pt 3 (f1 1 0) 0)), (4, .one (.pt 4 (f1 2 0) 0)), (6, .one (.pt 6 (f2 1 0) 0))], [(2, some (f1 0 0, .box (ProbeTube.cs .bor p0))), (3, some (f1 1 0, .box (ProbeTube.cs .bor p1))), (4, some (f1 2 0, .box [.v (.string ⟨#[]⟩), .v (.string ⟨#[]⟩), .v (.int .i64 0), .v (.int .i64 0), .v (.int .i64 0)])), (6, some (f2 1 0, .box [.v (.string ⟨#[]⟩), .v (.string ⟨#[]⟩), .v (.int .i64 0), .v (.int .i64 0), .v (.int .i64 0)]))], 62⟩) (fun f => by kernel_rfl) (fun f => by kernel_rfl) fun f2 => ?_
  refine xr hT [] (fun f3 => ⟨[(2, .one (.pt 2 (f1 0 0) 0)), (3, .one (.pt 3 (f1 1 0) 0)), (4, .one (.pt 4 (f1 2 0) 0)), (6, .one (.pt 6 (f2 1 0) 0)), (7, .one (.c (.v (.bool false))))], [(2, some (f1 0 0, .box (ProbeTube.cs .bor p0))), (3, some (f1 1 0, .box (ProbeTube.cs .bor p1))), (4, some (f1 2 0, .box [.v (.string ⟨#[]⟩), .v (.string ⟨#[]⟩), .v (.int .i64 0), .v (.int .i64 0), .v (.int .i64 0)])), (6, some (f2 1 0, .box [.v (.string ⟨#[]⟩), .v (.string ⟨#[]⟩), .v (.int .i64 0), .v (.int .i64 0), .v (.int .i64 0)]))], 62⟩) (fun f => by kernel_rfl) (fun f => by kernel_rfl) fun f3 => ?_
  refine w_seq ?_
  refine xr hT [] (fun f4 => ⟨[(2, .one (.pt 2 (f1 0 0) 0)), (3, .one (.pt 3 (f1 1 0) 0)), (4, .one (.pt 4 (f1 2 0) 0)), (6, .one (.pt 6 (f2 1 0) 0)), (7, .one (.c (.v (.bool false)))), (8, .one (.c (.v (.int .i64 0))))], [(2, some (f1 0 0, .box (ProbeTube.cs .bor p0))), (3, some (f1 1 0, .box (ProbeTube.cs .bor p1))), (4, some (f1 2 0, .box [.v (.string ⟨#[]⟩), .v (.string ⟨#[]⟩), .v (.int .i64 0), .v (.int .i64 0), .v (.int .i64 0)])), (6, some (f2 1 0, .box [.v (.string ⟨#[]⟩), .v (.string ⟨#[]⟩), .v (.int .i64 0), .v (.int .i64 0), .v (.int .i64 0)]))], 62⟩) (fun f => by kernel_rfl) (fun f => by kernel_rfl) fun f4 => ?_
  refine w_forT (fun _ => rfl) (spec_l13Meet_I1 p0 p1 fs) (spec_l13Meet_J1 p0 p1 fs) (fun i1 s1 => True) (fun s1 => True) (p0.Boxes.length) 0 (spec_l13Meet_b1 p0 p1) (spec_l13Meet_r1 p0 p1) 0 ((false, ⟨#[]⟩, ⟨#[]⟩, 0, 0, 0)) (lst [f1 0 0, f1 1 0, f1 2 0, f2 1 0]) (sb (by kernel_rfl)) trivial hR ?_ ?_
  · skip
    intro i1 s1 x1 hI1 hX1
    refine w_seq ?_
    refine xr hT [.ln ProbeBox.row p0.Boxes] (fun f5 => ⟨[(2, .one (.pt 2 (x1 0) 0)), (3, .one (.pt 3 (x1 1) 0)), (4, .one (.pt 4 (x1 2) 0)), (6, .one (.pt 6 (x1 3) 0)), (7, .one (.c (.v (.bool s1.1)))), (8, .one (.c (.v (.int .i64 ((i1 : Nat) : Int))))), (17, .one (.c (.v (.bool (decide (((i1 : Nat) : Int) < (p0.Boxes.length : Int)))))))], [(2, some (x1 0, .box (ProbeTube.cs .bor p0))), (3, some (x1 1, .box (ProbeTube.cs .bor p1))), (4, some (x1 2, .box [.v (.string ⟨#[]⟩), .v (.string ⟨#[]⟩), .v (.int .i64 0), .v (.int .i64 0), .v (.int .i64 0)])), (6, some (x1 3, .box [.v (.string s1.2.1), .v (.string s1.2.2.1), .v (.int .i64 s1.2.2.2.1), .v (.int .i64 s1.2.2.2.2.1), .v (.int .i64 s1.2.2.2.2.2)]))], 62⟩) (fun f => by kernel_rfl) (fun f => by kernel_rfl) fun f5 => ?_
    refine w_cond rfl (fun h6 => ?_) fun h6 => ?_
    · skip
      have hl1 : i1 < p0.Boxes.length := by have hq := of_decide_eq_true h6; first | omega | ((try simp only [LN, spec_l13Meet_v1] at *); omega)
      obtain ⟨B1, hB1⟩ : ∃ B, B = spec_l13Meet_b1 p0 p1 i1 s1 := ⟨_, rfl⟩
      have hE1 := hB1
      rw [spec_l13Meet_b1] at hE1
      refine w_skip ?_
      refine w_seq ?_
      refine w_block ?_
      refine xr hT [] (fun f7 => ⟨[(2, .one (.pt 2 (x1 0) 0)), (3, .one (.pt 3 (x1 1) 0)), (4, .one (.pt 4 (x1 2) 0)), (6, .one (.pt 6 (x1 3) 0)), (7, .one (.c (.v (.bool s1.1)))), (8, .one (.c (.v (.int .i64 ((i1 : Nat) : Int))))), (9, .one (.c (.v (.int .i64 0))))], [(2, some (x1 0, .box (ProbeTube.cs .bor p0))), (3, some (x1 1, .box (ProbeTube.cs .bor p1))), (4, some (x1 2, .box [.v (.string ⟨#[]⟩), .v (.string ⟨#[]⟩), .v (.int .i64 0), .v (.int .i64 0), .v (.int .i64 0)])), (6, some (x1 3, .box [.v (.string s1.2.1), .v (.string s1.2.2.1), .v (.int .i64 s1.2.2.2.1), .v (.int .i64 s1.2.2.2.2.1), .v (.int .i64 s1.2.2.2.2.2)]))], 62⟩) (fun f => by kernel_rfl) (fun f => by kernel_rfl) fun f7 => ?_
      refine w_forT (fun _ => rfl) (spec_l13Meet_I2 p0 p1 i1 s1 fs) (spec_l13Meet_J2 p0 p1 i1 s1 fs) (fun i2 s2 => True) (fun s2 => True) (p1.Boxes.length) 2 (spec_l13Meet_b2 p0 p1 i1 s1) (spec_l13Meet_r2 p0 p1 i1 s1) 0 ((s1.1, s1.2.1, s1.2.2.1, s1.2.2.2.1, s1.2.2.2.2.1, s1.2.2.2.2.2)) (lst [x1 0, x1 1, x1 2, x1 3]) (sb (by kernel_rfl)) trivial hE1 ?_ ?_
      · skip
        intro i2 s2 x2 hI2 hX2
        refine w_seq ?_
        refine xr hT [.ln ProbeBox.row p1.Boxes] (fun f8 => ⟨[(2, .one (.pt 2 (x2 0) 0)), (3, .one (.pt 3 (x2 1) 0)), (4, .one (.pt 4 (x2 2) 0)), (6, .one (.pt 6 (x2 3) 0)), (7, .one (.c (.v (.bool s2.1)))), (8, .one (.c (.v (.int .i64 ((i1 : Nat) : Int))))), (9, .one (.c (.v (.int .i64 ((i2 : Nat) : Int))))), (24, .one (.c (.v (.bool (decide (((i2 : Nat) : Int) < (p1.Boxes.length : Int)))))))], [(2, some (x2 0, .box (ProbeTube.cs .bor p0))), (3, some (x2 1, .box (ProbeTube.cs .bor p1))), (4, some (x2 2, .box [.v (.string ⟨#[]⟩), .v (.string ⟨#[]⟩), .v (.int .i64 0), .v (.int .i64 0), .v (.int .i64 0)])), (6, some (x2 3, .box [.v (.string s2.2.1), .v (.string s2.2.2.1), .v (.int .i64 s2.2.2.2.1), .v (.int .i64 s2.2.2.2.2.1), .v (.int .i64 s2.2.2.2.2.2)]))], 62⟩) (fun f => by kernel_rfl) (fun f => by kernel_rfl) fun f8 => ?_
        refine w_cond rfl (fun h9 => ?_) fun h9 => ?_
        · skip
          have hl2 : i2 < p1.Boxes.length := by have hq := of_decide_eq_true h9; first | omega | ((try simp only [LN, spec_l13Meet_v1] at *); omega)
          obtain ⟨B2, hB2⟩ : ∃ B, B = spec_l13Meet_b2 p0 p1 i1 s1 i2 s2 := ⟨_, rfl⟩
          have hE2 := hB2
          rw [spec_l13Meet_b2] at hE2
          refine w_skip ?_
          refine w_seq ?_
          refine w_block ?_
          refine xd hT hM [ix ProbeBox.row p0.Boxes i1 (by omega), ix ProbeBox.row p1.Boxes i2 (by omega), ca (c205 (p0.Boxes.getD i1 default) (p1.Boxes.getD i2 default))] (fun f10 => ⟨[(2, .one (.pt 2 (x2 0) 0)), (3, .one (.pt 3 (x2 1) 0)), (4, .one (.pt 4 (x2 2) 0)), (6, .one (.pt 6 (x2 3) 0)), (7, .one (.c (.v (.bool s2.1)))), (8, .one (.c (.v (.int .i64 ((i1 : Nat) : Int))))), (9, .one (.c (.v (.int .i64 ((i2 : Nat) : Int))))), (10, .one (.c (.v (.int .i64 ((spec_l11Close (p0.Boxes.getD i1 default) (p1.Boxes.getD i2 default)).1))))), (11, .one (.c (.v (.bool ((spec_l11Close (p0.Boxes.getD i1 default) (p1.Boxes.getD i2 default)).2)))))], [(2, some (x2 0, .box (ProbeTube.cs .bor p0))), (3, some (x2 1, .box (ProbeTube.cs .bor p1))), (4, some (x2 2, .box [.v (.string ⟨#[]⟩), .v (.string ⟨#[]⟩), .v (.int .i64 0), .v (.int .i64 0), .v (.int .i64 0)])), (6, some (x2 3, .box [.v (.string s2.2.1), .v (.string s2.2.2.1), .v (.int .i64 s2.2.2.2.1), .v (.int .i64 s2.2.2.2.2.1), .v (.int .i64 s2.2.2.2.2.2)]))], 62⟩) (fun f => by kernel_rfl) (fun f => by kernel_rfl) (fun f => by kernel_rfl) fun f10 => ?_
          refine xr hT [] (fun f11 => ⟨[(2, .one (.pt 2 (x2 0) 0)), (3, .one (.pt 3 (x2 1) 0)), (4, .one (.pt 4 (x2 2) 0)), (6, .one (.pt 6 (x2 3) 0)), (7, .one (.c (.v (.bool s2.1)))), (8, .one (.c (.v (.int .i64 ((i1 : Nat) : Int))))), (9, .one (.c (.v (.int .i64 ((i2 : Nat) : Int))))), (10, .one (.c (.v (.int .i64 ((spec_l11Close (p0.Boxes.getD i1 default) (p1.Boxes.getD i2 default)).1))))), (51, .one (.c (.v (.bool (spec_l13Meet_v1 p0 p1 i1 i2 s2)))))], [(2, some (x2 0, .box (ProbeTube.cs .bor p0))), (3, some (x2 1, .box (ProbeTube.cs .bor p1))), (4, some (x2 2, .box [.v (.string ⟨#[]⟩), .v (.string ⟨#[]⟩), .v (.int .i64 0), .v (.int .i64 0), .v (.int .i64 0)])), (6, some (x2 3, .box [.v (.string s2.2.1), .v (.string s2.2.2.1), .v (.int .i64 s2.2.2.2.1), .v (.int .i64 s2.2.2.2.2.1), .v (.int .i64 s2.2.2.2.2.2)]))], 62⟩) (fun f => by kernel_rfl) (fun f => by kernel_rfl) fun f11 => ?_
          refine w_cond rfl (fun h12 => ?_) fun h12 => ?_
          · rw [if_pos h12] at hE2
            have gh12 := h12; try simp only [spec_l13Meet_v1, Bool.not_eq_true', Bool.not_eq_false', decide_eq_true_eq, decide_eq_false_iff_not, Bool.and_eq_true, Bool.or_eq_true, Bool.and_eq_false_iff, Bool.or_eq_false_iff] at gh12
            refine xr hT [] (fun f13 => ⟨[(2, .one (.pt 2 (x2 0) 0)), (3, .one (.pt 3 (x2 1) 0)), (4, .one (.pt 4 (x2 2) 0)), (6, .one (.pt 6 (x2 3) 0)), (8, .one (.c (.v (.int .i64 ((i1 : Nat) : Int))))), (9, .one (.c (.v (.int .i64 ((i2 : Nat) : Int)))))], [(2, some (x2 0, .box (ProbeTube.cs .bor p0))), (3, some (x2 1, .box (ProbeTube.cs .bor p1))), (4, some (x2 2, .box [.v (.string ⟨#[]⟩), .v (.string ⟨#[]⟩), .v (.int .i64 0), .v (.int .i64 0), .v (.int .i64 0)])), (6, some (x2 3, .box [.v (.string p0.Name), .v (.string p1.Name), .v (.int .i64 ((spec_l11Close (p0.Boxes.getD i1 default) (p1.Boxes.getD i2 default)).1)), .v (.int .i64 ((i1 : Nat) : Int)), .v (.int .i64 ((i2 : Nat) : Int))]))], 62⟩) (fun f => by kernel_rfl) (fun f => by kernel_rfl) fun f13 => ?_
            refine xr1 (fun _ => rfl) hT [] (fun f14 => ⟨[(2, .one (.pt 2 (x2 0) 0)), (3, .one (.pt 3 (x2 1) 0)), (4, .one (.pt 4 (x2 2) 0)), (6, .one (.pt 6 (x2 3) 0)), (7, .one (.c (.v (.bool true)))), (8, .one (.c (.v (.int .i64 ((i1 : Nat) : Int))))), (9, .one (.c (.v (.int .i64 ((i2 : Nat) : Int)))))], [(2, some (x2 0, .box (ProbeTube.cs .bor p0))), (3, some (x2 1, .box (ProbeTube.cs .bor p1))), (4, some (x2 2, .box [.v (.string ⟨#[]⟩), .v (.string ⟨#[]⟩), .v (.int .i64 0), .v (.int .i64 0), .v (.int .i64 0)])), (6, some (x2 3, .box [.v (.string p0.Name), .v (.string p1.Name), .v (.int .i64 ((spec_l11Close (p0.Boxes.getD i1 default) (p1.Boxes.getD i2 default)).1)), .v (.int .i64 ((i1 : Nat) : Int)), .v (.int .i64 ((i2 : Nat) : Int))]))], 62⟩) (fun f => by kernel_rfl) (fun f => by kernel_rfl) fun f14 => ?_
            refine x_reg hT [.ex true (((i2 : Nat) : Int) + ((1 : Nat) : Int)) ((((i2 + 1) : Nat) : Int)) (fun _ => wr_nat (n := i2) (c := 1) (by omega))] (fun f15 => spec_l13Meet_I2 p0 p1 i1 s1 fs (i2 + 1) (true, p0.Name, p1.Name, (spec_l11Close (p0.Boxes.getD i1 default) (p1.Boxes.getD i2 default)).1, ((i1 : Nat) : Int), ((i2 : Nat) : Int)) (lst [x2 0, x2 1, x2 2, x2 3])) (fun f => by kernel_rfl) (fun f => by kernel_rfl) fun f15 s' hs' => ?_
            exact ⟨(true, p0.Name, p1.Name, (spec_l11Close (p0.Boxes.getD i1 default) (p1.Boxes.getD i2 default)).1, ((i1 : Nat) : Int), ((i2 : Nat) : Int)), (lst [x2 0, x2 1, x2 2, x2 3]), hl2, trivial, hX2.trans (forN_next hl2 (hB2.symm.trans hE2)), hs'⟩
          rw [if_neg (nt h12)] at hE2
          have gh12 := h12; try simp only [spec_l13Meet_v1, Bool.not_eq_true', Bool.not_eq_false', decide_eq_true_eq, decide_eq_false_iff_not, Bool.and_eq_true, Bool.or_eq_true, Bool.and_eq_false_iff, Bool.or_eq_false_iff] at gh12
          refine w_skip ?_
          refine x_reg hT [.ex true (((i2 : Nat) : Int) + ((1 : Nat) : Int)) ((((i2 + 1) : Nat) : Int)) (fun _ => wr_nat (n := i2) (c := 1) (by omega))] (fun f16 => spec_l13Meet_I2 p0 p1 i1 s1 fs (i2 + 1) (s2.1, s2.2.1, s2.2.2.1, s2.2.2.2.1, s2.2.2.2.2.1, s2.2.2.2.2.2) (lst [x2 0, x2 1, x2 2, x2 3])) (fun f => by kernel_rfl) (fun f => by kernel_rfl) fun f16 s' hs' => ?_
          exact ⟨(s2.1, s2.2.1, s2.2.2.1, s2.2.2.2.1, s2.2.2.2.2.1, s2.2.2.2.2.2), (lst [x2 0, x2 1, x2 2, x2 3]), hl2, trivial, hX2.trans (forN_next hl2 (hB2.symm.trans hE2)), hs'⟩
        have hq := of_decide_eq_false h9
        refine w_exit ?_
        exact ⟨s2, (lst [x2 0, x2 1, x2 2, x2 3]), trivial, hX2.trans (forN_end (by first | omega | ((try simp only [LN, spec_l13Meet_v1] at *); omega))), sb (by kernel_rfl)⟩
      intro s2 x2 hF19 hR17
      rw [spec_l13Meet_r2] at hR17
      refine x_reg hT [.ex true (((i1 : Nat) : Int) + ((1 : Nat) : Int)) ((((i1 + 1) : Nat) : Int)) (fun _ => wr_nat (n := i1) (c := 1) (by omega))] (fun f18 => spec_l13Meet_I1 p0 p1 fs (i1 + 1) (s2.1, s2.2.1, s2.2.2.1, s2.2.2.2.1, s2.2.2.2.2.1, s2.2.2.2.2.2) (lst [x2 0, x2 1, x2 2, x2 3])) (fun f => by kernel_rfl) (fun f => by kernel_rfl) fun f18 s' hs' => ?_
      exact ⟨(s2.1, s2.2.1, s2.2.2.1, s2.2.2.2.1, s2.2.2.2.2.1, s2.2.2.2.2.2), (lst [x2 0, x2 1, x2 2, x2 3]), hl1, trivial, hX1.trans (forN_next hl1 (hB1.symm.trans hR17)), hs'⟩
    have hq := of_decide_eq_false h6
    refine w_exit ?_
    exact ⟨s1, (lst [x1 0, x1 1, x1 2, x1 3]), trivial, hX1.trans (forN_end (by first | omega | ((try simp only [LN, spec_l13Meet_v1] at *); omega))), sb (by kernel_rfl)⟩
  intro s1 x1 hF22 hR20
  rw [spec_l13Meet_r1] at hR20
  refine xr hT [] (fun f21 => ⟨[(4, .one (.pt 4 (x1 2) 0)), (5, .one (.c (.v (.bool s1.1))))], [(4, some (x1 2, .box [.v (.string s1.2.1), .v (.string s1.2.2.1), .v (.int .i64 s1.2.2.2.1), .v (.int .i64 s1.2.2.2.2.1), .v (.int .i64 s1.2.2.2.2.2)]))], 62⟩) (fun f => by kernel_rfl) (fun f => by kernel_rfl) fun f21 => ?_
  refine w_ret ?_
  subst hR20
  exact x_ret (by kernel_rfl)

/-- spec.ProbeMeet -/
def spec_ProbeMeet (p0 : ProbeTube) (p1 : ProbeTube) : ProbeClash × Bool := (if (!(spec_ProbeTubeOk p0)) || (!(spec_ProbeTubeOk p1)) then ((⟨⟨#[]⟩, ⟨#[]⟩, 0, 0, 0⟩ : ProbeClash), false) else ((spec_l13Meet p0 p1).1, (spec_l13Meet p0 p1).2))
theorem c201 (p0 : ProbeTube) (p1 : ProbeTube) (k0_0 : ProbeTube.ok p0) (k1_0 : ProbeTube.ok p1) : Fn Proofs.Try.prog 201 [⟨.val, true, ProbeTube.cs .bor p0⟩, ⟨.val, true, ProbeTube.cs .bor p1⟩] [.ag (ProbeClash.cs .own (spec_ProbeMeet p0 p1).1), .c (.v (.bool (spec_ProbeMeet p0 p1).2))] [] := by
  obtain ⟨R, hR⟩ : ∃ R, R = spec_ProbeMeet p0 p1 := ⟨_, rfl⟩
  rw [← hR]
  rw [spec_ProbeMeet] at hR
  refine ⟨fn_intro hT Proofs.Try.func201 rfl rfl fun fs => ?_, _, Proofs.Try.func201, rfl, rfl⟩
  have q0 := k0_0; simp only [ProbeTube.ok] at q0
  have q1 := k1_0; simp only [ProbeTube.ok] at q1
  refine xr hT [] (fun f1 => ⟨[(2, .one (.pt 2 (f1 0 0) 0)), (3, .one (.pt 3 (f1 1 0) 0)), (4, .one (.pt 4 (f1 2 0) 0))], [(2, some (f1 0 0, .box (ProbeTube.cs .bor p0))), (3, some (f1 1 0, .box (ProbeTube.cs .bor p1))), (4, some (f1 2 0, .box [.v (.string ⟨#[]⟩), .v (.string ⟨#[]⟩), .v (.int .i64 0), .v (.int .i64 0), .v (.int .i64 0)]))], 20⟩) (fun f => by kernel_rfl) (fun f => by kernel_rfl) fun f1 => ?_
  refine w_seq ?_
  refine xr hT [ca (c176 p0 (by first | assumption | exact (by omega : p0.Boxes.length ≤ 1048576))), cg (!(!(spec_ProbeTubeOk p0))) (fun h => by (try simp only [Bool.and_eq_true, Bool.or_eq_true, decide_eq_true_eq, Bool.not_eq_true', decide_eq_false_iff_not] at h); exact c176 p1 (by first | assumption | exact (by omega : p1.Boxes.length ≤ 1048576)))] (fun f2 => ⟨[(2, .one (.pt 2 (f1 0 0) 0)), (3, .one (.pt 3 (f1 1 0) 0)), (4, .one (.pt 4 (f1 2 0) 0)), (13, .one (.c (.v (.bool ((!(spec_ProbeTubeOk p0)) || (!(spec_ProbeTubeOk p1)))))))], [(2, some (f1 0 0, .box (ProbeTube.cs .bor p0))), (3, some (f1 1 0, .box (ProbeTube.cs .bor p1))), (4, some (f1 2 0, .box [.v (.string ⟨#[]⟩), .v (.string ⟨#[]⟩), .v (.int .i64 0), .v (.int .i64 0), .v (.int .i64 0)]))], 20⟩) (fun f => by kernel_rfl) (fun f => by kernel_rfl) fun f2 => ?_
  refine w_cond rfl (fun h3 => ?_) fun h3 => ?_
  · rw [if_pos h3] at hR
    refine xr hT [] (fun f4 => ⟨[(4, .one (.pt 4 (f1 2 0) 0)), (5, .one (.c (.v (.bool false))))], [(4, some (f1 2 0, .box [.v (.string ⟨#[]⟩), .v (.string ⟨#[]⟩), .v (.int .i64 0), .v (.int .i64 0), .v (.int .i64 0)]))], 20⟩) (fun f => by kernel_rfl) (fun f => by kernel_rfl) fun f4 => ?_
    refine w_ret ?_
    subst hR
    exact x_ret (by kernel_rfl)
  rw [if_neg (nt h3)] at hR
  refine w_skip ?_
  refine xr hT [ca (c203 p0 p1 (by first | assumption | exact (by omega : p0.Boxes.length ≤ 1048576)) (by first | assumption | exact (by omega : p1.Boxes.length ≤ 1048576)))] (fun f5 => ⟨[(4, .one (.pt 4 (f1 2 0) 0)), (5, .one (.c (.v (.bool ((spec_l13Meet p0 p1).2)))))], [(4, some (f1 2 0, .box (ProbeClash.cs .own ((spec_l13Meet p0 p1).1))))], 20⟩) (fun f => by kernel_rfl) (fun f => by kernel_rfl) fun f5 => ?_
  refine w_ret ?_
  subst hR
  exact x_ret (by kernel_rfl)

/-- spec.l23Meets -/
def spec_l23Meets (p0 : FlyPath) (p1 : FlyPath) (p2 : Int) : Bool := (spec_ProbeMeet (spec_LinkTube ⟨#[97]⟩ p0 p2) (spec_LinkTube ⟨#[98]⟩ p1 p2)).2
theorem c192 (p0 : FlyPath) (p1 : FlyPath) (p2 : Int) (k0_0 : FlyPath.ok p0) (k1_0 : FlyPath.ok p1) : Fn Proofs.Try.prog 192 [⟨.val, true, FlyPath.cs .bor p0⟩, ⟨.val, true, FlyPath.cs .bor p1⟩, ⟨.val, false, [.v (.int .i64 p2)]⟩] [.c (.v (.bool (spec_l23Meets p0 p1 p2)))] [] := by
  obtain ⟨R, hR⟩ : ∃ R, R = spec_l23Meets p0 p1 p2 := ⟨_, rfl⟩
  rw [← hR]
  rw [spec_l23Meets] at hR
  refine ⟨fn_intro hT Proofs.Try.func192 rfl rfl fun fs => ?_, _, Proofs.Try.func192, rfl, rfl⟩
  have q0 := k0_0; simp only [FlyPath.ok] at q0
  have q1 := k1_0; simp only [FlyPath.ok] at q1
  refine xr hT [] (fun f1 => ⟨[(2, .one (.c (.v (.int .i64 p2)))), (3, .one (.pt 3 (f1 0 0) 0)), (4, .one (.pt 4 (f1 1 0) 0))], [(3, some (f1 0 0, .box (FlyPath.cs .bor p0))), (4, some (f1 1 0, .box (FlyPath.cs .bor p1)))], 20⟩) (fun f => by kernel_rfl) (fun f => by kernel_rfl) fun f1 => ?_
  have w3 := f_spec_LinkTube ⟨#[97]⟩ p0 p2 (by first | assumption | exact (by omega : p0.Steps.length ≤ 1048576))
  have w3' := w3; try simp only [LN, spec_LinkTube] at w3'
  have w4 := f_spec_LinkTube ⟨#[98]⟩ p1 p2 (by first | assumption | exact (by omega : p1.Steps.length ≤ 1048576))
  have w4' := w4; try simp only [LN, spec_LinkTube] at w4'
  refine xd hT hM [ca (c23 ⟨#[97]⟩ p0 p2 (by first | assumption | exact (by omega : p0.Steps.length ≤ 1048576))), ca (c23 ⟨#[98]⟩ p1 p2 (by first | assumption | exact (by omega : p1.Steps.length ≤ 1048576))), ca (c201 (spec_LinkTube ⟨#[97]⟩ p0 p2) (spec_LinkTube ⟨#[98]⟩ p1 p2) (by first | assumption | exact (show ((spec_LinkTube ⟨#[97]⟩ p0 p2).Boxes).length ≤ 1048576 from by (try simp only [LN, spec_LinkTube]); omega)) (by first | assumption | exact (show ((spec_LinkTube ⟨#[98]⟩ p1 p2).Boxes).length ≤ 1048576 from by (try simp only [LN, spec_LinkTube]); omega)))] (fun f2 => ⟨[(8, .one (.c (.v (.bool ((spec_ProbeMeet (spec_LinkTube ⟨#[97]⟩ p0 p2) (spec_LinkTube ⟨#[98]⟩ p1 p2)).2)))))], [], 20⟩) (fun f => by kernel_rfl) (fun f => by kernel_rfl) (fun f => by kernel_rfl) fun f2 => ?_
  refine xr hT [] (fun f5 => ⟨[(6, .one (.c (.v (.bool ((spec_ProbeMeet (spec_LinkTube ⟨#[97]⟩ p0 p2) (spec_LinkTube ⟨#[98]⟩ p1 p2)).2)))))], [], 20⟩) (fun f => by kernel_rfl) (fun f => by kernel_rfl) fun f5 => ?_
  refine w_ret ?_
  subst hR
  exact x_ret (by kernel_rfl)

def spec_l23Near_v1 (p0 : LinkHeld) (p1 : LinkHeld) (p2 : Int) : Bool := (((spec_l23Meets p0.Path p1.Path p2) || (spec_l23Meets p0.Path p1.Next p2)) || (spec_l23Meets p0.Next p1.Path p2)) || (spec_l23Meets p0.Next p1.Next p2)
/-- spec.l23Near -/
def spec_l23Near (p0 : LinkHeld) (p1 : LinkHeld) (p2 : Int) : Bool := (spec_l23Near_v1 p0 p1 p2)
theorem c155 (p0 : LinkHeld) (p1 : LinkHeld) (p2 : Int) (k0_0 : LinkHeld.ok p0) (k1_0 : LinkHeld.ok p1) : Fn Proofs.Try.prog 155 [⟨.val, true, LinkHeld.cs .bor p0⟩, ⟨.val, true, LinkHeld.cs .bor p1⟩, ⟨.val, false, [.v (.int .i64 p2)]⟩] [.c (.v (.bool (spec_l23Near p0 p1 p2)))] [] := by
  obtain ⟨R, hR⟩ : ∃ R, R = spec_l23Near p0 p1 p2 := ⟨_, rfl⟩
  rw [← hR]
  rw [spec_l23Near] at hR
  refine ⟨fn_intro hT Proofs.Try.func155 rfl rfl fun fs => ?_, _, Proofs.Try.func155, rfl, rfl⟩
  have q0 := k0_0; simp only [LinkHeld.ok] at q0
  have q1 := k1_0; simp only [LinkHeld.ok] at q1
  refine xr hT [] (fun f1 => ⟨[(2, .one (.c (.v (.int .i64 p2)))), (3, .one (.pt 3 (f1 0 0) 0)), (4, .one (.pt 4 (f1 1 0) 0))], [(3, some (f1 0 0, .box (LinkHeld.cs .bor p0))), (4, some (f1 1 0, .box (LinkHeld.cs .bor p1)))], 37⟩) (fun f => by kernel_rfl) (fun f => by kernel_rfl) fun f1 => ?_
  refine xr hT [ca (c192 p0.Path p1.Path p2 (by first | assumption | exact (by omega : p0.Path.Steps.length ≤ 1048576)) (by first | assumption | exact (by omega : p1.Path.Steps.length ≤ 1048576))), cg (!(spec_l23Meets p0.Path p1.Path p2)) (fun h => by (try simp only [Bool.and_eq_true, Bool.or_eq_true, decide_eq_true_eq, Bool.not_eq_true', decide_eq_false_iff_not] at h); exact c192 p0.Path p1.Next p2 (by first | assumption | exact (by omega : p0.Path.Steps.length ≤ 1048576)) (by first | assumption | exact (by omega : p1.Next.Steps.length ≤ 1048576))), cg (!((spec_l23Meets p0.Path p1.Path p2) || (spec_l23Meets p0.Path p1.Next p2))) (fun h => by (try simp only [Bool.and_eq_true, Bool.or_eq_true, decide_eq_true_eq, Bool.not_eq_true', decide_eq_false_iff_not] at h); exact c192 p0.Next p1.Path p2 (by first | assumption | exact (by omega : p0.Next.Steps.length ≤ 1048576)) (by first | assumption | exact (by omega : p1.Path.Steps.length ≤ 1048576))), cg (!(((spec_l23Meets p0.Path p1.Path p2) || (spec_l23Meets p0.Path p1.Next p2)) || (spec_l23Meets p0.Next p1.Path p2))) (fun h => by (try simp only [Bool.and_eq_true, Bool.or_eq_true, decide_eq_true_eq, Bool.not_eq_true', decide_eq_false_iff_not] at h); exact c192 p0.Next p1.Next p2 (by first | assumption | exact (by omega : p0.Next.Steps.length ≤ 1048576)) (by first | assumption | exact (by omega : p1.Next.Steps.length ≤ 1048576)))] (fun f2 => ⟨[(6, .one (.c (.v (.bool (spec_l23Near_v1 p0 p1 p2)))))], [], 37⟩) (fun f => by kernel_rfl) (fun f => by kernel_rfl) fun f2 => ?_
  refine w_ret ?_
  subst hR
  exact x_ret (by kernel_rfl)

def spec_LinkBookOk_I1 (p0 : LinkBook) (p1 : Int) (fs : Nat → Nat → Nat) (i1 : Nat) (s1 : Unit) (x1 : Nat → Nat) : St := ⟨[(1, .one (.c (.v (.int .i64 p1)))), (2, .one (.pt 2 (x1 0) 0)), (5, .one (.c (.v (.int .i64 ((i1 : Nat) : Int)))))], [(2, some (x1 0, .box (LinkBook.cs .bor p0)))], 90⟩
def spec_LinkBookOk_J1 (p0 : LinkBook) (p1 : Int) (fs : Nat → Nat → Nat) (s1 : Unit) (x1 : Nat → Nat) : St := ⟨[], [], 90⟩
def spec_LinkBookOk_v1 (p0 : LinkBook) (i1 : Nat) : Bool := (((!(spec_l23HeldOk (p0.Held.getD i1 default))) || (decide (p0.Last < ((p0.Held.getD i1 default).Number)))) || (decide (p0.Last < ((p0.Held.getD i1 default).Sent)))) || ((decide (0 < ((i1 : Nat) : Int))) && (!Op.bytesLess ((p0.Held.getD ((((i1 : Nat) : Int) - 1).toNat) default).Name).toList ((p0.Held.getD i1 default).Name).toList))
def spec_LinkBookOk_I2 (p0 : LinkBook) (p1 : Int) (i1 : Nat) (s1 : Unit) (fs : Nat → Nat → Nat) (i2 : Nat) (s2 : Unit) (x2 : Nat → Nat) : St := ⟨[(1, .one (.c (.v (.int .i64 p1)))), (2, .one (.pt 2 (x2 0) 0)), (5, .one (.c (.v (.int .i64 ((i1 : Nat) : Int))))), (6, .one (.pt 6 (x2 1) 0)), (7, .one (.c (.v (.int .i64 ((i2 : Nat) : Int)))))], [(2, some (x2 0, .box (LinkBook.cs .bor p0))), (6, some (x2 1, .box (LinkHeld.cs .bor (p0.Held.getD i1 default))))], 90⟩
def spec_LinkBookOk_J2 (p0 : LinkBook) (p1 : Int) (i1 : Nat) (s1 : Unit) (fs : Nat → Nat → Nat) (s2 : Unit) (x2 : Nat → Nat) : St := ⟨[(1, .one (.c (.v (.int .i64 p1)))), (2, .one (.pt 2 (x2 0) 0)), (5, .one (.c (.v (.int .i64 ((i1 : Nat) : Int)))))], [(2, some (x2 0, .box (LinkBook.cs .bor p0)))], 90⟩
def spec_LinkBookOk_b2 (p0 : LinkBook) (p1 : Int) (i1 : Nat) (s1 : Unit) (i2 : Nat) (s2 : Unit) : Res (Unit) (Res (Unit) Bool) := (if (spec_l23Same (p0.Held.getD i2 default) (p0.Held.getD i1 default)) || (spec_l23Near (p0.Held.getD i2 default) (p0.Held.getD i1 default) p1) then (.ret (.ret false)) else (.next ()))
def spec_LinkBookOk_r2 (p0 : LinkBook) (p1 : Int) (i1 : Nat) (s1 : Unit) (s2 : Unit) : (Res (Unit) Bool) := (.next ())
def spec_LinkBookOk_b1 (p0 : LinkBook) (p1 : Int) (i1 : Nat) (s1 : Unit) : Res (Unit) Bool := (if (spec_LinkBookOk_v1 p0 i1) then (.ret false) else (Res.fin (spec_LinkBookOk_r2 p0 p1 i1 s1) (forN (spec_LinkBookOk_b2 p0 p1 i1 s1) (i1 - 0) 0 ())))
def spec_LinkBookOk_r1 (p0 : LinkBook) (p1 : Int) (s1 : Unit) : Bool := true
/-- spec.LinkBookOk -/
def spec_LinkBookOk (p0 : LinkBook) (p1 : Int) : Bool := (if ((decide (8 < (p0.Held.length : Int))) || (!(spec_l1In p1 0 10000))) || (!(spec_l1In p0.Last 0 1000000)) then false else (Res.fin (spec_LinkBookOk_r1 p0 p1) (forN (spec_LinkBookOk_b1 p0 p1) (p0.Held.length - 0) 0 ())))
theorem c72 (p0 : LinkBook) (p1 : Int) (k0_0 : LinkBook.ok p0) : Fn Proofs.Try.prog 72 [⟨.val, true, LinkBook.cs .bor p0⟩, ⟨.val, false, [.v (.int .i64 p1)]⟩] [.c (.v (.bool (spec_LinkBookOk p0 p1)))] [] := by
  obtain ⟨R, hR⟩ : ∃ R, R = spec_LinkBookOk p0 p1 := ⟨_, rfl⟩
  rw [← hR]
  rw [spec_LinkBookOk] at hR
  refine ⟨fn_intro hT Proofs.Try.func72 rfl rfl fun fs => ?_, _, Proofs.Try.func72, rfl, rfl⟩
  have q0 := k0_0; simp only [LinkBook.ok] at q0
  refine xr hT [] (fun f1 => ⟨[(1, .one (.c (.v (.int .i64 p1)))), (2, .one (.pt 2 (f1 0 0) 0))], [(2, some (f1 0 0, .box (LinkBook.cs .bor p0)))], 90⟩) (fun f => by kernel_rfl) (fun f => by kernel_rfl) fun f1 => ?_
  refine w_seq ?_
  refine xr hT [.ln LinkHeld.row p0.Held, cg (!(decide (8 < (p0.Held.length : Int)))) (fun _ => c93 p1 0 10000), cg (!((decide (8 < (p0.Held.length : Int))) || (!(spec_l1In p1 0 10000)))) (fun _ => c93 p0.Last 0 1000000)] (fun f2 => ⟨[(1, .one (.c (.v (.int .i64 p1)))), (2, .one (.pt 2 (f1 0 0) 0)), (22, .one (.c (.v (.bool (((decide (8 < (p0.Held.length : Int))) || (!(spec_l1In p1 0 10000))) || (!(spec_l1In p0.Last 0 1000000)))))))], [(2, some (f1 0 0, .box (LinkBook.cs .bor p0)))], 90⟩) (fun f => by kernel_rfl) (fun f => by kernel_rfl) fun f2 => ?_
  refine w_cond rfl (fun h3 => ?_) fun h3 => ?_
  · rw [if_pos h3] at hR
    have gh3 := h3; try simp only [spec_l1In, Bool.not_eq_true', Bool.not_eq_false', decide_eq_true_eq, decide_eq_false_iff_not, Bool.and_eq_true, Bool.or_eq_true, Bool.and_eq_false_iff, Bool.or_eq_false_iff] at gh3
    refine xr hT [] (fun f4 => ⟨[(4, .one (.c (.v (.bool false))))], [], 90⟩) (fun f => by kernel_rfl) (fun f => by kernel_rfl) fun f4 => ?_
    refine w_ret ?_
    subst hR
    exact x_ret (by kernel_rfl)
  rw [if_neg (nt h3)] at hR
  have gh3 := h3; try simp only [spec_l1In, Bool.not_eq_true', Bool.not_eq_false', decide_eq_true_eq, decide_eq_false_iff_not, Bool.and_eq_true, Bool.or_eq_true, Bool.and_eq_false_iff, Bool.or_eq_false_iff] at gh3
  refine w_skip ?_
  refine w_seq ?_
  refine xr hT [] (fun f5 => ⟨[(1, .one (.c (.v (.int .i64 p1)))), (2, .one (.pt 2 (f1 0 0) 0)), (5, .one (.c (.v (.int .i64 0))))], [(2, some (f1 0 0, .box (LinkBook.cs .bor p0)))], 90⟩) (fun f => by kernel_rfl) (fun f => by kernel_rfl) fun f5 => ?_
  refine w_forT (fun _ => rfl) (spec_LinkBookOk_I1 p0 p1 fs) (spec_LinkBookOk_J1 p0 p1 fs) (fun i1 s1 => True) (fun s1 => True) (p0.Held.length) 0 (spec_LinkBookOk_b1 p0 p1) (spec_LinkBookOk_r1 p0 p1) 0 (()) (lst [f1 0 0]) (sb (by kernel_rfl)) trivial hR ?_ ?_
  · skip
    intro i1 s1 x1 hI1 hX1
    refine w_seq ?_
    refine xr hT [.ln LinkHeld.row p0.Held] (fun f6 => ⟨[(1, .one (.c (.v (.int .i64 p1)))), (2, .one (.pt 2 (x1 0) 0)), (5, .one (.c (.v (.int .i64 ((i1 : Nat) : Int))))), (27, .one (.c (.v (.bool (decide (((i1 : Nat) : Int) < (p0.Held.length : Int)))))))], [(2, some (x1 0, .box (LinkBook.cs .bor p0)))], 90⟩) (fun f => by kernel_rfl) (fun f => by kernel_rfl) fun f6 => ?_
    refine w_cond rfl (fun h7 => ?_) fun h7 => ?_
    · skip
      have hl1 : i1 < p0.Held.length := by have hq := of_decide_eq_true h7; first | omega | ((try simp only [LN, spec_LinkBookOk_v1] at *); omega)
      obtain ⟨B1, hB1⟩ : ∃ B, B = spec_LinkBookOk_b1 p0 p1 i1 s1 := ⟨_, rfl⟩
      have hE1 := hB1
      rw [spec_LinkBookOk_b1] at hE1
      refine w_skip ?_
      refine w_seq ?_
      refine w_block ?_
      try have e9 := okget (xs := p0.Held) (k := i1) (q0.2) (by first | omega | ((try simp only [LN, spec_LinkBookOk_v1]); omega))
      try simp only [LinkHeld.ok] at e9
      refine xr hT [ix LinkHeld.row p0.Held i1 (by omega), .rw (FlyStep.rv ((p0.Held.getD i1 default).Path.Steps)), .rw (FlyStep.rv ((p0.Held.getD i1 default).Next.Steps))] (fun f8 => ⟨[(1, .one (.c (.v (.int .i64 p1)))), (2, .one (.pt 2 (x1 0) 0)), (5, .one (.c (.v (.int .i64 ((i1 : Nat) : Int))))), (6, .one (.pt 6 (f8 5 0) 0))], [(2, some (x1 0, .box (LinkBook.cs .bor p0))), (6, some (f8 5 0, .box (LinkHeld.cs .bor (p0.Held.getD i1 default))))], 90⟩) (fun f => by kernel_rfl) (fun f => by kernel_rfl) fun f8 => ?_
      refine w_seq ?_
      try have e11 := okget (xs := p0.Held) (k := (((i1 : Nat) : Int) - 1).toNat) (q0.2) (by first | omega | ((try simp only [LN, spec_LinkBookOk_v1]); omega))
      try simp only [LinkHeld.ok] at e11
      refine xd hT hM [ca (c153 (p0.Held.getD i1 default) (by first | assumption | exact ⟨(by omega : ((p0.Held.getD i1 default).Path.Steps).length ≤ 1048576), (by omega : ((p0.Held.getD i1 default).Next.Steps).length ≤ 1048576)⟩)), .ex (decide (0 < ((i1 : Nat) : Int)) && !(((!(spec_l23HeldOk (p0.Held.getD i1 default))) || (decide (p0.Last < ((p0.Held.getD i1 default).Number)))) || (decide (p0.Last < ((p0.Held.getD i1 default).Sent))))) (((i1 : Nat) : Int) - 1) (((i1 : Nat) : Int) - 1) (fun h => by (try simp only [Bool.and_eq_true, Bool.or_eq_true, decide_eq_true_eq, Bool.not_eq_true', decide_eq_false_iff_not] at h); exact wr_eq (by omega) (by omega)), izg (decide (0 < ((i1 : Nat) : Int)) && !(((!(spec_l23HeldOk (p0.Held.getD i1 default))) || (decide (p0.Last < ((p0.Held.getD i1 default).Number)))) || (decide (p0.Last < ((p0.Held.getD i1 default).Sent))))) LinkHeld.row p0.Held (((i1 : Nat) : Int) - 1) (fun h => by (try simp only [Bool.and_eq_true, Bool.or_eq_true, decide_eq_true_eq, Bool.not_eq_true', decide_eq_false_iff_not] at h); omega)] (fun f10 => ⟨[(1, .one (.c (.v (.int .i64 p1)))), (2, .one (.pt 2 (x1 0) 0)), (5, .one (.c (.v (.int .i64 ((i1 : Nat) : Int))))), (6, .one (.pt 6 (f8 5 0) 0)), (67, .one (.c (.v (.bool (spec_LinkBookOk_v1 p0 i1)))))], [(2, some (x1 0, .box (LinkBook.cs .bor p0))), (6, some (f8 5 0, .box (LinkHeld.cs .bor (p0.Held.getD i1 default))))], 90⟩) (fun f => by kernel_rfl) (fun f => by kernel_rfl) (fun f => by kernel_rfl) fun f10 => ?_
      refine w_cond rfl (fun h12 => ?_) fun h12 => ?_
      · rw [if_pos h12] at hE1
        have gh12 := h12; try simp only [spec_LinkBookOk_v1, Bool.not_eq_true', Bool.not_eq_false', decide_eq_true_eq, decide_eq_false_iff_not, Bool.and_eq_true, Bool.or_eq_true, Bool.and_eq_false_iff, Bool.or_eq_false_iff] at gh12
        refine xr hT [] (fun f13 => ⟨[(4, .one (.c (.v (.bool false))))], [], 90⟩) (fun f => by kernel_rfl) (fun f => by kernel_rfl) fun f13 => ?_
        refine w_ret ?_
        have hR := hX1.trans (forN_ret hl1 (hB1.symm.trans hE1))
        subst hR
        exact x_ret (by kernel_rfl)
      rw [if_neg (nt h12)] at hE1
      have gh12 := h12; try simp only [spec_LinkBookOk_v1, Bool.not_eq_true', Bool.not_eq_false', decide_eq_true_eq, decide_eq_false_iff_not, Bool.and_eq_true, Bool.or_eq_true, Bool.and_eq_false_iff, Bool.or_eq_false_iff] at gh12
      refine w_skip ?_
      refine xr hT [] (fun f14 => ⟨[(1, .one (.c (.v (.int .i64 p1)))), (2, .one (.pt 2 (x1 0) 0)), (5, .one (.c (.v (.int .i64 ((i1 : Nat) : Int))))), (6, .one (.pt 6 (f8 5 0) 0)), (7, .one (.c (.v (.int .i64 0))))], [(2, some (x1 0, .box (LinkBook.cs .bor p0))), (6, some (f8 5 0, .box (LinkHeld.cs .bor (p0.Held.getD i1 default))))], 90⟩) (fun f => by kernel_rfl) (fun f => by kernel_rfl) fun f14 => ?_
      refine w_forT (fun _ => rfl) (spec_LinkBookOk_I2 p0 p1 i1 s1 fs) (spec_LinkBookOk_J2 p0 p1 i1 s1 fs) (fun i2 s2 => True) (fun s2 => True) (i1) 2 (spec_LinkBookOk_b2 p0 p1 i1 s1) (spec_LinkBookOk_r2 p0 p1 i1 s1) 0 (()) (lst [x1 0, f8 5 0]) (sb (by kernel_rfl)) trivial hE1 ?_ ?_
      · skip
        intro i2 s2 x2 hI2 hX2
        refine w_seq ?_
        refine xr hT [] (fun f15 => ⟨[(1, .one (.c (.v (.int .i64 p1)))), (2, .one (.pt 2 (x2 0) 0)), (5, .one (.c (.v (.int .i64 ((i1 : Nat) : Int))))), (6, .one (.pt 6 (x2 1) 0)), (7, .one (.c (.v (.int .i64 ((i2 : Nat) : Int))))), (70, .one (.c (.v (.bool (decide (((i2 : Nat) : Int) < ((i1 : Nat) : Int)))))))], [(2, some (x2 0, .box (LinkBook.cs .bor p0))), (6, some (x2 1, .box (LinkHeld.cs .bor (p0.Held.getD i1 default))))], 90⟩) (fun f => by kernel_rfl) (fun f => by kernel_rfl) fun f15 => ?_
        refine w_cond rfl (fun h16 => ?_) fun h16 => ?_
        · skip
          have hl2 : i2 < i1 := by have hq := of_decide_eq_true h16; first | omega | ((try simp only [LN, spec_LinkBookOk_v1] at *); omega)
          obtain ⟨B2, hB2⟩ : ∃ B, B = spec_LinkBookOk_b2 p0 p1 i1 s1 i2 s2 := ⟨_, rfl⟩
          have hE2 := hB2
          rw [spec_LinkBookOk_b2] at hE2
          refine w_skip ?_
          refine w_seq ?_
          refine w_block ?_
          try have e18 := okget (xs := p0.Held) (k := i2) (q0.2) (by first | omega | ((try simp only [LN, spec_LinkBookOk_v1]); omega))
          try simp only [LinkHeld.ok] at e18
          try have e19 := okget (xs := p0.Held) (k := i2) (q0.2) (by first | omega | ((try simp only [LN, spec_LinkBookOk_v1]); omega))
          try simp only [LinkHeld.ok] at e19
          refine xd hT hM [ix LinkHeld.row p0.Held i2 (by omega), .rw (FlyStep.rv ((p0.Held.getD i2 default).Path.Steps)), .rw (FlyStep.rv ((p0.Held.getD i2 default).Next.Steps)), ca (c154 (p0.Held.getD i2 default) (p0.Held.getD i1 default) (by first | assumption | exact ⟨(by omega : ((p0.Held.getD i2 default).Path.Steps).length ≤ 1048576), (by omega : ((p0.Held.getD i2 default).Next.Steps).length ≤ 1048576)⟩) (by first | assumption | exact ⟨(by omega : ((p0.Held.getD i1 default).Path.Steps).length ≤ 1048576), (by omega : ((p0.Held.getD i1 default).Next.Steps).length ≤ 1048576)⟩)), ig (!(spec_l23Same (p0.Held.getD i2 default) (p0.Held.getD i1 default))) LinkHeld.row p0.Held i2 (fun h => by (try simp only [Bool.and_eq_true, Bool.or_eq_true, decide_eq_true_eq, Bool.not_eq_true', decide_eq_false_iff_not] at h); omega), .rw (FlyStep.rv ((p0.Held.getD i2 default).Path.Steps)), .rw (FlyStep.rv ((p0.Held.getD i2 default).Next.Steps)), cg (!(spec_l23Same (p0.Held.getD i2 default) (p0.Held.getD i1 default))) (fun h => by (try simp only [Bool.and_eq_true, Bool.or_eq_true, decide_eq_true_eq, Bool.not_eq_true', decide_eq_false_iff_not] at h); exact c155 (p0.Held.getD i2 default) (p0.Held.getD i1 default) p1 (by first | assumption | exact ⟨(by omega : ((p0.Held.getD i2 default).Path.Steps).length ≤ 1048576), (by omega : ((p0.Held.getD i2 default).Next.Steps).length ≤ 1048576)⟩) (by first | assumption | exact ⟨(by omega : ((p0.Held.getD i1 default).Path.Steps).length ≤ 1048576), (by omega : ((p0.Held.getD i1 default).Next.Steps).length ≤ 1048576)⟩))] (fun f17 => ⟨[(1, .one (.c (.v (.int .i64 p1)))), (2, .one (.pt 2 (x2 0) 0)), (5, .one (.c (.v (.int .i64 ((i1 : Nat) : Int))))), (6, .one (.pt 6 (x2 1) 0)), (7, .one (.c (.v (.int .i64 ((i2 : Nat) : Int))))), (89, .one (.c (.v (.bool ((spec_l23Same (p0.Held.getD i2 default) (p0.Held.getD i1 default)) || (spec_l23Near (p0.Held.getD i2 default) (p0.Held.getD i1 default) p1))))))], [(2, some (x2 0, .box (LinkBook.cs .bor p0))), (6, some (x2 1, .box (LinkHeld.cs .bor (p0.Held.getD i1 default))))], 90⟩) (fun f => by kernel_rfl) (fun f => by kernel_rfl) (fun f => by kernel_rfl) fun f17 => ?_
          refine w_cond rfl (fun h20 => ?_) fun h20 => ?_
          · rw [if_pos h20] at hE2
            refine xr hT [] (fun f21 => ⟨[(4, .one (.c (.v (.bool false))))], [], 90⟩) (fun f => by kernel_rfl) (fun f => by kernel_rfl) fun f21 => ?_
            refine w_ret ?_
            have hE1 := hX2.trans (forN_ret hl2 (hB2.symm.trans hE2))
            have hR := hX1.trans (forN_ret hl1 (hB1.symm.trans hE1))
            subst hR
            exact x_ret (by kernel_rfl)
          rw [if_neg (nt h20)] at hE2
          refine w_skip ?_
          refine x_reg hT [.ex true (((i2 : Nat) : Int) + ((1 : Nat) : Int)) ((((i2 + 1) : Nat) : Int)) (fun _ => wr_nat (n := i2) (c := 1) (by omega))] (fun f22 => spec_LinkBookOk_I2 p0 p1 i1 s1 fs (i2 + 1) () (lst [x2 0, x2 1])) (fun f => by kernel_rfl) (fun f => by kernel_rfl) fun f22 s' hs' => ?_
          exact ⟨(), (lst [x2 0, x2 1]), hl2, trivial, hX2.trans (forN_next hl2 (hB2.symm.trans hE2)), hs'⟩
        have hq := of_decide_eq_false h16
        refine w_exit ?_
        exact ⟨s2, (lst [x2 0, x2 1]), trivial, hX2.trans (forN_end (by first | omega | ((try simp only [LN, spec_LinkBookOk_v1] at *); omega))), sb (by kernel_rfl)⟩
      intro s2 x2 hF25 hR23
      rw [spec_LinkBookOk_r2] at hR23
      refine x_reg hT [.ex true (((i1 : Nat) : Int) + ((1 : Nat) : Int)) ((((i1 + 1) : Nat) : Int)) (fun _ => wr_nat (n := i1) (c := 1) (by omega))] (fun f24 => spec_LinkBookOk_I1 p0 p1 fs (i1 + 1) () (lst [x2 0])) (fun f => by kernel_rfl) (fun f => by kernel_rfl) fun f24 s' hs' => ?_
      exact ⟨(), (lst [x2 0]), hl1, trivial, hX1.trans (forN_next hl1 (hB1.symm.trans hR23)), hs'⟩
    have hq := of_decide_eq_false h7
    refine w_exit ?_
    exact ⟨s1, (lst [x1 0]), trivial, hX1.trans (forN_end (by first | omega | ((try simp only [LN, spec_LinkBookOk_v1] at *); omega))), sb (by kernel_rfl)⟩
  intro s1 x1 hF28 hR26
  rw [spec_LinkBookOk_r1] at hR26
  refine xr hT [] (fun f27 => ⟨[(4, .one (.c (.v (.bool true))))], [], 90⟩) (fun f => by kernel_rfl) (fun f => by kernel_rfl) fun f27 => ?_
  refine w_ret ?_
  subst hR26
  exact x_ret (by kernel_rfl)

/-- impl.flown -/
def impl_flown (p0 : FlyPath) : Bool := (impl_FlySpans p0).2
theorem c156 (p0 : FlyPath) (k0_0 : FlyPath.ok p0) : Fn Proofs.Try.prog 156 [⟨.val, true, FlyPath.cs .bor p0⟩] [.c (.v (.bool (impl_flown p0)))] [] := by
  obtain ⟨R, hR⟩ : ∃ R, R = impl_flown p0 := ⟨_, rfl⟩
  rw [← hR]
  rw [impl_flown] at hR
  refine ⟨fn_intro hT Proofs.Try.func156 rfl rfl fun fs => ?_, _, Proofs.Try.func156, rfl, rfl⟩
  have q0 := k0_0; simp only [FlyPath.ok] at q0
  refine xr hT [] (fun f1 => ⟨[(1, .one (.pt 1 (f1 0 0) 0))], [(1, some (f1 0 0, .box (FlyPath.cs .bor p0)))], 11⟩) (fun f => by kernel_rfl) (fun f => by kernel_rfl) fun f1 => ?_
  have w3 := f_impl_FlySpans p0 (by first | assumption | exact (by omega : p0.Steps.length ≤ 1048576))
  have w3' := w3; try simp only [LN] at w3'
  refine xr hT [ca (c52 p0 (by first | assumption | exact (by omega : p0.Steps.length ≤ 1048576)))] (fun f2 => ⟨[(4, .one (.c (.v (.bool ((impl_FlySpans p0).2)))))], [], 11⟩) (fun f => by kernel_rfl) (fun f => by kernel_rfl) fun f2 => ?_
  refine xr hT [] (fun f4 => ⟨[(2, .one (.c (.v (.bool ((impl_FlySpans p0).2)))))], [], 11⟩) (fun f => by kernel_rfl) (fun f => by kernel_rfl) fun f4 => ?_
  refine w_ret ?_
  subst hR
  exact x_ret (by kernel_rfl)

/-- impl.nothing -/
def impl_nothing (p0 : FlyPath) : Bool := (((FlyKind.beq p0.Kind (⟨0, 0⟩ : FlyKind)) && (decide ((p0.Steps.length : Int) = 0))) && (decide (p0.From = 0))) && (decide (p0.By = 0))
theorem c157 (p0 : FlyPath) (k0_0 : FlyPath.ok p0) : Fn Proofs.Try.prog 157 [⟨.val, true, FlyPath.cs .bor p0⟩] [.c (.v (.bool (impl_nothing p0)))] [] := by
  obtain ⟨R, hR⟩ : ∃ R, R = impl_nothing p0 := ⟨_, rfl⟩
  rw [← hR]
  rw [impl_nothing] at hR
  refine ⟨fn_intro hT Proofs.Try.func157 rfl rfl fun fs => ?_, _, Proofs.Try.func157, rfl, rfl⟩
  have q0 := k0_0; simp only [FlyPath.ok] at q0
  refine xr hT [] (fun f1 => ⟨[(1, .one (.pt 1 (f1 0 0) 0))], [(1, some (f1 0 0, .box (FlyPath.cs .bor p0)))], 23⟩) (fun f => by kernel_rfl) (fun f => by kernel_rfl) fun f1 => ?_
  refine xr hT [.eqs (eqS32 p0.Kind (⟨0, 0⟩ : FlyKind)), .ln FlyStep.row p0.Steps] (fun f2 => ⟨[(2, .one (.c (.v (.bool ((((FlyKind.beq p0.Kind (⟨0, 0⟩ : FlyKind)) && (decide ((p0.Steps.length : Int) = 0))) && (decide (p0.From = 0))) && (decide (p0.By = 0)))))))], [], 23⟩) (fun f => by kernel_rfl) (fun f => by kernel_rfl) fun f2 => ?_
  refine w_ret ?_
  subst hR
  exact x_ret (by kernel_rfl)

def impl_ProbeClose_v1 (p0 : ProbeBox) (p1 : ProbeBox) : Bool := ((((!(impl_ProbeBoxOk p0)) || (!(impl_ProbeBoxOk p1))) || (!(impl_in (wr (p0.X - p1.X)) (-1) 1))) || (!(impl_in (wr (p0.Y - p1.Y)) (-1) 1))) || (decide ((min p0.High p1.High) < (max p0.Low p1.Low)))
/-- impl.ProbeClose -/
def impl_ProbeClose (p0 : ProbeBox) (p1 : ProbeBox) : Int × Bool := (if (impl_ProbeClose_v1 p0 p1) then (0, false) else (if decide ((min p0.Out p1.Out) < (max p0.In p1.In)) then (0, false) else (max p0.In p1.In, true)))
theorem c204 (p0 : ProbeBox) (p1 : ProbeBox) : Fn Proofs.Try.prog 204 [⟨.val, true, ProbeBox.cs .bor p0⟩, ⟨.val, true, ProbeBox.cs .bor p1⟩] [.c (.v (.int .i64 (impl_ProbeClose p0 p1).1)), .c (.v (.bool (impl_ProbeClose p0 p1).2))] [] := by
  obtain ⟨R, hR⟩ : ∃ R, R = impl_ProbeClose p0 p1 := ⟨_, rfl⟩
  rw [← hR]
  rw [impl_ProbeClose] at hR
  refine ⟨fn_intro hT Proofs.Try.func204 rfl rfl fun fs => ?_, _, Proofs.Try.func204, rfl, rfl⟩
  refine xr hT [] (fun f1 => ⟨[(2, .one (.pt 2 (f1 0 0) 0)), (3, .one (.pt 3 (f1 1 0) 0))], [(2, some (f1 0 0, .box (ProbeBox.cs .bor p0))), (3, some (f1 1 0, .box (ProbeBox.cs .bor p1)))], 59⟩) (fun f => by kernel_rfl) (fun f => by kernel_rfl) fun f1 => ?_
  refine w_seq ?_
  refine xr hT [ca (c198 p0), cg (!(!(impl_ProbeBoxOk p0))) (fun _ => c198 p1), .wr, cg (!((!(impl_ProbeBoxOk p0)) || (!(impl_ProbeBoxOk p1)))) (fun _ => c95 (wr (p0.X - p1.X)) (-1) 1), .wr, cg (!(((!(impl_ProbeBoxOk p0)) || (!(impl_ProbeBoxOk p1))) || (!(impl_in (wr (p0.X - p1.X)) (-1) 1)))) (fun _ => c95 (wr (p0.Y - p1.Y)) (-1) 1)] (fun f2 => ⟨[(2, .one (.pt 2 (f1 0 0) 0)), (3, .one (.pt 3 (f1 1 0) 0)), (45, .one (.c (.v (.bool (impl_ProbeClose_v1 p0 p1)))))], [(2, some (f1 0 0, .box (ProbeBox.cs .bor p0))), (3, some (f1 1 0, .box (ProbeBox.cs .bor p1)))], 59⟩) (fun f => by kernel_rfl) (fun f => by kernel_rfl) fun f2 => ?_
  refine w_cond rfl (fun h3 => ?_) fun h3 => ?_
  · rw [if_pos h3] at hR
    have gh3 := h3; try simp only [impl_in, impl_ProbeClose_v1, Bool.not_eq_true', Bool.not_eq_false', decide_eq_true_eq, decide_eq_false_iff_not, Bool.and_eq_true, Bool.or_eq_true, Bool.and_eq_false_iff, Bool.or_eq_false_iff] at gh3
    refine xr hT [] (fun f4 => ⟨[(4, .one (.c (.v (.int .i64 0)))), (5, .one (.c (.v (.bool false))))], [], 59⟩) (fun f => by kernel_rfl) (fun f => by kernel_rfl) fun f4 => ?_
    refine w_ret ?_
    subst hR
    exact x_ret (by kernel_rfl)
  rw [if_neg (nt h3)] at hR
  have gh3 := h3; try simp only [impl_in, impl_ProbeClose_v1, Bool.not_eq_true', Bool.not_eq_false', decide_eq_true_eq, decide_eq_false_iff_not, Bool.and_eq_true, Bool.or_eq_true, Bool.and_eq_false_iff, Bool.or_eq_false_iff] at gh3
  refine w_skip ?_
  refine xr hT [] (fun f5 => ⟨[(2, .one (.pt 2 (f1 0 0) 0)), (3, .one (.pt 3 (f1 1 0) 0)), (6, .one (.c (.v (.int .i64 (max p0.In p1.In)))))], [(2, some (f1 0 0, .box (ProbeBox.cs .bor p0))), (3, some (f1 1 0, .box (ProbeBox.cs .bor p1)))], 59⟩) (fun f => by kernel_rfl) (fun f => by kernel_rfl) fun f5 => ?_
  refine w_seq ?_
  refine xr hT [] (fun f6 => ⟨[(6, .one (.c (.v (.int .i64 (max p0.In p1.In))))), (57, .one (.c (.v (.bool (decide ((min p0.Out p1.Out) < (max p0.In p1.In)))))))], [], 59⟩) (fun f => by kernel_rfl) (fun f => by kernel_rfl) fun f6 => ?_
  refine w_cond rfl (fun h7 => ?_) fun h7 => ?_
  · rw [if_pos h7] at hR
    have gh7 := of_decide_eq_true h7
    refine xr hT [] (fun f8 => ⟨[(4, .one (.c (.v (.int .i64 0)))), (5, .one (.c (.v (.bool false))))], [], 59⟩) (fun f => by kernel_rfl) (fun f => by kernel_rfl) fun f8 => ?_
    refine w_ret ?_
    subst hR
    exact x_ret (by kernel_rfl)
  rw [if_neg (nt h7)] at hR
  have gh7 := of_decide_eq_false h7
  refine w_skip ?_
  refine xr hT [] (fun f9 => ⟨[(4, .one (.c (.v (.int .i64 (max p0.In p1.In))))), (5, .one (.c (.v (.bool true))))], [], 59⟩) (fun f => by kernel_rfl) (fun f => by kernel_rfl) fun f9 => ?_
  refine w_ret ?_
  subst hR
  exact x_ret (by kernel_rfl)

def impl_ProbeMeet_I1 (p0 : ProbeTube) (p1 : ProbeTube) (fs : Nat → Nat → Nat) (i1 : Nat) (s1 : Bool × ByteArray × ByteArray × Int × Int × Int) (x1 : Nat → Nat) : St := ⟨[(2, .one (.pt 2 (x1 0) 0)), (3, .one (.pt 3 (x1 1) 0)), (4, .one (.pt 4 (x1 2) 0)), (6, .one (.pt 6 (x1 3) 0)), (7, .one (.c (.v (.bool s1.1)))), (25, .one (.c (.sl .bor 6 (p0.Boxes.map ProbeBox.row)))), (26, .one (.c (.v (.int .i64 (p0.Boxes.length : Int))))), (27, .one (.c (.v (.int .i64 ((i1 : Nat) : Int)))))], [(2, some (x1 0, .box (ProbeTube.cs .bor p0))), (3, some (x1 1, .box (ProbeTube.cs .bor p1))), (4, some (x1 2, .box [.v (.string ⟨#[]⟩), .v (.string ⟨#[]⟩), .v (.int .i64 0), .v (.int .i64 0), .v (.int .i64 0)])), (6, some (x1 3, .box [.v (.string s1.2.1), .v (.string s1.2.2.1), .v (.int .i64 s1.2.2.2.1), .v (.int .i64 s1.2.2.2.2.1), .v (.int .i64 s1.2.2.2.2.2)]))], 69⟩
def impl_ProbeMeet_J1 (p0 : ProbeTube) (p1 : ProbeTube) (fs : Nat → Nat → Nat) (s1 : Bool × ByteArray × ByteArray × Int × Int × Int) (x1 : Nat → Nat) : St := ⟨[(4, .one (.pt 4 (x1 2) 0)), (6, .one (.pt 6 (x1 3) 0)), (7, .one (.c (.v (.bool s1.1))))], [(4, some (x1 2, .box [.v (.string ⟨#[]⟩), .v (.string ⟨#[]⟩), .v (.int .i64 0), .v (.int .i64 0), .v (.int .i64 0)])), (6, some (x1 3, .box [.v (.string s1.2.1), .v (.string s1.2.2.1), .v (.int .i64 s1.2.2.2.1), .v (.int .i64 s1.2.2.2.2.1), .v (.int .i64 s1.2.2.2.2.2)]))], 69⟩
def impl_ProbeMeet_I2 (p0 : ProbeTube) (p1 : ProbeTube) (i1 : Nat) (s1 : Bool × ByteArray × ByteArray × Int × Int × Int) (fs : Nat → Nat → Nat) (i2 : Nat) (s2 : Bool × ByteArray × ByteArray × Int × Int × Int) (x2 : Nat → Nat) : St := ⟨[(2, .one (.pt 2 (x2 0) 0)), (3, .one (.pt 3 (x2 1) 0)), (4, .one (.pt 4 (x2 2) 0)), (6, .one (.pt 6 (x2 3) 0)), (7, .one (.c (.v (.bool s2.1)))), (8, .one (.c (.v (.int .i64 ((i1 : Nat) : Int))))), (9, .one (.pt 9 (x2 4) 0)), (25, .one (.c (.sl .bor 6 (p0.Boxes.map ProbeBox.row)))), (26, .one (.c (.v (.int .i64 (p0.Boxes.length : Int))))), (27, .one (.c (.v (.int .i64 ((i1 : Nat) : Int))))), (33, .one (.c (.sl .bor 6 (p1.Boxes.map ProbeBox.row)))), (34, .one (.c (.v (.int .i64 (p1.Boxes.length : Int))))), (35, .one (.c (.v (.int .i64 ((i2 : Nat) : Int)))))], [(2, some (x2 0, .box (ProbeTube.cs .bor p0))), (3, some (x2 1, .box (ProbeTube.cs .bor p1))), (4, some (x2 2, .box [.v (.string ⟨#[]⟩), .v (.string ⟨#[]⟩), .v (.int .i64 0), .v (.int .i64 0), .v (.int .i64 0)])), (6, some (x2 3, .box [.v (.string s2.2.1), .v (.string s2.2.2.1), .v (.int .i64 s2.2.2.2.1), .v (.int .i64 s2.2.2.2.2.1), .v (.int .i64 s2.2.2.2.2.2)])), (9, some (x2 4, .box (ProbeBox.cs .bor (p0.Boxes.getD i1 default))))], 69⟩
def impl_ProbeMeet_J2 (p0 : ProbeTube) (p1 : ProbeTube) (i1 : Nat) (s1 : Bool × ByteArray × ByteArray × Int × Int × Int) (fs : Nat → Nat → Nat) (s2 : Bool × ByteArray × ByteArray × Int × Int × Int) (x2 : Nat → Nat) : St := ⟨[(2, .one (.pt 2 (x2 0) 0)), (3, .one (.pt 3 (x2 1) 0)), (4, .one (.pt 4 (x2 2) 0)), (6, .one (.pt 6 (x2 3) 0)), (7, .one (.c (.v (.bool s2.1)))), (25, .one (.c (.sl .bor 6 (p0.Boxes.map ProbeBox.row)))), (26, .one (.c (.v (.int .i64 (p0.Boxes.length : Int))))), (27, .one (.c (.v (.int .i64 ((i1 : Nat) : Int)))))], [(2, some (x2 0, .box (ProbeTube.cs .bor p0))), (3, some (x2 1, .box (ProbeTube.cs .bor p1))), (4, some (x2 2, .box [.v (.string ⟨#[]⟩), .v (.string ⟨#[]⟩), .v (.int .i64 0), .v (.int .i64 0), .v (.int .i64 0)])), (6, some (x2 3, .box [.v (.string s2.2.1), .v (.string s2.2.2.1), .v (.int .i64 s2.2.2.2.1), .v (.int .i64 s2.2.2.2.2.1), .v (.int .i64 s2.2.2.2.2.2)]))], 69⟩
def impl_ProbeMeet_v1 (p0 : ProbeTube) (p1 : ProbeTube) (i1 : Nat) (i2 : Nat) (s2 : Bool × ByteArray × ByteArray × Int × Int × Int) : Bool := ((impl_ProbeClose (p0.Boxes.getD i1 default) (p1.Boxes.getD i2 default)).2) && ((!s2.1) || (decide (((impl_ProbeClose (p0.Boxes.getD i1 default) (p1.Boxes.getD i2 default)).1) < s2.2.2.2.1)))
def impl_ProbeMeet_b2 (p0 : ProbeTube) (p1 : ProbeTube) (i1 : Nat) (s1 : Bool × ByteArray × ByteArray × Int × Int × Int) (i2 : Nat) (s2 : Bool × ByteArray × ByteArray × Int × Int × Int) : Res (Bool × ByteArray × ByteArray × Int × Int × Int) (Res (Bool × ByteArray × ByteArray × Int × Int × Int) (ProbeClash × Bool)) := (if (impl_ProbeMeet_v1 p0 p1 i1 i2 s2) then (.next (true, p0.Name, p1.Name, (impl_ProbeClose (p0.Boxes.getD i1 default) (p1.Boxes.getD i2 default)).1, ((i1 : Nat) : Int), ((i2 : Nat) : Int))) else (.next (s2.1, s2.2.1, s2.2.2.1, s2.2.2.2.1, s2.2.2.2.2.1, s2.2.2.2.2.2)))
def impl_ProbeMeet_r2 (p0 : ProbeTube) (p1 : ProbeTube) (i1 : Nat) (s1 : Bool × ByteArray × ByteArray × Int × Int × Int) (s2 : Bool × ByteArray × ByteArray × Int × Int × Int) : (Res (Bool × ByteArray × ByteArray × Int × Int × Int) (ProbeClash × Bool)) := (.next (s2.1, s2.2.1, s2.2.2.1, s2.2.2.2.1, s2.2.2.2.2.1, s2.2.2.2.2.2))
def impl_ProbeMeet_b1 (p0 : ProbeTube) (p1 : ProbeTube) (i1 : Nat) (s1 : Bool × ByteArray × ByteArray × Int × Int × Int) : Res (Bool × ByteArray × ByteArray × Int × Int × Int) (ProbeClash × Bool) := (Res.fin (impl_ProbeMeet_r2 p0 p1 i1 s1) (forN (impl_ProbeMeet_b2 p0 p1 i1 s1) (p1.Boxes.length - 0) 0 (s1.1, s1.2.1, s1.2.2.1, s1.2.2.2.1, s1.2.2.2.2.1, s1.2.2.2.2.2)))
def impl_ProbeMeet_r1 (p0 : ProbeTube) (p1 : ProbeTube) (s1 : Bool × ByteArray × ByteArray × Int × Int × Int) : (ProbeClash × Bool) := ((⟨s1.2.1, s1.2.2.1, s1.2.2.2.1, s1.2.2.2.2.1, s1.2.2.2.2.2⟩ : ProbeClash), s1.1)
/-- impl.ProbeMeet -/
def impl_ProbeMeet (p0 : ProbeTube) (p1 : ProbeTube) : ProbeClash × Bool := (if (!(impl_ProbeTubeOk p0)) || (!(impl_ProbeTubeOk p1)) then ((⟨⟨#[]⟩, ⟨#[]⟩, 0, 0, 0⟩ : ProbeClash), false) else (Res.fin (impl_ProbeMeet_r1 p0 p1) (forN (impl_ProbeMeet_b1 p0 p1) (p0.Boxes.length - 0) 0 (false, ⟨#[]⟩, ⟨#[]⟩, 0, 0, 0))))
theorem c202 (p0 : ProbeTube) (p1 : ProbeTube) (k0_0 : ProbeTube.ok p0) (k1_0 : ProbeTube.ok p1) : Fn Proofs.Try.prog 202 [⟨.val, true, ProbeTube.cs .bor p0⟩, ⟨.val, true, ProbeTube.cs .bor p1⟩] [.ag (ProbeClash.cs .own (impl_ProbeMeet p0 p1).1), .c (.v (.bool (impl_ProbeMeet p0 p1).2))] [] := by
  obtain ⟨R, hR⟩ : ∃ R, R = impl_ProbeMeet p0 p1 := ⟨_, rfl⟩
  rw [← hR]
  rw [impl_ProbeMeet] at hR
  refine ⟨fn_intro hT Proofs.Try.func202 rfl rfl fun fs => ?_, _, Proofs.Try.func202, rfl, rfl⟩
  have q0 := k0_0; simp only [ProbeTube.ok] at q0
  have q1 := k1_0; simp only [ProbeTube.ok] at q1
  refine xr hT [] (fun f1 => ⟨[(2, .one (.pt 2 (f1 0 0) 0)), (3, .one (.pt 3 (f1 1 0) 0)), (4, .one (.pt 4 (f1 2 0) 0))], [(2, some (f1 0 0, .box (ProbeTube.cs .bor p0))), (3, some (f1 1 0, .box (ProbeTube.cs .bor p1))), (4, some (f1 2 0, .box [.v (.string ⟨#[]⟩), .v (.string ⟨#[]⟩), .v (.int .i64 0), .v (.int .i64 0), .v (.int .i64 0)]))], 69⟩) (fun f => by kernel_rfl) (fun f => by kernel_rfl) fun f1 => ?_
  refine w_seq ?_
  refine xr hT [ca (c175 p0 (by first | assumption | exact (by omega : p0.Boxes.length ≤ 1048576))), cg (!(!(impl_ProbeTubeOk p0))) (fun h => by (try simp only [Bool.and_eq_true, Bool.or_eq_true, decide_eq_true_eq, Bool.not_eq_true', decide_eq_false_iff_not] at h); exact c175 p1 (by first | assumption | exact (by omega : p1.Boxes.length ≤ 1048576)))] (fun f2 => ⟨[(2, .one (.pt 2 (f1 0 0) 0)), (3, .one (.pt 3 (f1 1 0) 0)), (4, .one (.pt 4 (f1 2 0) 0)), (21, .one (.c (.v (.bool ((!(impl_ProbeTubeOk p0)) || (!(impl_ProbeTubeOk p1)))))))], [(2, some (f1 0 0, .box (ProbeTube.cs .bor p0))), (3, some (f1 1 0, .box (ProbeTube.cs .bor p1))), (4, some (f1 2 0, .box [.v (.string ⟨#[]⟩), .v (.string ⟨#[]⟩), .v (.int .i64 0), .v (.int .i64 0), .v (.int .i64 0)]))], 69⟩) (fun f => by kernel_rfl) (fun f => by kernel_rfl) fun f2 => ?_
  refine w_cond rfl (fun h3 => ?_) fun h3 => ?_
  · rw [if_pos h3] at hR
    refine xr hT [] (fun f4 => ⟨[(4, .one (.pt 4 (f1 2 0) 0)), (5, .one (.c (.v (.bool false))))], [(4, some (f1 2 0, .box [.v (.string ⟨#[]⟩), .v (.string ⟨#[]⟩), .v (.int .i64 0), .v (.int .i64 0), .v (.int .i64 0)]))], 69⟩) (fun f => by kernel_rfl) (fun f => by kernel_rfl) fun f4 => ?_
    refine w_ret ?_
    subst hR
    exact x_ret (by kernel_rfl)
  rw [if_neg (nt h3)] at hR
  refine w_skip ?_
  refine xr hT [] (fun f5 => ⟨[(2, .one (.pt 2 (f1 0 0) 0)), (3, .one (.pt 3 (f1 1 0) 0)), (4, .one (.pt 4 (f1 2 0) 0)), (6, .one (.pt 6 (f5 1 0) 0)), (7, .one (.c (.v (.bool false))))], [(2, some (f1 0 0, .box (ProbeTube.cs .bor p0))), (3, some (f1 1 0, .box (ProbeTube.cs .bor p1))), (4, some (f1 2 0, .box [.v (.string ⟨#[]⟩), .v (.string ⟨#[]⟩), .v (.int .i64 0), .v (.int .i64 0), .v (.int .i64 0)])), (6, some (f5 1 0, .box [.v (.string ⟨#[]⟩), .v (.string ⟨#[]⟩), .v (.int .i64 0), .v (.int .i64 0), .v (.int .i64 0)]))], 69⟩) (fun f => by kernel_rfl) (fun f => by kernel_rfl) fun f5 => ?_
  refine w_seq ?_
  refine xr hT [.ln ProbeBox.row p0.Boxes] (fun f6 => ⟨[(2, .one (.pt 2 (f1 0 0) 0)), (3, .one (.pt 3 (f1 1 0) 0)), (4, .one (.pt 4 (f1 2 0) 0)), (6, .one (.pt 6 (f5 1 0) 0)), (7, .one (.c (.v (.bool false)))), (25, .one (.c (.sl .bor 6 (p0.Boxes.map ProbeBox.row)))), (26, .one (.c (.v (.int .i64 (p0.Boxes.length : Int))))), (27, .one (.c (.v (.int .i64 0))))], [(2, some (f1 0 0, .box (ProbeTube.cs .bor p0))), (3, some (f1 1 0, .box (ProbeTube.cs .bor p1))), (4, some (f1 2 0, .box [.v (.string ⟨#[]⟩), .v (.string ⟨#[]⟩), .v (.int .i64 0), .v (.int .i64 0), .v (.int .i64 0)])), (6, some (f5 1 0, .box [.v (.string ⟨#[]⟩), .v (.string ⟨#[]⟩), .v (.int .i64 0), .v (.int .i64 0), .v (.int .i64 0)]))], 69⟩) (fun f => by kernel_rfl) (fun f => by kernel_rfl) fun f6 => ?_
  refine w_forT (fun _ => rfl) (impl_ProbeMeet_I1 p0 p1 fs) (impl_ProbeMeet_J1 p0 p1 fs) (fun i1 s1 => True) (fun s1 => True) (p0.Boxes.length) 0 (impl_ProbeMeet_b1 p0 p1) (impl_ProbeMeet_r1 p0 p1) 0 ((false, ⟨#[]⟩, ⟨#[]⟩, 0, 0, 0)) (lst [f1 0 0, f1 1 0, f1 2 0, f5 1 0]) (sb (by kernel_rfl)) trivial hR ?_ ?_
  · skip
    intro i1 s1 x1 hI1 hX1
    refine xr hT [] (fun f7 => ⟨[(2, .one (.pt 2 (x1 0) 0)), (3, .one (.pt 3 (x1 1) 0)), (4, .one (.pt 4 (x1 2) 0)), (6, .one (.pt 6 (x1 3) 0)), (7, .one (.c (.v (.bool s1.1)))), (25, .one (.c (.sl .bor 6 (p0.Boxes.map ProbeBox.row)))), (26, .one (.c (.v (.int .i64 (p0.Boxes.length : Int))))), (27, .one (.c (.v (.int .i64 ((i1 : Nat) : Int))))), (28, .one (.c (.v (.bool (decide (((i1 : Nat) : Int) < (p0.Boxes.length : Int)))))))], [(2, some (x1 0, .box (ProbeTube.cs .bor p0))), (3, some (x1 1, .box (ProbeTube.cs .bor p1))), (4, some (x1 2, .box [.v (.string ⟨#[]⟩), .v (.string ⟨#[]⟩), .v (.int .i64 0), .v (.int .i64 0), .v (.int .i64 0)])), (6, some (x1 3, .box [.v (.string s1.2.1), .v (.string s1.2.2.1), .v (.int .i64 s1.2.2.2.1), .v (.int .i64 s1.2.2.2.2.1), .v (.int .i64 s1.2.2.2.2.2)]))], 69⟩) (fun f => by kernel_rfl) (fun f => by kernel_rfl) fun f7 => ?_
    refine w_seq ?_
    refine w_cond rfl (fun h8 => ?_) fun h8 => ?_
    · skip
      have hl1 : i1 < p0.Boxes.length := by have hq := of_decide_eq_true h8; first | omega | ((try simp only [LN, impl_ProbeMeet_v1] at *); omega)
      obtain ⟨B1, hB1⟩ : ∃ B, B = impl_ProbeMeet_b1 p0 p1 i1 s1 := ⟨_, rfl⟩
      have hE1 := hB1
      rw [impl_ProbeMeet_b1] at hE1
      refine w_skip ?_
      refine w_seq ?_
      refine w_block ?_
      refine xr hT [ix ProbeBox.row p0.Boxes i1 (by omega)] (fun f9 => ⟨[(2, .one (.pt 2 (x1 0) 0)), (3, .one (.pt 3 (x1 1) 0)), (4, .one (.pt 4 (x1 2) 0)), (6, .one (.pt 6 (x1 3) 0)), (7, .one (.c (.v (.bool s1.1)))), (8, .one (.c (.v (.int .i64 ((i1 : Nat) : Int))))), (9, .one (.pt 9 (f9 3 0) 0)), (25, .one (.c (.sl .bor 6 (p0.Boxes.map ProbeBox.row)))), (26, .one (.c (.v (.int .i64 (p0.Boxes.length : Int))))), (27, .one (.c (.v (.int .i64 ((i1 : Nat) : Int)))))], [(2, some (x1 0, .box (ProbeTube.cs .bor p0))), (3, some (x1 1, .box (ProbeTube.cs .bor p1))), (4, some (x1 2, .box [.v (.string ⟨#[]⟩), .v (.string ⟨#[]⟩), .v (.int .i64 0), .v (.int .i64 0), .v (.int .i64 0)])), (6, some (x1 3, .box [.v (.string s1.2.1), .v (.string s1.2.2.1), .v (.int .i64 s1.2.2.2.1), .v (.int .i64 s1.2.2.2.2.1), .v (.int .i64 s1.2.2.2.2.2)])), (9, some (f9 3 0, .box (ProbeBox.cs .bor (p0.Boxes.getD i1 default))))], 69⟩) (fun f => by kernel_rfl) (fun f => by kernel_rfl) fun f9 => ?_
      refine xr hT [.ln ProbeBox.row p1.Boxes] (fun f10 => ⟨[(2, .one (.pt 2 (x1 0) 0)), (3, .one (.pt 3 (x1 1) 0)), (4, .one (.pt 4 (x1 2) 0)), (6, .one (.pt 6 (x1 3) 0)), (7, .one (.c (.v (.bool s1.1)))), (8, .one (.c (.v (.int .i64 ((i1 : Nat) : Int))))), (9, .one (.pt 9 (f9 3 0) 0)), (25, .one (.c (.sl .bor 6 (p0.Boxes.map ProbeBox.row)))), (26, .one (.c (.v (.int .i64 (p0.Boxes.length : Int))))), (27, .one (.c (.v (.int .i64 ((i1 : Nat) : Int))))), (33, .one (.c (.sl .bor 6 (p1.Boxes.map ProbeBox.row)))), (34, .one (.c (.v (.int .i64 (p1.Boxes.length : Int))))), (35, .one (.c (.v (.int .i64 0))))], [(2, some (x1 0, .box (ProbeTube.cs .bor p0))), (3, some (x1 1, .box (ProbeTube.cs .bor p1))), (4, some (x1 2, .box [.v (.string ⟨#[]⟩), .v (.string ⟨#[]⟩), .v (.int .i64 0), .v (.int .i64 0), .v (.int .i64 0)])), (6, some (x1 3, .box [.v (.string s1.2.1), .v (.string s1.2.2.1), .v (.int .i64 s1.2.2.2.1), .v (.int .i64 s1.2.2.2.2.1), .v (.int .i64 s1.2.2.2.2.2)])), (9, some (f9 3 0, .box (ProbeBox.cs .bor (p0.Boxes.getD i1 default))))], 69⟩) (fun f => by kernel_rfl) (fun f => by kernel_rfl) fun f10 => ?_
      refine w_forT (fun _ => rfl) (impl_ProbeMeet_I2 p0 p1 i1 s1 fs) (impl_ProbeMeet_J2 p0 p1 i1 s1 fs) (fun i2 s2 => True) (fun s2 => True) (p1.Boxes.length) 2 (impl_ProbeMeet_b2 p0 p1 i1 s1) (impl_ProbeMeet_r2 p0 p1 i1 s1) 0 ((s1.1, s1.2.1, s1.2.2.1, s1.2.2.2.1, s1.2.2.2.2.1, s1.2.2.2.2.2)) (lst [x1 0, x1 1, x1 2, x1 3, f9 3 0]) (sb (by kernel_rfl)) trivial hE1 ?_ ?_
      · skip
        intro i2 s2 x2 hI2 hX2
        refine xr hT [] (fun f11 => ⟨[(2, .one (.pt 2 (x2 0) 0)), (3, .one (.pt 3 (x2 1) 0)), (4, .one (.pt 4 (x2 2) 0)), (6, .one (.pt 6 (x2 3) 0)), (7, .one (.c (.v (.bool s2.1)))), (8, .one (.c (.v (.int .i64 ((i1 : Nat) : Int))))), (9, .one (.pt 9 (x2 4) 0)), (25, .one (.c (.sl .bor 6 (p0.Boxes.map ProbeBox.row)))), (26, .one (.c (.v (.int .i64 (p0.Boxes.length : Int))))), (27, .one (.c (.v (.int .i64 ((i1 : Nat) : Int))))), (33, .one (.c (.sl .bor 6 (p1.Boxes.map ProbeBox.row)))), (34, .one (.c (.v (.int .i64 (p1.Boxes.length : Int))))), (35, .one (.c (.v (.int .i64 ((i2 : Nat) : Int))))), (36, .one (.c (.v (.bool (decide (((i2 : Nat) : Int) < (p1.Boxes.length : Int)))))))], [(2, some (x2 0, .box (ProbeTube.cs .bor p0))), (3, some (x2 1, .box (ProbeTube.cs .bor p1))), (4, some (x2 2, .box [.v (.string ⟨#[]⟩), .v (.string ⟨#[]⟩), .v (.int .i64 0), .v (.int .i64 0), .v (.int .i64 0)])), (6, some (x2 3, .box [.v (.string s2.2.1), .v (.string s2.2.2.1), .v (.int .i64 s2.2.2.2.1), .v (.int .i64 s2.2.2.2.2.1), .v (.int .i64 s2.2.2.2.2.2)])), (9, some (x2 4, .box (ProbeBox.cs .bor (p0.Boxes.getD i1 default))))], 69⟩) (fun f => by kernel_rfl) (fun f => by kernel_rfl) fun f11 => ?_
        refine w_seq ?_
        refine w_cond rfl (fun h12 => ?_) fun h12 => ?_
        · skip
          have hl2 : i2 < p1.Boxes.length := by have hq := of_decide_eq_true h12; first | omega | ((try simp only [LN, impl_ProbeMeet_v1] at *); omega)
          obtain ⟨B2, hB2⟩ : ∃ B, B = impl_ProbeMeet_b2 p0 p1 i1 s1 i2 s2 := ⟨_, rfl⟩
          have hE2 := hB2
          rw [impl_ProbeMeet_b2] at hE2
          refine w_skip ?_
          refine w_seq ?_
          refine w_block ?_
          refine xr hT [ix ProbeBox.row p1.Boxes i2 (by omega)] (fun f13 => ⟨[(2, .one (.pt 2 (x2 0) 0)), (3, .one (.pt 3 (x2 1) 0)), (4, .one (.pt 4 (x2 2) 0)), (6, .one (.pt 6 (x2 3) 0)), (7, .one (.c (.v (.bool s2.1)))), (8, .one (.c (.v (.int .i64 ((i1 : Nat) : Int))))), (9, .one (.pt 9 (x2 4) 0)), (10, .one (.c (.v (.int .i64 ((i2 : Nat) : Int))))), (11, .one (.pt 11 (f13 3 0) 0)), (25, .one (.c (.sl .bor 6 (p0.Boxes.map ProbeBox.row)))), (26, .one (.c (.v (.int .i64 (p0.Boxes.length : Int))))), (27, .one (.c (.v (.int .i64 ((i1 : Nat) : Int))))), (33, .one (.c (.sl .bor 6 (p1.Boxes.map ProbeBox.row)))), (34, .one (.c (.v (.int .i64 (p1.Boxes.length : Int))))), (35, .one (.c (.v (.int .i64 ((i2 : Nat) : Int)))))], [(2, some (x2 0, .box (ProbeTube.cs .bor p0))), (3, some (x2 1, .box (ProbeTube.cs .bor p1))), (4, some (x2 2, .box [.v (.string ⟨#[]⟩), .v (.string ⟨#[]⟩), .v (.int .i64 0), .v (.int .i64 0), .v (.int .i64 0)])), (6, some (x2 3, .box [.v (.string s2.2.1), .v (.string s2.2.2.1), .v (.int .i64 s2.2.2.2.1), .v (.int .i64 s2.2.2.2.2.1), .v (.int .i64 s2.2.2.2.2.2)])), (9, some (x2 4, .box (ProbeBox.cs .bor (p0.Boxes.getD i1 default)))), (11, some (f13 3 0, .box (ProbeBox.cs .bor (p1.Boxes.getD i2 default))))], 69⟩) (fun f => by kernel_rfl) (fun f => by kernel_rfl) fun f13 => ?_
          refine xr hT [ca (c204 (p0.Boxes.getD i1 default) (p1.Boxes.getD i2 default))] (fun f14 => ⟨[(2, .one (.pt 2 (x2 0) 0)), (3, .one (.pt 3 (x2 1) 0)), (4, .one (.pt 4 (x2 2) 0)), (6, .one (.pt 6 (x2 3) 0)), (7, .one (.c (.v (.bool s2.1)))), (8, .one (.c (.v (.int .i64 ((i1 : Nat) : Int))))), (9, .one (.pt 9 (x2 4) 0)), (10, .one (.c (.v (.int .i64 ((i2 : Nat) : Int))))), (12, .one (.c (.v (.int .i64 ((impl_ProbeClose (p0.Boxes.getD i1 default) (p1.Boxes.getD i2 default)).1))))), (13, .one (.c (.v (.bool ((impl_ProbeClose (p0.Boxes.getD i1 default) (p1.Boxes.getD i2 default)).2))))), (25, .one (.c (.sl .bor 6 (p0.Boxes.map ProbeBox.row)))), (26, .one (.c (.v (.int .i64 (p0.Boxes.length : Int))))), (27, .one (.c (.v (.int .i64 ((i1 : Nat) : Int))))), (33, .one (.c (.sl .bor 6 (p1.Boxes.map ProbeBox.row)))), (34, .one (.c (.v (.int .i64 (p1.Boxes.length : Int))))), (35, .one (.c (.v (.int .i64 ((i2 : Nat) : Int)))))], [(2, some (x2 0, .box (ProbeTube.cs .bor p0))), (3, some (x2 1, .box (ProbeTube.cs .bor p1))), (4, some (x2 2, .box [.v (.string ⟨#[]⟩), .v (.string ⟨#[]⟩), .v (.int .i64 0), .v (.int .i64 0), .v (.int .i64 0)])), (6, some (x2 3, .box [.v (.string s2.2.1), .v (.string s2.2.2.1), .v (.int .i64 s2.2.2.2.1), .v (.int .i64 s2.2.2.2.2.1), .v (.int .i64 s2.2.2.2.2.2)])), (9, some (x2 4, .box (ProbeBox.cs .bor (p0.Boxes.getD i1 default))))], 69⟩) (fun f => by kernel_rfl) (fun f => by kernel_rfl) fun f14 => ?_
          refine xr hT [] (fun f15 => ⟨[(2, .one (.pt 2 (x2 0) 0)), (3, .one (.pt 3 (x2 1) 0)), (4, .one (.pt 4 (x2 2) 0)), (6, .one (.pt 6 (x2 3) 0)), (7, .one (.c (.v (.bool s2.1)))), (8, .one (.c (.v (.int .i64 ((i1 : Nat) : Int))))), (9, .one (.pt 9 (x2 4) 0)), (10, .one (.c (.v (.int .i64 ((i2 : Nat) : Int))))), (12, .one (.c (.v (.int .i64 ((impl_ProbeClose (p0.Boxes.getD i1 default) (p1.Boxes.getD i2 default)).1))))), (25, .one (.c (.sl .bor 6 (p0.Boxes.map ProbeBox.row)))), (26, .one (.c (.v (.int .i64 (p0.Boxes.length : Int))))), (27, .one (.c (.v (.int .i64 ((i1 : Nat) : Int))))), (33, .one (.c (.sl .bor 6 (p1.Boxes.map ProbeBox.row)))), (34, .one (.c (.v (.int .i64 (p1.Boxes.length : Int))))), (35, .one (.c (.v (.int .i64 ((i2 : Nat) : Int))))), (56, .one (.c (.v (.bool (impl_ProbeMeet_v1 p0 p1 i1 i2 s2)))))], [(2, some (x2 0, .box (ProbeTube.cs .bor p0))), (3, some (x2 1, .box (ProbeTube.cs .bor p1))), (4, some (x2 2, .box [.v (.string ⟨#[]⟩), .v (.string ⟨#[]⟩), .v (.int .i64 0), .v (.int .i64 0), .v (.int .i64 0)])), (6, some (x2 3, .box [.v (.string s2.2.1), .v (.string s2.2.2.1), .v (.int .i64 s2.2.2.2.1), .v (.int .i64 s2.2.2.2.2.1), .v (.int .i64 s2.2.2.2.2.2)])), (9, some (x2 4, .box (ProbeBox.cs .bor (p0.Boxes.getD i1 default))))], 69⟩) (fun f => by kernel_rfl) (fun f => by kernel_rfl) fun f15 => ?_
          refine w_cond rfl (fun h16 => ?_) fun h16 => ?_
          · rw [if_pos h16] at hE2
            have gh16 := h16; try simp only [impl_ProbeMeet_v1, Bool.not_eq_true', Bool.not_eq_false', decide_eq_true_eq, decide_eq_false_iff_not, Bool.and_eq_true, Bool.or_eq_true, Bool.and_eq_false_iff, Bool.or_eq_false_iff] at gh16
            refine xr1 (fun _ => rfl) hT [] (fun f17 => ⟨[(2, .one (.pt 2 (x2 0) 0)), (3, .one (.pt 3 (x2 1) 0)), (4, .one (.pt 4 (x2 2) 0)), (6, .one (.pt 6 (x2 3) 0)), (7, .one (.c (.v (.bool true)))), (8, .one (.c (.v (.int .i64 ((i1 : Nat) : Int))))), (9, .one (.pt 9 (x2 4) 0)), (25, .one (.c (.sl .bor 6 (p0.Boxes.map ProbeBox.row)))), (26, .one (.c (.v (.int .i64 (p0.Boxes.length : Int))))), (27, .one (.c (.v (.int .i64 ((i1 : Nat) : Int))))), (33, .one (.c (.sl .bor 6 (p1.Boxes.map ProbeBox.row)))), (34, .one (.c (.v (.int .i64 (p1.Boxes.length : Int))))), (35, .one (.c (.v (.int .i64 ((i2 : Nat) : Int)))))], [(2, some (x2 0, .box (ProbeTube.cs .bor p0))), (3, some (x2 1, .box (ProbeTube.cs .bor p1))), (4, some (x2 2, .box [.v (.string ⟨#[]⟩), .v (.string ⟨#[]⟩), .v (.int .i64 0), .v (.int .i64 0), .v (.int .i64 0)])), (6, some (x2 3, .box [.v (.string p0.Name), .v (.string p1.Name), .v (.int .i64 ((impl_ProbeClose (p0.Boxes.getD i1 default) (p1.Boxes.getD i2 default)).1)), .v (.int .i64 ((i1 : Nat) : Int)), .v (.int .i64 ((i2 : Nat) : Int))])), (9, some (x2 4, .box (ProbeBox.cs .bor (p0.Boxes.getD i1 default))))], 69⟩) (fun f => by kernel_rfl) (fun f => by kernel_rfl) fun f17 => ?_
            refine x_reg hT [.ex true (((i2 : Nat) : Int) + ((1 : Nat) : Int)) ((((i2 + 1) : Nat) : Int)) (fun _ => wr_nat (n := i2) (c := 1) (by omega))] (fun f18 => impl_ProbeMeet_I2 p0 p1 i1 s1 fs (i2 + 1) (true, p0.Name, p1.Name, (impl_ProbeClose (p0.Boxes.getD i1 default) (p1.Boxes.getD i2 default)).1, ((i1 : Nat) : Int), ((i2 : Nat) : Int)) (lst [x2 0, x2 1, x2 2, x2 3, x2 4])) (fun f => by kernel_rfl) (fun f => by kernel_rfl) fun f18 s' hs' => ?_
            exact ⟨(true, p0.Name, p1.Name, (impl_ProbeClose (p0.Boxes.getD i1 default) (p1.Boxes.getD i2 default)).1, ((i1 : Nat) : Int), ((i2 : Nat) : Int)), (lst [x2 0, x2 1, x2 2, x2 3, x2 4]), hl2, trivial, hX2.trans (forN_next hl2 (hB2.symm.trans hE2)), hs'⟩
          rw [if_neg (nt h16)] at hE2
          have gh16 := h16; try simp only [impl_ProbeMeet_v1, Bool.not_eq_true', Bool.not_eq_false', decide_eq_true_eq, decide_eq_false_iff_not, Bool.and_eq_true, Bool.or_eq_true, Bool.and_eq_false_iff, Bool.or_eq_false_iff] at gh16
          refine w_skip ?_
          refine x_reg hT [.ex true (((i2 : Nat) : Int) + ((1 : Nat) : Int)) ((((i2 + 1) : Nat) : Int)) (fun _ => wr_nat (n := i2) (c := 1) (by omega))] (fun f19 => impl_ProbeMeet_I2 p0 p1 i1 s1 fs (i2 + 1) (s2.1, s2.2.1, s2.2.2.1, s2.2.2.2.1, s2.2.2.2.2.1, s2.2.2.2.2.2) (lst [x2 0, x2 1, x2 2, x2 3, x2 4])) (fun f => by kernel_rfl) (fun f => by kernel_rfl) fun f19 s' hs' => ?_
          exact ⟨(s2.1, s2.2.1, s2.2.2.1, s2.2.2.2.1, s2.2.2.2.2.1, s2.2.2.2.2.2), (lst [x2 0, x2 1, x2 2, x2 3, x2 4]), hl2, trivial, hX2.trans (forN_next hl2 (hB2.symm.trans hE2)), hs'⟩
        have hq := of_decide_eq_false h12
        refine w_exit ?_
        exact ⟨s2, (lst [x2 0, x2 1, x2 2, x2 3, x2 4]), trivial, hX2.trans (forN_end (by first | omega | ((try simp only [LN, impl_ProbeMeet_v1] at *); omega))), sb (by kernel_rfl)⟩
      intro s2 x2 hF22 hR20
      rw [impl_ProbeMeet_r2] at hR20
      refine x_reg hT [.ex true (((i1 : Nat) : Int) + ((1 : Nat) : Int)) ((((i1 + 1) : Nat) : Int)) (fun _ => wr_nat (n := i1) (c := 1) (by omega))] (fun f21 => impl_ProbeMeet_I1 p0 p1 fs (i1 + 1) (s2.1, s2.2.1, s2.2.2.1, s2.2.2.2.1, s2.2.2.2.2.1, s2.2.2.2.2.2) (lst [x2 0, x2 1, x2 2, x2 3])) (fun f => by kernel_rfl) (fun f => by kernel_rfl) fun f21 s' hs' => ?_
      exact ⟨(s2.1, s2.2.1, s2.2.2.1, s2.2.2.2.1, s2.2.2.2.2.1, s2.2.2.2.2.2), (lst [x2 0, x2 1, x2 2, x2 3]), hl1, trivial, hX1.trans (forN_next hl1 (hB1.symm.trans hR20)), hs'⟩
    have hq := of_decide_eq_false h8
    refine w_exit ?_
    exact ⟨s1, (lst [x1 0, x1 1, x1 2, x1 3]), trivial, hX1.trans (forN_end (by first | omega | ((try simp only [LN, impl_ProbeMeet_v1] at *); omega))), sb (by kernel_rfl)⟩
  intro s1 x1 hF25 hR23
  rw [impl_ProbeMeet_r1] at hR23
  refine xr hT [] (fun f24 => ⟨[(4, .one (.pt 4 (x1 2) 0)), (5, .one (.c (.v (.bool s1.1))))], [(4, some (x1 2, .box [.v (.string s1.2.1), .v (.string s1.2.2.1), .v (.int .i64 s1.2.2.2.1), .v (.int .i64 s1.2.2.2.2.1), .v (.int .i64 s1.2.2.2.2.2)]))], 69⟩) (fun f => by kernel_rfl) (fun f => by kernel_rfl) fun f24 => ?_
  refine w_ret ?_
  subst hR23
  exact x_ret (by kernel_rfl)

/-- impl.near -/
def impl_near (p0 : FlyPath) (p1 : FlyPath) (p2 : Int) : Bool := (impl_ProbeMeet (impl_LinkTube ⟨#[97]⟩ p0 p2) (impl_LinkTube ⟨#[98]⟩ p1 p2)).2
theorem c193 (p0 : FlyPath) (p1 : FlyPath) (p2 : Int) (k0_0 : FlyPath.ok p0) (k1_0 : FlyPath.ok p1) : Fn Proofs.Try.prog 193 [⟨.val, true, FlyPath.cs .bor p0⟩, ⟨.val, true, FlyPath.cs .bor p1⟩, ⟨.val, false, [.v (.int .i64 p2)]⟩] [.c (.v (.bool (impl_near p0 p1 p2)))] [] := by
  obtain ⟨R, hR⟩ : ∃ R, R = impl_near p0 p1 p2 := ⟨_, rfl⟩
  rw [← hR]
  rw [impl_near] at hR
  refine ⟨fn_intro hT Proofs.Try.func193 rfl rfl fun fs => ?_, _, Proofs.Try.func193, rfl, rfl⟩
  have q0 := k0_0; simp only [FlyPath.ok] at q0
  have q1 := k1_0; simp only [FlyPath.ok] at q1
  refine xr hT [] (fun f1 => ⟨[(2, .one (.c (.v (.int .i64 p2)))), (3, .one (.pt 3 (f1 0 0) 0)), (4, .one (.pt 4 (f1 1 0) 0))], [(3, some (f1 0 0, .box (FlyPath.cs .bor p0))), (4, some (f1 1 0, .box (FlyPath.cs .bor p1)))], 20⟩) (fun f => by kernel_rfl) (fun f => by kernel_rfl) fun f1 => ?_
  have w3 := f_impl_LinkTube ⟨#[97]⟩ p0 p2 (by first | assumption | exact (by omega : p0.Steps.length ≤ 1048576))
  have w3' := w3; try simp only [LN] at w3'
  have w4 := f_impl_LinkTube ⟨#[98]⟩ p1 p2 (by first | assumption | exact (by omega : p1.Steps.length ≤ 1048576))
  have w4' := w4; try simp only [LN] at w4'
  refine xd hT hM [ca (c25 ⟨#[97]⟩ p0 p2 (by first | assumption | exact (by omega : p0.Steps.length ≤ 1048576))), ca (c25 ⟨#[98]⟩ p1 p2 (by first | assumption | exact (by omega : p1.Steps.length ≤ 1048576))), ca (c202 (impl_LinkTube ⟨#[97]⟩ p0 p2) (impl_LinkTube ⟨#[98]⟩ p1 p2) (by first | assumption | exact (show ((impl_LinkTube ⟨#[97]⟩ p0 p2).Boxes).length ≤ 1048576 from by (try simp only [LN]); omega)) (by first | assumption | exact (show ((impl_LinkTube ⟨#[98]⟩ p1 p2).Boxes).length ≤ 1048576 from by (try simp only [LN]); omega)))] (fun f2 => ⟨[(8, .one (.c (.v (.bool ((impl_ProbeMeet (impl_LinkTube ⟨#[97]⟩ p0 p2) (impl_LinkTube ⟨#[98]⟩ p1 p2)).2)))))], [], 20⟩) (fun f => by kernel_rfl) (fun f => by kernel_rfl) (fun f => by kernel_rfl) fun f2 => ?_
  refine xr hT [] (fun f5 => ⟨[(6, .one (.c (.v (.bool ((impl_ProbeMeet (impl_LinkTube ⟨#[97]⟩ p0 p2) (impl_LinkTube ⟨#[98]⟩ p1 p2)).2)))))], [], 20⟩) (fun f => by kernel_rfl) (fun f => by kernel_rfl) fun f5 => ?_
  refine w_ret ?_
  subst hR
  exact x_ret (by kernel_rfl)

/-- impl.LinkHeld.near -/
def impl_LinkHeld_near (p0 : LinkHeld) (p1 : FlyPath) (p2 : Int) : Bool := (impl_near p0.Path p1 p2) || (impl_near p0.Next p1 p2)
theorem c158 (p0 : LinkHeld) (p1 : FlyPath) (p2 : Int) (k0_0 : LinkHeld.ok p0) (k1_0 : FlyPath.ok p1) : Fn Proofs.Try.prog 158 [⟨.val, true, LinkHeld.cs .bor p0⟩, ⟨.val, true, FlyPath.cs .bor p1⟩, ⟨.val, false, [.v (.int .i64 p2)]⟩] [.c (.v (.bool (impl_LinkHeld_near p0 p1 p2)))] [] := by
  obtain ⟨R, hR⟩ : ∃ R, R = impl_LinkHeld_near p0 p1 p2 := ⟨_, rfl⟩
  rw [← hR]
  rw [impl_LinkHeld_near] at hR
  refine ⟨fn_intro hT Proofs.Try.func158 rfl rfl fun fs => ?_, _, Proofs.Try.func158, rfl, rfl⟩
  have q0 := k0_0; simp only [LinkHeld.ok] at q0
  have q1 := k1_0; simp only [FlyPath.ok] at q1
  refine xr hT [] (fun f1 => ⟨[(2, .one (.c (.v (.int .i64 p2)))), (3, .one (.pt 3 (f1 0 0) 0)), (4, .one (.pt 4 (f1 1 0) 0))], [(3, some (f1 0 0, .box (LinkHeld.cs .bor p0))), (4, some (f1 1 0, .box (FlyPath.cs .bor p1)))], 19⟩) (fun f => by kernel_rfl) (fun f => by kernel_rfl) fun f1 => ?_
  refine xr hT [ca (c193 p0.Path p1 p2 (by first | assumption | exact (by omega : p0.Path.Steps.length ≤ 1048576)) (by first | assumption | exact (by omega : p1.Steps.length ≤ 1048576))), cg (!(impl_near p0.Path p1 p2)) (fun h => by (try simp only [Bool.and_eq_true, Bool.or_eq_true, decide_eq_true_eq, Bool.not_eq_true', decide_eq_false_iff_not] at h); exact c193 p0.Next p1 p2 (by first | assumption | exact (by omega : p0.Next.Steps.length ≤ 1048576)) (by first | assumption | exact (by omega : p1.Steps.length ≤ 1048576)))] (fun f2 => ⟨[(6, .one (.c (.v (.bool ((impl_near p0.Path p1 p2) || (impl_near p0.Next p1 p2))))))], [], 19⟩) (fun f => by kernel_rfl) (fun f => by kernel_rfl) fun f2 => ?_
  refine w_ret ?_
  subst hR
  exact x_ret (by kernel_rfl)

def impl_LinkBookOk_I1 (p0 : LinkBook) (p1 : Int) (fs : Nat → Nat → Nat) (i1 : Nat) (s1 : List Int) (x1 : Nat → Nat) : St := ⟨[(1, .one (.c (.v (.int .i64 p1)))), (2, .one (.pt 2 (x1 0) 0)), (5, .one (.mp 25 (x1 1))), (27, .one (.c (.sl .bor 13 (p0.Held.map LinkHeld.row)))), (28, .one (.c (.v (.int .i64 (p0.Held.length : Int))))), (29, .one (.c (.v (.int .i64 ((i1 : Nat) : Int)))))], [(2, some (x1 0, .box (LinkBook.cs .bor p0))), (25, some (x1 1, .mp s1))], 134⟩
def impl_LinkBookOk_J1 (p0 : LinkBook) (p1 : Int) (fs : Nat → Nat → Nat) (s1 : List Int) (x1 : Nat → Nat) : St := ⟨[], [], 134⟩
def impl_LinkBookOk_v1 (p0 : LinkBook) (i1 : Nat) (s1 : List Int) : Bool := ((((!(impl_name ((p0.Held.getD i1 default).Name))) || ((decide (0 < ((i1 : Nat) : Int))) && (!Op.bytesLess ((p0.Held.getD ((((i1 : Nat) : Int) - 1).toNat) default).Name).toList ((p0.Held.getD i1 default).Name).toList))) || (!(impl_in ((p0.Held.getD i1 default).Number) 1 p0.Last))) || (decide ((p0.Held.getD i1 default).Number ∈ s1))) || (!(impl_flown ((p0.Held.getD i1 default).Path)))
def impl_LinkBookOk_I2 (p0 : LinkBook) (p1 : Int) (i1 : Nat) (s1 : List Int) (fs : Nat → Nat → Nat) (i2 : Nat) (s2 : Unit) (x2 : Nat → Nat) : St := ⟨[(1, .one (.c (.v (.int .i64 p1)))), (2, .one (.pt 2 (x2 0) 0)), (5, .one (.mp 25 (x2 2))), (7, .one (.pt 7 (x2 1) 0)), (27, .one (.c (.sl .bor 13 (p0.Held.map LinkHeld.row)))), (28, .one (.c (.v (.int .i64 (p0.Held.length : Int))))), (29, .one (.c (.v (.int .i64 ((i1 : Nat) : Int))))), (114, .one (.c (.sl .bor 13 (((p0.Held.drop 0).take (i1 - 0)).map LinkHeld.row)))), (115, .one (.c (.v (.int .i64 (((p0.Held.drop 0).take (i1 - 0)).length : Int))))), (116, .one (.c (.v (.int .i64 ((i2 : Nat) : Int)))))], [(2, some (x2 0, .box (LinkBook.cs .bor p0))), (7, some (x2 1, .box (LinkHeld.cs .bor (p0.Held.getD i1 default)))), (25, some (x2 2, .mp (insK s1 ((p0.Held.getD i1 default).Number))))], 134⟩
def impl_LinkBookOk_J2 (p0 : LinkBook) (p1 : Int) (i1 : Nat) (s1 : List Int) (fs : Nat → Nat → Nat) (s2 : Unit) (x2 : Nat → Nat) : St := ⟨[(1, .one (.c (.v (.int .i64 p1)))), (2, .one (.pt 2 (x2 0) 0)), (5, .one (.mp 25 (x2 2))), (27, .one (.c (.sl .bor 13 (p0.Held.map LinkHeld.row)))), (28, .one (.c (.v (.int .i64 (p0.Held.length : Int))))), (29, .one (.c (.v (.int .i64 ((i1 : Nat) : Int)))))], [(2, some (x2 0, .box (LinkBook.cs .bor p0))), (25, some (x2 2, .mp (insK s1 ((p0.Held.getD i1 default).Number))))], 134⟩
def impl_LinkBookOk_v2 (p0 : LinkBook) (p1 : Int) (i1 : Nat) (i2 : Nat) : Bool := (impl_LinkHeld_near (((p0.Held.drop 0).take (i1 - 0)).getD i2 default) ((p0.Held.getD i1 default).Path) p1) || (impl_LinkHeld_near (((p0.Held.drop 0).take (i1 - 0)).getD i2 default) ((p0.Held.getD i1 default).Next) p1)
def impl_LinkBookOk_b2 (p0 : LinkBook) (p1 : Int) (i1 : Nat) (s1 : List Int) (i2 : Nat) (s2 : Unit) : Res (Unit) (Res (List Int) Bool) := (if (impl_LinkBookOk_v2 p0 p1 i1 i2) then (.ret (.ret false)) else (.next ()))
def impl_LinkBookOk_r2 (p0 : LinkBook) (p1 : Int) (i1 : Nat) (s1 : List Int) (s2 : Unit) : (Res (List Int) Bool) := (.next (insK s1 ((p0.Held.getD i1 default).Number)))
def impl_LinkBookOk_v3 (p0 : LinkBook) (i1 : Nat) (s1 : List Int) : Bool := (((decide (((p0.Held.getD i1 default).Sent) ≤ ((p0.Held.getD i1 default).Number))) || (decide (p0.Last < ((p0.Held.getD i1 default).Sent)))) || (decide ((p0.Held.getD i1 default).Sent ∈ (insK s1 ((p0.Held.getD i1 default).Number))))) || (!(impl_flown ((p0.Held.getD i1 default).Next)))
def impl_LinkBookOk_I3 (p0 : LinkBook) (p1 : Int) (i1 : Nat) (s1 : List Int) (fs : Nat → Nat → Nat) (i3 : Nat) (s3 : Unit) (x3 : Nat → Nat) : St := ⟨[(1, .one (.c (.v (.int .i64 p1)))), (2, .one (.pt 2 (x3 0) 0)), (5, .one (.mp 25 (x3 2))), (7, .one (.pt 7 (x3 1) 0)), (27, .one (.c (.sl .bor 13 (p0.Held.map LinkHeld.row)))), (28, .one (.c (.v (.int .i64 (p0.Held.length : Int))))), (29, .one (.c (.v (.int .i64 ((i1 : Nat) : Int))))), (114, .one (.c (.sl .bor 13 (((p0.Held.drop 0).take (i1 - 0)).map LinkHeld.row)))), (115, .one (.c (.v (.int .i64 (((p0.Held.drop 0).take (i1 - 0)).length : Int))))), (116, .one (.c (.v (.int .i64 ((i3 : Nat) : Int)))))], [(2, some (x3 0, .box (LinkBook.cs .bor p0))), (7, some (x3 1, .box (LinkHeld.cs .bor (p0.Held.getD i1 default)))), (25, some (x3 2, .mp (insK (insK s1 ((p0.Held.getD i1 default).Number)) ((p0.Held.getD i1 default).Sent))))], 134⟩
def impl_LinkBookOk_J3 (p0 : LinkBook) (p1 : Int) (i1 : Nat) (s1 : List Int) (fs : Nat → Nat → Nat) (s3 : Unit) (x3 : Nat → Nat) : St := ⟨[(1, .one (.c (.v (.int .i64 p1)))), (2, .one (.pt 2 (x3 0) 0)), (5, .one (.mp 25 (x3 2))), (27, .one (.c (.sl .bor 13 (p0.Held.map LinkHeld.row)))), (28, .one (.c (.v (.int .i64 (p0.Held.length : Int))))), (29, .one (.c (.v (.int .i64 ((i1 : Nat) : Int)))))], [(2, some (x3 0, .box (LinkBook.cs .bor p0))), (25, some (x3 2, .mp (insK (insK s1 ((p0.Held.getD i1 default).Number)) ((p0.Held.getD i1 default).Sent))))], 134⟩
def impl_LinkBookOk_v4 (p0 : LinkBook) (p1 : Int) (i1 : Nat) (i3 : Nat) : Bool := (impl_LinkHeld_near (((p0.Held.drop 0).take (i1 - 0)).getD i3 default) ((p0.Held.getD i1 default).Path) p1) || (impl_LinkHeld_near (((p0.Held.drop 0).take (i1 - 0)).getD i3 default) ((p0.Held.getD i1 default).Next) p1)
def impl_LinkBookOk_b3 (p0 : LinkBook) (p1 : Int) (i1 : Nat) (s1 : List Int) (i3 : Nat) (s3 : Unit) : Res (Unit) (Res (List Int) Bool) := (if (impl_LinkBookOk_v4 p0 p1 i1 i3) then (.ret (.ret false)) else (.next ()))
def impl_LinkBookOk_r3 (p0 : LinkBook) (p1 : Int) (i1 : Nat) (s1 : List Int) (s3 : Unit) : (Res (List Int) Bool) := (.next (insK (insK s1 ((p0.Held.getD i1 default).Number)) ((p0.Held.getD i1 default).Sent)))
def impl_LinkBookOk_b1 (p0 : LinkBook) (p1 : Int) (i1 : Nat) (s1 : List Int) : Res (List Int) Bool := (if (impl_LinkBookOk_v1 p0 i1 s1) then (.ret false) else (if decide (((p0.Held.getD i1 default).Sent) = 0) then (if !(impl_nothing ((p0.Held.getD i1 default).Next)) then (.ret false) else (Res.fin (impl_LinkBookOk_r2 p0 p1 i1 s1) (forN (impl_LinkBookOk_b2 p0 p1 i1 s1) (((p0.Held.drop 0).take (i1 - 0)).length - 0) 0 ()))) else (if (impl_LinkBookOk_v3 p0 i1 s1) then (.ret false) else (Res.fin (impl_LinkBookOk_r3 p0 p1 i1 s1) (forN (impl_LinkBookOk_b3 p0 p1 i1 s1) (((p0.Held.drop 0).take (i1 - 0)).length - 0) 0 ())))))
def impl_LinkBookOk_r1 (p0 : LinkBook) (p1 : Int) (s1 : List Int) : Bool := true
/-- impl.LinkBookOk -/
def impl_LinkBookOk (p0 : LinkBook) (p1 : Int) : Bool := (if ((decide (8 < (p0.Held.length : Int))) || (!(impl_in p1 0 10000))) || (!(impl_in p0.Last 0 1000000)) then false else (Res.fin (impl_LinkBookOk_r1 p0 p1) (forN (impl_LinkBookOk_b1 p0 p1) (p0.Held.length - 0) 0 ([] : List Int))))
theorem c73 (p0 : LinkBook) (p1 : Int) (k0_0 : LinkBook.ok p0) : Fn Proofs.Try.prog 73 [⟨.val, true, LinkBook.cs .bor p0⟩, ⟨.val, false, [.v (.int .i64 p1)]⟩] [.c (.v (.bool (impl_LinkBookOk p0 p1)))] [] := by
  obtain ⟨R, hR⟩ : ∃ R, R = impl_LinkBookOk p0 p1 := ⟨_, rfl⟩
  rw [← hR]
  rw [impl_LinkBookOk] at hR
  refine ⟨fn_intro hT Proofs.Try.func73 rfl rfl fun fs => ?_, _, Proofs.Try.func73, rfl, rfl⟩
  have q0 := k0_0; simp only [LinkBook.ok] at q0
  refine xr hT [] (fun f1 => ⟨[(1, .one (.c (.v (.int .i64 p1)))), (2, .one (.pt 2 (f1 0 0) 0))], [(2, some (f1 0 0, .box (LinkBook.cs .bor p0)))], 134⟩) (fun f => by kernel_rfl) (fun f => by kernel_rfl) fun f1 => ?_
  refine w_seq ?_
  refine xr hT [.ln LinkHeld.row p0.Held, cg (!(decide (8 < (p0.Held.length : Int)))) (fun _ => c95 p1 0 10000), cg (!((decide (8 < (p0.Held.length : Int))) || (!(impl_in p1 0 10000)))) (fun _ => c95 p0.Last 0 1000000)] (fun f2 => ⟨[(1, .one (.c (.v (.int .i64 p1)))), (2, .one (.pt 2 (f1 0 0) 0)), (24, .one (.c (.v (.bool (((decide (8 < (p0.Held.length : Int))) || (!(impl_in p1 0 10000))) || (!(impl_in p0.Last 0 1000000)))))))], [(2, some (f1 0 0, .box (LinkBook.cs .bor p0)))], 134⟩) (fun f => by kernel_rfl) (fun f => by kernel_rfl) fun f2 => ?_
  refine w_cond rfl (fun h3 => ?_) fun h3 => ?_
  · rw [if_pos h3] at hR
    have gh3 := h3; try simp only [impl_in, Bool.not_eq_true', Bool.not_eq_false', decide_eq_true_eq, decide_eq_false_iff_not, Bool.and_eq_true, Bool.or_eq_true, Bool.and_eq_false_iff, Bool.or_eq_false_iff] at gh3
    refine xr hT [] (fun f4 => ⟨[(4, .one (.c (.v (.bool false))))], [], 134⟩) (fun f => by kernel_rfl) (fun f => by kernel_rfl) fun f4 => ?_
    refine w_ret ?_
    subst hR
    exact x_ret (by kernel_rfl)
  rw [if_neg (nt h3)] at hR
  have gh3 := h3; try simp only [impl_in, Bool.not_eq_true', Bool.not_eq_false', decide_eq_true_eq, decide_eq_false_iff_not, Bool.and_eq_true, Bool.or_eq_true, Bool.and_eq_false_iff, Bool.or_eq_false_iff] at gh3
  refine w_skip ?_
  refine xr hT [] (fun f5 => ⟨[(1, .one (.c (.v (.int .i64 p1)))), (2, .one (.pt 2 (f1 0 0) 0)), (5, .one (.mp 25 (f5 0 0)))], [(2, some (f1 0 0, .box (LinkBook.cs .bor p0))), (25, some (f5 0 0, .mp ([] : List Int)))], 134⟩) (fun f => by kernel_rfl) (fun f => by kernel_rfl) fun f5 => ?_
  refine w_seq ?_
  refine xr hT [.ln LinkHeld.row p0.Held] (fun f6 => ⟨[(1, .one (.c (.v (.int .i64 p1)))), (2, .one (.pt 2 (f1 0 0) 0)), (5, .one (.mp 25 (f5 0 0))), (27, .one (.c (.sl .bor 13 (p0.Held.map LinkHeld.row)))), (28, .one (.c (.v (.int .i64 (p0.Held.length : Int))))), (29, .one (.c (.v (.int .i64 0))))], [(2, some (f1 0 0, .box (LinkBook.cs .bor p0))), (25, some (f5 0 0, .mp ([] : List Int)))], 134⟩) (fun f => by kernel_rfl) (fun f => by kernel_rfl) fun f6 => ?_
  refine w_forT (fun _ => rfl) (impl_LinkBookOk_I1 p0 p1 fs) (impl_LinkBookOk_J1 p0 p1 fs) (fun i1 s1 => True) (fun s1 => True) (p0.Held.length) 0 (impl_LinkBookOk_b1 p0 p1) (impl_LinkBookOk_r1 p0 p1) 0 (([] : List Int)) (lst [f1 0 0, f5 0 0]) (sb (by kernel_rfl)) trivial hR ?_ ?_
  · skip
    intro i1 s1 x1 hI1 hX1
    refine xr hT [] (fun f7 => ⟨[(1, .one (.c (.v (.int .i64 p1)))), (2, .one (.pt 2 (x1 0) 0)), (5, .one (.mp 25 (x1 1))), (27, .one (.c (.sl .bor 13 (p0.Held.map LinkHeld.row)))), (28, .one (.c (.v (.int .i64 (p0.Held.length : Int))))), (29, .one (.c (.v (.int .i64 ((i1 : Nat) : Int))))), (30, .one (.c (.v (.bool (decide (((i1 : Nat) : Int) < (p0.Held.length : Int)))))))], [(2, some (x1 0, .box (LinkBook.cs .bor p0))), (25, some (x1 1, .mp s1))], 134⟩) (fun f => by kernel_rfl) (fun f => by kernel_rfl) fun f7 => ?_
    refine w_seq ?_
    refine w_cond rfl (fun h8 => ?_) fun h8 => ?_
    · skip
      have hl1 : i1 < p0.Held.length := by have hq := of_decide_eq_true h8; first | omega | ((try simp only [LN, impl_LinkHeld_near, impl_flown, impl_name, impl_nothing, impl_LinkBookOk_v1, impl_LinkBookOk_v2, impl_LinkBookOk_v3, impl_LinkBookOk_v4] at *); omega)
      obtain ⟨B1, hB1⟩ : ∃ B, B = impl_LinkBookOk_b1 p0 p1 i1 s1 := ⟨_, rfl⟩
      have hE1 := hB1
      rw [impl_LinkBookOk_b1] at hE1
      refine w_skip ?_
      refine w_seq ?_
      refine w_block ?_
      try have e10 := okget (xs := p0.Held) (k := i1) (q0.2) (by first | omega | ((try simp only [LN, impl_LinkHeld_near, impl_flown, impl_name, impl_nothing, impl_LinkBookOk_v1, impl_LinkBookOk_v2, impl_LinkBookOk_v3, impl_LinkBookOk_v4]); omega))
      try simp only [LinkHeld.ok] at e10
      refine xr hT [ix LinkHeld.row p0.Held i1 (by omega), .rw (FlyStep.rv ((p0.Held.getD i1 default).Path.Steps)), .rw (FlyStep.rv ((p0.Held.getD i1 default).Next.Steps))] (fun f9 => ⟨[(1, .one (.c (.v (.int .i64 p1)))), (2, .one (.pt 2 (x1 0) 0)), (5, .one (.mp 25 (x1 1))), (6, .one (.c (.v (.int .i64 ((i1 : Nat) : Int))))), (7, .one (.pt 7 (f9 3 0) 0)), (27, .one (.c (.sl .bor 13 (p0.Held.map LinkHeld.row)))), (28, .one (.c (.v (.int .i64 (p0.Held.length : Int))))), (29, .one (.c (.v (.int .i64 ((i1 : Nat) : Int)))))], [(2, some (x1 0, .box (LinkBook.cs .bor p0))), (7, some (f9 3 0, .box (LinkHeld.cs .bor (p0.Held.getD i1 default)))), (25, some (x1 1, .mp s1))], 134⟩) (fun f => by kernel_rfl) (fun f => by kernel_rfl) fun f9 => ?_
      refine w_seq ?_
      try have e12 := okget (xs := p0.Held) (k := (((i1 : Nat) : Int) - 1).toNat) (q0.2) (by first | omega | ((try simp only [LN, impl_LinkHeld_near, impl_flown, impl_name, impl_nothing, impl_LinkBookOk_v1, impl_LinkBookOk_v2, impl_LinkBookOk_v3, impl_LinkBookOk_v4]); omega))
      try simp only [LinkHeld.ok] at e12
      refine xd hT hM [ca (c94 ((p0.Held.getD i1 default).Name)), .ex (decide (0 < ((i1 : Nat) : Int)) && !(!(impl_name ((p0.Held.getD i1 default).Name)))) (((i1 : Nat) : Int) - 1) (((i1 : Nat) : Int) - 1) (fun h => by (try simp only [Bool.and_eq_true, Bool.or_eq_true, decide_eq_true_eq, Bool.not_eq_true', decide_eq_false_iff_not] at h); exact wr_eq (by omega) (by omega)), izg (decide (0 < ((i1 : Nat) : Int)) && !(!(impl_name ((p0.Held.getD i1 default).Name)))) LinkHeld.row p0.Held (((i1 : Nat) : Int) - 1) (fun h => by (try simp only [Bool.and_eq_true, Bool.or_eq_true, decide_eq_true_eq, Bool.not_eq_true', decide_eq_false_iff_not] at h); omega), cg (!((!(impl_name ((p0.Held.getD i1 default).Name))) || ((decide (0 < ((i1 : Nat) : Int))) && (!Op.bytesLess ((p0.Held.getD ((((i1 : Nat) : Int) - 1).toNat) default).Name).toList ((p0.Held.getD i1 default).Name).toList)))) (fun _ => c95 ((p0.Held.getD i1 default).Number) 1 p0.Last), .und Proofs.Try.underlying3, .mpz (t := 4) (by kernel_rfl), cg (!((((!(impl_name ((p0.Held.getD i1 default).Name))) || ((decide (0 < ((i1 : Nat) : Int))) && (!Op.bytesLess ((p0.Held.getD ((((i1 : Nat) : Int) - 1).toNat) default).Name).toList ((p0.Held.getD i1 default).Name).toList))) || (!(impl_in ((p0.Held.getD i1 default).Number) 1 p0.Last))) || (decide ((p0.Held.getD i1 default).Number ∈ s1)))) (fun h => by (try simp only [Bool.and_eq_true, Bool.or_eq_true, decide_eq_true_eq, Bool.not_eq_true', decide_eq_false_iff_not] at h); exact c156 ((p0.Held.getD i1 default).Path) (by first | assumption | exact (by omega : ((p0.Held.getD i1 default).Path.Steps).length ≤ 1048576)))] (fun f11 => ⟨[(1, .one (.c (.v (.int .i64 p1)))), (2, .one (.pt 2 (x1 0) 0)), (5, .one (.mp 25 (x1 1))), (6, .one (.c (.v (.int .i64 ((i1 : Nat) : Int))))), (7, .one (.pt 7 (f9 3 0) 0)), (27, .one (.c (.sl .bor 13 (p0.Held.map LinkHeld.row)))), (28, .one (.c (.v (.int .i64 (p0.Held.length : Int))))), (29, .one (.c (.v (.int .i64 ((i1 : Nat) : Int))))), (73, .one (.c (.v (.bool (impl_LinkBookOk_v1 p0 i1 s1)))))], [(2, some (x1 0, .box (LinkBook.cs .bor p0))), (7, some (f9 3 0, .box (LinkHeld.cs .bor (p0.Held.getD i1 default)))), (25, some (x1 1, .mp s1))], 134⟩) (fun f => by kernel_rfl) (fun f => by kernel_rfl) (fun f => by kernel_rfl) fun f11 => ?_
      refine w_cond rfl (fun h13 => ?_) fun h13 => ?_
      · rw [if_pos h13] at hE1
        have gh13 := h13; try simp only [impl_in, impl_LinkBookOk_v1, Bool.not_eq_true', Bool.not_eq_false', decide_eq_true_eq, decide_eq_false_iff_not, Bool.and_eq_true, Bool.or_eq_true, Bool.and_eq_false_iff, Bool.or_eq_false_iff] at gh13
        refine xr hT [] (fun f14 => ⟨[(4, .one (.c (.v (.bool false))))], [], 134⟩) (fun f => by kernel_rfl) (fun f => by kernel_rfl) fun f14 => ?_
        refine w_ret ?_
        have hR := hX1.trans (forN_ret hl1 (hB1.symm.trans hE1))
        subst hR
        exact x_ret (by kernel_rfl)
      rw [if_neg (nt h13)] at hE1
      have gh13 := h13; try simp only [impl_in, impl_LinkBookOk_v1, Bool.not_eq_true', Bool.not_eq_false', decide_eq_true_eq, decide_eq_false_iff_not, Bool.and_eq_true, Bool.or_eq_true, Bool.and_eq_false_iff, Bool.or_eq_false_iff] at gh13
      refine w_skip ?_
      refine xr hT [.und Proofs.Try.underlying3] (fun f15 => ⟨[(1, .one (.c (.v (.int .i64 p1)))), (2, .one (.pt 2 (x1 0) 0)), (5, .one (.mp 25 (x1 1))), (6, .one (.c (.v (.int .i64 ((i1 : Nat) : Int))))), (7, .one (.pt 7 (f9 3 0) 0)), (27, .one (.c (.sl .bor 13 (p0.Held.map LinkHeld.row)))), (28, .one (.c (.v (.int .i64 (p0.Held.length : Int))))), (29, .one (.c (.v (.int .i64 ((i1 : Nat) : Int)))))], [(2, some (x1 0, .box (LinkBook.cs .bor p0))), (7, some (f9 3 0, .box (LinkHeld.cs .bor (p0.Held.getD i1 default)))), (25, some (x1 1, .mp (insK s1 ((p0.Held.getD i1 default).Number))))], 134⟩) (fun f => by kernel_rfl) (fun f => by kernel_rfl) fun f15 => ?_
      refine w_seq ?_
      refine xr hT [] (fun f16 => ⟨[(1, .one (.c (.v (.int .i64 p1)))), (2, .one (.pt 2 (x1 0) 0)), (5, .one (.mp 25 (x1 1))), (6, .one (.c (.v (.int .i64 ((i1 : Nat) : Int))))), (7, .one (.pt 7 (f9 3 0) 0)), (27, .one (.c (.sl .bor 13 (p0.Held.map LinkHeld.row)))), (28, .one (.c (.v (.int .i64 (p0.Held.length : Int))))), (29, .one (.c (.v (.int .i64 ((i1 : Nat) : Int))))), (79, .one (.c (.v (.bool (decide (((p0.Held.getD i1 default).Sent) = 0))))))], [(2, some (x1 0, .box (LinkBook.cs .bor p0))), (7, some (f9 3 0, .box (LinkHeld.cs .bor (p0.Held.getD i1 default)))), (25, some (x1 1, .mp (insK s1 ((p0.Held.getD i1 default).Number))))], 134⟩) (fun f => by kernel_rfl) (fun f => by kernel_rfl) fun f16 => ?_
      refine w_cond rfl (fun h17 => ?_) fun h17 => ?_
      · rw [if_pos h17] at hE1
        have gh17 := of_decide_eq_true h17
        refine xr hT [ca (c157 ((p0.Held.getD i1 default).Next) (by first | assumption | exact (by omega : ((p0.Held.getD i1 default).Next.Steps).length ≤ 1048576)))] (fun f18 => ⟨[(1, .one (.c (.v (.int .i64 p1)))), (2, .one (.pt 2 (x1 0) 0)), (5, .one (.mp 25 (x1 1))), (6, .one (.c (.v (.int .i64 ((i1 : Nat) : Int))))), (7, .one (.pt 7 (f9 3 0) 0)), (27, .one (.c (.sl .bor 13 (p0.Held.map LinkHeld.row)))), (28, .one (.c (.v (.int .i64 (p0.Held.length : Int))))), (29, .one (.c (.v (.int .i64 ((i1 : Nat) : Int))))), (83, .one (.c (.v (.bool (!(impl_nothing ((p0.Held.getD i1 default).Next)))))))], [(2, some (x1 0, .box (LinkBook.cs .bor p0))), (7, some (f9 3 0, .box (LinkHeld.cs .bor (p0.Held.getD i1 default)))), (25, some (x1 1, .mp (insK s1 ((p0.Held.getD i1 default).Number))))], 134⟩) (fun f => by kernel_rfl) (fun f => by kernel_rfl) fun f18 => ?_
        refine w_cond rfl (fun h19 => ?_) fun h19 => ?_
        · rw [if_pos h19] at hE1
          refine xr hT [] (fun f20 => ⟨[(4, .one (.c (.v (.bool false))))], [], 134⟩) (fun f => by kernel_rfl) (fun f => by kernel_rfl) fun f20 => ?_
          refine w_ret ?_
          have hR := hX1.trans (forN_ret hl1 (hB1.symm.trans hE1))
          subst hR
          exact x_ret (by kernel_rfl)
        rw [if_neg (nt h19)] at hE1
        refine w_skip ?_
        refine xr hT [.sl true LinkHeld.row p0.Held (0) (((i1 : Nat) : Int)) 0 i1 (fun h => ⟨by omega, by omega, by omega, by omega⟩), .ln LinkHeld.row ((p0.Held.drop 0).take (i1 - 0))] (fun f21 => ⟨[(1, .one (.c (.v (.int .i64 p1)))), (2, .one (.pt 2 (x1 0) 0)), (5, .one (.mp 25 (x1 1))), (7, .one (.pt 7 (f9 3 0) 0)), (27, .one (.c (.sl .bor 13 (p0.Held.map LinkHeld.row)))), (28, .one (.c (.v (.int .i64 (p0.Held.length : Int))))), (29, .one (.c (.v (.int .i64 ((i1 : Nat) : Int))))), (114, .one (.c (.sl .bor 13 (((p0.Held.drop 0).take (i1 - 0)).map LinkHeld.row)))), (115, .one (.c (.v (.int .i64 (((p0.Held.drop 0).take (i1 - 0)).length : Int))))), (116, .one (.c (.v (.int .i64 0))))], [(2, some (x1 0, .box (LinkBook.cs .bor p0))), (7, some (f9 3 0, .box (LinkHeld.cs .bor (p0.Held.getD i1 default)))), (25, some (x1 1, .mp (insK s1 ((p0.Held.getD i1 default).Number))))], 134⟩) (fun f => by kernel_rfl) (fun f => by kernel_rfl) fun f21 => ?_
        refine w_forT (fun _ => rfl) (impl_LinkBookOk_I2 p0 p1 i1 s1 fs) (impl_LinkBookOk_J2 p0 p1 i1 s1 fs) (fun i2 s2 => True) (fun s2 => True) (((p0.Held.drop 0).take (i1 - 0)).length) 2 (impl_LinkBookOk_b2 p0 p1 i1 s1) (impl_LinkBookOk_r2 p0 p1 i1 s1) 0 (()) (lst [x1 0, f9 3 0, x1 1]) (sb (by kernel_rfl)) trivial hE1 ?_ ?_
        · skip
          intro i2 s2 x2 hI2 hX2
          refine xr hT [] (fun f22 => ⟨[(1, .one (.c (.v (.int .i64 p1)))), (2, .one (.pt 2 (x2 0) 0)), (5, .one (.mp 25 (x2 2))), (7, .one (.pt 7 (x2 1) 0)), (27, .one (.c (.sl .bor 13 (p0.Held.map LinkHeld.row)))), (28, .one (.c (.v (.int .i64 (p0.Held.length : Int))))), (29, .one (.c (.v (.int .i64 ((i1 : Nat) : Int))))), (114, .one (.c (.sl .bor 13 (((p0.Held.drop 0).take (i1 - 0)).map LinkHeld.row)))), (115, .one (.c (.v (.int .i64 (((p0.Held.drop 0).take (i1 - 0)).length : Int))))), (116, .one (.c (.v (.int .i64 ((i2 : Nat) : Int))))), (117, .one (.c (.v (.bool (decide (((i2 : Nat) : Int) < (((p0.Held.drop 0).take (i1 - 0)).length : Int)))))))], [(2, some (x2 0, .box (LinkBook.cs .bor p0))), (7, some (x2 1, .box (LinkHeld.cs .bor (p0.Held.getD i1 default)))), (25, some (x2 2, .mp (insK s1 ((p0.Held.getD i1 default).Number))))], 134⟩) (fun f => by kernel_rfl) (fun f => by kernel_rfl) fun f22 => ?_
          refine w_seq ?_
          refine w_cond rfl (fun h23 => ?_) fun h23 => ?_
          · skip
            have hl2 : i2 < ((p0.Held.drop 0).take (i1 - 0)).length := by have hq := of_decide_eq_true h23; first | omega | ((try simp only [LN, impl_LinkHeld_near, impl_flown, impl_name, impl_nothing, impl_LinkBookOk_v1, impl_LinkBookOk_v2, impl_LinkBookOk_v3, impl_LinkBookOk_v4] at *); omega)
            have hl2x := hl2; try simp only [LN, impl_LinkHeld_near, impl_flown, impl_name, impl_nothing, impl_LinkBookOk_v1, impl_LinkBookOk_v2, impl_LinkBookOk_v3, impl_LinkBookOk_v4] at hl2x
            obtain ⟨B2, hB2⟩ : ∃ B, B = impl_LinkBookOk_b2 p0 p1 i1 s1 i2 s2 := ⟨_, rfl⟩
            have hE2 := hB2
            rw [impl_LinkBookOk_b2] at hE2
            refine w_skip ?_
            refine w_seq ?_
            refine w_block ?_
            try have e25 := okget (xs := (p0.Held.drop 0).take (i1 - 0)) (k := i2) ((oksl q0.2)) (by first | omega | ((try simp only [LN, impl_LinkHeld_near, impl_flown, impl_name, impl_nothing, impl_LinkBookOk_v1, impl_LinkBookOk_v2, impl_LinkBookOk_v3, impl_LinkBookOk_v4]); omega))
            try simp only [LinkHeld.ok] at e25
            refine xr hT [ix LinkHeld.row ((p0.Held.drop 0).take (i1 - 0)) i2 (by (first | omega | ((try simp only [LN, impl_LinkHeld_near, impl_flown, impl_name, impl_nothing, impl_LinkBookOk_v1, impl_LinkBookOk_v2, impl_LinkBookOk_v3, impl_LinkBookOk_v4]); omega) | ((try simp only [wr, IntKind.wrap_i64, LN, impl_LinkHeld_near, impl_flown, impl_name, impl_nothing, impl_LinkBookOk_v1, impl_LinkBookOk_v2, impl_LinkBookOk_v3, impl_LinkBookOk_v4] at *); omega) | (simp_all <;> omega))), .rw (FlyStep.rv ((((p0.Held.drop 0).take (i1 - 0)).getD i2 default).Path.Steps)), .rw (FlyStep.rv ((((p0.Held.drop 0).take (i1 - 0)).getD i2 default).Next.Steps))] (fun f24 => ⟨[(1, .one (.c (.v (.int .i64 p1)))), (2, .one (.pt 2 (x2 0) 0)), (5, .one (.mp 25 (x2 2))), (7, .one (.pt 7 (x2 1) 0)), (9, .one (.pt 9 (f24 2 0) 0)), (27, .one (.c (.sl .bor 13 (p0.Held.map LinkHeld.row)))), (28, .one (.c (.v (.int .i64 (p0.Held.length : Int))))), (29, .one (.c (.v (.int .i64 ((i1 : Nat) : Int))))), (114, .one (.c (.sl .bor 13 (((p0.Held.drop 0).take (i1 - 0)).map LinkHeld.row)))), (115, .one (.c (.v (.int .i64 (((p0.Held.drop 0).take (i1 - 0)).length : Int))))), (116, .one (.c (.v (.int .i64 ((i2 : Nat) : Int)))))], [(2, some (x2 0, .box (LinkBook.cs .bor p0))), (7, some (x2 1, .box (LinkHeld.cs .bor (p0.Held.getD i1 default)))), (9, some (f24 2 0, .box (LinkHeld.cs .bor (((p0.Held.drop 0).take (i1 - 0)).getD i2 default)))), (25, some (x2 2, .mp (insK s1 ((p0.Held.getD i1 default).Number))))], 134⟩) (fun f => by kernel_rfl) (fun f => by kernel_rfl) fun f24 => ?_
            refine xr hT [ca (c158 (((p0.Held.drop 0).take (i1 - 0)).getD i2 default) ((p0.Held.getD i1 default).Path) p1 (by first | assumption | exact ⟨(show ((((p0.Held.drop 0).take (i1 - 0)).getD i2 default).Path.Steps).length ≤ 1048576 from by (try simp only [LN, impl_LinkHeld_near, impl_flown, impl_name, impl_nothing, impl_LinkBookOk_v1, impl_LinkBookOk_v2, impl_LinkBookOk_v3, impl_LinkBookOk_v4]); omega), (show ((((p0.Held.drop 0).take (i1 - 0)).getD i2 default).Next.Steps).length ≤ 1048576 from by (try simp only [LN, impl_LinkHeld_near, impl_flown, impl_name, impl_nothing, impl_LinkBookOk_v1, impl_LinkBookOk_v2, impl_LinkBookOk_v3, impl_LinkBookOk_v4]); omega)⟩) (by first | assumption | exact (by omega : ((p0.Held.getD i1 default).Path.Steps).length ≤ 1048576))), cg (!(impl_LinkHeld_near (((p0.Held.drop 0).take (i1 - 0)).getD i2 default) ((p0.Held.getD i1 default).Path) p1)) (fun h => by (try simp only [Bool.and_eq_true, Bool.or_eq_true, decide_eq_true_eq, Bool.not_eq_true', decide_eq_false_iff_not] at h); exact c158 (((p0.Held.drop 0).take (i1 - 0)).getD i2 default) ((p0.Held.getD i1 default).Next) p1 (by first | assumption | exact ⟨(show ((((p0.Held.drop 0).take (i1 - 0)).getD i2 default).Path.Steps).length ≤ 1048576 from by (try simp only [LN, impl_LinkHeld_near, impl_flown, impl_name, impl_nothing, impl_LinkBookOk_v1, impl_LinkBookOk_v2, impl_LinkBookOk_v3, impl_LinkBookOk_v4]); omega), (show ((((p0.Held.drop 0).take (i1 - 0)).getD i2 default).Next.Steps).length ≤ 1048576 from by (try simp only [LN, impl_LinkHeld_near, impl_flown, impl_name, impl_nothing, impl_LinkBookOk_v1, impl_LinkBookOk_v2, impl_LinkBookOk_v3, impl_LinkBookOk_v4]); omega)⟩) (by first | assumption | exact (by omega : ((p0.Held.getD i1 default).Next.Steps).length ≤ 1048576)))] (fun f26 => ⟨[(1, .one (.c (.v (.int .i64 p1)))), (2, .one (.pt 2 (x2 0) 0)), (5, .one (.mp 25 (x2 2))), (7, .one (.pt 7 (x2 1) 0)), (27, .one (.c (.sl .bor 13 (p0.Held.map LinkHeld.row)))), (28, .one (.c (.v (.int .i64 (p0.Held.length : Int))))), (29, .one (.c (.v (.int .i64 ((i1 : Nat) : Int))))), (114, .one (.c (.sl .bor 13 (((p0.Held.drop 0).take (i1 - 0)).map LinkHeld.row)))), (115, .one (.c (.v (.int .i64 (((p0.Held.drop 0).take (i1 - 0)).length : Int))))), (116, .one (.c (.v (.int .i64 ((i2 : Nat) : Int))))), (131, .one (.c (.v (.bool (impl_LinkBookOk_v2 p0 p1 i1 i2)))))], [(2, some (x2 0, .box (LinkBook.cs .bor p0))), (7, some (x2 1, .box (LinkHeld.cs .bor (p0.Held.getD i1 default)))), (25, some (x2 2, .mp (insK s1 ((p0.Held.getD i1 default).Number))))], 134⟩) (fun f => by kernel_rfl) (fun f => by kernel_rfl) fun f26 => ?_
            refine w_cond rfl (fun h27 => ?_) fun h27 => ?_
            · rw [if_pos h27] at hE2
              have gh27 := h27; try simp only [impl_LinkBookOk_v2, Bool.not_eq_true', Bool.not_eq_false', decide_eq_true_eq, decide_eq_false_iff_not, Bool.and_eq_true, Bool.or_eq_true, Bool.and_eq_false_iff, Bool.or_eq_false_iff] at gh27
              refine xr hT [] (fun f28 => ⟨[(4, .one (.c (.v (.bool false))))], [], 134⟩) (fun f => by kernel_rfl) (fun f => by kernel_rfl) fun f28 => ?_
              refine w_ret ?_
              have hE1 := hX2.trans (forN_ret hl2 (hB2.symm.trans hE2))
              have hR := hX1.trans (forN_ret hl1 (hB1.symm.trans hE1))
              subst hR
              exact x_ret (by kernel_rfl)
            rw [if_neg (nt h27)] at hE2
            have gh27 := h27; try simp only [impl_LinkBookOk_v2, Bool.not_eq_true', Bool.not_eq_false', decide_eq_true_eq, decide_eq_false_iff_not, Bool.and_eq_true, Bool.or_eq_true, Bool.and_eq_false_iff, Bool.or_eq_false_iff] at gh27
            refine w_skip ?_
            refine x_reg hT [.ex true (((i2 : Nat) : Int) + ((1 : Nat) : Int)) ((((i2 + 1) : Nat) : Int)) (fun _ => wr_nat (n := i2) (c := 1) (by omega))] (fun f29 => impl_LinkBookOk_I2 p0 p1 i1 s1 fs (i2 + 1) () (lst [x2 0, x2 1, x2 2])) (fun f => by kernel_rfl) (fun f => by kernel_rfl) fun f29 s' hs' => ?_
            exact ⟨(), (lst [x2 0, x2 1, x2 2]), hl2, trivial, hX2.trans (forN_next hl2 (hB2.symm.trans hE2)), hs'⟩
          have hq := of_decide_eq_false h23
          refine w_exit ?_
          exact ⟨s2, (lst [x2 0, x2 1, x2 2]), trivial, hX2.trans (forN_end (by first | omega | ((try simp only [LN, impl_LinkHeld_near, impl_flown, impl_name, impl_nothing, impl_LinkBookOk_v1, impl_LinkBookOk_v2, impl_LinkBookOk_v3, impl_LinkBookOk_v4] at *); omega))), sb (by kernel_rfl)⟩
        intro s2 x2 hF32 hR30
        rw [impl_LinkBookOk_r2] at hR30
        refine x_reg hT [.ex true (((i1 : Nat) : Int) + ((1 : Nat) : Int)) ((((i1 + 1) : Nat) : Int)) (fun _ => wr_nat (n := i1) (c := 1) (by omega))] (fun f31 => impl_LinkBookOk_I1 p0 p1 fs (i1 + 1) (insK s1 ((p0.Held.getD i1 default).Number)) (lst [x2 0, x2 2])) (fun f => by kernel_rfl) (fun f => by kernel_rfl) fun f31 s' hs' => ?_
        exact ⟨insK s1 ((p0.Held.getD i1 default).Number), (lst [x2 0, x2 2]), hl1, trivial, hX1.trans (forN_next hl1 (hB1.symm.trans hR30)), hs'⟩
      rw [if_neg (nt h17)] at hE1
      have gh17 := of_decide_eq_false h17
      refine w_seq ?_
      refine xr hT [.und Proofs.Try.underlying3, .mpz (t := 4) (by kernel_rfl), cg (!(((decide (((p0.Held.getD i1 default).Sent) ≤ ((p0.Held.getD i1 default).Number))) || (decide (p0.Last < ((p0.Held.getD i1 default).Sent)))) || (decide ((p0.Held.getD i1 default).Sent ∈ (insK s1 ((p0.Held.getD i1 default).Number)))))) (fun h => by (try simp only [Bool.and_eq_true, Bool.or_eq_true, decide_eq_true_eq, Bool.not_eq_true', decide_eq_false_iff_not] at h); exact c156 ((p0.Held.getD i1 default).Next) (by first | assumption | exact (by omega : ((p0.Held.getD i1 default).Next.Steps).length ≤ 1048576)))] (fun f33 => ⟨[(1, .one (.c (.v (.int .i64 p1)))), (2, .one (.pt 2 (x1 0) 0)), (5, .one (.mp 25 (x1 1))), (6, .one (.c (.v (.int .i64 ((i1 : Nat) : Int))))), (7, .one (.pt 7 (f9 3 0) 0)), (27, .one (.c (.sl .bor 13 (p0.Held.map LinkHeld.row)))), (28, .one (.c (.v (.int .i64 (p0.Held.length : Int))))), (29, .one (.c (.v (.int .i64 ((i1 : Nat) : Int))))), (107, .one (.c (.v (.bool (impl_LinkBookOk_v3 p0 i1 s1)))))], [(2, some (x1 0, .box (LinkBook.cs .bor p0))), (7, some (f9 3 0, .box (LinkHeld.cs .bor (p0.Held.getD i1 default)))), (25, some (x1 1, .mp (insK s1 ((p0.Held.getD i1 default).Number))))], 134⟩) (fun f => by kernel_rfl) (fun f => by kernel_rfl) fun f33 => ?_
      refine w_cond rfl (fun h34 => ?_) fun h34 => ?_
      · rw [if_pos h34] at hE1
        have gh34 := h34; try simp only [impl_LinkBookOk_v3, Bool.not_eq_true', Bool.not_eq_false', decide_eq_true_eq, decide_eq_false_iff_not, Bool.and_eq_true, Bool.or_eq_true, Bool.and_eq_false_iff, Bool.or_eq_false_iff] at gh34
        refine xr hT [] (fun f35 => ⟨[(4, .one (.c (.v (.bool false))))], [], 134⟩) (fun f => by kernel_rfl) (fun f => by kernel_rfl) fun f35 => ?_
        refine w_ret ?_
        have hR := hX1.trans (forN_ret hl1 (hB1.symm.trans hE1))
        subst hR
        exact x_ret (by kernel_rfl)
      rw [if_neg (nt h34)] at hE1
      have gh34 := h34; try simp only [impl_LinkBookOk_v3, Bool.not_eq_true', Bool.not_eq_false', decide_eq_true_eq, decide_eq_false_iff_not, Bool.and_eq_true, Bool.or_eq_true, Bool.and_eq_false_iff, Bool.or_eq_false_iff] at gh34
      refine w_skip ?_
      refine xr1 (fun _ => rfl) hT [.und Proofs.Try.underlying3] (fun f36 => ⟨[(1, .one (.c (.v (.int .i64 p1)))), (2, .one (.pt 2 (x1 0) 0)), (5, .one (.mp 25 (x1 1))), (6, .one (.c (.v (.int .i64 ((i1 : Nat) : Int))))), (7, .one (.pt 7 (f9 3 0) 0)), (27, .one (.c (.sl .bor 13 (p0.Held.map LinkHeld.row)))), (28, .one (.c (.v (.int .i64 (p0.Held.length : Int))))), (29, .one (.c (.v (.int .i64 ((i1 : Nat) : Int)))))], [(2, some (x1 0, .box (LinkBook.cs .bor p0))), (7, some (f9 3 0, .box (LinkHeld.cs .bor (p0.Held.getD i1 default)))), (25, some (x1 1, .mp (insK (insK s1 ((p0.Held.getD i1 default).Number)) ((p0.Held.getD i1 default).Sent))))], 134⟩) (fun f => by kernel_rfl) (fun f => by kernel_rfl) fun f36 => ?_
      refine xr hT [.sl true LinkHeld.row p0.Held (0) (((i1 : Nat) : Int)) 0 i1 (fun h => ⟨by omega, by omega, by omega, by omega⟩), .ln LinkHeld.row ((p0.Held.drop 0).take (i1 - 0))] (fun f37 => ⟨[(1, .one (.c (.v (.int .i64 p1)))), (2, .one (.pt 2 (x1 0) 0)), (5, .one (.mp 25 (x1 1))), (7, .one (.pt 7 (f9 3 0) 0)), (27, .one (.c (.sl .bor 13 (p0.Held.map LinkHeld.row)))), (28, .one (.c (.v (.int .i64 (p0.Held.length : Int))))), (29, .one (.c (.v (.int .i64 ((i1 : Nat) : Int))))), (114, .one (.c (.sl .bor 13 (((p0.Held.drop 0).take (i1 - 0)).map LinkHeld.row)))), (115, .one (.c (.v (.int .i64 (((p0.Held.drop 0).take (i1 - 0)).length : Int))))), (116, .one (.c (.v (.int .i64 0))))], [(2, some (x1 0, .box (LinkBook.cs .bor p0))), (7, some (f9 3 0, .box (LinkHeld.cs .bor (p0.Held.getD i1 default)))), (25, some (x1 1, .mp (insK (insK s1 ((p0.Held.getD i1 default).Number)) ((p0.Held.getD i1 default).Sent))))], 134⟩) (fun f => by kernel_rfl) (fun f => by kernel_rfl) fun f37 => ?_
      refine w_forT (fun _ => rfl) (impl_LinkBookOk_I3 p0 p1 i1 s1 fs) (impl_LinkBookOk_J3 p0 p1 i1 s1 fs) (fun i3 s3 => True) (fun s3 => True) (((p0.Held.drop 0).take (i1 - 0)).length) 2 (impl_LinkBookOk_b3 p0 p1 i1 s1) (impl_LinkBookOk_r3 p0 p1 i1 s1) 0 (()) (lst [x1 0, f9 3 0, x1 1]) (sb (by kernel_rfl)) trivial hE1 ?_ ?_
      · skip
        intro i3 s3 x3 hI3 hX3
        refine xr hT [] (fun f38 => ⟨[(1, .one (.c (.v (.int .i64 p1)))), (2, .one (.pt 2 (x3 0) 0)), (5, .one (.mp 25 (x3 2))), (7, .one (.pt 7 (x3 1) 0)), (27, .one (.c (.sl .bor 13 (p0.Held.map LinkHeld.row)))), (28, .one (.c (.v (.int .i64 (p0.Held.length : Int))))), (29, .one (.c (.v (.int .i64 ((i1 : Nat) : Int))))), (114, .one (.c (.sl .bor 13 (((p0.Held.drop 0).take (i1 - 0)).map LinkHeld.row)))), (115, .one (.c (.v (.int .i64 (((p0.Held.drop 0).take (i1 - 0)).length : Int))))), (116, .one (.c (.v (.int .i64 ((i3 : Nat) : Int))))), (117, .one (.c (.v (.bool (decide (((i3 : Nat) : Int) < (((p0.Held.drop 0).take (i1 - 0)).length : Int)))))))], [(2, some (x3 0, .box (LinkBook.cs .bor p0))), (7, some (x3 1, .box (LinkHeld.cs .bor (p0.Held.getD i1 default)))), (25, some (x3 2, .mp (insK (insK s1 ((p0.Held.getD i1 default).Number)) ((p0.Held.getD i1 default).Sent))))], 134⟩) (fun f => by kernel_rfl) (fun f => by kernel_rfl) fun f38 => ?_
        refine w_seq ?_
        refine w_cond rfl (fun h39 => ?_) fun h39 => ?_
        · skip
          have hl3 : i3 < ((p0.Held.drop 0).take (i1 - 0)).length := by have hq := of_decide_eq_true h39; first | omega | ((try simp only [LN, impl_LinkHeld_near, impl_flown, impl_name, impl_nothing, impl_LinkBookOk_v1, impl_LinkBookOk_v2, impl_LinkBookOk_v3, impl_LinkBookOk_v4] at *); omega)
          have hl3x := hl3; try simp only [LN, impl_LinkHeld_near, impl_flown, impl_name, impl_nothing, impl_LinkBookOk_v1, impl_LinkBookOk_v2, impl_LinkBookOk_v3, impl_LinkBookOk_v4] at hl3x
          obtain ⟨B3, hB3⟩ : ∃ B, B = impl_LinkBookOk_b3 p0 p1 i1 s1 i3 s3 := ⟨_, rfl⟩
          have hE3 := hB3
          rw [impl_LinkBookOk_b3] at hE3
          refine w_skip ?_
          refine w_seq ?_
          refine w_block ?_
          try have e41 := okget (xs := (p0.Held.drop 0).take (i1 - 0)) (k := i3) ((oksl q0.2)) (by first | omega | ((try simp only [LN, impl_LinkHeld_near, impl_flown, impl_name, impl_nothing, impl_LinkBookOk_v1, impl_LinkBookOk_v2, impl_LinkBookOk_v3, impl_LinkBookOk_v4]); omega))
          try simp only [LinkHeld.ok] at e41
          refine xr hT [ix LinkHeld.row ((p0.Held.drop 0).take (i1 - 0)) i3 (by (first | omega | ((try simp only [LN, impl_LinkHeld_near, impl_flown, impl_name, impl_nothing, impl_LinkBookOk_v1, impl_LinkBookOk_v2, impl_LinkBookOk_v3, impl_LinkBookOk_v4]); omega) | ((try simp only [wr, IntKind.wrap_i64, LN, impl_LinkHeld_near, impl_flown, impl_name, impl_nothing, impl_LinkBookOk_v1, impl_LinkBookOk_v2, impl_LinkBookOk_v3, impl_LinkBookOk_v4] at *); omega) | (simp_all <;> omega))), .rw (FlyStep.rv ((((p0.Held.drop 0).take (i1 - 0)).getD i3 default).Path.Steps)), .rw (FlyStep.rv ((((p0.Held.drop 0).take (i1 - 0)).getD i3 default).Next.Steps))] (fun f40 => ⟨[(1, .one (.c (.v (.int .i64 p1)))), (2, .one (.pt 2 (x3 0) 0)), (5, .one (.mp 25 (x3 2))), (7, .one (.pt 7 (x3 1) 0)), (9, .one (.pt 9 (f40 2 0) 0)), (27, .one (.c (.sl .bor 13 (p0.Held.map LinkHeld.row)))), (28, .one (.c (.v (.int .i64 (p0.Held.length : Int))))), (29, .one (.c (.v (.int .i64 ((i1 : Nat) : Int))))), (114, .one (.c (.sl .bor 13 (((p0.Held.drop 0).take (i1 - 0)).map LinkHeld.row)))), (115, .one (.c (.v (.int .i64 (((p0.Held.drop 0).take (i1 - 0)).length : Int))))), (116, .one (.c (.v (.int .i64 ((i3 : Nat) : Int)))))], [(2, some (x3 0, .box (LinkBook.cs .bor p0))), (7, some (x3 1, .box (LinkHeld.cs .bor (p0.Held.getD i1 default)))), (9, some (f40 2 0, .box (LinkHeld.cs .bor (((p0.Held.drop 0).take (i1 - 0)).getD i3 default)))), (25, some (x3 2, .mp (insK (insK s1 ((p0.Held.getD i1 default).Number)) ((p0.Held.getD i1 default).Sent))))], 134⟩) (fun f => by kernel_rfl) (fun f => by kernel_rfl) fun f40 => ?_
          refine xr hT [ca (c158 (((p0.Held.drop 0).take (i1 - 0)).getD i3 default) ((p0.Held.getD i1 default).Path) p1 (by first | assumption | exact ⟨(show ((((p0.Held.drop 0).take (i1 - 0)).getD i3 default).Path.Steps).length ≤ 1048576 from by (try simp only [LN, impl_LinkHeld_near, impl_flown, impl_name, impl_nothing, impl_LinkBookOk_v1, impl_LinkBookOk_v2, impl_LinkBookOk_v3, impl_LinkBookOk_v4]); omega), (show ((((p0.Held.drop 0).take (i1 - 0)).getD i3 default).Next.Steps).length ≤ 1048576 from by (try simp only [LN, impl_LinkHeld_near, impl_flown, impl_name, impl_nothing, impl_LinkBookOk_v1, impl_LinkBookOk_v2, impl_LinkBookOk_v3, impl_LinkBookOk_v4]); omega)⟩) (by first | assumption | exact (by omega : ((p0.Held.getD i1 default).Path.Steps).length ≤ 1048576))), cg (!(impl_LinkHeld_near (((p0.Held.drop 0).take (i1 - 0)).getD i3 default) ((p0.Held.getD i1 default).Path) p1)) (fun h => by (try simp only [Bool.and_eq_true, Bool.or_eq_true, decide_eq_true_eq, Bool.not_eq_true', decide_eq_false_iff_not] at h); exact c158 (((p0.Held.drop 0).take (i1 - 0)).getD i3 default) ((p0.Held.getD i1 default).Next) p1 (by first | assumption | exact ⟨(show ((((p0.Held.drop 0).take (i1 - 0)).getD i3 default).Path.Steps).length ≤ 1048576 from by (try simp only [LN, impl_LinkHeld_near, impl_flown, impl_name, impl_nothing, impl_LinkBookOk_v1, impl_LinkBookOk_v2, impl_LinkBookOk_v3, impl_LinkBookOk_v4]); omega), (show ((((p0.Held.drop 0).take (i1 - 0)).getD i3 default).Next.Steps).length ≤ 1048576 from by (try simp only [LN, impl_LinkHeld_near, impl_flown, impl_name, impl_nothing, impl_LinkBookOk_v1, impl_LinkBookOk_v2, impl_LinkBookOk_v3, impl_LinkBookOk_v4]); omega)⟩) (by first | assumption | exact (by omega : ((p0.Held.getD i1 default).Next.Steps).length ≤ 1048576)))] (fun f42 => ⟨[(1, .one (.c (.v (.int .i64 p1)))), (2, .one (.pt 2 (x3 0) 0)), (5, .one (.mp 25 (x3 2))), (7, .one (.pt 7 (x3 1) 0)), (27, .one (.c (.sl .bor 13 (p0.Held.map LinkHeld.row)))), (28, .one (.c (.v (.int .i64 (p0.Held.length : Int))))), (29, .one (.c (.v (.int .i64 ((i1 : Nat) : Int))))), (114, .one (.c (.sl .bor 13 (((p0.Held.drop 0).take (i1 - 0)).map LinkHeld.row)))), (115, .one (.c (.v (.int .i64 (((p0.Held.drop 0).take (i1 - 0)).length : Int))))), (116, .one (.c (.v (.int .i64 ((i3 : Nat) : Int))))), (131, .one (.c (.v (.bool (impl_LinkBookOk_v4 p0 p1 i1 i3)))))], [(2, some (x3 0, .box (LinkBook.cs .bor p0))), (7, some (x3 1, .box (LinkHeld.cs .bor (p0.Held.getD i1 default)))), (25, some (x3 2, .mp (insK (insK s1 ((p0.Held.getD i1 default).Number)) ((p0.Held.getD i1 default).Sent))))], 134⟩) (fun f => by kernel_rfl) (fun f => by kernel_rfl) fun f42 => ?_
          refine w_cond rfl (fun h43 => ?_) fun h43 => ?_
          · rw [if_pos h43] at hE3
            have gh43 := h43; try simp only [impl_LinkBookOk_v4, Bool.not_eq_true', Bool.not_eq_false', decide_eq_true_eq, decide_eq_false_iff_not, Bool.and_eq_true, Bool.or_eq_true, Bool.and_eq_false_iff, Bool.or_eq_false_iff] at gh43
            refine xr hT [] (fun f44 => ⟨[(4, .one (.c (.v (.bool false))))], [], 134⟩) (fun f => by kernel_rfl) (fun f => by kernel_rfl) fun f44 => ?_
            refine w_ret ?_
            have hE1 := hX3.trans (forN_ret hl3 (hB3.symm.trans hE3))
            have hR := hX1.trans (forN_ret hl1 (hB1.symm.trans hE1))
            subst hR
            exact x_ret (by kernel_rfl)
          rw [if_neg (nt h43)] at hE3
          have gh43 := h43; try simp only [impl_LinkBookOk_v4, Bool.not_eq_true', Bool.not_eq_false', decide_eq_true_eq, decide_eq_false_iff_not, Bool.and_eq_true, Bool.or_eq_true, Bool.and_eq_false_iff, Bool.or_eq_false_iff] at gh43
          refine w_skip ?_
          refine x_reg hT [.ex true (((i3 : Nat) : Int) + ((1 : Nat) : Int)) ((((i3 + 1) : Nat) : Int)) (fun _ => wr_nat (n := i3) (c := 1) (by omega))] (fun f45 => impl_LinkBookOk_I3 p0 p1 i1 s1 fs (i3 + 1) () (lst [x3 0, x3 1, x3 2])) (fun f => by kernel_rfl) (fun f => by kernel_rfl) fun f45 s' hs' => ?_
          exact ⟨(), (lst [x3 0, x3 1, x3 2]), hl3, trivial, hX3.trans (forN_next hl3 (hB3.symm.trans hE3)), hs'⟩
        have hq := of_decide_eq_false h39
        refine w_exit ?_
        exact ⟨s3, (lst [x3 0, x3 1, x3 2]), trivial, hX3.trans (forN_end (by first | omega | ((try simp only [LN, impl_LinkHeld_near, impl_flown, impl_name, impl_nothing, impl_LinkBookOk_v1, impl_LinkBookOk_v2, impl_LinkBookOk_v3, impl_LinkBookOk_v4] at *); omega))), sb (by kernel_rfl)⟩
      intro s3 x3 hF48 hR46
      rw [impl_LinkBookOk_r3] at hR46
      refine x_reg hT [.ex true (((i1 : Nat) : Int) + ((1 : Nat) : Int)) ((((i1 + 1) : Nat) : Int)) (fun _ => wr_nat (n := i1) (c := 1) (by omega))] (fun f47 => impl_LinkBookOk_I1 p0 p1 fs (i1 + 1) (insK (insK s1 ((p0.Held.getD i1 default).Number)) ((p0.Held.getD i1 default).Sent)) (lst [x3 0, x3 2])) (fun f => by kernel_rfl) (fun f => by kernel_rfl) fun f47 s' hs' => ?_
      exact ⟨insK (insK s1 ((p0.Held.getD i1 default).Number)) ((p0.Held.getD i1 default).Sent), (lst [x3 0, x3 2]), hl1, trivial, hX1.trans (forN_next hl1 (hB1.symm.trans hR46)), hs'⟩
    have hq := of_decide_eq_false h8
    refine w_exit ?_
    exact ⟨s1, (lst [x1 0, x1 1]), trivial, hX1.trans (forN_end (by first | omega | ((try simp only [LN, impl_LinkHeld_near, impl_flown, impl_name, impl_nothing, impl_LinkBookOk_v1, impl_LinkBookOk_v2, impl_LinkBookOk_v3, impl_LinkBookOk_v4] at *); omega))), sb (by kernel_rfl)⟩
  intro s1 x1 hF51 hR49
  rw [impl_LinkBookOk_r1] at hR49
  refine xr hT [] (fun f50 => ⟨[(4, .one (.c (.v (.bool true))))], [], 134⟩) (fun f => by kernel_rfl) (fun f => by kernel_rfl) fun f50 => ?_
  refine w_ret ?_
  subst hR49
  exact x_ret (by kernel_rfl)

/-- laws.FnExactLinkBookOk -/
def laws_FnExactLinkBookOk (p0 : LinkBook) (p1 : Int) : Bool := (if decide ((laws_szLinkBook p0 1048576) < 0) then true else (if !((impl_LinkBookOk (laws_toLinkBook p0) p1) == (spec_LinkBookOk (laws_toLinkBook p0) p1)) then false else (if !(laws_eqLinkBook (laws_toLinkBook p0) (laws_toLinkBook p0)) then false else true)))
set_option maxHeartbeats 1600000 in
theorem c11 (p0 : LinkBook) (p1 : Int) (k0_0 : LinkBook.big p0) : Fn Proofs.Try.prog 11 [⟨.val, true, LinkBook.cs .bor p0⟩, ⟨.val, false, [.v (.int .i64 p1)]⟩] [.c (.v (.bool (laws_FnExactLinkBookOk p0 p1)))] [] := by
  obtain ⟨R, hR⟩ : ∃ R, R = laws_FnExactLinkBookOk p0 p1 := ⟨_, rfl⟩
  rw [← hR]
  rw [laws_FnExactLinkBookOk] at hR
  refine ⟨fn_intro hT Proofs.Try.func11 rfl rfl fun fs => ?_, _, Proofs.Try.func11, rfl, rfl⟩
  have q0 := k0_0; simp only [LinkBook.big] at q0
  refine xr hT [] (fun f1 => ⟨[(1, .one (.c (.v (.int .i64 p1)))), (2, .one (.pt 2 (f1 0 0) 0))], [(2, some (f1 0 0, .box (LinkBook.cs .bor p0)))], 31⟩) (fun f => by kernel_rfl) (fun f => by kernel_rfl) fun f1 => ?_
  refine xr hT [] (fun f2 => ⟨[(1, .one (.c (.v (.int .i64 p1)))), (2, .one (.pt 2 (f1 0 0) 0)), (5, .one (.c (.v (.int .i64 1048576))))], [(2, some (f1 0 0, .box (LinkBook.cs .bor p0)))], 31⟩) (fun f => by kernel_rfl) (fun f => by kernel_rfl) fun f2 => ?_
  refine xr hT [ca (c31 p0 1048576 (by first | assumption | exact ⟨(by omega : p0.Held.length ≤ 9223372036854775807), (q0.2)⟩))] (fun f3 => ⟨[(1, .one (.c (.v (.int .i64 p1)))), (2, .one (.pt 2 (f1 0 0) 0)), (5, .one (.c (.v (.int .i64 (laws_szLinkBook p0 1048576)))))], [(2, some (f1 0 0, .box (LinkBook.cs .bor p0)))], 31⟩) (fun f => by kernel_rfl) (fun f => by kernel_rfl) fun f3 => ?_
  refine w_seq ?_
  refine xr hT [] (fun f4 => ⟨[(1, .one (.c (.v (.int .i64 p1)))), (2, .one (.pt 2 (f1 0 0) 0)), (13, .one (.c (.v (.bool (decide ((laws_szLinkBook p0 1048576) < 0))))))], [(2, some (f1 0 0, .box (LinkBook.cs .bor p0)))], 31⟩) (fun f => by kernel_rfl) (fun f => by kernel_rfl) fun f4 => ?_
  refine w_cond rfl (fun h5 => ?_) fun h5 => ?_
  · rw [if_pos h5] at hR
    have gh5 := of_decide_eq_true h5
    refine xr hT [] (fun f6 => ⟨[(4, .one (.c (.v (.bool true))))], [], 31⟩) (fun f => by kernel_rfl) (fun f => by kernel_rfl) fun f6 => ?_
    refine w_ret ?_
    subst hR
    exact x_ret (by kernel_rfl)
  rw [if_neg (nt h5)] at hR
  have gh5 := of_decide_eq_false h5
  have ok0 := (f_laws_szLinkBook p0 1048576 k0_0 (by omega) (by omega) (by omega)).1
  refine w_skip ?_
  refine xr hT [ca (c34 p0 (by first | assumption | exact ⟨(by omega : p0.Held.length ≤ 1048576), (q0.2)⟩)), ca (c72 (laws_toLinkBook p0) p1 (by first | assumption | ((try simp only [LN, f_laws_toLinkBook, LinkBook.ok]); omega) | (simp only [LN, f_laws_toLinkBook]; assumption)))] (fun f7 => ⟨[(1, .one (.c (.v (.int .i64 p1)))), (2, .one (.pt 2 (f1 0 0) 0)), (6, .one (.c (.v (.bool (spec_LinkBookOk (laws_toLinkBook p0) p1)))))], [(2, some (f1 0 0, .box (LinkBook.cs .bor p0)))], 31⟩) (fun f => by kernel_rfl) (fun f => by kernel_rfl) fun f7 => ?_
  refine xr hT [ca (c34 p0 (by first | assumption | exact ⟨(by omega : p0.Held.length ≤ 1048576), (q0.2)⟩))] (fun f8 => ⟨[(1, .one (.c (.v (.int .i64 p1)))), (2, .one (.pt 2 (f1 0 0) 0)), (6, .one (.c (.v (.bool (spec_LinkBookOk (laws_toLinkBook p0) p1))))), (7, .one (.pt 7 (f8 2 0) 0))], [(2, some (f1 0 0, .box (LinkBook.cs .bor p0))), (7, some (f8 2 0, .box [.v (.int .i64 ((laws_toLinkBook p0).Last)), .mu 2000001 (gk (f8 1) 0 1) 13 0 (((laws_toLinkBook p0).Held).map LinkHeld.row).length])), (2000001, some (gk (f8 1) 0 1, .arr 13 (((laws_toLinkBook p0).Held).map LinkHeld.row)))], 31⟩) (fun f => by kernel_rfl) (fun f => by kernel_rfl) fun f8 => ?_
  refine xr hT [ca (c73 (laws_toLinkBook p0) p1 (by first | assumption | ((try simp only [LN, f_laws_toLinkBook, LinkBook.ok]); omega) | (simp only [LN, f_laws_toLinkBook]; assumption)))] (fun f9 => ⟨[(2, .one (.pt 2 (f1 0 0) 0)), (6, .one (.c (.v (.bool (spec_LinkBookOk (laws_toLinkBook p0) p1))))), (7, .one (.pt 7 (f8 2 0) 0)), (8, .one (.c (.v (.bool (impl_LinkBookOk (laws_toLinkBook p0) p1)))))], [(2, some (f1 0 0, .box (LinkBook.cs .bor p0))), (7, some (f8 2 0, .box [.v (.int .i64 ((laws_toLinkBook p0).Last)), .mu 2000001 (gk (f8 1) 0 1) 13 0 (((laws_toLinkBook p0).Held).map LinkHeld.row).length])), (2000001, some (gk (f8 1) 0 1, .arr 13 (((laws_toLinkBook p0).Held).map LinkHeld.row)))], 31⟩) (fun f => by kernel_rfl) (fun f => by kernel_rfl) fun f9 => ?_
  refine w_seq ?_
  refine xr hT [.und Proofs.Try.underlying4] (fun f10 => ⟨[(2, .one (.pt 2 (f1 0 0) 0)), (7, .one (.pt 7 (f8 2 0) 0)), (25, .one (.c (.v (.bool (!((impl_LinkBookOk (laws_toLinkBook p0) p1) == (spec_LinkBookOk (laws_toLinkBook p0) p1)))))))], [(2, some (f1 0 0, .box (LinkBook.cs .bor p0))), (7, some (f8 2 0, .box [.v (.int .i64 ((laws_toLinkBook p0).Last)), .mu 2000001 (gk (f8 1) 0 1) 13 0 (((laws_toLinkBook p0).Held).map LinkHeld.row).length])), (2000001, some (gk (f8 1) 0 1, .arr 13 (((laws_toLinkBook p0).Held).map LinkHeld.row)))], 31⟩) (fun f => by kernel_rfl) (fun f => by kernel_rfl) fun f10 => ?_
  refine w_cond rfl (fun h11 => ?_) fun h11 => ?_
  · rw [if_pos h11] at hR
    refine xr hT [] (fun f12 => ⟨[(4, .one (.c (.v (.bool false))))], [], 31⟩) (fun f => by kernel_rfl) (fun f => by kernel_rfl) fun f12 => ?_
    refine w_ret ?_
    subst hR
    exact x_ret (by kernel_rfl)
  rw [if_neg (nt h11)] at hR
  refine w_skip ?_
  refine w_seq ?_
  refine xd hT hM [ca (c34 p0 (by first | assumption | exact ⟨(by omega : p0.Held.length ≤ 1048576), (q0.2)⟩)), ca (c37 (laws_toLinkBook p0) (laws_toLinkBook p0) (by first | assumption | ((try simp only [LN, f_laws_toLinkBook, LinkBook.ok, LinkBook.ok]); omega) | (simp only [LN, f_laws_toLinkBook]; assumption)) (by first | assumption | ((try simp only [LN, f_laws_toLinkBook, LinkBook.ok, LinkBook.ok]); omega) | (simp only [LN, f_laws_toLinkBook]; assumption)))] (fun f13 => ⟨[(30, .one (.c (.v (.bool (!(laws_eqLinkBook (laws_toLinkBook p0) (laws_toLinkBook p0)))))))], [], 31⟩) (fun f => by kernel_rfl) (fun f => by kernel_rfl) (fun f => by kernel_rfl) fun f13 => ?_
  refine w_cond rfl (fun h14 => ?_) fun h14 => ?_
  · rw [if_pos h14] at hR
    refine xr hT [] (fun f15 => ⟨[(4, .one (.c (.v (.bool false))))], [], 31⟩) (fun f => by kernel_rfl) (fun f => by kernel_rfl) fun f15 => ?_
    refine w_ret ?_
    subst hR
    exact x_ret (by kernel_rfl)
  rw [if_neg (nt h14)] at hR
  refine w_skip ?_
  refine xr hT [] (fun f16 => ⟨[(4, .one (.c (.v (.bool true))))], [], 31⟩) (fun f => by kernel_rfl) (fun f => by kernel_rfl) fun f16 => ?_
  refine w_ret ?_
  subst hR
  exact x_ret (by kernel_rfl)

def spec_l23Free_I1 (p0 : LinkBook) (p1 : ByteArray) (p2 : FlyPath) (p3 : Int) (fs : Nat → Nat → Nat) (i1 : Nat) (s1 : Unit) (x1 : Nat → Nat) : St := ⟨[(1, .one (.c (.v (.string p1)))), (3, .one (.c (.v (.int .i64 p3)))), (4, .one (.pt 4 (x1 0) 0)), (6, .one (.pt 6 (x1 1) 0)), (9, .one (.c (.v (.int .i64 ((i1 : Nat) : Int)))))], [(4, some (x1 0, .box (LinkBook.cs .bor p0))), (6, some (x1 1, .box (FlyPath.cs .bor p2)))], 47⟩
def spec_l23Free_J1 (p0 : LinkBook) (p1 : ByteArray) (p2 : FlyPath) (p3 : Int) (fs : Nat → Nat → Nat) (s1 : Unit) (x1 : Nat → Nat) : St := ⟨[], [], 47⟩
def spec_l23Free_v1 (p0 : LinkBook) (p1 : ByteArray) (p2 : FlyPath) (p3 : Int) (i1 : Nat) : Bool := (!(((p0.Held.getD i1 default).Name).toList == p1.toList)) && ((spec_l23Meets ((p0.Held.getD i1 default).Path) p2 p3) || (spec_l23Meets ((p0.Held.getD i1 default).Next) p2 p3))
def spec_l23Free_b1 (p0 : LinkBook) (p1 : ByteArray) (p2 : FlyPath) (p3 : Int) (i1 : Nat) (s1 : Unit) : Res (Unit) Bool := (if (spec_l23Free_v1 p0 p1 p2 p3 i1) then (.ret false) else (.next ()))
def spec_l23Free_r1 (p0 : LinkBook) (p1 : ByteArray) (p2 : FlyPath) (p3 : Int) (s1 : Unit) : Bool := true
/-- spec.l23Free -/
def spec_l23Free (p0 : LinkBook) (p1 : ByteArray) (p2 : FlyPath) (p3 : Int) : Bool := (Res.fin (spec_l23Free_r1 p0 p1 p2 p3) (forN (spec_l23Free_b1 p0 p1 p2 p3) (p0.Held.length - 0) 0 ()))
theorem c160 (p0 : LinkBook) (p1 : ByteArray) (p2 : FlyPath) (p3 : Int) (k0_0 : LinkBook.ok p0) (k2_0 : FlyPath.ok p2) : Fn Proofs.Try.prog 160 [⟨.val, true, LinkBook.cs .bor p0⟩, ⟨.val, false, [.v (.string p1)]⟩, ⟨.val, true, FlyPath.cs .bor p2⟩, ⟨.val, false, [.v (.int .i64 p3)]⟩] [.c (.v (.bool (spec_l23Free p0 p1 p2 p3)))] [] := by
  obtain ⟨R, hR⟩ : ∃ R, R = spec_l23Free p0 p1 p2 p3 := ⟨_, rfl⟩
  rw [← hR]
  rw [spec_l23Free] at hR
  refine ⟨fn_intro hT Proofs.Try.func160 rfl rfl fun fs => ?_, _, Proofs.Try.func160, rfl, rfl⟩
  have q0 := k0_0; simp only [LinkBook.ok] at q0
  have q2 := k2_0; simp only [FlyPath.ok] at q2
  refine xr hT [] (fun f1 => ⟨[(1, .one (.c (.v (.string p1)))), (3, .one (.c (.v (.int .i64 p3)))), (4, .one (.pt 4 (f1 0 0) 0)), (6, .one (.pt 6 (f1 1 0) 0))], [(4, some (f1 0 0, .box (LinkBook.cs .bor p0))), (6, some (f1 1 0, .box (FlyPath.cs .bor p2)))], 47⟩) (fun f => by kernel_rfl) (fun f => by kernel_rfl) fun f1 => ?_
  refine w_seq ?_
  refine xr hT [] (fun f2 => ⟨[(1, .one (.c (.v (.string p1)))), (3, .one (.c (.v (.int .i64 p3)))), (4, .one (.pt 4 (f1 0 0) 0)), (6, .one (.pt 6 (f1 1 0) 0)), (9, .one (.c (.v (.int .i64 0))))], [(4, some (f1 0 0, .box (LinkBook.cs .bor p0))), (6, some (f1 1 0, .box (FlyPath.cs .bor p2)))], 47⟩) (fun f => by kernel_rfl) (fun f => by kernel_rfl) fun f2 => ?_
  refine w_forT (fun _ => rfl) (spec_l23Free_I1 p0 p1 p2 p3 fs) (spec_l23Free_J1 p0 p1 p2 p3 fs) (fun i1 s1 => True) (fun s1 => True) (p0.Held.length) 0 (spec_l23Free_b1 p0 p1 p2 p3) (spec_l23Free_r1 p0 p1 p2 p3) 0 (()) (lst [f1 0 0, f1 1 0]) (sb (by kernel_rfl)) trivial hR ?_ ?_
  · skip
    intro i1 s1 x1 hI1 hX1
    refine w_seq ?_
    refine xr hT [.ln LinkHeld.row p0.Held] (fun f3 => ⟨[(1, .one (.c (.v (.string p1)))), (3, .one (.c (.v (.int .i64 p3)))), (4, .one (.pt 4 (x1 0) 0)), (6, .one (.pt 6 (x1 1) 0)), (9, .one (.c (.v (.int .i64 ((i1 : Nat) : Int))))), (14, .one (.c (.v (.bool (decide (((i1 : Nat) : Int) < (p0.Held.length : Int)))))))], [(4, some (x1 0, .box (LinkBook.cs .bor p0))), (6, some (x1 1, .box (FlyPath.cs .bor p2)))], 47⟩) (fun f => by kernel_rfl) (fun f => by kernel_rfl) fun f3 => ?_
    refine w_cond rfl (fun h4 => ?_) fun h4 => ?_
    · skip
      have hl1 : i1 < p0.Held.length := by have hq := of_decide_eq_true h4; first | omega | ((try simp only [LN, spec_l23Meets, spec_l23Free_v1] at *); omega)
      obtain ⟨B1, hB1⟩ : ∃ B, B = spec_l23Free_b1 p0 p1 p2 p3 i1 s1 := ⟨_, rfl⟩
      have hE1 := hB1
      rw [spec_l23Free_b1] at hE1
      refine w_skip ?_
      refine w_seq ?_
      refine w_block ?_
      try have e6 := okget (xs := p0.Held) (k := i1) (q0.2) (by first | omega | ((try simp only [LN, spec_l23Meets, spec_l23Free_v1]); omega))
      try simp only [LinkHeld.ok] at e6
      try have e7 := okget (xs := p0.Held) (k := i1) (q0.2) (by first | omega | ((try simp only [LN, spec_l23Meets, spec_l23Free_v1]); omega))
      try simp only [LinkHeld.ok] at e7
      try have e8 := okget (xs := p0.Held) (k := i1) (q0.2) (by first | omega | ((try simp only [LN, spec_l23Meets, spec_l23Free_v1]); omega))
      try simp only [LinkHeld.ok] at e8
      refine xd hT hM [ix LinkHeld.row p0.Held i1 (by omega), ig (!(((p0.Held.getD i1 default).Name).toList == p1.toList)) LinkHeld.row p0.Held i1 (fun h => by (try simp only [Bool.and_eq_true, Bool.or_eq_true, decide_eq_true_eq, Bool.not_eq_true', decide_eq_false_iff_not] at h); omega), .rw (FlyStep.rv (((p0.Held.getD i1 default).Path).Steps)), cg (!(((p0.Held.getD i1 default).Name).toList == p1.toList)) (fun h => by (try simp only [Bool.and_eq_true, Bool.or_eq_true, decide_eq_true_eq, Bool.not_eq_true', decide_eq_false_iff_not] at h); exact c192 ((p0.Held.getD i1 default).Path) p2 p3 (by first | assumption | exact (by omega : (((p0.Held.getD i1 default).Path).Steps).length ≤ 1048576)) (by first | assumption | exact (by omega : p2.Steps.length ≤ 1048576))), ig (!(spec_l23Meets ((p0.Held.getD i1 default).Path) p2 p3) && !(((p0.Held.getD i1 default).Name).toList == p1.toList)) LinkHeld.row p0.Held i1 (fun h => by (try simp only [Bool.and_eq_true, Bool.or_eq_true, decide_eq_true_eq, Bool.not_eq_true', decide_eq_false_iff_not] at h); omega), .rw (FlyStep.rv (((p0.Held.getD i1 default).Next).Steps)), cg (!(spec_l23Meets ((p0.Held.getD i1 default).Path) p2 p3) && !(((p0.Held.getD i1 default).Name).toList == p1.toList)) (fun h => by (try simp only [Bool.and_eq_true, Bool.or_eq_true, decide_eq_true_eq, Bool.not_eq_true', decide_eq_false_iff_not] at h); exact c192 ((p0.Held.getD i1 default).Next) p2 p3 (by first | assumption | exact (by omega : (((p0.Held.getD i1 default).Next).Steps).length ≤ 1048576)) (by first | assumption | exact (by omega : p2.Steps.length ≤ 1048576)))] (fun f5 => ⟨[(1, .one (.c (.v (.string p1)))), (3, .one (.c (.v (.int .i64 p3)))), (4, .one (.pt 4 (x1 0) 0)), (6, .one (.pt 6 (x1 1) 0)), (9, .one (.c (.v (.int .i64 ((i1 : Nat) : Int))))), (46, .one (.c (.v (.bool (spec_l23Free_v1 p0 p1 p2 p3 i1)))))], [(4, some (x1 0, .box (LinkBook.cs .bor p0))), (6, some (x1 1, .box (FlyPath.cs .bor p2)))], 47⟩) (fun f => by kernel_rfl) (fun f => by kernel_rfl) (fun f => by kernel_rfl) fun f5 => ?_
      refine w_cond rfl (fun h9 => ?_) fun h9 => ?_
      · rw [if_pos h9] at hE1
        have gh9 := h9; try simp only [spec_l23Free_v1, Bool.not_eq_true', Bool.not_eq_false', decide_eq_true_eq, decide_eq_false_iff_not, Bool.and_eq_true, Bool.or_eq_true, Bool.and_eq_false_iff, Bool.or_eq_false_iff] at gh9
        refine xr hT [] (fun f10 => ⟨[(8, .one (.c (.v (.bool false))))], [], 47⟩) (fun f => by kernel_rfl) (fun f => by kernel_rfl) fun f10 => ?_
        refine w_ret ?_
        have hR := hX1.trans (forN_ret hl1 (hB1.symm.trans hE1))
        subst hR
        exact x_ret (by kernel_rfl)
      rw [if_neg (nt h9)] at hE1
      have gh9 := h9; try simp only [spec_l23Free_v1, Bool.not_eq_true', Bool.not_eq_false', decide_eq_true_eq, decide_eq_false_iff_not, Bool.and_eq_true, Bool.or_eq_true, Bool.and_eq_false_iff, Bool.or_eq_false_iff] at gh9
      refine w_skip ?_
      refine x_reg hT [.ex true (((i1 : Nat) : Int) + ((1 : Nat) : Int)) ((((i1 + 1) : Nat) : Int)) (fun _ => wr_nat (n := i1) (c := 1) (by omega))] (fun f11 => spec_l23Free_I1 p0 p1 p2 p3 fs (i1 + 1) () (lst [x1 0, x1 1])) (fun f => by kernel_rfl) (fun f => by kernel_rfl) fun f11 s' hs' => ?_
      exact ⟨(), (lst [x1 0, x1 1]), hl1, trivial, hX1.trans (forN_next hl1 (hB1.symm.trans hE1)), hs'⟩
    have hq := of_decide_eq_false h4
    refine w_exit ?_
    exact ⟨s1, (lst [x1 0, x1 1]), trivial, hX1.trans (forN_end (by first | omega | ((try simp only [LN, spec_l23Meets, spec_l23Free_v1] at *); omega))), sb (by kernel_rfl)⟩
  intro s1 x1 hF14 hR12
  rw [spec_l23Free_r1] at hR12
  refine xr hT [] (fun f13 => ⟨[(8, .one (.c (.v (.bool true))))], [], 47⟩) (fun f => by kernel_rfl) (fun f => by kernel_rfl) fun f13 => ?_
  refine w_ret ?_
  subst hR12
  exact x_ret (by kernel_rfl)
end Go.Lap
