/- Walks: models of the functions, and that the code computes them. -/
import Derived.Test.YtfeknndjngaieaaPa
set_option linter.unusedVariables false
set_option linter.unusedSimpArgs false
namespace Go.Lap
open Go.RowKit

def spec_ProbeBoxOk_v1 (p0 : ProbeBox) : Bool := (((((spec_l11In p0.X 0 15) && (spec_l11In p0.Y 0 15)) && (spec_l11In p0.Low 0 p0.High)) && (decide (p0.High ≤ 6))) && (spec_l11In p0.In 0 p0.Out)) && (decide (p0.Out ≤ 10000))
/-- spec.ProbeBoxOk -/
def spec_ProbeBoxOk (p0 : ProbeBox) : Bool := (spec_ProbeBoxOk_v1 p0)
theorem c199 (p0 : ProbeBox) : Fn Proofs.Try.prog 199 [⟨.val, true, ProbeBox.cs .bor p0⟩] [.c (.v (.bool (spec_ProbeBoxOk p0)))] [] := by
  obtain ⟨R, hR⟩ : ∃ R, R = spec_ProbeBoxOk p0 := ⟨_, rfl⟩
  rw [← hR]
  rw [spec_ProbeBoxOk] at hR
  refine ⟨fn_intro hT Proofs.Try.func199 rfl rfl fun fs => ?_, _, Proofs.Try.func199, rfl, rfl⟩
  refine xr hT [] (fun f1 => ⟨[(1, .one (.pt 1 (f1 0 0) 0))], [(1, some (f1 0 0, .box (ProbeBox.cs .bor p0)))], 35⟩) (fun f => by kernel_rfl) (fun f => by kernel_rfl) fun f1 => ?_
  refine xr hT [ca (c174 p0.X 0 15), cg (spec_l11In p0.X 0 15) (fun _ => c174 p0.Y 0 15), cg ((spec_l11In p0.X 0 15) && (spec_l11In p0.Y 0 15)) (fun _ => c174 p0.Low 0 p0.High), cg ((((spec_l11In p0.X 0 15) && (spec_l11In p0.Y 0 15)) && (spec_l11In p0.Low 0 p0.High)) && (decide (p0.High ≤ 6))) (fun _ => c174 p0.In 0 p0.Out)] (fun f2 => ⟨[(2, .one (.c (.v (.bool (spec_ProbeBoxOk_v1 p0)))))], [], 35⟩) (fun f => by kernel_rfl) (fun f => by kernel_rfl) fun f2 => ?_
  refine w_ret ?_
  subst hR
  exact x_ret (by kernel_rfl)

def spec_ProbeTubeOk_I1 (p0 : ProbeTube) (fs : Nat → Nat → Nat) (i1 : Nat) (s1 : Unit) (x1 : Nat → Nat) : St := ⟨[(1, .one (.pt 1 (x1 0) 0)), (3, .one (.c (.v (.int .i64 ((i1 : Nat) : Int)))))], [(1, some (x1 0, .box (ProbeTube.cs .bor p0)))], 28⟩
def spec_ProbeTubeOk_J1 (p0 : ProbeTube) (fs : Nat → Nat → Nat) (s1 : Unit) (x1 : Nat → Nat) : St := ⟨[], [], 28⟩
def spec_ProbeTubeOk_b1 (p0 : ProbeTube) (i1 : Nat) (s1 : Unit) : Res (Unit) Bool := (if !(spec_ProbeBoxOk (p0.Boxes.getD i1 default)) then (.ret false) else (.next ()))
def spec_ProbeTubeOk_r1 (p0 : ProbeTube) (s1 : Unit) : Bool := true
/-- spec.ProbeTubeOk -/
def spec_ProbeTubeOk (p0 : ProbeTube) : Bool := (if (!(spec_l12NameOk p0.Name)) || (decide (40 < (p0.Boxes.length : Int))) then false else (Res.fin (spec_ProbeTubeOk_r1 p0) (forN (spec_ProbeTubeOk_b1 p0) (p0.Boxes.length - 0) 0 ())))
theorem c176 (p0 : ProbeTube) (k0_0 : ProbeTube.ok p0) : Fn Proofs.Try.prog 176 [⟨.val, true, ProbeTube.cs .bor p0⟩] [.c (.v (.bool (spec_ProbeTubeOk p0)))] [] := by
  obtain ⟨R, hR⟩ : ∃ R, R = spec_ProbeTubeOk p0 := ⟨_, rfl⟩
  rw [← hR]
  rw [spec_ProbeTubeOk] at hR
  refine ⟨fn_intro hT Proofs.Try.func176 rfl rfl fun fs => ?_, _, Proofs.Try.func176, rfl, rfl⟩
  have q0 := k0_0; simp only [ProbeTube.ok] at q0
  refine xr hT [] (fun f1 => ⟨[(1, .one (.pt 1 (f1 0 0) 0))], [(1, some (f1 0 0, .box (ProbeTube.cs .bor p0)))], 28⟩) (fun f => by kernel_rfl) (fun f => by kernel_rfl) fun f1 => ?_
  refine w_seq ?_
  refine xr hT [ca (c92 p0.Name), .ln ProbeBox.row p0.Boxes] (fun f2 => ⟨[(1, .one (.pt 1 (f1 0 0) 0)), (13, .one (.c (.v (.bool ((!(spec_l12NameOk p0.Name)) || (decide (40 < (p0.Boxes.length : Int))))))))], [(1, some (f1 0 0, .box (ProbeTube.cs .bor p0)))], 28⟩) (fun f => by kernel_rfl) (fun f => by kernel_rfl) fun f2 => ?_
  refine w_cond rfl (fun h3 => ?_) fun h3 => ?_
  · rw [if_pos h3] at hR
    have gh3 := h3; try simp only [Bool.not_eq_true', Bool.not_eq_false', decide_eq_true_eq, decide_eq_false_iff_not, Bool.and_eq_true, Bool.or_eq_true, Bool.and_eq_false_iff, Bool.or_eq_false_iff] at gh3
    refine xr hT [] (fun f4 => ⟨[(2, .one (.c (.v (.bool false))))], [], 28⟩) (fun f => by kernel_rfl) (fun f => by kernel_rfl) fun f4 => ?_
    refine w_ret ?_
    subst hR
    exact x_ret (by kernel_rfl)
  rw [if_neg (nt h3)] at hR
  have gh3 := h3; try simp only [Bool.not_eq_true', Bool.not_eq_false', decide_eq_true_eq, decide_eq_false_iff_not, Bool.and_eq_true, Bool.or_eq_true, Bool.and_eq_false_iff, Bool.or_eq_false_iff] at gh3
  refine w_skip ?_
  refine w_seq ?_
  refine xr hT [] (fun f5 => ⟨[(1, .one (.pt 1 (f1 0 0) 0)), (3, .one (.c (.v (.int .i64 0))))], [(1, some (f1 0 0, .box (ProbeTube.cs .bor p0)))], 28⟩) (fun f => by kernel_rfl) (fun f => by kernel_rfl) fun f5 => ?_
  refine w_forT (fun _ => rfl) (spec_ProbeTubeOk_I1 p0 fs) (spec_ProbeTubeOk_J1 p0 fs) (fun i1 s1 => True) (fun s1 => True) (p0.Boxes.length) 0 (spec_ProbeTubeOk_b1 p0) (spec_ProbeTubeOk_r1 p0) 0 (()) (lst [f1 0 0]) (sb (by kernel_rfl)) trivial hR ?_ ?_
  · skip
    intro i1 s1 x1 hI1 hX1
    refine w_seq ?_
    refine xr hT [.ln ProbeBox.row p0.Boxes] (fun f6 => ⟨[(1, .one (.pt 1 (x1 0) 0)), (3, .one (.c (.v (.int .i64 ((i1 : Nat) : Int))))), (18, .one (.c (.v (.bool (decide (((i1 : Nat) : Int) < (p0.Boxes.length : Int)))))))], [(1, some (x1 0, .box (ProbeTube.cs .bor p0)))], 28⟩) (fun f => by kernel_rfl) (fun f => by kernel_rfl) fun f6 => ?_
    refine w_cond rfl (fun h7 => ?_) fun h7 => ?_
    · skip
      have hl1 : i1 < p0.Boxes.length := by have hq := of_decide_eq_true h7; first | omega | ((try simp only [LN] at *); omega)
      obtain ⟨B1, hB1⟩ : ∃ B, B = spec_ProbeTubeOk_b1 p0 i1 s1 := ⟨_, rfl⟩
      have hE1 := hB1
      rw [spec_ProbeTubeOk_b1] at hE1
      refine w_skip ?_
      refine w_seq ?_
      refine w_block ?_
      refine xr hT [ix ProbeBox.row p0.Boxes i1 (by omega), ca (c199 (p0.Boxes.getD i1 default))] (fun f8 => ⟨[(1, .one (.pt 1 (x1 0) 0)), (3, .one (.c (.v (.int .i64 ((i1 : Nat) : Int))))), (27, .one (.c (.v (.bool (!(spec_ProbeBoxOk (p0.Boxes.getD i1 default)))))))], [(1, some (x1 0, .box (ProbeTube.cs .bor p0)))], 28⟩) (fun f => by kernel_rfl) (fun f => by kernel_rfl) fun f8 => ?_
      refine w_cond rfl (fun h9 => ?_) fun h9 => ?_
      · rw [if_pos h9] at hE1
        refine xr hT [] (fun f10 => ⟨[(2, .one (.c (.v (.bool false))))], [], 28⟩) (fun f => by kernel_rfl) (fun f => by kernel_rfl) fun f10 => ?_
        refine w_ret ?_
        have hR := hX1.trans (forN_ret hl1 (hB1.symm.trans hE1))
        subst hR
        exact x_ret (by kernel_rfl)
      rw [if_neg (nt h9)] at hE1
      refine w_skip ?_
      refine x_reg hT [.ex true (((i1 : Nat) : Int) + ((1 : Nat) : Int)) ((((i1 + 1) : Nat) : Int)) (fun _ => wr_nat (n := i1) (c := 1) (by omega))] (fun f11 => spec_ProbeTubeOk_I1 p0 fs (i1 + 1) () (lst [x1 0])) (fun f => by kernel_rfl) (fun f => by kernel_rfl) fun f11 s' hs' => ?_
      exact ⟨(), (lst [x1 0]), hl1, trivial, hX1.trans (forN_next hl1 (hB1.symm.trans hE1)), hs'⟩
    have hq := of_decide_eq_false h7
    refine w_exit ?_
    exact ⟨s1, (lst [x1 0]), trivial, hX1.trans (forN_end (by first | omega | ((try simp only [LN] at *); omega))), sb (by kernel_rfl)⟩
  intro s1 x1 hF14 hR12
  rw [spec_ProbeTubeOk_r1] at hR12
  refine xr hT [] (fun f13 => ⟨[(2, .one (.c (.v (.bool true))))], [], 28⟩) (fun f => by kernel_rfl) (fun f => by kernel_rfl) fun f13 => ?_
  refine w_ret ?_
  subst hR12
  exact x_ret (by kernel_rfl)

def spec_ProbeCut_I2 (p0 : ProbeTube) (p1 : Int) (fs : Nat → Nat → Nat) (i2 : Nat) (s2 : List ProbeBox) (x2 : Nat → Nat) : St := ⟨[(1, .one (.c (.v (.int .i64 p1)))), (2, .one (.pt 2 (x2 0) 0)), (4, .one (.pt 4 (x2 1) 0)), (5, .one (.pt 5 (x2 2) 0)), (6, .one (.c (.v (.int .i64 ((i2 : Nat) : Int)))))], [(2, some (x2 0, .box (ProbeTube.cs .bor p0))), (4, some (x2 1, .box [.v (.string ⟨#[]⟩), .nl])), (5, some (x2 2, .box [.v (.string p0.Name), .mu 60501 (x2 3) 6 0 (s2.map ProbeBox.row).length])), (60501, some (x2 3, .arr 6 (s2.map ProbeBox.row)))], 44⟩
def spec_ProbeCut_J2 (p0 : ProbeTube) (p1 : Int) (fs : Nat → Nat → Nat) (s2 : List ProbeBox) (x2 : Nat → Nat) : St := ⟨[(4, .one (.pt 4 (x2 1) 0)), (5, .one (.pt 5 (x2 2) 0))], [(4, some (x2 1, .box [.v (.string ⟨#[]⟩), .nl])), (5, some (x2 2, .box [.v (.string p0.Name), .mu 60501 (x2 3) 6 0 (s2.map ProbeBox.row).length])), (60501, some (x2 3, .arr 6 (s2.map ProbeBox.row)))], 44⟩
def spec_ProbeCut_v1 (p0 : ProbeTube) (p1 : Int) (i2 : Nat) (s2 : List ProbeBox) : List ProbeBox := s2 ++ [(⟨(p0.Boxes.getD i2 default).X, (p0.Boxes.getD i2 default).Y, (p0.Boxes.getD i2 default).Low, (p0.Boxes.getD i2 default).High, p1, (p0.Boxes.getD i2 default).Out⟩ : ProbeBox)]
def spec_ProbeCut_b2 (p0 : ProbeTube) (p1 : Int) (i2 : Nat) (s2 : List ProbeBox) : Res (List ProbeBox) ProbeTube := (if decide (((p0.Boxes.getD i2 default).Out) < p1) then (.next s2) else (if decide (((p0.Boxes.getD i2 default).In) < p1) then (.next (spec_ProbeCut_v1 p0 p1 i2 s2)) else (.next (s2 ++ [p0.Boxes.getD i2 default]))))
def spec_ProbeCut_r2 (p0 : ProbeTube) (p1 : Int) (s2 : List ProbeBox) : ProbeTube := (⟨p0.Name, s2⟩ : ProbeTube)
/-- spec.ProbeCut -/
def spec_ProbeCut (p0 : ProbeTube) (p1 : Int) : ProbeTube := (if !(spec_ProbeTubeOk p0) then (⟨⟨#[]⟩, []⟩ : ProbeTube) else (Res.fin (spec_ProbeCut_r2 p0 p1) (forN (spec_ProbeCut_b2 p0 p1) (p0.Boxes.length - 0) 0 ([] : List ProbeBox))))
theorem c98 (p0 : ProbeTube) (p1 : Int) (k0_0 : ProbeTube.ok p0) : Fn Proofs.Try.prog 98 [⟨.val, true, ProbeTube.cs .bor p0⟩, ⟨.val, false, [.v (.int .i64 p1)]⟩] [.ag (ProbeTube.cs .own (spec_ProbeCut p0 p1))] [] := by
  obtain ⟨R, hR⟩ : ∃ R, R = spec_ProbeCut p0 p1 := ⟨_, rfl⟩
  rw [← hR]
  rw [spec_ProbeCut] at hR
  refine ⟨fn_intro hT Proofs.Try.func98 rfl rfl fun fs => ?_, _, Proofs.Try.func98, rfl, rfl⟩
  have q0 := k0_0; simp only [ProbeTube.ok] at q0
  refine xr hT [] (fun f1 => ⟨[(1, .one (.c (.v (.int .i64 p1)))), (2, .one (.pt 2 (f1 0 0) 0)), (4, .one (.pt 4 (f1 1 0) 0))], [(2, some (f1 0 0, .box (ProbeTube.cs .bor p0))), (4, some (f1 1 0, .box [.v (.string ⟨#[]⟩), .nl]))], 44⟩) (fun f => by kernel_rfl) (fun f => by kernel_rfl) fun f1 => ?_
  refine xr hT [] (fun f2 => ⟨[(1, .one (.c (.v (.int .i64 p1)))), (2, .one (.pt 2 (f1 0 0) 0)), (4, .one (.pt 4 (f1 1 0) 0)), (5, .one (.pt 5 (f2 3 0) 0))], [(2, some (f1 0 0, .box (ProbeTube.cs .bor p0))), (4, some (f1 1 0, .box [.v (.string ⟨#[]⟩), .nl])), (5, some (f2 3 0, .box [.v (.string p0.Name), .nl]))], 44⟩) (fun f => by kernel_rfl) (fun f => by kernel_rfl) fun f2 => ?_
  refine w_seq ?_
  refine xr hT [ca (c176 p0 (by first | assumption | exact (by omega : p0.Boxes.length ≤ 1048576)))] (fun f3 => ⟨[(1, .one (.c (.v (.int .i64 p1)))), (2, .one (.pt 2 (f1 0 0) 0)), (4, .one (.pt 4 (f1 1 0) 0)), (5, .one (.pt 5 (f2 3 0) 0)), (13, .one (.c (.v (.bool (!(spec_ProbeTubeOk p0))))))], [(2, some (f1 0 0, .box (ProbeTube.cs .bor p0))), (4, some (f1 1 0, .box [.v (.string ⟨#[]⟩), .nl])), (5, some (f2 3 0, .box [.v (.string p0.Name), .nl]))], 44⟩) (fun f => by kernel_rfl) (fun f => by kernel_rfl) fun f3 => ?_
  refine w_cond rfl (fun h4 => ?_) fun h4 => ?_
  · rw [if_pos h4] at hR
    refine xr hT [] (fun f5 => ⟨[(4, .one (.pt 4 (f1 1 0) 0))], [(4, some (f1 1 0, .box [.v (.string ⟨#[]⟩), .nl]))], 44⟩) (fun f => by kernel_rfl) (fun f => by kernel_rfl) fun f5 => ?_
    refine w_ret ?_
    subst hR
    exact x_ret (by kernel_rfl)
  rw [if_neg (nt h4)] at hR
  refine w_skip ?_
  refine w_seq ?_
  refine xr hT [] (fun f6 => ⟨[(1, .one (.c (.v (.int .i64 p1)))), (2, .one (.pt 2 (f1 0 0) 0)), (4, .one (.pt 4 (f1 1 0) 0)), (5, .one (.pt 5 (f2 3 0) 0)), (6, .one (.c (.v (.int .i64 0))))], [(2, some (f1 0 0, .box (ProbeTube.cs .bor p0))), (4, some (f1 1 0, .box [.v (.string ⟨#[]⟩), .nl])), (5, some (f2 3 0, .box [.v (.string p0.Name), .nl]))], 44⟩) (fun f => by kernel_rfl) (fun f => by kernel_rfl) fun f6 => ?_
  refine w_ownO 5 1 60501 6 rfl rfl rfl rfl fun σ7 => ?_
  refine w_forT (fun _ => rfl) (spec_ProbeCut_I2 p0 p1 fs) (spec_ProbeCut_J2 p0 p1 fs) (fun i2 s2 => i2 ≤ p0.Boxes.length ∧ s2.length ≤ (([] : List ProbeBox)).length + i2) (fun s2 => s2.length ≤ (([] : List ProbeBox)).length + p0.Boxes.length) (p0.Boxes.length) 0 (spec_ProbeCut_b2 p0 p1) (spec_ProbeCut_r2 p0 p1) 0 (([] : List ProbeBox)) (lst [f1 0 0, f1 1 0, f2 3 0, σ7]) (sb (by kernel_rfl)) (by first | rfl | ((try simp only [LN, spec_ProbeCut_v1]); omega) | (simp; done) | (simp; omega)) hR ?_ ?_
  · skip
    intro i2 s2 x2 hI2 hX2
    try simp only [LN, spec_ProbeCut_v1] at hI2
    refine w_seq ?_
    refine xr hT [.ln ProbeBox.row p0.Boxes] (fun f8 => ⟨[(1, .one (.c (.v (.int .i64 p1)))), (2, .one (.pt 2 (x2 0) 0)), (4, .one (.pt 4 (x2 1) 0)), (5, .one (.pt 5 (x2 2) 0)), (6, .one (.c (.v (.int .i64 ((i2 : Nat) : Int))))), (19, .one (.c (.v (.bool (decide (((i2 : Nat) : Int) < (p0.Boxes.length : Int)))))))], [(2, some (x2 0, .box (ProbeTube.cs .bor p0))), (4, some (x2 1, .box [.v (.string ⟨#[]⟩), .nl])), (5, some (x2 2, .box [.v (.string p0.Name), .mu 60501 (x2 3) 6 0 (s2.map ProbeBox.row).length])), (60501, some (x2 3, .arr 6 (s2.map ProbeBox.row)))], 44⟩) (fun f => by kernel_rfl) (fun f => by kernel_rfl) fun f8 => ?_
    refine w_cond rfl (fun h9 => ?_) fun h9 => ?_
    · skip
      have hl2 : i2 < p0.Boxes.length := by have hq := of_decide_eq_true h9; first | omega | ((try simp only [LN, spec_ProbeCut_v1] at *); omega)
      have hl2x := hl2; try simp only [LN, spec_ProbeCut_v1] at hl2x
      obtain ⟨B2, hB2⟩ : ∃ B, B = spec_ProbeCut_b2 p0 p1 i2 s2 := ⟨_, rfl⟩
      have hE2 := hB2
      rw [spec_ProbeCut_b2] at hE2
      refine w_skip ?_
      refine w_seq ?_
      refine w_block ?_
      refine xr hT [ix ProbeBox.row p0.Boxes i2 (by omega)] (fun f10 => ⟨[(1, .one (.c (.v (.int .i64 p1)))), (2, .one (.pt 2 (x2 0) 0)), (4, .one (.pt 4 (x2 1) 0)), (5, .one (.pt 5 (x2 2) 0)), (6, .one (.c (.v (.int .i64 ((i2 : Nat) : Int))))), (7, .one (.pt 7 (f10 5 0) 0))], [(2, some (x2 0, .box (ProbeTube.cs .bor p0))), (4, some (x2 1, .box [.v (.string ⟨#[]⟩), .nl])), (5, some (x2 2, .box [.v (.string p0.Name), .mu 60501 (x2 3) 6 0 (s2.map ProbeBox.row).length])), (7, some (f10 5 0, .box (ProbeBox.cs .bor (p0.Boxes.getD i2 default)))), (60501, some (x2 3, .arr 6 (s2.map ProbeBox.row)))], 44⟩) (fun f => by kernel_rfl) (fun f => by kernel_rfl) fun f10 => ?_
      refine w_seq ?_
      refine xr hT [] (fun f11 => ⟨[(1, .one (.c (.v (.int .i64 p1)))), (2, .one (.pt 2 (x2 0) 0)), (4, .one (.pt 4 (x2 1) 0)), (5, .one (.pt 5 (x2 2) 0)), (6, .one (.c (.v (.int .i64 ((i2 : Nat) : Int))))), (7, .one (.pt 7 (f10 5 0) 0)), (30, .one (.c (.v (.bool (decide (((p0.Boxes.getD i2 default).Out) < p1))))))], [(2, some (x2 0, .box (ProbeTube.cs .bor p0))), (4, some (x2 1, .box [.v (.string ⟨#[]⟩), .nl])), (5, some (x2 2, .box [.v (.string p0.Name), .mu 60501 (x2 3) 6 0 (s2.map ProbeBox.row).length])), (7, some (f10 5 0, .box (ProbeBox.cs .bor (p0.Boxes.getD i2 default)))), (60501, some (x2 3, .arr 6 (s2.map ProbeBox.row)))], 44⟩) (fun f => by kernel_rfl) (fun f => by kernel_rfl) fun f11 => ?_
      refine w_cond rfl (fun h12 => ?_) fun h12 => ?_
      · rw [if_pos h12] at hE2
        have gh12 := of_decide_eq_true h12
        refine w_exit ?_
        refine x_reg hT [.ex true (((i2 : Nat) : Int) + ((1 : Nat) : Int)) ((((i2 + 1) : Nat) : Int)) (fun _ => wr_nat (n := i2) (c := 1) (by omega))] (fun f13 => spec_ProbeCut_I2 p0 p1 fs (i2 + 1) s2 (lst [x2 0, x2 1, x2 2, x2 3])) (fun f => by kernel_rfl) (fun f => by kernel_rfl) fun f13 s' hs' => ?_
        exact ⟨s2, (lst [x2 0, x2 1, x2 2, x2 3]), hl2, (by (try simp only [LN, spec_ProbeCut_v1] at *); omega), hX2.trans (forN_next hl2 (hB2.symm.trans hE2)), hs'⟩
      rw [if_neg (nt h12)] at hE2
      have gh12 := of_decide_eq_false h12
      refine w_skip ?_
      refine w_seq ?_
      refine xr hT [] (fun f14 => ⟨[(1, .one (.c (.v (.int .i64 p1)))), (2, .one (.pt 2 (x2 0) 0)), (4, .one (.pt 4 (x2 1) 0)), (5, .one (.pt 5 (x2 2) 0)), (6, .one (.c (.v (.int .i64 ((i2 : Nat) : Int))))), (7, .one (.pt 7 (f10 5 0) 0)), (34, .one (.c (.v (.bool (decide (((p0.Boxes.getD i2 default).In) < p1))))))], [(2, some (x2 0, .box (ProbeTube.cs .bor p0))), (4, some (x2 1, .box [.v (.string ⟨#[]⟩), .nl])), (5, some (x2 2, .box [.v (.string p0.Name), .mu 60501 (x2 3) 6 0 (s2.map ProbeBox.row).length])), (7, some (f10 5 0, .box (ProbeBox.cs .bor (p0.Boxes.getD i2 default)))), (60501, some (x2 3, .arr 6 (s2.map ProbeBox.row)))], 44⟩) (fun f => by kernel_rfl) (fun f => by kernel_rfl) fun f14 => ?_
      refine w_cond rfl (fun h15 => ?_) fun h15 => ?_
      · rw [if_pos h15] at hE2
        have gh15 := of_decide_eq_true h15
        refine xr1 (fun _ => rfl) hT [] (fun f16 => ⟨[(1, .one (.c (.v (.int .i64 p1)))), (2, .one (.pt 2 (x2 0) 0)), (4, .one (.pt 4 (x2 1) 0)), (5, .one (.pt 5 (x2 2) 0)), (6, .one (.c (.v (.int .i64 ((i2 : Nat) : Int))))), (7, .one (.pt 7 (f10 5 0) 0))], [(2, some (x2 0, .box (ProbeTube.cs .bor p0))), (4, some (x2 1, .box [.v (.string ⟨#[]⟩), .nl])), (5, some (x2 2, .box [.v (.string p0.Name), .mu 60501 (x2 3) 6 0 (s2.map ProbeBox.row).length])), (7, some (f10 5 0, .box [.v (.int .i64 ((p0.Boxes.getD i2 default).X)), .v (.int .i64 ((p0.Boxes.getD i2 default).Y)), .v (.int .i64 ((p0.Boxes.getD i2 default).Low)), .v (.int .i64 ((p0.Boxes.getD i2 default).High)), .v (.int .i64 p1), .v (.int .i64 ((p0.Boxes.getD i2 default).Out))])), (60501, some (x2 3, .arr 6 (s2.map ProbeBox.row)))], 44⟩) (fun f => by kernel_rfl) (fun f => by kernel_rfl) fun f16 => ?_
        refine xr1 (fun _ => rfl) hT [.rows ProbeBox.row [(⟨(p0.Boxes.getD i2 default).X, (p0.Boxes.getD i2 default).Y, (p0.Boxes.getD i2 default).Low, (p0.Boxes.getD i2 default).High, p1, (p0.Boxes.getD i2 default).Out⟩ : ProbeBox)], .app true ProbeBox.row s2 [(⟨(p0.Boxes.getD i2 default).X, (p0.Boxes.getD i2 default).Y, (p0.Boxes.getD i2 default).Low, (p0.Boxes.getD i2 default).High, p1, (p0.Boxes.getD i2 default).Out⟩ : ProbeBox)] 48 (fun h => by (try simp only [LN, spec_ProbeCut_v1]); omega)] (fun f17 => ⟨[(1, .one (.c (.v (.int .i64 p1)))), (2, .one (.pt 2 (x2 0) 0)), (4, .one (.pt 4 (x2 1) 0)), (5, .one (.pt 5 (x2 2) 0)), (6, .one (.c (.v (.int .i64 ((i2 : Nat) : Int)))))], [(2, some (x2 0, .box (ProbeTube.cs .bor p0))), (4, some (x2 1, .box [.v (.string ⟨#[]⟩), .nl])), (5, some (x2 2, .box [.v (.string p0.Name), .mu 60501 (f17 4 0) 6 0 ((spec_ProbeCut_v1 p0 p1 i2 s2).map ProbeBox.row).length])), (60501, some (f17 4 0, .arr 6 ((spec_ProbeCut_v1 p0 p1 i2 s2).map ProbeBox.row)))], 44⟩) (fun f => by kernel_rfl) (fun f => by kernel_rfl) fun f17 => ?_
        refine x_reg hT [.ex true (((i2 : Nat) : Int) + ((1 : Nat) : Int)) ((((i2 + 1) : Nat) : Int)) (fun _ => wr_nat (n := i2) (c := 1) (by omega))] (fun f18 => spec_ProbeCut_I2 p0 p1 fs (i2 + 1) (spec_ProbeCut_v1 p0 p1 i2 s2) (lst [x2 0, x2 1, x2 2, f17 4 0])) (fun f => by kernel_rfl) (fun f => by kernel_rfl) fun f18 s' hs' => ?_
        exact ⟨(spec_ProbeCut_v1 p0 p1 i2 s2), (lst [x2 0, x2 1, x2 2, f17 4 0]), hl2, (by (try simp only [LN, spec_ProbeCut_v1] at *); omega), hX2.trans (forN_next hl2 (hB2.symm.trans hE2)), hs'⟩
      rw [if_neg (nt h15)] at hE2
      have gh15 := of_decide_eq_false h15
      refine w_skip ?_
      refine xr1 (fun _ => rfl) hT [.rows ProbeBox.row [p0.Boxes.getD i2 default], .app true ProbeBox.row s2 [p0.Boxes.getD i2 default] 48 (fun h => by (try simp only [LN, spec_ProbeCut_v1]); omega)] (fun f19 => ⟨[(1, .one (.c (.v (.int .i64 p1)))), (2, .one (.pt 2 (x2 0) 0)), (4, .one (.pt 4 (x2 1) 0)), (5, .one (.pt 5 (x2 2) 0)), (6, .one (.c (.v (.int .i64 ((i2 : Nat) : Int)))))], [(2, some (x2 0, .box (ProbeTube.cs .bor p0))), (4, some (x2 1, .box [.v (.string ⟨#[]⟩), .nl])), (5, some (x2 2, .box [.v (.string p0.Name), .mu 60501 (f19 4 0) 6 0 ((s2 ++ [p0.Boxes.getD i2 default]).map ProbeBox.row).length])), (60501, some (f19 4 0, .arr 6 ((s2 ++ [p0.Boxes.getD i2 default]).map ProbeBox.row)))], 44⟩) (fun f => by kernel_rfl) (fun f => by kernel_rfl) fun f19 => ?_
      refine x_reg hT [.ex true (((i2 : Nat) : Int) + ((1 : Nat) : Int)) ((((i2 + 1) : Nat) : Int)) (fun _ => wr_nat (n := i2) (c := 1) (by omega))] (fun f20 => spec_ProbeCut_I2 p0 p1 fs (i2 + 1) (s2 ++ [p0.Boxes.getD i2 default]) (lst [x2 0, x2 1, x2 2, f19 4 0])) (fun f => by kernel_rfl) (fun f => by kernel_rfl) fun f20 s' hs' => ?_
      exact ⟨s2 ++ [p0.Boxes.getD i2 default], (lst [x2 0, x2 1, x2 2, f19 4 0]), hl2, (by (try simp only [LN, spec_ProbeCut_v1] at *); omega), hX2.trans (forN_next hl2 (hB2.symm.trans hE2)), hs'⟩
    have hq := of_decide_eq_false h9
    refine w_exit ?_
    exact ⟨s2, (lst [x2 0, x2 1, x2 2, x2 3]), (by (try simp only [LN, spec_ProbeCut_v1] at *); omega), hX2.trans (forN_end (by first | omega | ((try simp only [LN, spec_ProbeCut_v1] at *); omega))), sb (by kernel_rfl)⟩
  intro s2 x2 hF23 hR21
  try simp only [LN, spec_ProbeCut_v1] at hF23
  rw [spec_ProbeCut_r2] at hR21
  refine xr hT [] (fun f22 => ⟨[(4, .one (.pt 4 (x2 1) 0))], [(4, some (x2 1, .box [.v (.string p0.Name), .mu 60501 (x2 3) 6 0 (s2.map ProbeBox.row).length])), (60501, some (x2 3, .arr 6 (s2.map ProbeBox.row)))], 44⟩) (fun f => by kernel_rfl) (fun f => by kernel_rfl) fun f22 => ?_
  refine w_ret ?_
  subst hR21
  exact x_ret (by kernel_rfl)
theorem f_spec_ProbeCut (p0 : ProbeTube) (p1 : Int) (h0 : ProbeTube.ok p0) : (spec_ProbeCut p0 p1).Boxes.length ≤ p0.Boxes.length := by
  unfold spec_ProbeCut
  rw [ite_all (M := fun (r : ProbeTube) => r.Boxes.length ≤ p0.Boxes.length)]
  refine ⟨fun _ => by simp, fun _ => ?_⟩
  refine forN_inv (fun (i : Nat) (s : List ProbeBox) => s.length ≤ i) (fun (r : ProbeTube) => r.Boxes.length ≤ p0.Boxes.length) (p0.Boxes.length) (fun j s hj h => ?_) (fun s h => ?_) _ 0 _ rfl (Nat.zero_le _) (by simp)
  · unfold spec_ProbeCut_b2; simp only [all_ite, all_next, all_brk, all_ret]; (try simp only [LN, spec_ProbeCut_v1]); (repeat' (first | omega | apply And.intro | intro _))
  · unfold spec_ProbeCut_r2; (try simp only []); omega

/-- spec.FlySpans -/
def spec_FlySpans (p0 : FlyPath) : (List FlySpan) × Bool := (if !(spec_FlyPathOk p0) then (([] : List FlySpan), false) else ((spec_l4Spans p0).1, (spec_l4Spans p0).2))
theorem c166 (p0 : FlyPath) (k0_0 : FlyPath.ok p0) : Fn Proofs.Try.prog 166 [⟨.val, true, FlyPath.cs .bor p0⟩] [.c (.sl .own 2 ((spec_FlySpans p0).1.map FlySpan.row)), .c (.v (.bool (spec_FlySpans p0).2))] [] := by
  obtain ⟨R, hR⟩ : ∃ R, R = spec_FlySpans p0 := ⟨_, rfl⟩
  rw [← hR]
  rw [spec_FlySpans] at hR
  refine ⟨fn_intro hT Proofs.Try.func166 rfl rfl fun fs => ?_, _, Proofs.Try.func166, rfl, rfl⟩
  have q0 := k0_0; simp only [FlyPath.ok] at q0
  refine xr hT [] (fun f1 => ⟨[(1, .one (.pt 1 (f1 0 0) 0))], [(1, some (f1 0 0, .box (FlyPath.cs .bor p0)))], 12⟩) (fun f => by kernel_rfl) (fun f => by kernel_rfl) fun f1 => ?_
  refine w_seq ?_
  refine xr hT [ca (c58 p0 (by first | assumption | exact (by omega : p0.Steps.length ≤ 1048576)))] (fun f2 => ⟨[(1, .one (.pt 1 (f1 0 0) 0)), (6, .one (.c (.v (.bool (!(spec_FlyPathOk p0))))))], [(1, some (f1 0 0, .box (FlyPath.cs .bor p0)))], 12⟩) (fun f => by kernel_rfl) (fun f => by kernel_rfl) fun f2 => ?_
  refine w_cond rfl (fun h3 => ?_) fun h3 => ?_
  · rw [if_pos h3] at hR
    refine xr hT [] (fun f4 => ⟨[(2, .one (.c (.mu 7 (f4 0 0) 2 0 (([] : List FlySpan).map FlySpan.row).length))), (3, .one (.c (.v (.bool false))))], [(7, some (f4 0 0, .arr 2 (([] : List FlySpan).map FlySpan.row)))], 12⟩) (fun f => by kernel_rfl) (fun f => by kernel_rfl) fun f4 => ?_
    refine w_ret ?_
    subst hR
    exact x_ret (by kernel_rfl)
  rw [if_neg (nt h3)] at hR
  refine w_skip ?_
  have w6 := f_spec_l4Spans p0 (by first | assumption | exact (by omega : p0.Steps.length ≤ 1048576))
  have w6' := w6; try simp only [LN] at w6'
  refine xr hT [ca (c127 p0 (by first | assumption | exact (by omega : p0.Steps.length ≤ 1048576)))] (fun f5 => ⟨[(2, .one (.c (.mu 1000000 (gk (f5 1) 0 0) 2 0 (((spec_l4Spans p0).1).map FlySpan.row).length))), (3, .one (.c (.v (.bool ((spec_l4Spans p0).2)))))], [(1000000, some (gk (f5 1) 0 0, .arr 2 (((spec_l4Spans p0).1).map FlySpan.row)))], 12⟩) (fun f => by kernel_rfl) (fun f => by kernel_rfl) fun f5 => ?_
  refine w_ret ?_
  subst hR
  exact x_ret (by kernel_rfl)
theorem f_spec_FlySpans (p0 : FlyPath) (h0 : FlyPath.ok p0) : (spec_FlySpans p0).1.length ≤ p0.Steps.length + 1 ∧ ((spec_FlySpans p0).2 = true → (spec_FlySpans p0).1.length = p0.Steps.length + 1) := by
  unfold spec_FlySpans
  split
  · simp
  · exact f_spec_l4Spans p0 h0

def spec_FlyTube_I1 (p0 : FlyPath) (fs : Nat → Nat → Nat) (s1 : List FlyBox × Int) (x1 : Nat → Nat) : St := ⟨[(1, .one (.pt 1 (x1 0) 0)), (3, .one (.c (.mu 8 (x1 1) 6 0 (s1.1.map FlyBox.row).length))), (4, .one (.c (.mu 1200000 (x1 2) 2 0 (((spec_FlySpans p0).1).map FlySpan.row).length))), (5, .one (.c (.v (.bool ((spec_FlySpans p0).2))))), (6, .one (.c (.v (.int .i64 s1.2))))], [(1, some (x1 0, .box (FlyPath.cs .bor p0))), (8, some (x1 1, .arr 6 (s1.1.map FlyBox.row))), (1200000, some (x1 2, .arr 2 (((spec_FlySpans p0).1).map FlySpan.row)))], 54⟩
def spec_FlyTube_J1 (p0 : FlyPath) (fs : Nat → Nat → Nat) (s1 : List FlyBox × Int) (x1 : Nat → Nat) : St := ⟨[(3, .one (.c (.mu 8 (x1 1) 6 0 (s1.1.map FlyBox.row).length)))], [(8, some (x1 1, .arr 6 (s1.1.map FlyBox.row)))], 54⟩
def spec_FlyTube_v1 (p0 : FlyPath) (s1 : List FlyBox × Int) : List FlyBox := s1.1 ++ [(⟨(p0.Steps.getD ((s1.2).toNat) default).X, (p0.Steps.getD ((s1.2).toNat) default).Y, (p0.Steps.getD ((s1.2).toNat) default).Low, (p0.Steps.getD ((s1.2).toNat) default).High, (((spec_FlySpans p0).1).getD ((s1.2).toNat) default).Low, wr (((((spec_FlySpans p0).1).getD ((s1.2 + 1).toNat) default).High) - 1)⟩ : FlyBox)]
def spec_FlyTube_b1 (p0 : FlyPath) (s1 : List FlyBox × Int) : Res (List FlyBox × Int) (List FlyBox) := (if ((spec_FlySpans p0).2) && (decide (s1.2 < (p0.Steps.length : Int))) then (.next ((spec_FlyTube_v1 p0 s1), s1.2 + 1)) else (.brk (s1.1, s1.2)))
def spec_FlyTube_u1 (p0 : FlyPath) (s1 : List FlyBox × Int) : Nat :=  ((p0.Steps.length : Int) - s1.2 + 1).toNat
def spec_FlyTube_r1 (p0 : FlyPath) (s1 : List FlyBox × Int) : (List FlyBox) := s1.1
/-- spec.FlyTube -/
def spec_FlyTube (p0 : FlyPath) : (List FlyBox) := (Res.fin (spec_FlyTube_r1 p0) (itr (spec_FlyTube_b1 p0) (spec_FlyTube_u1 p0 (([] : List FlyBox), 0) + 1) (([] : List FlyBox), 0)))
theorem c168 (p0 : FlyPath) (k0_0 : FlyPath.ok p0) : Fn Proofs.Try.prog 168 [⟨.val, true, FlyPath.cs .bor p0⟩] [.c (.sl .own 6 ((spec_FlyTube p0).map FlyBox.row))] [] := by
  obtain ⟨R, hR⟩ : ∃ R, R = spec_FlyTube p0 := ⟨_, rfl⟩
  rw [← hR]
  rw [spec_FlyTube] at hR
  refine ⟨fn_intro hT Proofs.Try.func168 rfl rfl fun fs => ?_, _, Proofs.Try.func168, rfl, rfl⟩
  have q0 := k0_0; simp only [FlyPath.ok] at q0
  refine xr hT [] (fun f1 => ⟨[(1, .one (.pt 1 (f1 0 0) 0))], [(1, some (f1 0 0, .box (FlyPath.cs .bor p0)))], 54⟩) (fun f => by kernel_rfl) (fun f => by kernel_rfl) fun f1 => ?_
  refine xr hT [] (fun f2 => ⟨[(1, .one (.pt 1 (f1 0 0) 0)), (3, .one (.c (.mu 8 (f2 0 0) 6 0 (([] : List FlyBox).map FlyBox.row).length)))], [(1, some (f1 0 0, .box (FlyPath.cs .bor p0))), (8, some (f2 0 0, .arr 6 (([] : List FlyBox).map FlyBox.row)))], 54⟩) (fun f => by kernel_rfl) (fun f => by kernel_rfl) fun f2 => ?_
  have w4 := f_spec_FlySpans p0 (by first | assumption | exact (by omega : p0.Steps.length ≤ 1048576))
  have w4' := w4; try simp only [LN, spec_FlyTube_v1] at w4'
  refine xr hT [ca (c166 p0 (by first | assumption | exact (by omega : p0.Steps.length ≤ 1048576)))] (fun f3 => ⟨[(1, .one (.pt 1 (f1 0 0) 0)), (3, .one (.c (.mu 8 (f2 0 0) 6 0 (([] : List FlyBox).map FlyBox.row).length))), (4, .one (.c (.mu 1200000 (gk (f3 1) 0 0) 2 0 (((spec_FlySpans p0).1).map FlySpan.row).length))), (5, .one (.c (.v (.bool ((spec_FlySpans p0).2)))))], [(1, some (f1 0 0, .box (FlyPath.cs .bor p0))), (8, some (f2 0 0, .arr 6 (([] : List FlyBox).map FlyBox.row))), (1200000, some (gk (f3 1) 0 0, .arr 2 (((spec_FlySpans p0).1).map FlySpan.row)))], 54⟩) (fun f => by kernel_rfl) (fun f => by kernel_rfl) fun f3 => ?_
  refine w_seq ?_
  refine xr hT [] (fun f5 => ⟨[(1, .one (.pt 1 (f1 0 0) 0)), (3, .one (.c (.mu 8 (f2 0 0) 6 0 (([] : List FlyBox).map FlyBox.row).length))), (4, .one (.c (.mu 1200000 (gk (f3 1) 0 0) 2 0 (((spec_FlySpans p0).1).map FlySpan.row).length))), (5, .one (.c (.v (.bool ((spec_FlySpans p0).2))))), (6, .one (.c (.v (.int .i64 0))))], [(1, some (f1 0 0, .box (FlyPath.cs .bor p0))), (8, some (f2 0 0, .arr 6 (([] : List FlyBox).map FlyBox.row))), (1200000, some (gk (f3 1) 0 0, .arr 2 (((spec_FlySpans p0).1).map FlySpan.row)))], 54⟩) (fun f => by kernel_rfl) (fun f => by kernel_rfl) fun f5 => ?_
  refine w_itrT (fun _ => rfl) (spec_FlyTube_I1 p0 fs) (spec_FlyTube_J1 p0 fs) (fun s1 => 0 ≤ s1.2 ∧ s1.2 ≤ p0.Steps.length ∧ s1.1.length ≤ s1.2) (fun s1 => True) (spec_FlyTube_u1 p0) 0 (spec_FlyTube_b1 p0) (spec_FlyTube_r1 p0) ((([] : List FlyBox), 0)) (lst [f1 0 0, f2 0 0, gk (f3 1) 0 0]) (sb (by kernel_rfl)) (by first | rfl | ((try simp only [LN, spec_FlyTube_v1]); omega) | (simp; done) | (simp; omega)) hR ?_ ?_
  · skip
    intro s1 x1 k1 hI1 hl1 hX1
    try simp only [LN, spec_FlyTube_v1] at hI1
    refine w_seq ?_
    refine xr hT [.ln FlyStep.row p0.Steps] (fun f6 => ⟨[(1, .one (.pt 1 (x1 0) 0)), (3, .one (.c (.mu 8 (x1 1) 6 0 (s1.1.map FlyBox.row).length))), (4, .one (.c (.mu 1200000 (x1 2) 2 0 (((spec_FlySpans p0).1).map FlySpan.row).length))), (5, .one (.c (.v (.bool ((spec_FlySpans p0).2))))), (6, .one (.c (.v (.int .i64 s1.2)))), (21, .one (.c (.v (.bool (((spec_FlySpans p0).2) && (decide (s1.2 < (p0.Steps.length : Int))))))))], [(1, some (x1 0, .box (FlyPath.cs .bor p0))), (8, some (x1 1, .arr 6 (s1.1.map FlyBox.row))), (1200000, some (x1 2, .arr 2 (((spec_FlySpans p0).1).map FlySpan.row)))], 54⟩) (fun f => by kernel_rfl) (fun f => by kernel_rfl) fun f6 => ?_
    obtain ⟨B1, hB1⟩ : ∃ B, B = spec_FlyTube_b1 p0 s1 := ⟨_, rfl⟩
    have hE1 := hB1
    rw [spec_FlyTube_b1] at hE1
    refine w_cond rfl (fun h7 => ?_) fun h7 => ?_
    · rw [if_pos h7] at hE1
      have gh7 := h7; try simp only [Bool.not_eq_true', Bool.not_eq_false', decide_eq_true_eq, decide_eq_false_iff_not, Bool.and_eq_true, Bool.or_eq_true, Bool.and_eq_false_iff, Bool.or_eq_false_iff] at gh7
      refine w_skip ?_
      refine w_seq ?_
      refine w_block ?_
      refine xr hT [iz FlyStep.row p0.Steps (s1.2) (by omega)] (fun f8 => ⟨[(1, .one (.pt 1 (x1 0) 0)), (3, .one (.c (.mu 8 (x1 1) 6 0 (s1.1.map FlyBox.row).length))), (4, .one (.c (.mu 1200000 (x1 2) 2 0 (((spec_FlySpans p0).1).map FlySpan.row).length))), (5, .one (.c (.v (.bool ((spec_FlySpans p0).2))))), (6, .one (.c (.v (.int .i64 s1.2)))), (7, .one (.pt 7 (f8 5 0) 0))], [(1, some (x1 0, .box (FlyPath.cs .bor p0))), (7, some (f8 5 0, .box (FlyStep.cs .bor (p0.Steps.getD ((s1.2).toNat) default)))), (8, some (x1 1, .arr 6 (s1.1.map FlyBox.row))), (1200000, some (x1 2, .arr 2 (((spec_FlySpans p0).1).map FlySpan.row)))], 54⟩) (fun f => by kernel_rfl) (fun f => by kernel_rfl) fun f8 => ?_
      refine xd1 (fun _ => rfl) hT hM [iz FlySpan.row ((spec_FlySpans p0).1) (s1.2) (by (first | omega | ((try simp only [LN, spec_FlyTube_v1]); omega) | ((try simp only [wr, IntKind.wrap_i64, LN, spec_FlyTube_v1] at *); omega) | (simp_all <;> omega))), ix FlySpan.row ((spec_FlySpans p0).1) ((s1.2).toNat) (by (first | omega | ((try simp only [LN, spec_FlyTube_v1]); omega) | ((try simp only [wr, IntKind.wrap_i64, LN, spec_FlyTube_v1] at *); omega) | (simp_all <;> omega))), .ex true (s1.2 + 1) (s1.2 + 1) (fun _ => wr_eq (by omega) (by omega)), iz FlySpan.row ((spec_FlySpans p0).1) (s1.2 + 1) (by (first | omega | ((try simp only [LN, spec_FlyTube_v1]); omega) | ((try simp only [wr, IntKind.wrap_i64, LN, spec_FlyTube_v1] at *); omega) | (simp_all <;> omega))), ix FlySpan.row ((spec_FlySpans p0).1) ((s1.2 + 1).toNat) (by (first | omega | ((try simp only [LN, spec_FlyTube_v1]); omega) | ((try simp only [wr, IntKind.wrap_i64, LN, spec_FlyTube_v1] at *); omega) | (simp_all <;> omega))), .wr, .rows FlyBox.row [(⟨(p0.Steps.getD ((s1.2).toNat) default).X, (p0.Steps.getD ((s1.2).toNat) default).Y, (p0.Steps.getD ((s1.2).toNat) default).Low, (p0.Steps.getD ((s1.2).toNat) default).High, (((spec_FlySpans p0).1).getD ((s1.2).toNat) default).Low, wr (((((spec_FlySpans p0).1).getD ((s1.2 + 1).toNat) default).High) - 1)⟩ : FlyBox)], .app true FlyBox.row s1.1 [(⟨(p0.Steps.getD ((s1.2).toNat) default).X, (p0.Steps.getD ((s1.2).toNat) default).Y, (p0.Steps.getD ((s1.2).toNat) default).Low, (p0.Steps.getD ((s1.2).toNat) default).High, (((spec_FlySpans p0).1).getD ((s1.2).toNat) default).Low, wr (((((spec_FlySpans p0).1).getD ((s1.2 + 1).toNat) default).High) - 1)⟩ : FlyBox)] 48 (fun h => by (try simp only [LN, spec_FlyTube_v1]); omega)] (fun f9 => ⟨[(1, .one (.pt 1 (x1 0) 0)), (3, .one (.c (.mu 8 (f9 23 0) 6 0 ((spec_FlyTube_v1 p0 s1).map FlyBox.row).length))), (4, .one (.c (.mu 1200000 (x1 2) 2 0 (((spec_FlySpans p0).1).map FlySpan.row).length))), (5, .one (.c (.v (.bool ((spec_FlySpans p0).2))))), (6, .one (.c (.v (.int .i64 s1.2))))], [(1, some (x1 0, .box (FlyPath.cs .bor p0))), (8, some (f9 23 0, .arr 6 ((spec_FlyTube_v1 p0 s1).map FlyBox.row))), (1200000, some (x1 2, .arr 2 (((spec_FlySpans p0).1).map FlySpan.row)))], 54⟩) (fun f => by kernel_rfl) (fun f => by kernel_rfl) (fun f => by kernel_rfl) fun f9 => ?_
      refine x_reg hT [.ex true (s1.2 + 1) (s1.2 + 1) (fun _ => wr_eq (by omega) (by omega))] (fun f10 => spec_FlyTube_I1 p0 fs ((spec_FlyTube_v1 p0 s1), s1.2 + 1) (lst [x1 0, f9 23 0, x1 2])) (fun f => by kernel_rfl) (fun f => by kernel_rfl) fun f10 s' hs' => ?_
      exact ⟨((spec_FlyTube_v1 p0 s1), s1.2 + 1), (lst [x1 0, f9 23 0, x1 2]), (by simp only [spec_FlyTube_u1]; (first | omega | ((try simp only [LN, spec_FlyTube_v1]); omega) | ((try simp only [wr, IntKind.wrap_i64, LN, spec_FlyTube_v1] at *); omega) | (simp_all <;> omega))), (by (try simp only [LN, spec_FlyTube_v1] at *); omega), hX1.trans (itr_next hl1 (hB1.symm.trans hE1)), hs'⟩
    rw [if_neg (nt h7)] at hE1
    have gh7 := h7; try simp only [Bool.not_eq_true', Bool.not_eq_false', decide_eq_true_eq, decide_eq_false_iff_not, Bool.and_eq_true, Bool.or_eq_true, Bool.and_eq_false_iff, Bool.or_eq_false_iff] at gh7
    refine w_exit ?_
    exact ⟨(s1.1, s1.2), (lst [x1 0, x1 1, x1 2]), trivial, hX1.trans (itr_brk hl1 (hB1.symm.trans hE1)), (sb (by kernel_rfl))⟩
  intro s1 x1 hF13 hR11
  rw [spec_FlyTube_r1] at hR11
  refine xr hT [] (fun f12 => ⟨[(2, .one (.c (.mu 8 (x1 1) 6 0 (s1.1.map FlyBox.row).length)))], [(8, some (x1 1, .arr 6 (s1.1.map FlyBox.row)))], 54⟩) (fun f => by kernel_rfl) (fun f => by kernel_rfl) fun f12 => ?_
  refine w_ret ?_
  subst hR11
  exact x_ret (by kernel_rfl)
theorem f_spec_FlyTube (p0 : FlyPath) (h0 : FlyPath.ok p0) : (spec_FlyTube p0).length ≤ p0.Steps.length := by
  unfold spec_FlyTube
  refine itr_inv (fun (s : List FlyBox × Int) => (s.1.length : Int) ≤ s.2 ∧ s.2 ≤ (p0.Steps.length : Int)) (spec_FlyTube_u1 p0) (fun (r : List FlyBox) => r.length ≤ p0.Steps.length) (fun s h => ?_) _ _ (Nat.lt_succ_self _) ⟨by simp, by simp⟩
  obtain ⟨ha, hb⟩ := h
  unfold spec_FlyTube_b1
  simp only [all_ite, all_next, all_brk, all_ret]
  refine ⟨fun hc => ?_, fun hc => ?_⟩
  · have hd : s.2 < (p0.Steps.length : Int) := by simp only [Bool.and_eq_true, decide_eq_true_eq] at hc; exact hc.2
    simp only [spec_FlyTube_u1]
    (try simp only [LN, spec_FlyTube_v1])
    refine ⟨⟨?_, ?_⟩, ?_⟩ <;> (try simp) <;> omega
  · unfold spec_FlyTube_r1
    show s.1.length ≤ _
    omega

def spec_l23Tube_I2 (p0 : ByteArray) (p1 : FlyPath) (fs : Nat → Nat → Nat) (i2 : Nat) (s2 : List ProbeBox) (x2 : Nat → Nat) : St := ⟨[(4, .one (.pt 4 (x2 0) 0)), (5, .one (.pt 5 (x2 1) 0)), (6, .one (.c (.mu 1300000 (x2 3) 6 0 ((spec_FlyTube p1).map FlyBox.row).length))), (7, .one (.c (.v (.int .i64 ((i2 : Nat) : Int)))))], [(4, some (x2 0, .box [.v (.string ⟨#[]⟩), .nl])), (5, some (x2 1, .box [.v (.string p0), .mu 60501 (x2 2) 6 0 (s2.map ProbeBox.row).length])), (60501, some (x2 2, .arr 6 (s2.map ProbeBox.row))), (1300000, some (x2 3, .arr 6 ((spec_FlyTube p1).map FlyBox.row)))], 42⟩
def spec_l23Tube_J2 (p0 : ByteArray) (p1 : FlyPath) (fs : Nat → Nat → Nat) (s2 : List ProbeBox) (x2 : Nat → Nat) : St := ⟨[(4, .one (.pt 4 (x2 0) 0)), (5, .one (.pt 5 (x2 1) 0))], [(4, some (x2 0, .box [.v (.string ⟨#[]⟩), .nl])), (5, some (x2 1, .box [.v (.string p0), .mu 60501 (x2 2) 6 0 (s2.map ProbeBox.row).length])), (60501, some (x2 2, .arr 6 (s2.map ProbeBox.row)))], 42⟩
def spec_l23Tube_v1 (p1 : FlyPath) (i2 : Nat) (s2 : List ProbeBox) : List ProbeBox := s2 ++ [(⟨((spec_FlyTube p1).getD i2 default).X, ((spec_FlyTube p1).getD i2 default).Y, ((spec_FlyTube p1).getD i2 default).Low, ((spec_FlyTube p1).getD i2 default).High, ((spec_FlyTube p1).getD i2 default).In, ((spec_FlyTube p1).getD i2 default).Out⟩ : ProbeBox)]
def spec_l23Tube_b2 (p0 : ByteArray) (p1 : FlyPath) (i2 : Nat) (s2 : List ProbeBox) : Res (List ProbeBox) ProbeTube := (.next (spec_l23Tube_v1 p1 i2 s2))
def spec_l23Tube_r2 (p0 : ByteArray) (p1 : FlyPath) (s2 : List ProbeBox) : ProbeTube := (⟨p0, s2⟩ : ProbeTube)
/-- spec.l23Tube -/
def spec_l23Tube (p0 : ByteArray) (p1 : FlyPath) : ProbeTube := (Res.fin (spec_l23Tube_r2 p0 p1) (forN (spec_l23Tube_b2 p0 p1) ((spec_FlyTube p1).length - 0) 0 ([] : List ProbeBox)))
theorem c99 (p0 : ByteArray) (p1 : FlyPath) (k1_0 : FlyPath.ok p1) : Fn Proofs.Try.prog 99 [⟨.val, false, [.v (.string p0)]⟩, ⟨.val, true, FlyPath.cs .bor p1⟩] [.ag (ProbeTube.cs .own (spec_l23Tube p0 p1))] [] := by
  obtain ⟨R, hR⟩ : ∃ R, R = spec_l23Tube p0 p1 := ⟨_, rfl⟩
  rw [← hR]
  rw [spec_l23Tube] at hR
  refine ⟨fn_intro hT Proofs.Try.func99 rfl rfl fun fs => ?_, _, Proofs.Try.func99, rfl, rfl⟩
  have q1 := k1_0; simp only [FlyPath.ok] at q1
  refine xr hT [] (fun f1 => ⟨[(0, .one (.c (.v (.string p0)))), (3, .one (.pt 3 (f1 0 0) 0)), (4, .one (.pt 4 (f1 1 0) 0))], [(3, some (f1 0 0, .box (FlyPath.cs .bor p1))), (4, some (f1 1 0, .box [.v (.string ⟨#[]⟩), .nl]))], 42⟩) (fun f => by kernel_rfl) (fun f => by kernel_rfl) fun f1 => ?_
  refine xr hT [] (fun f2 => ⟨[(3, .one (.pt 3 (f1 0 0) 0)), (4, .one (.pt 4 (f1 1 0) 0)), (5, .one (.pt 5 (f2 2 0) 0))], [(3, some (f1 0 0, .box (FlyPath.cs .bor p1))), (4, some (f1 1 0, .box [.v (.string ⟨#[]⟩), .nl])), (5, some (f2 2 0, .box [.v (.string p0), .nl]))], 42⟩) (fun f => by kernel_rfl) (fun f => by kernel_rfl) fun f2 => ?_
  have w4 := f_spec_FlyTube p1 (by first | assumption | exact (by omega : p1.Steps.length ≤ 1048576))
  have w4' := w4; try simp only [LN, spec_l23Tube_v1] at w4'
  refine xr hT [ca (c168 p1 (by first | assumption | exact (by omega : p1.Steps.length ≤ 1048576)))] (fun f3 => ⟨[(4, .one (.pt 4 (f1 1 0) 0)), (5, .one (.pt 5 (f2 2 0) 0)), (6, .one (.c (.mu 1300000 (gk (f3 1) 0 0) 6 0 ((spec_FlyTube p1).map FlyBox.row).length)))], [(4, some (f1 1 0, .box [.v (.string ⟨#[]⟩), .nl])), (5, some (f2 2 0, .box [.v (.string p0), .nl])), (1300000, some (gk (f3 1) 0 0, .arr 6 ((spec_FlyTube p1).map FlyBox.row)))], 42⟩) (fun f => by kernel_rfl) (fun f => by kernel_rfl) fun f3 => ?_
  refine w_seq ?_
  refine xr hT [] (fun f5 => ⟨[(4, .one (.pt 4 (f1 1 0) 0)), (5, .one (.pt 5 (f2 2 0) 0)), (6, .one (.c (.mu 1300000 (gk (f3 1) 0 0) 6 0 ((spec_FlyTube p1).map FlyBox.row).length))), (7, .one (.c (.v (.int .i64 0))))], [(4, some (f1 1 0, .box [.v (.string ⟨#[]⟩), .nl])), (5, some (f2 2 0, .box [.v (.string p0), .nl])), (1300000, some (gk (f3 1) 0 0, .arr 6 ((spec_FlyTube p1).map FlyBox.row)))], 42⟩) (fun f => by kernel_rfl) (fun f => by kernel_rfl) fun f5 => ?_
  refine w_ownO 5 1 60501 6 rfl rfl rfl rfl fun σ6 => ?_
  refine w_forT (fun _ => rfl) (spec_l23Tube_I2 p0 p1 fs) (spec_l23Tube_J2 p0 p1 fs) (fun i2 s2 => i2 ≤ (spec_FlyTube p1).length ∧ s2.length ≤ (([] : List ProbeBox)).length + i2) (fun s2 => s2.length ≤ (([] : List ProbeBox)).length + (spec_FlyTube p1).length) ((spec_FlyTube p1).length) 0 (spec_l23Tube_b2 p0 p1) (spec_l23Tube_r2 p0 p1) 0 (([] : List ProbeBox)) (lst [f1 1 0, f2 2 0, σ6, gk (f3 1) 0 0]) (sb (by kernel_rfl)) (by first | rfl | ((try simp only [LN, spec_l23Tube_v1]); omega) | (simp; done) | (simp; omega)) hR ?_ ?_
  · skip
    intro i2 s2 x2 hI2 hX2
    try simp only [LN, spec_l23Tube_v1] at hI2
    refine w_seq ?_
    refine xr hT [.ln FlyBox.row (spec_FlyTube p1)] (fun f7 => ⟨[(4, .one (.pt 4 (x2 0) 0)), (5, .one (.pt 5 (x2 1) 0)), (6, .one (.c (.mu 1300000 (x2 3) 6 0 ((spec_FlyTube p1).map FlyBox.row).length))), (7, .one (.c (.v (.int .i64 ((i2 : Nat) : Int))))), (16, .one (.c (.v (.bool (decide (((i2 : Nat) : Int) < ((spec_FlyTube p1).length : Int)))))))], [(4, some (x2 0, .box [.v (.string ⟨#[]⟩), .nl])), (5, some (x2 1, .box [.v (.string p0), .mu 60501 (x2 2) 6 0 (s2.map ProbeBox.row).length])), (60501, some (x2 2, .arr 6 (s2.map ProbeBox.row))), (1300000, some (x2 3, .arr 6 ((spec_FlyTube p1).map FlyBox.row)))], 42⟩) (fun f => by kernel_rfl) (fun f => by kernel_rfl) fun f7 => ?_
    refine w_cond rfl (fun h8 => ?_) fun h8 => ?_
    · skip
      have hl2 : i2 < (spec_FlyTube p1).length := by have hq := of_decide_eq_true h8; first | omega | ((try simp only [LN, spec_l23Tube_v1] at *); omega)
      have hl2x := hl2; try simp only [LN, spec_l23Tube_v1] at hl2x
      obtain ⟨B2, hB2⟩ : ∃ B, B = spec_l23Tube_b2 p0 p1 i2 s2 := ⟨_, rfl⟩
      have hE2 := hB2
      rw [spec_l23Tube_b2] at hE2
      refine w_skip ?_
      refine w_seq ?_
      refine w_block ?_
      refine xr hT [ix FlyBox.row (spec_FlyTube p1) i2 (by (first | omega | ((try simp only [LN, spec_l23Tube_v1]); omega) | ((try simp only [wr, IntKind.wrap_i64, LN, spec_l23Tube_v1] at *); omega) | (simp_all <;> omega))), ix FlyBox.row (spec_FlyTube p1) i2 (by (first | omega | ((try simp only [LN, spec_l23Tube_v1]); omega) | ((try simp only [wr, IntKind.wrap_i64, LN, spec_l23Tube_v1] at *); omega) | (simp_all <;> omega)))] (fun f9 => ⟨[(4, .one (.pt 4 (x2 0) 0)), (5, .one (.pt 5 (x2 1) 0)), (6, .one (.c (.mu 1300000 (x2 3) 6 0 ((spec_FlyTube p1).map FlyBox.row).length))), (7, .one (.c (.v (.int .i64 ((i2 : Nat) : Int))))), (8, .one (.pt 8 (f9 4 0) 0))], [(4, some (x2 0, .box [.v (.string ⟨#[]⟩), .nl])), (5, some (x2 1, .box [.v (.string p0), .mu 60501 (x2 2) 6 0 (s2.map ProbeBox.row).length])), (8, some (f9 4 0, .box (FlyBox.cs .frz ((spec_FlyTube p1).getD i2 default)))), (60501, some (x2 2, .arr 6 (s2.map ProbeBox.row))), (1300000, some (x2 3, .arr 6 ((spec_FlyTube p1).map FlyBox.row)))], 42⟩) (fun f => by kernel_rfl) (fun f => by kernel_rfl) fun f9 => ?_
      refine xr1 (fun _ => rfl) hT [.rows ProbeBox.row [(⟨((spec_FlyTube p1).getD i2 default).X, ((spec_FlyTube p1).getD i2 default).Y, ((spec_FlyTube p1).getD i2 default).Low, ((spec_FlyTube p1).getD i2 default).High, ((spec_FlyTube p1).getD i2 default).In, ((spec_FlyTube p1).getD i2 default).Out⟩ : ProbeBox)], .app true ProbeBox.row s2 [(⟨((spec_FlyTube p1).getD i2 default).X, ((spec_FlyTube p1).getD i2 default).Y, ((spec_FlyTube p1).getD i2 default).Low, ((spec_FlyTube p1).getD i2 default).High, ((spec_FlyTube p1).getD i2 default).In, ((spec_FlyTube p1).getD i2 default).Out⟩ : ProbeBox)] 48 (fun h => by (try simp only [LN, spec_l23Tube_v1]); omega)] (fun f10 => ⟨[(4, .one (.pt 4 (x2 0) 0)), (5, .one (.pt 5 (x2 1) 0)), (6, .one (.c (.mu 1300000 (x2 3) 6 0 ((spec_FlyTube p1).map FlyBox.row).length))), (7, .one (.c (.v (.int .i64 ((i2 : Nat) : Int)))))], [(4, some (x2 0, .box [.v (.string ⟨#[]⟩), .nl])), (5, some (x2 1, .box [.v (.string p0), .mu 60501 (f10 16 0) 6 0 ((spec_l23Tube_v1 p1 i2 s2).map ProbeBox.row).length])), (60501, some (f10 16 0, .arr 6 ((spec_l23Tube_v1 p1 i2 s2).map ProbeBox.row))), (1300000, some (x2 3, .arr 6 ((spec_FlyTube p1).map FlyBox.row)))], 42⟩) (fun f => by kernel_rfl) (fun f => by kernel_rfl) fun f10 => ?_
      refine x_reg hT [.ex true (((i2 : Nat) : Int) + ((1 : Nat) : Int)) ((((i2 + 1) : Nat) : Int)) (fun _ => wr_nat (n := i2) (c := 1) (by omega))] (fun f11 => spec_l23Tube_I2 p0 p1 fs (i2 + 1) (spec_l23Tube_v1 p1 i2 s2) (lst [x2 0, x2 1, f10 16 0, x2 3])) (fun f => by kernel_rfl) (fun f => by kernel_rfl) fun f11 s' hs' => ?_
      exact ⟨(spec_l23Tube_v1 p1 i2 s2), (lst [x2 0, x2 1, f10 16 0, x2 3]), hl2, (by (try simp only [LN, spec_l23Tube_v1] at *); omega), hX2.trans (forN_next hl2 (hB2.symm.trans hE2)), hs'⟩
    have hq := of_decide_eq_false h8
    refine w_exit ?_
    exact ⟨s2, (lst [x2 0, x2 1, x2 2, x2 3]), (by (try simp only [LN, spec_l23Tube_v1] at *); omega), hX2.trans (forN_end (by first | omega | ((try simp only [LN, spec_l23Tube_v1] at *); omega))), sb (by kernel_rfl)⟩
  intro s2 x2 hF14 hR12
  try simp only [LN, spec_l23Tube_v1] at hF14
  rw [spec_l23Tube_r2] at hR12
  refine xr hT [] (fun f13 => ⟨[(4, .one (.pt 4 (x2 0) 0))], [(4, some (x2 0, .box [.v (.string p0), .mu 60501 (x2 2) 6 0 (s2.map ProbeBox.row).length])), (60501, some (x2 2, .arr 6 (s2.map ProbeBox.row)))], 42⟩) (fun f => by kernel_rfl) (fun f => by kernel_rfl) fun f13 => ?_
  refine w_ret ?_
  subst hR12
  exact x_ret (by kernel_rfl)
theorem f_spec_l23Tube (p0 : ByteArray) (p1 : FlyPath) (h0 : FlyPath.ok p1) : (spec_l23Tube p0 p1).Boxes.length ≤ p1.Steps.length := by
  have hl := f_spec_FlyTube p1 h0
  unfold spec_l23Tube
  refine forN_inv (fun (i : Nat) (s : List ProbeBox) => s.length ≤ i) (fun (r : ProbeTube) => r.Boxes.length ≤ p1.Steps.length) ((spec_FlyTube p1).length) (fun j s hj h => ?_) (fun s h => ?_) _ 0 _ rfl (Nat.zero_le _) (by simp)
  · unfold spec_l23Tube_b2; simp only [all_ite, all_next, all_brk, all_ret]; (try simp only [LN, spec_l23Tube_v1]); (repeat' (first | omega | apply And.intro | intro _))
  · unfold spec_l23Tube_r2; (try simp only []); omega

/-- spec.LinkTube -/
def spec_LinkTube (p0 : ByteArray) (p1 : FlyPath) (p2 : Int) : ProbeTube := (spec_ProbeCut (spec_l23Tube p0 p1) p2)
theorem c23 (p0 : ByteArray) (p1 : FlyPath) (p2 : Int) (k1_0 : FlyPath.ok p1) : Fn Proofs.Try.prog 23 [⟨.val, false, [.v (.string p0)]⟩, ⟨.val, true, FlyPath.cs .bor p1⟩, ⟨.val, false, [.v (.int .i64 p2)]⟩] [.ag (ProbeTube.cs .own (spec_LinkTube p0 p1 p2))] [] := by
  obtain ⟨R, hR⟩ : ∃ R, R = spec_LinkTube p0 p1 p2 := ⟨_, rfl⟩
  rw [← hR]
  rw [spec_LinkTube] at hR
  refine ⟨fn_intro hT Proofs.Try.func23 rfl rfl fun fs => ?_, _, Proofs.Try.func23, rfl, rfl⟩
  have q1 := k1_0; simp only [FlyPath.ok] at q1
  refine xr hT [] (fun f1 => ⟨[(0, .one (.c (.v (.string p0)))), (2, .one (.c (.v (.int .i64 p2)))), (4, .one (.pt 4 (f1 0 0) 0)), (6, .one (.pt 6 (f1 1 0) 0))], [(4, some (f1 0 0, .box (FlyPath.cs .bor p1))), (6, some (f1 1 0, .box [.v (.string ⟨#[]⟩), .nl]))], 12⟩) (fun f => by kernel_rfl) (fun f => by kernel_rfl) fun f1 => ?_
  have w3 := f_spec_l23Tube p0 p1 (by first | assumption | exact (by omega : p1.Steps.length ≤ 1048576))
  have w3' := w3; try simp only [LN] at w3'
  have w4 := f_spec_ProbeCut (spec_l23Tube p0 p1) p2 (by first | assumption | exact (show ((spec_l23Tube p0 p1).Boxes).length ≤ 1048576 from by (try simp only [LN]); omega))
  have w4' := w4; try simp only [LN] at w4'
  refine xr hT [ca (c99 p0 p1 (by first | assumption | exact (by omega : p1.Steps.length ≤ 1048576))), ca (c98 (spec_l23Tube p0 p1) p2 (by first | assumption | exact (show ((spec_l23Tube p0 p1).Boxes).length ≤ 1048576 from by (try simp only [LN]); omega)))] (fun f2 => ⟨[(6, .one (.pt 6 (f1 1 0) 0))], [(6, some (f1 1 0, .box [.v (.string ((spec_ProbeCut (spec_l23Tube p0 p1) p2).Name)), .mu 1200001 (gk (f2 4) 0 1) 6 0 (((spec_ProbeCut (spec_l23Tube p0 p1) p2).Boxes).map ProbeBox.row).length])), (1200001, some (gk (f2 4) 0 1, .arr 6 (((spec_ProbeCut (spec_l23Tube p0 p1) p2).Boxes).map ProbeBox.row)))], 12⟩) (fun f => by kernel_rfl) (fun f => by kernel_rfl) fun f2 => ?_
  refine w_ret ?_
  subst hR
  exact x_ret (by kernel_rfl)
theorem f_spec_LinkTube (p0 : ByteArray) (p1 : FlyPath) (p2 : Int) (h0 : FlyPath.ok p1) : (spec_LinkTube p0 p1 p2).Boxes.length ≤ p1.Steps.length := by
  have h1 := f_spec_l23Tube p0 p1 h0
  have h2 := f_spec_ProbeCut (spec_l23Tube p0 p1) p2 (show _ ≤ _ from Nat.le_trans h1 h0)
  unfold spec_LinkTube
  omega

def impl_FlyTube_I1 (p0 : FlyPath) (fs : Nat → Nat → Nat) (i1 : Nat) (s1 : List FlyBox) (x1 : Nat → Nat) : St := ⟨[(3, .one (.c (.mu 1100000 (x1 1) 2 0 (((impl_FlySpans p0).1).map FlySpan.row).length))), (5, .one (.c (.mu 15 (x1 0) 6 0 (s1.map FlyBox.row).length))), (17, .one (.c (.sl .bor 7 (p0.Steps.map FlyStep.row)))), (18, .one (.c (.v (.int .i64 (p0.Steps.length : Int))))), (19, .one (.c (.v (.int .i64 ((i1 : Nat) : Int)))))], [(15, some (x1 0, .arr 6 (s1.map FlyBox.row))), (1100000, some (x1 1, .arr 2 (((impl_FlySpans p0).1).map FlySpan.row)))], 50⟩
def impl_FlyTube_J1 (p0 : FlyPath) (fs : Nat → Nat → Nat) (s1 : List FlyBox) (x1 : Nat → Nat) : St := ⟨[(5, .one (.c (.mu 15 (x1 0) 6 0 (s1.map FlyBox.row).length)))], [(15, some (x1 0, .arr 6 (s1.map FlyBox.row)))], 50⟩
def impl_FlyTube_v1 (p0 : FlyPath) (i1 : Nat) (s1 : List FlyBox) : List FlyBox := s1 ++ [(⟨(p0.Steps.getD i1 default).X, (p0.Steps.getD i1 default).Y, (p0.Steps.getD i1 default).Low, (p0.Steps.getD i1 default).High, (((impl_FlySpans p0).1).getD i1 default).Low, wr (((((impl_FlySpans p0).1).getD (i1 + 1) default).High) - 1)⟩ : FlyBox)]
def impl_FlyTube_b1 (p0 : FlyPath) (i1 : Nat) (s1 : List FlyBox) : Res (List FlyBox) (List FlyBox) := (.next (impl_FlyTube_v1 p0 i1 s1))
def impl_FlyTube_r1 (p0 : FlyPath) (s1 : List FlyBox) : (List FlyBox) := s1
/-- impl.FlyTube -/
def impl_FlyTube (p0 : FlyPath) : (List FlyBox) := (if !((impl_FlySpans p0).2) then [] else (Res.fin (impl_FlyTube_r1 p0) (forN (impl_FlyTube_b1 p0) (p0.Steps.length - 0) 0 ([] : List FlyBox))))
theorem c51 (p0 : FlyPath) (k0_0 : FlyPath.ok p0) : Fn Proofs.Try.prog 51 [⟨.val, true, FlyPath.cs .bor p0⟩] [.c (.sl .own 6 ((impl_FlyTube p0).map FlyBox.row))] [] := by
  obtain ⟨R, hR⟩ : ∃ R, R = impl_FlyTube p0 := ⟨_, rfl⟩
  rw [← hR]
  rw [impl_FlyTube] at hR
  refine ⟨fn_intro hT Proofs.Try.func51 rfl rfl fun fs => ?_, _, Proofs.Try.func51, rfl, rfl⟩
  have q0 := k0_0; simp only [FlyPath.ok] at q0
  refine xr hT [] (fun f1 => ⟨[(1, .one (.pt 1 (f1 0 0) 0))], [(1, some (f1 0 0, .box (FlyPath.cs .bor p0)))], 50⟩) (fun f => by kernel_rfl) (fun f => by kernel_rfl) fun f1 => ?_
  have w3 := f_impl_FlySpans p0 (by first | assumption | exact (by omega : p0.Steps.length ≤ 1048576))
  have w3' := w3; try simp only [LN, impl_FlyTube_v1] at w3'
  refine xr hT [ca (c52 p0 (by first | assumption | exact (by omega : p0.Steps.length ≤ 1048576)))] (fun f2 => ⟨[(1, .one (.pt 1 (f1 0 0) 0)), (3, .one (.c (.mu 1100000 (gk (f2 1) 0 0) 2 0 (((impl_FlySpans p0).1).map FlySpan.row).length))), (4, .one (.c (.v (.bool ((impl_FlySpans p0).2)))))], [(1, some (f1 0 0, .box (FlyPath.cs .bor p0))), (1100000, some (gk (f2 1) 0 0, .arr 2 (((impl_FlySpans p0).1).map FlySpan.row)))], 50⟩) (fun f => by kernel_rfl) (fun f => by kernel_rfl) fun f2 => ?_
  refine w_seq ?_
  refine xr hT [] (fun f4 => ⟨[(1, .one (.pt 1 (f1 0 0) 0)), (3, .one (.c (.mu 1100000 (gk (f2 1) 0 0) 2 0 (((impl_FlySpans p0).1).map FlySpan.row).length))), (14, .one (.c (.v (.bool (!((impl_FlySpans p0).2))))))], [(1, some (f1 0 0, .box (FlyPath.cs .bor p0))), (1100000, some (gk (f2 1) 0 0, .arr 2 (((impl_FlySpans p0).1).map FlySpan.row)))], 50⟩) (fun f => by kernel_rfl) (fun f => by kernel_rfl) fun f4 => ?_
  refine w_cond rfl (fun h5 => ?_) fun h5 => ?_
  · rw [if_pos h5] at hR
    refine xr hT [] (fun f6 => ⟨[(2, .one (.c (.nl)))], [], 50⟩) (fun f => by kernel_rfl) (fun f => by kernel_rfl) fun f6 => ?_
    refine w_ret ?_
    subst hR
    exact x_ret (by kernel_rfl)
  rw [if_neg (nt h5)] at hR
  refine w_skip ?_
  refine xr hT [] (fun f7 => ⟨[(1, .one (.pt 1 (f1 0 0) 0)), (3, .one (.c (.mu 1100000 (gk (f2 1) 0 0) 2 0 (((impl_FlySpans p0).1).map FlySpan.row).length))), (5, .one (.c (.mu 15 (f7 0 0) 6 0 (([] : List FlyBox).map FlyBox.row).length)))], [(1, some (f1 0 0, .box (FlyPath.cs .bor p0))), (15, some (f7 0 0, .arr 6 (([] : List FlyBox).map FlyBox.row))), (1100000, some (gk (f2 1) 0 0, .arr 2 (((impl_FlySpans p0).1).map FlySpan.row)))], 50⟩) (fun f => by kernel_rfl) (fun f => by kernel_rfl) fun f7 => ?_
  refine w_seq ?_
  refine xr hT [.ln FlyStep.row p0.Steps] (fun f8 => ⟨[(3, .one (.c (.mu 1100000 (gk (f2 1) 0 0) 2 0 (((impl_FlySpans p0).1).map FlySpan.row).length))), (5, .one (.c (.mu 15 (f7 0 0) 6 0 (([] : List FlyBox).map FlyBox.row).length))), (17, .one (.c (.sl .bor 7 (p0.Steps.map FlyStep.row)))), (18, .one (.c (.v (.int .i64 (p0.Steps.length : Int))))), (19, .one (.c (.v (.int .i64 0))))], [(15, some (f7 0 0, .arr 6 (([] : List FlyBox).map FlyBox.row))), (1100000, some (gk (f2 1) 0 0, .arr 2 (((impl_FlySpans p0).1).map FlySpan.row)))], 50⟩) (fun f => by kernel_rfl) (fun f => by kernel_rfl) fun f8 => ?_
  refine w_forT (fun _ => rfl) (impl_FlyTube_I1 p0 fs) (impl_FlyTube_J1 p0 fs) (fun i1 s1 => i1 ≤ p0.Steps.length ∧ s1.length ≤ (([] : List FlyBox)).length + i1) (fun s1 => s1.length ≤ (([] : List FlyBox)).length + p0.Steps.length) (p0.Steps.length) 0 (impl_FlyTube_b1 p0) (impl_FlyTube_r1 p0) 0 (([] : List FlyBox)) (lst [f7 0 0, gk (f2 1) 0 0]) (sb (by kernel_rfl)) (by first | rfl | ((try simp only [LN, impl_FlyTube_v1]); omega) | (simp; done) | (simp; omega)) hR ?_ ?_
  · skip
    intro i1 s1 x1 hI1 hX1
    try simp only [LN, impl_FlyTube_v1] at hI1
    refine xr hT [] (fun f9 => ⟨[(3, .one (.c (.mu 1100000 (x1 1) 2 0 (((impl_FlySpans p0).1).map FlySpan.row).length))), (5, .one (.c (.mu 15 (x1 0) 6 0 (s1.map FlyBox.row).length))), (17, .one (.c (.sl .bor 7 (p0.Steps.map FlyStep.row)))), (18, .one (.c (.v (.int .i64 (p0.Steps.length : Int))))), (19, .one (.c (.v (.int .i64 ((i1 : Nat) : Int))))), (20, .one (.c (.v (.bool (decide (((i1 : Nat) : Int) < (p0.Steps.length : Int)))))))], [(15, some (x1 0, .arr 6 (s1.map FlyBox.row))), (1100000, some (x1 1, .arr 2 (((impl_FlySpans p0).1).map FlySpan.row)))], 50⟩) (fun f => by kernel_rfl) (fun f => by kernel_rfl) fun f9 => ?_
    refine w_seq ?_
    refine w_cond rfl (fun h10 => ?_) fun h10 => ?_
    · skip
      have hl1 : i1 < p0.Steps.length := by have hq := of_decide_eq_true h10; first | omega | ((try simp only [LN, impl_FlyTube_v1] at *); omega)
      have hl1x := hl1; try simp only [LN, impl_FlyTube_v1] at hl1x
      obtain ⟨B1, hB1⟩ : ∃ B, B = impl_FlyTube_b1 p0 i1 s1 := ⟨_, rfl⟩
      have hE1 := hB1
      rw [impl_FlyTube_b1] at hE1
      refine w_skip ?_
      refine w_seq ?_
      refine w_block ?_
      refine xr hT [ix FlyStep.row p0.Steps i1 (by omega)] (fun f11 => ⟨[(3, .one (.c (.mu 1100000 (x1 1) 2 0 (((impl_FlySpans p0).1).map FlySpan.row).length))), (5, .one (.c (.mu 15 (x1 0) 6 0 (s1.map FlyBox.row).length))), (6, .one (.c (.v (.int .i64 ((i1 : Nat) : Int))))), (7, .one (.pt 7 (f11 3 0) 0)), (17, .one (.c (.sl .bor 7 (p0.Steps.map FlyStep.row)))), (18, .one (.c (.v (.int .i64 (p0.Steps.length : Int))))), (19, .one (.c (.v (.int .i64 ((i1 : Nat) : Int)))))], [(7, some (f11 3 0, .box (FlyStep.cs .bor (p0.Steps.getD i1 default)))), (15, some (x1 0, .arr 6 (s1.map FlyBox.row))), (1100000, some (x1 1, .arr 2 (((impl_FlySpans p0).1).map FlySpan.row)))], 50⟩) (fun f => by kernel_rfl) (fun f => by kernel_rfl) fun f11 => ?_
      refine xd1 (fun _ => rfl) hT hM [ix FlySpan.row ((impl_FlySpans p0).1) i1 (by (first | omega | ((try simp only [LN, impl_FlyTube_v1]); omega) | ((try simp only [wr, IntKind.wrap_i64, LN, impl_FlyTube_v1] at *); omega) | (simp_all <;> omega))), ix FlySpan.row ((impl_FlySpans p0).1) i1 (by (first | omega | ((try simp only [LN, impl_FlyTube_v1]); omega) | ((try simp only [wr, IntKind.wrap_i64, LN, impl_FlyTube_v1] at *); omega) | (simp_all <;> omega))), .ex true (((i1 : Nat) : Int) + ((1 : Nat) : Int)) ((((i1 + 1) : Nat) : Int)) (fun _ => wr_nat (n := i1) (c := 1) (by omega)), ix FlySpan.row ((impl_FlySpans p0).1) (i1 + 1) (by (first | omega | ((try simp only [LN, impl_FlyTube_v1]); omega) | ((try simp only [wr, IntKind.wrap_i64, LN, impl_FlyTube_v1] at *); omega) | (simp_all <;> omega))), ix FlySpan.row ((impl_FlySpans p0).1) (i1 + 1) (by (first | omega | ((try simp only [LN, impl_FlyTube_v1]); omega) | ((try simp only [wr, IntKind.wrap_i64, LN, impl_FlyTube_v1] at *); omega) | (simp_all <;> omega))), .wr, .rows FlyBox.row [(⟨(p0.Steps.getD i1 default).X, (p0.Steps.getD i1 default).Y, (p0.Steps.getD i1 default).Low, (p0.Steps.getD i1 default).High, (((impl_FlySpans p0).1).getD i1 default).Low, wr (((((impl_FlySpans p0).1).getD (i1 + 1) default).High) - 1)⟩ : FlyBox)], .app true FlyBox.row s1 [(⟨(p0.Steps.getD i1 default).X, (p0.Steps.getD i1 default).Y, (p0.Steps.getD i1 default).Low, (p0.Steps.getD i1 default).High, (((impl_FlySpans p0).1).getD i1 default).Low, wr (((((impl_FlySpans p0).1).getD (i1 + 1) default).High) - 1)⟩ : FlyBox)] 48 (fun h => by (try simp only [LN, impl_FlyTube_v1]); omega)] (fun f12 => ⟨[(3, .one (.c (.mu 1100000 (x1 1) 2 0 (((impl_FlySpans p0).1).map FlySpan.row).length))), (5, .one (.c (.mu 15 (f12 23 0) 6 0 ((impl_FlyTube_v1 p0 i1 s1).map FlyBox.row).length))), (17, .one (.c (.sl .bor 7 (p0.Steps.map FlyStep.row)))), (18, .one (.c (.v (.int .i64 (p0.Steps.length : Int))))), (19, .one (.c (.v (.int .i64 ((i1 : Nat) : Int)))))], [(15, some (f12 23 0, .arr 6 ((impl_FlyTube_v1 p0 i1 s1).map FlyBox.row))), (1100000, some (x1 1, .arr 2 (((impl_FlySpans p0).1).map FlySpan.row)))], 50⟩) (fun f => by kernel_rfl) (fun f => by kernel_rfl) (fun f => by kernel_rfl) fun f12 => ?_
      refine x_reg hT [.ex true (((i1 : Nat) : Int) + ((1 : Nat) : Int)) ((((i1 + 1) : Nat) : Int)) (fun _ => wr_nat (n := i1) (c := 1) (by omega))] (fun f13 => impl_FlyTube_I1 p0 fs (i1 + 1) (impl_FlyTube_v1 p0 i1 s1) (lst [f12 23 0, x1 1])) (fun f => by kernel_rfl) (fun f => by kernel_rfl) fun f13 s' hs' => ?_
      exact ⟨(impl_FlyTube_v1 p0 i1 s1), (lst [f12 23 0, x1 1]), hl1, (by (try simp only [LN, impl_FlyTube_v1] at *); omega), hX1.trans (forN_next hl1 (hB1.symm.trans hE1)), hs'⟩
    have hq := of_decide_eq_false h10
    refine w_exit ?_
    exact ⟨s1, (lst [x1 0, x1 1]), (by (try simp only [LN, impl_FlyTube_v1] at *); omega), hX1.trans (forN_end (by first | omega | ((try simp only [LN, impl_FlyTube_v1] at *); omega))), sb (by kernel_rfl)⟩
  intro s1 x1 hF16 hR14
  try simp only [LN, impl_FlyTube_v1] at hF16
  rw [impl_FlyTube_r1] at hR14
  refine xr hT [] (fun f15 => ⟨[(2, .one (.c (.mu 15 (x1 0) 6 0 (s1.map FlyBox.row).length)))], [(15, some (x1 0, .arr 6 (s1.map FlyBox.row)))], 50⟩) (fun f => by kernel_rfl) (fun f => by kernel_rfl) fun f15 => ?_
  refine w_ret ?_
  subst hR14
  exact x_ret (by kernel_rfl)
theorem f_impl_FlyTube (p0 : FlyPath) (h0 : FlyPath.ok p0) : (impl_FlyTube p0).length ≤ p0.Steps.length := by
  unfold impl_FlyTube
  rw [ite_all (M := fun (r : List FlyBox) => r.length ≤ p0.Steps.length)]
  refine ⟨fun _ => by simp, fun _ => ?_⟩
  refine forN_inv (fun (i : Nat) (s : List FlyBox) => s.length ≤ i) (fun (r : List FlyBox) => r.length ≤ p0.Steps.length) (p0.Steps.length) (fun j s hj h => ?_) (fun s h => ?_) _ 0 _ rfl (Nat.zero_le _) (by simp)
  · unfold impl_FlyTube_b1; simp only [all_ite, all_next, all_brk, all_ret]; (try simp only [LN, impl_FlyTube_v1]); (repeat' (first | omega | apply And.intro | intro _))
  · unfold impl_FlyTube_r1; (try simp only []); omega

def impl_ProbeCut_I2 (p0 : ProbeTube) (p1 : Int) (fs : Nat → Nat → Nat) (i2 : Nat) (s2 : List ProbeBox) (x2 : Nat → Nat) : St := ⟨[(1, .one (.c (.v (.int .i64 p1)))), (4, .one (.pt 4 (x2 0) 0)), (5, .one (.pt 5 (x2 1) 0)), (16, .one (.c (.sl .bor 6 (p0.Boxes.map ProbeBox.row)))), (17, .one (.c (.v (.int .i64 (p0.Boxes.length : Int))))), (18, .one (.c (.v (.int .i64 ((i2 : Nat) : Int)))))], [(4, some (x2 0, .box [.v (.string ⟨#[]⟩), .nl])), (5, some (x2 1, .box [.v (.string p0.Name), .mu 60501 (x2 2) 6 0 (s2.map ProbeBox.row).length])), (60501, some (x2 2, .arr 6 (s2.map ProbeBox.row)))], 39⟩
def impl_ProbeCut_J2 (p0 : ProbeTube) (p1 : Int) (fs : Nat → Nat → Nat) (s2 : List ProbeBox) (x2 : Nat → Nat) : St := ⟨[(4, .one (.pt 4 (x2 0) 0)), (5, .one (.pt 5 (x2 1) 0))], [(4, some (x2 0, .box [.v (.string ⟨#[]⟩), .nl])), (5, some (x2 1, .box [.v (.string p0.Name), .mu 60501 (x2 2) 6 0 (s2.map ProbeBox.row).length])), (60501, some (x2 2, .arr 6 (s2.map ProbeBox.row)))], 39⟩
def impl_ProbeCut_v1 (p0 : ProbeTube) (p1 : Int) (i2 : Nat) (s2 : List ProbeBox) : List ProbeBox := s2 ++ [(⟨(p0.Boxes.getD i2 default).X, (p0.Boxes.getD i2 default).Y, (p0.Boxes.getD i2 default).Low, (p0.Boxes.getD i2 default).High, max ((p0.Boxes.getD i2 default).In) p1, (p0.Boxes.getD i2 default).Out⟩ : ProbeBox)]
def impl_ProbeCut_b2 (p0 : ProbeTube) (p1 : Int) (i2 : Nat) (s2 : List ProbeBox) : Res (List ProbeBox) ProbeTube := (if decide (p1 ≤ ((p0.Boxes.getD i2 default).Out)) then (.next (impl_ProbeCut_v1 p0 p1 i2 s2)) else (.next s2))
def impl_ProbeCut_r2 (p0 : ProbeTube) (p1 : Int) (s2 : List ProbeBox) : ProbeTube := (⟨p0.Name, s2⟩ : ProbeTube)
/-- impl.ProbeCut -/
def impl_ProbeCut (p0 : ProbeTube) (p1 : Int) : ProbeTube := (if !(impl_ProbeTubeOk p0) then (⟨⟨#[]⟩, []⟩ : ProbeTube) else (Res.fin (impl_ProbeCut_r2 p0 p1) (forN (impl_ProbeCut_b2 p0 p1) (p0.Boxes.length - 0) 0 ([] : List ProbeBox))))
theorem c102 (p0 : ProbeTube) (p1 : Int) (k0_0 : ProbeTube.ok p0) : Fn Proofs.Try.prog 102 [⟨.val, true, ProbeTube.cs .bor p0⟩, ⟨.val, false, [.v (.int .i64 p1)]⟩] [.ag (ProbeTube.cs .own (impl_ProbeCut p0 p1))] [] := by
  obtain ⟨R, hR⟩ : ∃ R, R = impl_ProbeCut p0 p1 := ⟨_, rfl⟩
  rw [← hR]
  rw [impl_ProbeCut] at hR
  refine ⟨fn_intro hT Proofs.Try.func102 rfl rfl fun fs => ?_, _, Proofs.Try.func102, rfl, rfl⟩
  have q0 := k0_0; simp only [ProbeTube.ok] at q0
  refine xr hT [] (fun f1 => ⟨[(1, .one (.c (.v (.int .i64 p1)))), (2, .one (.pt 2 (f1 0 0) 0)), (4, .one (.pt 4 (f1 1 0) 0))], [(2, some (f1 0 0, .box (ProbeTube.cs .bor p0))), (4, some (f1 1 0, .box [.v (.string ⟨#[]⟩), .nl]))], 39⟩) (fun f => by kernel_rfl) (fun f => by kernel_rfl) fun f1 => ?_
  refine w_seq ?_
  refine xr hT [ca (c175 p0 (by first | assumption | exact (by omega : p0.Boxes.length ≤ 1048576)))] (fun f2 => ⟨[(1, .one (.c (.v (.int .i64 p1)))), (2, .one (.pt 2 (f1 0 0) 0)), (4, .one (.pt 4 (f1 1 0) 0)), (10, .one (.c (.v (.bool (!(impl_ProbeTubeOk p0))))))], [(2, some (f1 0 0, .box (ProbeTube.cs .bor p0))), (4, some (f1 1 0, .box [.v (.string ⟨#[]⟩), .nl]))], 39⟩) (fun f => by kernel_rfl) (fun f => by kernel_rfl) fun f2 => ?_
  refine w_cond rfl (fun h3 => ?_) fun h3 => ?_
  · rw [if_pos h3] at hR
    refine xr hT [] (fun f4 => ⟨[(4, .one (.pt 4 (f1 1 0) 0))], [(4, some (f1 1 0, .box [.v (.string ⟨#[]⟩), .nl]))], 39⟩) (fun f => by kernel_rfl) (fun f => by kernel_rfl) fun f4 => ?_
    refine w_ret ?_
    subst hR
    exact x_ret (by kernel_rfl)
  rw [if_neg (nt h3)] at hR
  refine w_skip ?_
  refine xr hT [] (fun f5 => ⟨[(1, .one (.c (.v (.int .i64 p1)))), (2, .one (.pt 2 (f1 0 0) 0)), (4, .one (.pt 4 (f1 1 0) 0)), (5, .one (.pt 5 (f5 3 0) 0))], [(2, some (f1 0 0, .box (ProbeTube.cs .bor p0))), (4, some (f1 1 0, .box [.v (.string ⟨#[]⟩), .nl])), (5, some (f5 3 0, .box [.v (.string p0.Name), .nl]))], 39⟩) (fun f => by kernel_rfl) (fun f => by kernel_rfl) fun f5 => ?_
  refine w_seq ?_
  refine xr hT [.ln ProbeBox.row p0.Boxes] (fun f6 => ⟨[(1, .one (.c (.v (.int .i64 p1)))), (4, .one (.pt 4 (f1 1 0) 0)), (5, .one (.pt 5 (f5 3 0) 0)), (16, .one (.c (.sl .bor 6 (p0.Boxes.map ProbeBox.row)))), (17, .one (.c (.v (.int .i64 (p0.Boxes.length : Int))))), (18, .one (.c (.v (.int .i64 0))))], [(4, some (f1 1 0, .box [.v (.string ⟨#[]⟩), .nl])), (5, some (f5 3 0, .box [.v (.string p0.Name), .nl]))], 39⟩) (fun f => by kernel_rfl) (fun f => by kernel_rfl) fun f6 => ?_
  refine w_ownO 5 1 60501 6 rfl rfl rfl rfl fun σ7 => ?_
  refine w_forT (fun _ => rfl) (impl_ProbeCut_I2 p0 p1 fs) (impl_ProbeCut_J2 p0 p1 fs) (fun i2 s2 => i2 ≤ p0.Boxes.length ∧ s2.length ≤ (([] : List ProbeBox)).length + i2) (fun s2 => s2.length ≤ (([] : List ProbeBox)).length + p0.Boxes.length) (p0.Boxes.length) 0 (impl_ProbeCut_b2 p0 p1) (impl_ProbeCut_r2 p0 p1) 0 (([] : List ProbeBox)) (lst [f1 1 0, f5 3 0, σ7]) (sb (by kernel_rfl)) (by first | rfl | ((try simp only [LN, impl_ProbeCut_v1]); omega) | (simp; done) | (simp; omega)) hR ?_ ?_
  · skip
    intro i2 s2 x2 hI2 hX2
    try simp only [LN, impl_ProbeCut_v1] at hI2
    refine xr hT [] (fun f8 => ⟨[(1, .one (.c (.v (.int .i64 p1)))), (4, .one (.pt 4 (x2 0) 0)), (5, .one (.pt 5 (x2 1) 0)), (16, .one (.c (.sl .bor 6 (p0.Boxes.map ProbeBox.row)))), (17, .one (.c (.v (.int .i64 (p0.Boxes.length : Int))))), (18, .one (.c (.v (.int .i64 ((i2 : Nat) : Int))))), (19, .one (.c (.v (.bool (decide (((i2 : Nat) : Int) < (p0.Boxes.length : Int)))))))], [(4, some (x2 0, .box [.v (.string ⟨#[]⟩), .nl])), (5, some (x2 1, .box [.v (.string p0.Name), .mu 60501 (x2 2) 6 0 (s2.map ProbeBox.row).length])), (60501, some (x2 2, .arr 6 (s2.map ProbeBox.row)))], 39⟩) (fun f => by kernel_rfl) (fun f => by kernel_rfl) fun f8 => ?_
    refine w_seq ?_
    refine w_cond rfl (fun h9 => ?_) fun h9 => ?_
    · skip
      have hl2 : i2 < p0.Boxes.length := by have hq := of_decide_eq_true h9; first | omega | ((try simp only [LN, impl_ProbeCut_v1] at *); omega)
      have hl2x := hl2; try simp only [LN, impl_ProbeCut_v1] at hl2x
      obtain ⟨B2, hB2⟩ : ∃ B, B = impl_ProbeCut_b2 p0 p1 i2 s2 := ⟨_, rfl⟩
      have hE2 := hB2
      rw [impl_ProbeCut_b2] at hE2
      refine w_skip ?_
      refine w_seq ?_
      refine w_block ?_
      refine xr hT [ix ProbeBox.row p0.Boxes i2 (by omega)] (fun f10 => ⟨[(1, .one (.c (.v (.int .i64 p1)))), (4, .one (.pt 4 (x2 0) 0)), (5, .one (.pt 5 (x2 1) 0)), (7, .one (.pt 7 (f10 2 0) 0)), (16, .one (.c (.sl .bor 6 (p0.Boxes.map ProbeBox.row)))), (17, .one (.c (.v (.int .i64 (p0.Boxes.length : Int))))), (18, .one (.c (.v (.int .i64 ((i2 : Nat) : Int)))))], [(4, some (x2 0, .box [.v (.string ⟨#[]⟩), .nl])), (5, some (x2 1, .box [.v (.string p0.Name), .mu 60501 (x2 2) 6 0 (s2.map ProbeBox.row).length])), (7, some (f10 2 0, .box (ProbeBox.cs .bor (p0.Boxes.getD i2 default)))), (60501, some (x2 2, .arr 6 (s2.map ProbeBox.row)))], 39⟩) (fun f => by kernel_rfl) (fun f => by kernel_rfl) fun f10 => ?_
      refine xr hT [] (fun f11 => ⟨[(1, .one (.c (.v (.int .i64 p1)))), (4, .one (.pt 4 (x2 0) 0)), (5, .one (.pt 5 (x2 1) 0)), (7, .one (.pt 7 (f10 2 0) 0)), (16, .one (.c (.sl .bor 6 (p0.Boxes.map ProbeBox.row)))), (17, .one (.c (.v (.int .i64 (p0.Boxes.length : Int))))), (18, .one (.c (.v (.int .i64 ((i2 : Nat) : Int))))), (25, .one (.c (.v (.bool (decide (p1 ≤ ((p0.Boxes.getD i2 default).Out)))))))], [(4, some (x2 0, .box [.v (.string ⟨#[]⟩), .nl])), (5, some (x2 1, .box [.v (.string p0.Name), .mu 60501 (x2 2) 6 0 (s2.map ProbeBox.row).length])), (7, some (f10 2 0, .box (ProbeBox.cs .bor (p0.Boxes.getD i2 default)))), (60501, some (x2 2, .arr 6 (s2.map ProbeBox.row)))], 39⟩) (fun f => by kernel_rfl) (fun f => by kernel_rfl) fun f11 => ?_
      refine w_cond rfl (fun h12 => ?_) fun h12 => ?_
      · rw [if_pos h12] at hE2
        have gh12 := of_decide_eq_true h12
        refine xr hT [] (fun f13 => ⟨[(1, .one (.c (.v (.int .i64 p1)))), (4, .one (.pt 4 (x2 0) 0)), (5, .one (.pt 5 (x2 1) 0)), (7, .one (.pt 7 (f10 2 0) 0)), (16, .one (.c (.sl .bor 6 (p0.Boxes.map ProbeBox.row)))), (17, .one (.c (.v (.int .i64 (p0.Boxes.length : Int))))), (18, .one (.c (.v (.int .i64 ((i2 : Nat) : Int)))))], [(4, some (x2 0, .box [.v (.string ⟨#[]⟩), .nl])), (5, some (x2 1, .box [.v (.string p0.Name), .mu 60501 (x2 2) 6 0 (s2.map ProbeBox.row).length])), (7, some (f10 2 0, .box [.v (.int .i64 ((p0.Boxes.getD i2 default).X)), .v (.int .i64 ((p0.Boxes.getD i2 default).Y)), .v (.int .i64 ((p0.Boxes.getD i2 default).Low)), .v (.int .i64 ((p0.Boxes.getD i2 default).High)), .v (.int .i64 (max ((p0.Boxes.getD i2 default).In) p1)), .v (.int .i64 ((p0.Boxes.getD i2 default).Out))])), (60501, some (x2 2, .arr 6 (s2.map ProbeBox.row)))], 39⟩) (fun f => by kernel_rfl) (fun f => by kernel_rfl) fun f13 => ?_
        refine xr1 (fun _ => rfl) hT [.rows ProbeBox.row [(⟨(p0.Boxes.getD i2 default).X, (p0.Boxes.getD i2 default).Y, (p0.Boxes.getD i2 default).Low, (p0.Boxes.getD i2 default).High, max ((p0.Boxes.getD i2 default).In) p1, (p0.Boxes.getD i2 default).Out⟩ : ProbeBox)], .app true ProbeBox.row s2 [(⟨(p0.Boxes.getD i2 default).X, (p0.Boxes.getD i2 default).Y, (p0.Boxes.getD i2 default).Low, (p0.Boxes.getD i2 default).High, max ((p0.Boxes.getD i2 default).In) p1, (p0.Boxes.getD i2 default).Out⟩ : ProbeBox)] 48 (fun h => by (try simp only [LN, impl_ProbeCut_v1]); omega)] (fun f14 => ⟨[(1, .one (.c (.v (.int .i64 p1)))), (4, .one (.pt 4 (x2 0) 0)), (5, .one (.pt 5 (x2 1) 0)), (16, .one (.c (.sl .bor 6 (p0.Boxes.map ProbeBox.row)))), (17, .one (.c (.v (.int .i64 (p0.Boxes.length : Int))))), (18, .one (.c (.v (.int .i64 ((i2 : Nat) : Int)))))], [(4, some (x2 0, .box [.v (.string ⟨#[]⟩), .nl])), (5, some (x2 1, .box [.v (.string p0.Name), .mu 60501 (f14 4 0) 6 0 ((impl_ProbeCut_v1 p0 p1 i2 s2).map ProbeBox.row).length])), (60501, some (f14 4 0, .arr 6 ((impl_ProbeCut_v1 p0 p1 i2 s2).map ProbeBox.row)))], 39⟩) (fun f => by kernel_rfl) (fun f => by kernel_rfl) fun f14 => ?_
        refine x_reg hT [.ex true (((i2 : Nat) : Int) + ((1 : Nat) : Int)) ((((i2 + 1) : Nat) : Int)) (fun _ => wr_nat (n := i2) (c := 1) (by omega))] (fun f15 => impl_ProbeCut_I2 p0 p1 fs (i2 + 1) (impl_ProbeCut_v1 p0 p1 i2 s2) (lst [x2 0, x2 1, f14 4 0])) (fun f => by kernel_rfl) (fun f => by kernel_rfl) fun f15 s' hs' => ?_
        exact ⟨(impl_ProbeCut_v1 p0 p1 i2 s2), (lst [x2 0, x2 1, f14 4 0]), hl2, (by (try simp only [LN, impl_ProbeCut_v1] at *); omega), hX2.trans (forN_next hl2 (hB2.symm.trans hE2)), hs'⟩
      rw [if_neg (nt h12)] at hE2
      have gh12 := of_decide_eq_false h12
      refine w_skip ?_
      refine x_reg hT [.ex true (((i2 : Nat) : Int) + ((1 : Nat) : Int)) ((((i2 + 1) : Nat) : Int)) (fun _ => wr_nat (n := i2) (c := 1) (by omega))] (fun f16 => impl_ProbeCut_I2 p0 p1 fs (i2 + 1) s2 (lst [x2 0, x2 1, x2 2])) (fun f => by kernel_rfl) (fun f => by kernel_rfl) fun f16 s' hs' => ?_
      exact ⟨s2, (lst [x2 0, x2 1, x2 2]), hl2, (by (try simp only [LN, impl_ProbeCut_v1] at *); omega), hX2.trans (forN_next hl2 (hB2.symm.trans hE2)), hs'⟩
    have hq := of_decide_eq_false h9
    refine w_exit ?_
    exact ⟨s2, (lst [x2 0, x2 1, x2 2]), (by (try simp only [LN, impl_ProbeCut_v1] at *); omega), hX2.trans (forN_end (by first | omega | ((try simp only [LN, impl_ProbeCut_v1] at *); omega))), sb (by kernel_rfl)⟩
  intro s2 x2 hF19 hR17
  try simp only [LN, impl_ProbeCut_v1] at hF19
  rw [impl_ProbeCut_r2] at hR17
  refine xr hT [] (fun f18 => ⟨[(4, .one (.pt 4 (x2 0) 0))], [(4, some (x2 0, .box [.v (.string p0.Name), .mu 60501 (x2 2) 6 0 (s2.map ProbeBox.row).length])), (60501, some (x2 2, .arr 6 (s2.map ProbeBox.row)))], 39⟩) (fun f => by kernel_rfl) (fun f => by kernel_rfl) fun f18 => ?_
  refine w_ret ?_
  subst hR17
  exact x_ret (by kernel_rfl)
theorem f_impl_ProbeCut (p0 : ProbeTube) (p1 : Int) (h0 : ProbeTube.ok p0) : (impl_ProbeCut p0 p1).Boxes.length ≤ p0.Boxes.length := by
  unfold impl_ProbeCut
  rw [ite_all (M := fun (r : ProbeTube) => r.Boxes.length ≤ p0.Boxes.length)]
  refine ⟨fun _ => by simp, fun _ => ?_⟩
  refine forN_inv (fun (i : Nat) (s : List ProbeBox) => s.length ≤ i) (fun (r : ProbeTube) => r.Boxes.length ≤ p0.Boxes.length) (p0.Boxes.length) (fun j s hj h => ?_) (fun s h => ?_) _ 0 _ rfl (Nat.zero_le _) (by simp)
  · unfold impl_ProbeCut_b2; simp only [all_ite, all_next, all_brk, all_ret]; (try simp only [LN, impl_ProbeCut_v1]); (repeat' (first | omega | apply And.intro | intro _))
  · unfold impl_ProbeCut_r2; (try simp only []); omega

def impl_LinkTube_I2 (p0 : ByteArray) (p1 : FlyPath) (p2 : Int) (fs : Nat → Nat → Nat) (i2 : Nat) (s2 : List ProbeBox) (x2 : Nat → Nat) : St := ⟨[(2, .one (.c (.v (.int .i64 p2)))), (6, .one (.pt 6 (x2 0) 0)), (7, .one (.pt 7 (x2 1) 0)), (13, .one (.c (.mu 1400000 (x2 3) 6 0 ((impl_FlyTube p1).map FlyBox.row).length))), (14, .one (.c (.v (.int .i64 ((impl_FlyTube p1).length : Int))))), (15, .one (.c (.v (.int .i64 ((i2 : Nat) : Int)))))], [(6, some (x2 0, .box [.v (.string ⟨#[]⟩), .nl])), (7, some (x2 1, .box [.v (.string p0), .mu 60701 (x2 2) 6 0 (s2.map ProbeBox.row).length])), (60701, some (x2 2, .arr 6 (s2.map ProbeBox.row))), (1400000, some (x2 3, .arr 6 ((impl_FlyTube p1).map FlyBox.row)))], 29⟩
def impl_LinkTube_J2 (p0 : ByteArray) (p1 : FlyPath) (p2 : Int) (fs : Nat → Nat → Nat) (s2 : List ProbeBox) (x2 : Nat → Nat) : St := ⟨[(2, .one (.c (.v (.int .i64 p2)))), (6, .one (.pt 6 (x2 0) 0)), (7, .one (.pt 7 (x2 1) 0))], [(6, some (x2 0, .box [.v (.string ⟨#[]⟩), .nl])), (7, some (x2 1, .box [.v (.string p0), .mu 60701 (x2 2) 6 0 (s2.map ProbeBox.row).length])), (60701, some (x2 2, .arr 6 (s2.map ProbeBox.row)))], 29⟩
def impl_LinkTube_v1 (p1 : FlyPath) (i2 : Nat) (s2 : List ProbeBox) : List ProbeBox := s2 ++ [(⟨((impl_FlyTube p1).getD i2 default).X, ((impl_FlyTube p1).getD i2 default).Y, ((impl_FlyTube p1).getD i2 default).Low, ((impl_FlyTube p1).getD i2 default).High, ((impl_FlyTube p1).getD i2 default).In, ((impl_FlyTube p1).getD i2 default).Out⟩ : ProbeBox)]
def impl_LinkTube_b2 (p0 : ByteArray) (p1 : FlyPath) (p2 : Int) (i2 : Nat) (s2 : List ProbeBox) : Res (List ProbeBox) ProbeTube := (.next (impl_LinkTube_v1 p1 i2 s2))
def impl_LinkTube_r2 (p0 : ByteArray) (p1 : FlyPath) (p2 : Int) (s2 : List ProbeBox) : ProbeTube := (impl_ProbeCut (⟨p0, s2⟩ : ProbeTube) p2)
/-- impl.LinkTube -/
def impl_LinkTube (p0 : ByteArray) (p1 : FlyPath) (p2 : Int) : ProbeTube := (Res.fin (impl_LinkTube_r2 p0 p1 p2) (forN (impl_LinkTube_b2 p0 p1 p2) ((impl_FlyTube p1).length - 0) 0 ([] : List ProbeBox)))
theorem c25 (p0 : ByteArray) (p1 : FlyPath) (p2 : Int) (k1_0 : FlyPath.ok p1) : Fn Proofs.Try.prog 25 [⟨.val, false, [.v (.string p0)]⟩, ⟨.val, true, FlyPath.cs .bor p1⟩, ⟨.val, false, [.v (.int .i64 p2)]⟩] [.ag (ProbeTube.cs .own (impl_LinkTube p0 p1 p2))] [] := by
  obtain ⟨R, hR⟩ : ∃ R, R = impl_LinkTube p0 p1 p2 := ⟨_, rfl⟩
  rw [← hR]
  rw [impl_LinkTube] at hR
  refine ⟨fn_intro hT Proofs.Try.func25 rfl rfl fun fs => ?_, _, Proofs.Try.func25, rfl, rfl⟩
  have q1 := k1_0; simp only [FlyPath.ok] at q1
  refine xr hT [] (fun f1 => ⟨[(0, .one (.c (.v (.string p0)))), (2, .one (.c (.v (.int .i64 p2)))), (4, .one (.pt 4 (f1 0 0) 0)), (6, .one (.pt 6 (f1 1 0) 0))], [(4, some (f1 0 0, .box (FlyPath.cs .bor p1))), (6, some (f1 1 0, .box [.v (.string ⟨#[]⟩), .nl]))], 29⟩) (fun f => by kernel_rfl) (fun f => by kernel_rfl) fun f1 => ?_
  refine xr hT [] (fun f2 => ⟨[(2, .one (.c (.v (.int .i64 p2)))), (4, .one (.pt 4 (f1 0 0) 0)), (6, .one (.pt 6 (f1 1 0) 0)), (7, .one (.pt 7 (f2 2 0) 0))], [(4, some (f1 0 0, .box (FlyPath.cs .bor p1))), (6, some (f1 1 0, .box [.v (.string ⟨#[]⟩), .nl])), (7, some (f2 2 0, .box [.v (.string p0), .nl]))], 29⟩) (fun f => by kernel_rfl) (fun f => by kernel_rfl) fun f2 => ?_
  refine w_seq ?_
  have w4 := f_impl_FlyTube p1 (by first | assumption | exact (by omega : p1.Steps.length ≤ 1048576))
  have w4' := w4; try simp only [LN, impl_LinkTube_v1] at w4'
  refine xr hT [ca (c51 p1 (by first | assumption | exact (by omega : p1.Steps.length ≤ 1048576))), .ln FlyBox.row (impl_FlyTube p1)] (fun f3 => ⟨[(2, .one (.c (.v (.int .i64 p2)))), (6, .one (.pt 6 (f1 1 0) 0)), (7, .one (.pt 7 (f2 2 0) 0)), (13, .one (.c (.mu 1400000 (gk (f3 1) 0 0) 6 0 ((impl_FlyTube p1).map FlyBox.row).length))), (14, .one (.c (.v (.int .i64 ((impl_FlyTube p1).length : Int))))), (15, .one (.c (.v (.int .i64 0))))], [(6, some (f1 1 0, .box [.v (.string ⟨#[]⟩), .nl])), (7, some (f2 2 0, .box [.v (.string p0), .nl])), (1400000, some (gk (f3 1) 0 0, .arr 6 ((impl_FlyTube p1).map FlyBox.row)))], 29⟩) (fun f => by kernel_rfl) (fun f => by kernel_rfl) fun f3 => ?_
  refine w_ownO 7 1 60701 6 rfl rfl rfl rfl fun σ5 => ?_
  refine w_forT (fun _ => rfl) (impl_LinkTube_I2 p0 p1 p2 fs) (impl_LinkTube_J2 p0 p1 p2 fs) (fun i2 s2 => i2 ≤ (impl_FlyTube p1).length ∧ s2.length ≤ (([] : List ProbeBox)).length + i2) (fun s2 => s2.length ≤ (([] : List ProbeBox)).length + (impl_FlyTube p1).length) ((impl_FlyTube p1).length) 0 (impl_LinkTube_b2 p0 p1 p2) (impl_LinkTube_r2 p0 p1 p2) 0 (([] : List ProbeBox)) (lst [f1 1 0, f2 2 0, σ5, gk (f3 1) 0 0]) (sb (by kernel_rfl)) (by first | rfl | ((try simp only [LN, impl_LinkTube_v1]); omega) | (simp; done) | (simp; omega)) hR ?_ ?_
  · skip
    intro i2 s2 x2 hI2 hX2
    try simp only [LN, impl_LinkTube_v1] at hI2
    refine xr hT [] (fun f6 => ⟨[(2, .one (.c (.v (.int .i64 p2)))), (6, .one (.pt 6 (x2 0) 0)), (7, .one (.pt 7 (x2 1) 0)), (13, .one (.c (.mu 1400000 (x2 3) 6 0 ((impl_FlyTube p1).map FlyBox.row).length))), (14, .one (.c (.v (.int .i64 ((impl_FlyTube p1).length : Int))))), (15, .one (.c (.v (.int .i64 ((i2 : Nat) : Int))))), (16, .one (.c (.v (.bool (decide (((i2 : Nat) : Int) < ((impl_FlyTube p1).length : Int)))))))], [(6, some (x2 0, .box [.v (.string ⟨#[]⟩), .nl])), (7, some (x2 1, .box [.v (.string p0), .mu 60701 (x2 2) 6 0 (s2.map ProbeBox.row).length])), (60701, some (x2 2, .arr 6 (s2.map ProbeBox.row))), (1400000, some (x2 3, .arr 6 ((impl_FlyTube p1).map FlyBox.row)))], 29⟩) (fun f => by kernel_rfl) (fun f => by kernel_rfl) fun f6 => ?_
    refine w_seq ?_
    refine w_cond rfl (fun h7 => ?_) fun h7 => ?_
    · skip
      have hl2 : i2 < (impl_FlyTube p1).length := by have hq := of_decide_eq_true h7; first | omega | ((try simp only [LN, impl_LinkTube_v1] at *); omega)
      have hl2x := hl2; try simp only [LN, impl_LinkTube_v1] at hl2x
      obtain ⟨B2, hB2⟩ : ∃ B, B = impl_LinkTube_b2 p0 p1 p2 i2 s2 := ⟨_, rfl⟩
      have hE2 := hB2
      rw [impl_LinkTube_b2] at hE2
      refine w_skip ?_
      refine w_seq ?_
      refine w_block ?_
      refine xr hT [ix FlyBox.row (impl_FlyTube p1) i2 (by (first | omega | ((try simp only [LN, impl_LinkTube_v1]); omega) | ((try simp only [wr, IntKind.wrap_i64, LN, impl_LinkTube_v1] at *); omega) | (simp_all <;> omega))), ix FlyBox.row (impl_FlyTube p1) i2 (by (first | omega | ((try simp only [LN, impl_LinkTube_v1]); omega) | ((try simp only [wr, IntKind.wrap_i64, LN, impl_LinkTube_v1] at *); omega) | (simp_all <;> omega)))] (fun f8 => ⟨[(2, .one (.c (.v (.int .i64 p2)))), (6, .one (.pt 6 (x2 0) 0)), (7, .one (.pt 7 (x2 1) 0)), (9, .one (.pt 9 (f8 2 0) 0)), (13, .one (.c (.mu 1400000 (x2 3) 6 0 ((impl_FlyTube p1).map FlyBox.row).length))), (14, .one (.c (.v (.int .i64 ((impl_FlyTube p1).length : Int))))), (15, .one (.c (.v (.int .i64 ((i2 : Nat) : Int)))))], [(6, some (x2 0, .box [.v (.string ⟨#[]⟩), .nl])), (7, some (x2 1, .box [.v (.string p0), .mu 60701 (x2 2) 6 0 (s2.map ProbeBox.row).length])), (9, some (f8 2 0, .box (FlyBox.cs .frz ((impl_FlyTube p1).getD i2 default)))), (60701, some (x2 2, .arr 6 (s2.map ProbeBox.row))), (1400000, some (x2 3, .arr 6 ((impl_FlyTube p1).map FlyBox.row)))], 29⟩) (fun f => by kernel_rfl) (fun f => by kernel_rfl) fun f8 => ?_
      refine xr1 (fun _ => rfl) hT [.rows ProbeBox.row [(⟨((impl_FlyTube p1).getD i2 default).X, ((impl_FlyTube p1).getD i2 default).Y, ((impl_FlyTube p1).getD i2 default).Low, ((impl_FlyTube p1).getD i2 default).High, ((impl_FlyTube p1).getD i2 default).In, ((impl_FlyTube p1).getD i2 default).Out⟩ : ProbeBox)], .app true ProbeBox.row s2 [(⟨((impl_FlyTube p1).getD i2 default).X, ((impl_FlyTube p1).getD i2 default).Y, ((impl_FlyTube p1).getD i2 default).Low, ((impl_FlyTube p1).getD i2 default).High, ((impl_FlyTube p1).getD i2 default).In, ((impl_FlyTube p1).getD i2 default).Out⟩ : ProbeBox)] 48 (fun h => by (try simp only [LN, impl_LinkTube_v1]); omega)] (fun f9 => ⟨[(2, .one (.c (.v (.int .i64 p2)))), (6, .one (.pt 6 (x2 0) 0)), (7, .one (.pt 7 (x2 1) 0)), (13, .one (.c (.mu 1400000 (x2 3) 6 0 ((impl_FlyTube p1).map FlyBox.row).length))), (14, .one (.c (.v (.int .i64 ((impl_FlyTube p1).length : Int))))), (15, .one (.c (.v (.int .i64 ((i2 : Nat) : Int)))))], [(6, some (x2 0, .box [.v (.string ⟨#[]⟩), .nl])), (7, some (x2 1, .box [.v (.string p0), .mu 60701 (f9 4 0) 6 0 ((impl_LinkTube_v1 p1 i2 s2).map ProbeBox.row).length])), (60701, some (f9 4 0, .arr 6 ((impl_LinkTube_v1 p1 i2 s2).map ProbeBox.row))), (1400000, some (x2 3, .arr 6 ((impl_FlyTube p1).map FlyBox.row)))], 29⟩) (fun f => by kernel_rfl) (fun f => by kernel_rfl) fun f9 => ?_
      refine x_reg hT [.ex true (((i2 : Nat) : Int) + ((1 : Nat) : Int)) ((((i2 + 1) : Nat) : Int)) (fun _ => wr_nat (n := i2) (c := 1) (by omega))] (fun f10 => impl_LinkTube_I2 p0 p1 p2 fs (i2 + 1) (impl_LinkTube_v1 p1 i2 s2) (lst [x2 0, x2 1, f9 4 0, x2 3])) (fun f => by kernel_rfl) (fun f => by kernel_rfl) fun f10 s' hs' => ?_
      exact ⟨(impl_LinkTube_v1 p1 i2 s2), (lst [x2 0, x2 1, f9 4 0, x2 3]), hl2, (by (try simp only [LN, impl_LinkTube_v1] at *); omega), hX2.trans (forN_next hl2 (hB2.symm.trans hE2)), hs'⟩
    have hq := of_decide_eq_false h7
    refine w_exit ?_
    exact ⟨s2, (lst [x2 0, x2 1, x2 2, x2 3]), (by (try simp only [LN, impl_LinkTube_v1] at *); omega), hX2.trans (forN_end (by first | omega | ((try simp only [LN, impl_LinkTube_v1] at *); omega))), sb (by kernel_rfl)⟩
  intro s2 x2 hF14 hR11
  try simp only [LN, impl_LinkTube_v1] at hF14
  rw [impl_LinkTube_r2] at hR11
  have w13 := f_impl_ProbeCut (⟨p0, s2⟩ : ProbeTube) p2 (by first | assumption | exact (by omega : s2.length ≤ 1048576))
  have w13' := w13; try simp only [LN, impl_LinkTube_v1] at w13'
  refine xr hT [ca (c102 (⟨p0, s2⟩ : ProbeTube) p2 (by first | assumption | exact (by omega : s2.length ≤ 1048576)))] (fun f12 => ⟨[(6, .one (.pt 6 (x2 0) 0))], [(6, some (x2 0, .box [.v (.string ((impl_ProbeCut (⟨p0, s2⟩ : ProbeTube) p2).Name)), .mu 2900001 (gk (f12 2) 0 1) 6 0 (((impl_ProbeCut (⟨p0, s2⟩ : ProbeTube) p2).Boxes).map ProbeBox.row).length])), (2900001, some (gk (f12 2) 0 1, .arr 6 (((impl_ProbeCut (⟨p0, s2⟩ : ProbeTube) p2).Boxes).map ProbeBox.row)))], 29⟩) (fun f => by kernel_rfl) (fun f => by kernel_rfl) fun f12 => ?_
  refine w_ret ?_
  subst hR11
  exact x_ret (by kernel_rfl)
theorem f_impl_LinkTube (p0 : ByteArray) (p1 : FlyPath) (p2 : Int) (h0 : FlyPath.ok p1) : (impl_LinkTube p0 p1 p2).Boxes.length ≤ p1.Steps.length := by
  have hl := f_impl_FlyTube p1 h0
  unfold impl_LinkTube
  refine forN_inv (fun (i : Nat) (s : List ProbeBox) => s.length ≤ i) (fun (r : ProbeTube) => r.Boxes.length ≤ p1.Steps.length) ((impl_FlyTube p1).length) (fun j s hj h => ?_) (fun s h => ?_) _ 0 _ rfl (Nat.zero_le _) (by simp)
  · unfold impl_LinkTube_b2; simp only [all_next]; (try simp only [LN, impl_LinkTube_v1]); omega
  · unfold impl_LinkTube_r2
    have hk : FlyPath.ok p1 → p1.Steps.length ≤ 1048576 := fun h => h
    have h2 := f_impl_ProbeCut ⟨p0, s⟩ p2 (show s.length ≤ _ from by have := hk h0; omega)
    simp only at h2
    omega

/-- laws.eqProbeBox -/
def laws_eqProbeBox (p0 : ProbeBox) (p1 : ProbeBox) : Bool := (if !decide (p0.X = p1.X) then false else (if !decide (p0.Y = p1.Y) then false else (if !decide (p0.Low = p1.Low) then false else (if !decide (p0.High = p1.High) then false else (if !decide (p0.In = p1.In) then false else (if !decide (p0.Out = p1.Out) then false else true))))))
theorem c178 (p0 : ProbeBox) (p1 : ProbeBox) : Fn Proofs.Try.prog 178 [⟨.val, true, ProbeBox.cs .bor p0⟩, ⟨.val, true, ProbeBox.cs .bor p1⟩] [.c (.v (.bool (laws_eqProbeBox p0 p1)))] [] := by
  obtain ⟨R, hR⟩ : ∃ R, R = laws_eqProbeBox p0 p1 := ⟨_, rfl⟩
  rw [← hR]
  rw [laws_eqProbeBox] at hR
  refine ⟨fn_intro hT Proofs.Try.func178 rfl rfl fun fs => ?_, _, Proofs.Try.func178, rfl, rfl⟩
  refine xr hT [] (fun f1 => ⟨[(2, .one (.pt 2 (f1 0 0) 0)), (3, .one (.pt 3 (f1 1 0) 0))], [(2, some (f1 0 0, .box (ProbeBox.cs .bor p0))), (3, some (f1 1 0, .box (ProbeBox.cs .bor p1)))], 35⟩) (fun f => by kernel_rfl) (fun f => by kernel_rfl) fun f1 => ?_
  refine w_seq ?_
  refine xr hT [] (fun f2 => ⟨[(2, .one (.pt 2 (f1 0 0) 0)), (3, .one (.pt 3 (f1 1 0) 0)), (9, .one (.c (.v (.bool (!decide (p0.X = p1.X))))))], [(2, some (f1 0 0, .box (ProbeBox.cs .bor p0))), (3, some (f1 1 0, .box (ProbeBox.cs .bor p1)))], 35⟩) (fun f => by kernel_rfl) (fun f => by kernel_rfl) fun f2 => ?_
  refine w_cond rfl (fun h3 => ?_) fun h3 => ?_
  · rw [if_pos h3] at hR
    have gh3 := nd1 h3
    refine xr hT [] (fun f4 => ⟨[(4, .one (.c (.v (.bool false))))], [], 35⟩) (fun f => by kernel_rfl) (fun f => by kernel_rfl) fun f4 => ?_
    refine w_ret ?_
    subst hR
    exact x_ret (by kernel_rfl)
  rw [if_neg (nt h3)] at hR
  have gh3 := nd0 h3
  refine w_skip ?_
  refine w_seq ?_
  refine xr hT [] (fun f5 => ⟨[(2, .one (.pt 2 (f1 0 0) 0)), (3, .one (.pt 3 (f1 1 0) 0)), (14, .one (.c (.v (.bool (!decide (p0.Y = p1.Y))))))], [(2, some (f1 0 0, .box (ProbeBox.cs .bor p0))), (3, some (f1 1 0, .box (ProbeBox.cs .bor p1)))], 35⟩) (fun f => by kernel_rfl) (fun f => by kernel_rfl) fun f5 => ?_
  refine w_cond rfl (fun h6 => ?_) fun h6 => ?_
  · rw [if_pos h6] at hR
    have gh6 := nd1 h6
    refine xr hT [] (fun f7 => ⟨[(4, .one (.c (.v (.bool false))))], [], 35⟩) (fun f => by kernel_rfl) (fun f => by kernel_rfl) fun f7 => ?_
    refine w_ret ?_
    subst hR
    exact x_ret (by kernel_rfl)
  rw [if_neg (nt h6)] at hR
  have gh6 := nd0 h6
  refine w_skip ?_
  refine w_seq ?_
  refine xr hT [] (fun f8 => ⟨[(2, .one (.pt 2 (f1 0 0) 0)), (3, .one (.pt 3 (f1 1 0) 0)), (19, .one (.c (.v (.bool (!decide (p0.Low = p1.Low))))))], [(2, some (f1 0 0, .box (ProbeBox.cs .bor p0))), (3, some (f1 1 0, .box (ProbeBox.cs .bor p1)))], 35⟩) (fun f => by kernel_rfl) (fun f => by kernel_rfl) fun f8 => ?_
  refine w_cond rfl (fun h9 => ?_) fun h9 => ?_
  · rw [if_pos h9] at hR
    have gh9 := nd1 h9
    refine xr hT [] (fun f10 => ⟨[(4, .one (.c (.v (.bool false))))], [], 35⟩) (fun f => by kernel_rfl) (fun f => by kernel_rfl) fun f10 => ?_
    refine w_ret ?_
    subst hR
    exact x_ret (by kernel_rfl)
  rw [if_neg (nt h9)] at hR
  have gh9 := nd0 h9
  refine w_skip ?_
  refine w_seq ?_
  refine xr hT [] (fun f11 => ⟨[(2, .one (.pt 2 (f1 0 0) 0)), (3, .one (.pt 3 (f1 1 0) 0)), (24, .one (.c (.v (.bool (!decide (p0.High = p1.High))))))], [(2, some (f1 0 0, .box (ProbeBox.cs .bor p0))), (3, some (f1 1 0, .box (ProbeBox.cs .bor p1)))], 35⟩) (fun f => by kernel_rfl) (fun f => by kernel_rfl) fun f11 => ?_
  refine w_cond rfl (fun h12 => ?_) fun h12 => ?_
  · rw [if_pos h12] at hR
    have gh12 := nd1 h12
    refine xr hT [] (fun f13 => ⟨[(4, .one (.c (.v (.bool false))))], [], 35⟩) (fun f => by kernel_rfl) (fun f => by kernel_rfl) fun f13 => ?_
    refine w_ret ?_
    subst hR
    exact x_ret (by kernel_rfl)
  rw [if_neg (nt h12)] at hR
  have gh12 := nd0 h12
  refine w_skip ?_
  refine w_seq ?_
  refine xr hT [] (fun f14 => ⟨[(2, .one (.pt 2 (f1 0 0) 0)), (3, .one (.pt 3 (f1 1 0) 0)), (29, .one (.c (.v (.bool (!decide (p0.In = p1.In))))))], [(2, some (f1 0 0, .box (ProbeBox.cs .bor p0))), (3, some (f1 1 0, .box (ProbeBox.cs .bor p1)))], 35⟩) (fun f => by kernel_rfl) (fun f => by kernel_rfl) fun f14 => ?_
  refine w_cond rfl (fun h15 => ?_) fun h15 => ?_
  · rw [if_pos h15] at hR
    have gh15 := nd1 h15
    refine xr hT [] (fun f16 => ⟨[(4, .one (.c (.v (.bool false))))], [], 35⟩) (fun f => by kernel_rfl) (fun f => by kernel_rfl) fun f16 => ?_
    refine w_ret ?_
    subst hR
    exact x_ret (by kernel_rfl)
  rw [if_neg (nt h15)] at hR
  have gh15 := nd0 h15
  refine w_skip ?_
  refine w_seq ?_
  refine xr hT [] (fun f17 => ⟨[(34, .one (.c (.v (.bool (!decide (p0.Out = p1.Out))))))], [], 35⟩) (fun f => by kernel_rfl) (fun f => by kernel_rfl) fun f17 => ?_
  refine w_cond rfl (fun h18 => ?_) fun h18 => ?_
  · rw [if_pos h18] at hR
    have gh18 := nd1 h18
    refine xr hT [] (fun f19 => ⟨[(4, .one (.c (.v (.bool false))))], [], 35⟩) (fun f => by kernel_rfl) (fun f => by kernel_rfl) fun f19 => ?_
    refine w_ret ?_
    subst hR
    exact x_ret (by kernel_rfl)
  rw [if_neg (nt h18)] at hR
  have gh18 := nd0 h18
  refine w_skip ?_
  refine xr hT [] (fun f20 => ⟨[(4, .one (.c (.v (.bool true))))], [], 35⟩) (fun f => by kernel_rfl) (fun f => by kernel_rfl) fun f20 => ?_
  refine w_ret ?_
  subst hR
  exact x_ret (by kernel_rfl)

def laws_eqProbeBoxS_I1 (p0 : (List ProbeBox)) (p1 : (List ProbeBox)) (fs : Nat → Nat → Nat) (i1 : Nat) (s1 : Unit) (x1 : Nat → Nat) : St := ⟨[(0, .one (.c (.sl .bor 6 (p0.map ProbeBox.row)))), (1, .one (.c (.sl .bor 6 (p1.map ProbeBox.row)))), (5, .one (.c (.v (.int .i64 ((i1 : Nat) : Int)))))], [], 27⟩
def laws_eqProbeBoxS_J1 (p0 : (List ProbeBox)) (p1 : (List ProbeBox)) (fs : Nat → Nat → Nat) (s1 : Unit) (x1 : Nat → Nat) : St := ⟨[], [], 27⟩
def laws_eqProbeBoxS_b1 (p0 : (List ProbeBox)) (p1 : (List ProbeBox)) (i1 : Nat) (s1 : Unit) : Res (Unit) Bool := (if !(laws_eqProbeBox (p0.getD i1 default) (p1.getD i1 default)) then (.ret false) else (.next ()))
def laws_eqProbeBoxS_r1 (p0 : (List ProbeBox)) (p1 : (List ProbeBox)) (s1 : Unit) : Bool := true
/-- laws.eqProbeBoxS -/
def laws_eqProbeBoxS (p0 : (List ProbeBox)) (p1 : (List ProbeBox)) : Bool := (if !decide ((p0.length : Int) = (p1.length : Int)) then false else (Res.fin (laws_eqProbeBoxS_r1 p0 p1) (forN (laws_eqProbeBoxS_b1 p0 p1) (p0.length - 0) 0 ())))
theorem c103 (p0 : (List ProbeBox)) (p1 : (List ProbeBox)) (k0_0 : p0.length ≤ 1048576) (k1_0 : p1.length ≤ 1048576) : Fn Proofs.Try.prog 103 [⟨.val, false, [.sl .bor 6 (p0.map ProbeBox.row)]⟩, ⟨.val, false, [.sl .bor 6 (p1.map ProbeBox.row)]⟩] [.c (.v (.bool (laws_eqProbeBoxS p0 p1)))] [] := by
  obtain ⟨R, hR⟩ : ∃ R, R = laws_eqProbeBoxS p0 p1 := ⟨_, rfl⟩
  rw [← hR]
  rw [laws_eqProbeBoxS] at hR
  refine ⟨fn_intro hT Proofs.Try.func103 rfl rfl fun fs => ?_, _, Proofs.Try.func103, rfl, rfl⟩
  refine xr hT [] (fun f1 => ⟨[(0, .one (.c (.sl .bor 6 (p0.map ProbeBox.row)))), (1, .one (.c (.sl .bor 6 (p1.map ProbeBox.row))))], [], 27⟩) (fun f => by kernel_rfl) (fun f => by kernel_rfl) fun f1 => ?_
  refine w_seq ?_
  refine xr hT [.ln ProbeBox.row p0, .ln ProbeBox.row p1] (fun f2 => ⟨[(0, .one (.c (.sl .bor 6 (p0.map ProbeBox.row)))), (1, .one (.c (.sl .bor 6 (p1.map ProbeBox.row)))), (10, .one (.c (.v (.bool (!decide ((p0.length : Int) = (p1.length : Int)))))))], [], 27⟩) (fun f => by kernel_rfl) (fun f => by kernel_rfl) fun f2 => ?_
  refine w_cond rfl (fun h3 => ?_) fun h3 => ?_
  · rw [if_pos h3] at hR
    have gh3 := nd1 h3
    refine xr hT [] (fun f4 => ⟨[(4, .one (.c (.v (.bool false))))], [], 27⟩) (fun f => by kernel_rfl) (fun f => by kernel_rfl) fun f4 => ?_
    refine w_ret ?_
    subst hR
    exact x_ret (by kernel_rfl)
  rw [if_neg (nt h3)] at hR
  have gh3 := nd0 h3
  refine w_skip ?_
  refine w_seq ?_
  refine xr hT [] (fun f5 => ⟨[(0, .one (.c (.sl .bor 6 (p0.map ProbeBox.row)))), (1, .one (.c (.sl .bor 6 (p1.map ProbeBox.row)))), (5, .one (.c (.v (.int .i64 0))))], [], 27⟩) (fun f => by kernel_rfl) (fun f => by kernel_rfl) fun f5 => ?_
  refine w_forT (fun _ => rfl) (laws_eqProbeBoxS_I1 p0 p1 fs) (laws_eqProbeBoxS_J1 p0 p1 fs) (fun i1 s1 => True) (fun s1 => True) (p0.length) 0 (laws_eqProbeBoxS_b1 p0 p1) (laws_eqProbeBoxS_r1 p0 p1) 0 (()) (lst []) (sb (by kernel_rfl)) trivial hR ?_ ?_
  · skip
    intro i1 s1 x1 hI1 hX1
    refine w_seq ?_
    refine xr hT [.ln ProbeBox.row p0] (fun f6 => ⟨[(0, .one (.c (.sl .bor 6 (p0.map ProbeBox.row)))), (1, .one (.c (.sl .bor 6 (p1.map ProbeBox.row)))), (5, .one (.c (.v (.int .i64 ((i1 : Nat) : Int))))), (14, .one (.c (.v (.bool (decide (((i1 : Nat) : Int) < (p0.length : Int)))))))], [], 27⟩) (fun f => by kernel_rfl) (fun f => by kernel_rfl) fun f6 => ?_
    refine w_cond rfl (fun h7 => ?_) fun h7 => ?_
    · skip
      have hl1 : i1 < p0.length := by have hq := of_decide_eq_true h7; first | omega | ((try simp only [LN] at *); omega)
      obtain ⟨B1, hB1⟩ : ∃ B, B = laws_eqProbeBoxS_b1 p0 p1 i1 s1 := ⟨_, rfl⟩
      have hE1 := hB1
      rw [laws_eqProbeBoxS_b1] at hE1
      refine w_skip ?_
      refine w_seq ?_
      refine w_block ?_
      refine xd hT hM [ix ProbeBox.row p0 i1 (by omega), ix ProbeBox.row p1 i1 (by omega), ca (c178 (p0.getD i1 default) (p1.getD i1 default))] (fun f8 => ⟨[(0, .one (.c (.sl .bor 6 (p0.map ProbeBox.row)))), (1, .one (.c (.sl .bor 6 (p1.map ProbeBox.row)))), (5, .one (.c (.v (.int .i64 ((i1 : Nat) : Int))))), (26, .one (.c (.v (.bool (!(laws_eqProbeBox (p0.getD i1 default) (p1.getD i1 default)))))))], [], 27⟩) (fun f => by kernel_rfl) (fun f => by kernel_rfl) (fun f => by kernel_rfl) fun f8 => ?_
      refine w_cond rfl (fun h9 => ?_) fun h9 => ?_
      · rw [if_pos h9] at hE1
        refine xr hT [] (fun f10 => ⟨[(4, .one (.c (.v (.bool false))))], [], 27⟩) (fun f => by kernel_rfl) (fun f => by kernel_rfl) fun f10 => ?_
        refine w_ret ?_
        have hR := hX1.trans (forN_ret hl1 (hB1.symm.trans hE1))
        subst hR
        exact x_ret (by kernel_rfl)
      rw [if_neg (nt h9)] at hE1
      refine w_skip ?_
      refine x_reg hT [.ex true (((i1 : Nat) : Int) + ((1 : Nat) : Int)) ((((i1 + 1) : Nat) : Int)) (fun _ => wr_nat (n := i1) (c := 1) (by omega))] (fun f11 => laws_eqProbeBoxS_I1 p0 p1 fs (i1 + 1) () (lst [])) (fun f => by kernel_rfl) (fun f => by kernel_rfl) fun f11 s' hs' => ?_
      exact ⟨(), (lst []), hl1, trivial, hX1.trans (forN_next hl1 (hB1.symm.trans hE1)), hs'⟩
    have hq := of_decide_eq_false h7
    refine w_exit ?_
    exact ⟨s1, (lst []), trivial, hX1.trans (forN_end (by first | omega | ((try simp only [LN] at *); omega))), sb (by kernel_rfl)⟩
  intro s1 x1 hF14 hR12
  rw [laws_eqProbeBoxS_r1] at hR12
  refine xr hT [] (fun f13 => ⟨[(4, .one (.c (.v (.bool true))))], [], 27⟩) (fun f => by kernel_rfl) (fun f => by kernel_rfl) fun f13 => ?_
  refine w_ret ?_
  subst hR12
  exact x_ret (by kernel_rfl)

/-- laws.eqProbeTube -/
def laws_eqProbeTube (p0 : ProbeTube) (p1 : ProbeTube) : Bool := (if !(p0.Name.toList == p1.Name.toList) then false else (if !(laws_eqProbeBoxS p0.Boxes p1.Boxes) then false else true))
theorem c26 (p0 : ProbeTube) (p1 : ProbeTube) (k0_0 : ProbeTube.ok p0) (k1_0 : ProbeTube.ok p1) : Fn Proofs.Try.prog 26 [⟨.val, true, ProbeTube.cs .bor p0⟩, ⟨.val, true, ProbeTube.cs .bor p1⟩] [.c (.v (.bool (laws_eqProbeTube p0 p1)))] [] := by
  obtain ⟨R, hR⟩ : ∃ R, R = laws_eqProbeTube p0 p1 := ⟨_, rfl⟩
  rw [← hR]
  rw [laws_eqProbeTube] at hR
  refine ⟨fn_intro hT Proofs.Try.func26 rfl rfl fun fs => ?_, _, Proofs.Try.func26, rfl, rfl⟩
  have q0 := k0_0; simp only [ProbeTube.ok] at q0
  have q1 := k1_0; simp only [ProbeTube.ok] at q1
  refine xr hT [] (fun f1 => ⟨[(2, .one (.pt 2 (f1 0 0) 0)), (3, .one (.pt 3 (f1 1 0) 0))], [(2, some (f1 0 0, .box (ProbeTube.cs .bor p0))), (3, some (f1 1 0, .box (ProbeTube.cs .bor p1)))], 16⟩) (fun f => by kernel_rfl) (fun f => by kernel_rfl) fun f1 => ?_
  refine w_seq ?_
  refine xr hT [] (fun f2 => ⟨[(2, .one (.pt 2 (f1 0 0) 0)), (3, .one (.pt 3 (f1 1 0) 0)), (9, .one (.c (.v (.bool (!(p0.Name.toList == p1.Name.toList))))))], [(2, some (f1 0 0, .box (ProbeTube.cs .bor p0))), (3, some (f1 1 0, .box (ProbeTube.cs .bor p1)))], 16⟩) (fun f => by kernel_rfl) (fun f => by kernel_rfl) fun f2 => ?_
  refine w_cond rfl (fun h3 => ?_) fun h3 => ?_
  · rw [if_pos h3] at hR
    refine xr hT [] (fun f4 => ⟨[(4, .one (.c (.v (.bool false))))], [], 16⟩) (fun f => by kernel_rfl) (fun f => by kernel_rfl) fun f4 => ?_
    refine w_ret ?_
    subst hR
    exact x_ret (by kernel_rfl)
  rw [if_neg (nt h3)] at hR
  refine w_skip ?_
  refine w_seq ?_
  refine xr hT [ca (c103 p0.Boxes p1.Boxes (by omega) (by omega))] (fun f5 => ⟨[(15, .one (.c (.v (.bool (!(laws_eqProbeBoxS p0.Boxes p1.Boxes))))))], [], 16⟩) (fun f => by kernel_rfl) (fun f => by kernel_rfl) fun f5 => ?_
  refine w_cond rfl (fun h6 => ?_) fun h6 => ?_
  · rw [if_pos h6] at hR
    refine xr hT [] (fun f7 => ⟨[(4, .one (.c (.v (.bool false))))], [], 16⟩) (fun f => by kernel_rfl) (fun f => by kernel_rfl) fun f7 => ?_
    refine w_ret ?_
    subst hR
    exact x_ret (by kernel_rfl)
  rw [if_neg (nt h6)] at hR
  refine w_skip ?_
  refine xr hT [] (fun f8 => ⟨[(4, .one (.c (.v (.bool true))))], [], 16⟩) (fun f => by kernel_rfl) (fun f => by kernel_rfl) fun f8 => ?_
  refine w_ret ?_
  subst hR
  exact x_ret (by kernel_rfl)

def laws_markFlyStepS_I1 (p0 : (List FlyStep)) (p1 : Int) (fs : Nat → Nat → Nat) (i1 : Nat) (s1 : Int × List FlyStep) (x1 : Nat → Nat) : St := ⟨[(0, .one (.c (.mu 1000 (fs 0 0) 7 0 (s1.2.map FlyStep.row).length))), (1, .one (.c (.v (.int .i64 s1.1)))), (5, .one (.c (.v (.int .i64 ((i1 : Nat) : Int)))))], [(1000, some (fs 0 0, .arr 7 (s1.2.map FlyStep.row)))], 64⟩
def laws_markFlyStepS_J1 (p0 : (List FlyStep)) (p1 : Int) (fs : Nat → Nat → Nat) (s1 : Int × List FlyStep) (x1 : Nat → Nat) : St := ⟨[(1, .one (.c (.v (.int .i64 s1.1))))], [(1000, some (fs 0 0, .arr 7 (s1.2.map FlyStep.row)))], 64⟩
def laws_markFlyStepS_v1 (i1 : Nat) (s1 : Int × List FlyStep) : List FlyStep := (s1.2.set i1 ({ s1.2.getD i1 default with X := s1.1 } : FlyStep)).set i1 ({ (s1.2.set i1 ({ s1.2.getD i1 default with X := s1.1 } : FlyStep)).getD i1 default with Y := wr (s1.1 + 1) } : FlyStep)
def laws_markFlyStepS_v2 (i1 : Nat) (s1 : Int × List FlyStep) : List FlyStep := ((laws_markFlyStepS_v1 i1 s1).set i1 ({ (laws_markFlyStepS_v1 i1 s1).getD i1 default with Low := wr ((wr (s1.1 + 1)) + 1) } : FlyStep)).set i1 ({ ((laws_markFlyStepS_v1 i1 s1).set i1 ({ (laws_markFlyStepS_v1 i1 s1).getD i1 default with Low := wr ((wr (s1.1 + 1)) + 1) } : FlyStep)).getD i1 default with High := wr ((wr ((wr (s1.1 + 1)) + 1)) + 1) } : FlyStep)
def laws_markFlyStepS_v3 (i1 : Nat) (s1 : Int × List FlyStep) : List FlyStep := (laws_markFlyStepS_v2 i1 s1).set i1 ({ (laws_markFlyStepS_v2 i1 s1).getD i1 default with From := wr ((wr ((wr ((wr (s1.1 + 1)) + 1)) + 1)) + 1) } : FlyStep)
def laws_markFlyStepS_v4 (i1 : Nat) (s1 : Int × List FlyStep) : List FlyStep := (laws_markFlyStepS_v3 i1 s1).set i1 ({ (laws_markFlyStepS_v3 i1 s1).getD i1 default with By := wr ((wr ((wr ((wr ((wr (s1.1 + 1)) + 1)) + 1)) + 1)) + 1) } : FlyStep)
def laws_markFlyStepS_v5 (i1 : Nat) (s1 : Int × List FlyStep) : List FlyStep := (laws_markFlyStepS_v4 i1 s1).set i1 ({ (laws_markFlyStepS_v4 i1 s1).getD i1 default with Hold := decide ((Int.tmod (wr ((wr ((wr ((wr ((wr ((wr (s1.1 + 1)) + 1)) + 1)) + 1)) + 1)) + 1)) 3) = 0) } : FlyStep)
def laws_markFlyStepS_b1 (p0 : (List FlyStep)) (p1 : Int) (i1 : Nat) (s1 : Int × List FlyStep) : Res (Int × List FlyStep) (Int × (List FlyStep)) := (.next (wr ((wr ((wr ((wr ((wr ((wr ((wr (s1.1 + 1)) + 1)) + 1)) + 1)) + 1)) + 1)) + 1), (laws_markFlyStepS_v5 i1 s1)))
def laws_markFlyStepS_r1 (p0 : (List FlyStep)) (p1 : Int) (s1 : Int × List FlyStep) : (Int × (List FlyStep)) := (s1.1, s1.2)
/-- laws.markFlyStepS -/
def laws_markFlyStepS (p0 : (List FlyStep)) (p1 : Int) : Int × (List FlyStep) := (Res.fin (laws_markFlyStepS_r1 p0 p1) (forN (laws_markFlyStepS_b1 p0 p1) ((p0).length - 0) 0 (p1, p0)))
theorem c106 (p0 : (List FlyStep)) (p1 : Int) (k0_0 : p0.length ≤ 1048576) : Fn Proofs.Try.prog 106 [⟨.mt, false, [.sl .own 7 (p0.map FlyStep.row)]⟩, ⟨.val, false, [.v (.int .i64 p1)]⟩] [.c (.v (.int .i64 (laws_markFlyStepS p0 p1).1))] [[.sl .own 7 ((laws_markFlyStepS p0 p1).2.map FlyStep.row)]] := by
  obtain ⟨R, hR⟩ : ∃ R, R = laws_markFlyStepS p0 p1 := ⟨_, rfl⟩
  rw [← hR]
  rw [laws_markFlyStepS] at hR
  refine ⟨fn_intro hT Proofs.Try.func106 rfl rfl fun fs => ?_, _, Proofs.Try.func106, rfl, rfl⟩
  refine xr hT [] (fun f1 => ⟨[(0, .one (.c (.mu 1000 (fs 0 0) 7 0 (p0.map FlyStep.row).length))), (1, .one (.c (.v (.int .i64 p1))))], [(1000, some (fs 0 0, .arr 7 (p0.map FlyStep.row)))], 64⟩) (fun f => by kernel_rfl) (fun f => by kernel_rfl) fun f1 => ?_
  refine w_seq ?_
  refine xr hT [] (fun f2 => ⟨[(0, .one (.c (.mu 1000 (fs 0 0) 7 0 (p0.map FlyStep.row).length))), (1, .one (.c (.v (.int .i64 p1)))), (5, .one (.c (.v (.int .i64 0))))], [(1000, some (fs 0 0, .arr 7 (p0.map FlyStep.row)))], 64⟩) (fun f => by kernel_rfl) (fun f => by kernel_rfl) fun f2 => ?_
  refine w_forT (fun _ => rfl) (laws_markFlyStepS_I1 p0 p1 fs) (laws_markFlyStepS_J1 p0 p1 fs) (fun i1 s1 => s1.2.length = (p0).length) (fun s1 => s1.2.length = (p0).length) ((p0).length) 0 (laws_markFlyStepS_b1 p0 p1) (laws_markFlyStepS_r1 p0 p1) 0 ((p1, p0)) (lst []) (sb (by kernel_rfl)) (by first | rfl | ((try simp only [LN, laws_markFlyStepS_v1, laws_markFlyStepS_v2, laws_markFlyStepS_v3, laws_markFlyStepS_v4, laws_markFlyStepS_v5]); omega) | (simp; done) | (simp; omega)) hR ?_ ?_
  · skip
    intro i1 s1 x1 hI1 hX1
    try simp only [LN, laws_markFlyStepS_v1, laws_markFlyStepS_v2, laws_markFlyStepS_v3, laws_markFlyStepS_v4, laws_markFlyStepS_v5] at hI1
    refine w_seq ?_
    refine xr hT [.ln FlyStep.row s1.2] (fun f3 => ⟨[(0, .one (.c (.mu 1000 (fs 0 0) 7 0 (s1.2.map FlyStep.row).length))), (1, .one (.c (.v (.int .i64 s1.1)))), (5, .one (.c (.v (.int .i64 ((i1 : Nat) : Int))))), (9, .one (.c (.v (.bool (decide (((i1 : Nat) : Int) < (s1.2.length : Int)))))))], [(1000, some (fs 0 0, .arr 7 (s1.2.map FlyStep.row)))], 64⟩) (fun f => by kernel_rfl) (fun f => by kernel_rfl) fun f3 => ?_
    refine w_cond rfl (fun h4 => ?_) fun h4 => ?_
    · skip
      have hl1 : i1 < (p0).length := by have hq := of_decide_eq_true h4; first | omega | ((try simp only [LN, laws_markFlyStepS_v1, laws_markFlyStepS_v2, laws_markFlyStepS_v3, laws_markFlyStepS_v4, laws_markFlyStepS_v5] at *); omega)
      have hl1x := hl1; try simp only [LN, laws_markFlyStepS_v1, laws_markFlyStepS_v2, laws_markFlyStepS_v3, laws_markFlyStepS_v4, laws_markFlyStepS_v5] at hl1x
      obtain ⟨B1, hB1⟩ : ∃ B, B = laws_markFlyStepS_b1 p0 p1 i1 s1 := ⟨_, rfl⟩
      have hE1 := hB1
      rw [laws_markFlyStepS_b1] at hE1
      refine w_skip ?_
      refine w_seq ?_
      refine w_block ?_
      refine xr hT [ix FlyStep.row s1.2 i1 (by omega), .st inferInstance true FlyStep.row s1.2 i1 ({ s1.2.getD i1 default with X := s1.1 } : FlyStep) (fun h => by omega)] (fun f5 => ⟨[(0, .one (.c (.mu 1000 (fs 0 0) 7 0 (s1.2.map FlyStep.row).length))), (1, .one (.c (.v (.int .i64 s1.1)))), (5, .one (.c (.v (.int .i64 ((i1 : Nat) : Int)))))], [(1000, some (fs 0 0, .arr 7 ((s1.2.set i1 ({ s1.2.getD i1 default with X := s1.1 } : FlyStep)).map FlyStep.row)))], 64⟩) (fun f => by kernel_rfl) (fun f => by kernel_rfl) fun f5 => ?_
      refine w_sub (s := ⟨[(0, .one (.c (.mu 1000 (fs 0 0) 7 0 ((s1.2.set i1 ({ s1.2.getD i1 default with X := s1.1 } : FlyStep)).map FlyStep.row).length))), (1, .one (.c (.v (.int .i64 s1.1)))), (5, .one (.c (.v (.int .i64 ((i1 : Nat) : Int)))))], [(1000, some (fs 0 0, .arr 7 ((s1.2.set i1 ({ s1.2.getD i1 default with X := s1.1 } : FlyStep)).map FlyStep.row)))], 64⟩) (cst (by simp only [LN, laws_markFlyStepS_v1, laws_markFlyStepS_v2, laws_markFlyStepS_v3, laws_markFlyStepS_v4, laws_markFlyStepS_v5]) (sb (s := ⟨[(0, .one (.c (.mu 1000 (fs 0 0) 7 0 (s1.2.map FlyStep.row).length))), (1, .one (.c (.v (.int .i64 s1.1)))), (5, .one (.c (.v (.int .i64 ((i1 : Nat) : Int)))))], [(1000, some (fs 0 0, .arr 7 ((s1.2.set i1 ({ s1.2.getD i1 default with X := s1.1 } : FlyStep)).map FlyStep.row)))], 64⟩) (by kernel_rfl))) ?_
      refine xr hT [.wr] (fun f6 => ⟨[(0, .one (.c (.mu 1000 (fs 0 0) 7 0 ((s1.2.set i1 ({ s1.2.getD i1 default with X := s1.1 } : FlyStep)).map FlyStep.row).length))), (1, .one (.c (.v (.int .i64 (wr (s1.1 + 1)))))), (5, .one (.c (.v (.int .i64 ((i1 : Nat) : Int)))))], [(1000, some (fs 0 0, .arr 7 ((s1.2.set i1 ({ s1.2.getD i1 default with X := s1.1 } : FlyStep)).map FlyStep.row)))], 64⟩) (fun f => by kernel_rfl) (fun f => by kernel_rfl) fun f6 => ?_
      refine xr hT [ix FlyStep.row (s1.2.set i1 ({ s1.2.getD i1 default with X := s1.1 } : FlyStep)) i1 (by (first | omega | ((try simp only [LN, laws_markFlyStepS_v1, laws_markFlyStepS_v2, laws_markFlyStepS_v3, laws_markFlyStepS_v4, laws_markFlyStepS_v5]); omega) | ((try simp only [wr, IntKind.wrap_i64, LN, laws_markFlyStepS_v1, laws_markFlyStepS_v2, laws_markFlyStepS_v3, laws_markFlyStepS_v4, laws_markFlyStepS_v5] at *); omega) | (simp_all <;> omega))), .st inferInstance true FlyStep.row (s1.2.set i1 ({ s1.2.getD i1 default with X := s1.1 } : FlyStep)) i1 ({ (s1.2.set i1 ({ s1.2.getD i1 default with X := s1.1 } : FlyStep)).getD i1 default with Y := wr (s1.1 + 1) } : FlyStep) (fun h => by (first | omega | ((try simp only [LN, laws_markFlyStepS_v1, laws_markFlyStepS_v2, laws_markFlyStepS_v3, laws_markFlyStepS_v4, laws_markFlyStepS_v5]); omega) | ((try simp only [wr, IntKind.wrap_i64, LN, laws_markFlyStepS_v1, laws_markFlyStepS_v2, laws_markFlyStepS_v3, laws_markFlyStepS_v4, laws_markFlyStepS_v5] at *); omega) | (simp_all <;> omega)))] (fun f7 => ⟨[(0, .one (.c (.mu 1000 (fs 0 0) 7 0 ((s1.2.set i1 ({ s1.2.getD i1 default with X := s1.1 } : FlyStep)).map FlyStep.row).length))), (1, .one (.c (.v (.int .i64 (wr (s1.1 + 1)))))), (5, .one (.c (.v (.int .i64 ((i1 : Nat) : Int)))))], [(1000, some (fs 0 0, .arr 7 ((laws_markFlyStepS_v1 i1 s1).map FlyStep.row)))], 64⟩) (fun f => by kernel_rfl) (fun f => by kernel_rfl) fun f7 => ?_
      refine w_sub (s := ⟨[(0, .one (.c (.mu 1000 (fs 0 0) 7 0 ((laws_markFlyStepS_v1 i1 s1).map FlyStep.row).length))), (1, .one (.c (.v (.int .i64 (wr (s1.1 + 1)))))), (5, .one (.c (.v (.int .i64 ((i1 : Nat) : Int)))))], [(1000, some (fs 0 0, .arr 7 ((laws_markFlyStepS_v1 i1 s1).map FlyStep.row)))], 64⟩) (cst (by simp only [LN, laws_markFlyStepS_v1, laws_markFlyStepS_v2, laws_markFlyStepS_v3, laws_markFlyStepS_v4, laws_markFlyStepS_v5]) (sb (s := ⟨[(0, .one (.c (.mu 1000 (fs 0 0) 7 0 ((s1.2.set i1 ({ s1.2.getD i1 default with X := s1.1 } : FlyStep)).map FlyStep.row).length))), (1, .one (.c (.v (.int .i64 (wr (s1.1 + 1)))))), (5, .one (.c (.v (.int .i64 ((i1 : Nat) : Int)))))], [(1000, some (fs 0 0, .arr 7 ((laws_markFlyStepS_v1 i1 s1).map FlyStep.row)))], 64⟩) (by kernel_rfl))) ?_
      refine xr hT [.wr] (fun f8 => ⟨[(0, .one (.c (.mu 1000 (fs 0 0) 7 0 ((laws_markFlyStepS_v1 i1 s1).map FlyStep.row).length))), (1, .one (.c (.v (.int .i64 (wr ((wr (s1.1 + 1)) + 1)))))), (5, .one (.c (.v (.int .i64 ((i1 : Nat) : Int)))))], [(1000, some (fs 0 0, .arr 7 ((laws_markFlyStepS_v1 i1 s1).map FlyStep.row)))], 64⟩) (fun f => by kernel_rfl) (fun f => by kernel_rfl) fun f8 => ?_
      refine xr hT [ix FlyStep.row (laws_markFlyStepS_v1 i1 s1) i1 (by (first | omega | ((try simp only [LN, laws_markFlyStepS_v1, laws_markFlyStepS_v2, laws_markFlyStepS_v3, laws_markFlyStepS_v4, laws_markFlyStepS_v5]); omega) | ((try simp only [wr, IntKind.wrap_i64, LN, laws_markFlyStepS_v1, laws_markFlyStepS_v2, laws_markFlyStepS_v3, laws_markFlyStepS_v4, laws_markFlyStepS_v5] at *); omega) | (simp_all <;> omega))), .st inferInstance true FlyStep.row (laws_markFlyStepS_v1 i1 s1) i1 ({ (laws_markFlyStepS_v1 i1 s1).getD i1 default with Low := wr ((wr (s1.1 + 1)) + 1) } : FlyStep) (fun h => by (first | omega | ((try simp only [LN, laws_markFlyStepS_v1, laws_markFlyStepS_v2, laws_markFlyStepS_v3, laws_markFlyStepS_v4, laws_markFlyStepS_v5]); omega) | ((try simp only [wr, IntKind.wrap_i64, LN, laws_markFlyStepS_v1, laws_markFlyStepS_v2, laws_markFlyStepS_v3, laws_markFlyStepS_v4, laws_markFlyStepS_v5] at *); omega) | (simp_all <;> omega)))] (fun f9 => ⟨[(0, .one (.c (.mu 1000 (fs 0 0) 7 0 ((laws_markFlyStepS_v1 i1 s1).map FlyStep.row).length))), (1, .one (.c (.v (.int .i64 (wr ((wr (s1.1 + 1)) + 1)))))), (5, .one (.c (.v (.int .i64 ((i1 : Nat) : Int)))))], [(1000, some (fs 0 0, .arr 7 (((laws_markFlyStepS_v1 i1 s1).set i1 ({ (laws_markFlyStepS_v1 i1 s1).getD i1 default with Low := wr ((wr (s1.1 + 1)) + 1) } : FlyStep)).map FlyStep.row)))], 64⟩) (fun f => by kernel_rfl) (fun f => by kernel_rfl) fun f9 => ?_
      refine w_sub (s := ⟨[(0, .one (.c (.mu 1000 (fs 0 0) 7 0 (((laws_markFlyStepS_v1 i1 s1).set i1 ({ (laws_markFlyStepS_v1 i1 s1).getD i1 default with Low := wr ((wr (s1.1 + 1)) + 1) } : FlyStep)).map FlyStep.row).length))), (1, .one (.c (.v (.int .i64 (wr ((wr (s1.1 + 1)) + 1)))))), (5, .one (.c (.v (.int .i64 ((i1 : Nat) : Int)))))], [(1000, some (fs 0 0, .arr 7 (((laws_markFlyStepS_v1 i1 s1).set i1 ({ (laws_markFlyStepS_v1 i1 s1).getD i1 default with Low := wr ((wr (s1.1 + 1)) + 1) } : FlyStep)).map FlyStep.row)))], 64⟩) (cst (by simp only [LN, laws_markFlyStepS_v1, laws_markFlyStepS_v2, laws_markFlyStepS_v3, laws_markFlyStepS_v4, laws_markFlyStepS_v5]) (sb (s := ⟨[(0, .one (.c (.mu 1000 (fs 0 0) 7 0 ((laws_markFlyStepS_v1 i1 s1).map FlyStep.row).length))), (1, .one (.c (.v (.int .i64 (wr ((wr (s1.1 + 1)) + 1)))))), (5, .one (.c (.v (.int .i64 ((i1 : Nat) : Int)))))], [(1000, some (fs 0 0, .arr 7 (((laws_markFlyStepS_v1 i1 s1).set i1 ({ (laws_markFlyStepS_v1 i1 s1).getD i1 default with Low := wr ((wr (s1.1 + 1)) + 1) } : FlyStep)).map FlyStep.row)))], 64⟩) (by kernel_rfl))) ?_
      refine xr hT [.wr] (fun f10 => ⟨[(0, .one (.c (.mu 1000 (fs 0 0) 7 0 (((laws_markFlyStepS_v1 i1 s1).set i1 ({ (laws_markFlyStepS_v1 i1 s1).getD i1 default with Low := wr ((wr (s1.1 + 1)) + 1) } : FlyStep)).map FlyStep.row).length))), (1, .one (.c (.v (.int .i64 (wr ((wr ((wr (s1.1 + 1)) + 1)) + 1)))))), (5, .one (.c (.v (.int .i64 ((i1 : Nat) : Int)))))], [(1000, some (fs 0 0, .arr 7 (((laws_markFlyStepS_v1 i1 s1).set i1 ({ (laws_markFlyStepS_v1 i1 s1).getD i1 default with Low := wr ((wr (s1.1 + 1)) + 1) } : FlyStep)).map FlyStep.row)))], 64⟩) (fun f => by kernel_rfl) (fun f => by kernel_rfl) fun f10 => ?_
      refine xr hT [ix FlyStep.row ((laws_markFlyStepS_v1 i1 s1).set i1 ({ (laws_markFlyStepS_v1 i1 s1).getD i1 default with Low := wr ((wr (s1.1 + 1)) + 1) } : FlyStep)) i1 (by (first | omega | ((try simp only [LN, laws_markFlyStepS_v1, laws_markFlyStepS_v2, laws_markFlyStepS_v3, laws_markFlyStepS_v4, laws_markFlyStepS_v5]); omega) | ((try simp only [wr, IntKind.wrap_i64, LN, laws_markFlyStepS_v1, laws_markFlyStepS_v2, laws_markFlyStepS_v3, laws_markFlyStepS_v4, laws_markFlyStepS_v5] at *); omega) | (simp_all <;> omega))), .st inferInstance true FlyStep.row ((laws_markFlyStepS_v1 i1 s1).set i1 ({ (laws_markFlyStepS_v1 i1 s1).getD i1 default with Low := wr ((wr (s1.1 + 1)) + 1) } : FlyStep)) i1 ({ ((laws_markFlyStepS_v1 i1 s1).set i1 ({ (laws_markFlyStepS_v1 i1 s1).getD i1 default with Low := wr ((wr (s1.1 + 1)) + 1) } : FlyStep)).getD i1 default with High := wr ((wr ((wr (s1.1 + 1)) + 1)) + 1) } : FlyStep) (fun h => by (first | omega | ((try simp only [LN, laws_markFlyStepS_v1, laws_markFlyStepS_v2, laws_markFlyStepS_v3, laws_markFlyStepS_v4, laws_markFlyStepS_v5]); omega) | ((try simp only [wr, IntKind.wrap_i64, LN, laws_markFlyStepS_v1, laws_markFlyStepS_v2, laws_markFlyStepS_v3, laws_markFlyStepS_v4, laws_markFlyStepS_v5] at *); omega) | (simp_all <;> omega)))] (fun f11 => ⟨[(0, .one (.c (.mu 1000 (fs 0 0) 7 0 (((laws_markFlyStepS_v1 i1 s1).set i1 ({ (laws_markFlyStepS_v1 i1 s1).getD i1 default with Low := wr ((wr (s1.1 + 1)) + 1) } : FlyStep)).map FlyStep.row).length))), (1, .one (.c (.v (.int .i64 (wr ((wr ((wr (s1.1 + 1)) + 1)) + 1)))))), (5, .one (.c (.v (.int .i64 ((i1 : Nat) : Int)))))], [(1000, some (fs 0 0, .arr 7 ((laws_markFlyStepS_v2 i1 s1).map FlyStep.row)))], 64⟩) (fun f => by kernel_rfl) (fun f => by kernel_rfl) fun f11 => ?_
      refine w_sub (s := ⟨[(0, .one (.c (.mu 1000 (fs 0 0) 7 0 ((laws_markFlyStepS_v2 i1 s1).map FlyStep.row).length))), (1, .one (.c (.v (.int .i64 (wr ((wr ((wr (s1.1 + 1)) + 1)) + 1)))))), (5, .one (.c (.v (.int .i64 ((i1 : Nat) : Int)))))], [(1000, some (fs 0 0, .arr 7 ((laws_markFlyStepS_v2 i1 s1).map FlyStep.row)))], 64⟩) (cst (by simp only [LN, laws_markFlyStepS_v1, laws_markFlyStepS_v2, laws_markFlyStepS_v3, laws_markFlyStepS_v4, laws_markFlyStepS_v5]) (sb (s := ⟨[(0, .one (.c (.mu 1000 (fs 0 0) 7 0 (((laws_markFlyStepS_v1 i1 s1).set i1 ({ (laws_markFlyStepS_v1 i1 s1).getD i1 default with Low := wr ((wr (s1.1 + 1)) + 1) } : FlyStep)).map FlyStep.row).length))), (1, .one (.c (.v (.int .i64 (wr ((wr ((wr (s1.1 + 1)) + 1)) + 1)))))), (5, .one (.c (.v (.int .i64 ((i1 : Nat) : Int)))))], [(1000, some (fs 0 0, .arr 7 ((laws_markFlyStepS_v2 i1 s1).map FlyStep.row)))], 64⟩) (by kernel_rfl))) ?_
      refine xr hT [.wr] (fun f12 => ⟨[(0, .one (.c (.mu 1000 (fs 0 0) 7 0 ((laws_markFlyStepS_v2 i1 s1).map FlyStep.row).length))), (1, .one (.c (.v (.int .i64 (wr ((wr ((wr ((wr (s1.1 + 1)) + 1)) + 1)) + 1)))))), (5, .one (.c (.v (.int .i64 ((i1 : Nat) : Int)))))], [(1000, some (fs 0 0, .arr 7 ((laws_markFlyStepS_v2 i1 s1).map FlyStep.row)))], 64⟩) (fun f => by kernel_rfl) (fun f => by kernel_rfl) fun f12 => ?_
      refine xr hT [ix FlyStep.row (laws_markFlyStepS_v2 i1 s1) i1 (by (first | omega | ((try simp only [LN, laws_markFlyStepS_v1, laws_markFlyStepS_v2, laws_markFlyStepS_v3, laws_markFlyStepS_v4, laws_markFlyStepS_v5]); omega) | ((try simp only [wr, IntKind.wrap_i64, LN, laws_markFlyStepS_v1, laws_markFlyStepS_v2, laws_markFlyStepS_v3, laws_markFlyStepS_v4, laws_markFlyStepS_v5] at *); omega) | (simp_all <;> omega))), .st inferInstance true FlyStep.row (laws_markFlyStepS_v2 i1 s1) i1 ({ (laws_markFlyStepS_v2 i1 s1).getD i1 default with From := wr ((wr ((wr ((wr (s1.1 + 1)) + 1)) + 1)) + 1) } : FlyStep) (fun h => by (first | omega | ((try simp only [LN, laws_markFlyStepS_v1, laws_markFlyStepS_v2, laws_markFlyStepS_v3, laws_markFlyStepS_v4, laws_markFlyStepS_v5]); omega) | ((try simp only [wr, IntKind.wrap_i64, LN, laws_markFlyStepS_v1, laws_markFlyStepS_v2, laws_markFlyStepS_v3, laws_markFlyStepS_v4, laws_markFlyStepS_v5] at *); omega) | (simp_all <;> omega)))] (fun f13 => ⟨[(0, .one (.c (.mu 1000 (fs 0 0) 7 0 ((laws_markFlyStepS_v2 i1 s1).map FlyStep.row).length))), (1, .one (.c (.v (.int .i64 (wr ((wr ((wr ((wr (s1.1 + 1)) + 1)) + 1)) + 1)))))), (5, .one (.c (.v (.int .i64 ((i1 : Nat) : Int)))))], [(1000, some (fs 0 0, .arr 7 ((laws_markFlyStepS_v3 i1 s1).map FlyStep.row)))], 64⟩) (fun f => by kernel_rfl) (fun f => by kernel_rfl) fun f13 => ?_
      refine w_sub (s := ⟨[(0, .one (.c (.mu 1000 (fs 0 0) 7 0 ((laws_markFlyStepS_v3 i1 s1).map FlyStep.row).length))), (1, .one (.c (.v (.int .i64 (wr ((wr ((wr ((wr (s1.1 + 1)) + 1)) + 1)) + 1)))))), (5, .one (.c (.v (.int .i64 ((i1 : Nat) : Int)))))], [(1000, some (fs 0 0, .arr 7 ((laws_markFlyStepS_v3 i1 s1).map FlyStep.row)))], 64⟩) (cst (by simp only [LN, laws_markFlyStepS_v1, laws_markFlyStepS_v2, laws_markFlyStepS_v3, laws_markFlyStepS_v4, laws_markFlyStepS_v5]) (sb (s := ⟨[(0, .one (.c (.mu 1000 (fs 0 0) 7 0 ((laws_markFlyStepS_v2 i1 s1).map FlyStep.row).length))), (1, .one (.c (.v (.int .i64 (wr ((wr ((wr ((wr (s1.1 + 1)) + 1)) + 1)) + 1)))))), (5, .one (.c (.v (.int .i64 ((i1 : Nat) : Int)))))], [(1000, some (fs 0 0, .arr 7 ((laws_markFlyStepS_v3 i1 s1).map FlyStep.row)))], 64⟩) (by kernel_rfl))) ?_
      refine xr hT [.wr] (fun f14 => ⟨[(0, .one (.c (.mu 1000 (fs 0 0) 7 0 ((laws_markFlyStepS_v3 i1 s1).map FlyStep.row).length))), (1, .one (.c (.v (.int .i64 (wr ((wr ((wr ((wr ((wr (s1.1 + 1)) + 1)) + 1)) + 1)) + 1)))))), (5, .one (.c (.v (.int .i64 ((i1 : Nat) : Int)))))], [(1000, some (fs 0 0, .arr 7 ((laws_markFlyStepS_v3 i1 s1).map FlyStep.row)))], 64⟩) (fun f => by kernel_rfl) (fun f => by kernel_rfl) fun f14 => ?_
      refine xr hT [ix FlyStep.row (laws_markFlyStepS_v3 i1 s1) i1 (by (first | omega | ((try simp only [LN, laws_markFlyStepS_v1, laws_markFlyStepS_v2, laws_markFlyStepS_v3, laws_markFlyStepS_v4, laws_markFlyStepS_v5]); omega) | ((try simp only [wr, IntKind.wrap_i64, LN, laws_markFlyStepS_v1, laws_markFlyStepS_v2, laws_markFlyStepS_v3, laws_markFlyStepS_v4, laws_markFlyStepS_v5] at *); omega) | (simp_all <;> omega))), .st inferInstance true FlyStep.row (laws_markFlyStepS_v3 i1 s1) i1 ({ (laws_markFlyStepS_v3 i1 s1).getD i1 default with By := wr ((wr ((wr ((wr ((wr (s1.1 + 1)) + 1)) + 1)) + 1)) + 1) } : FlyStep) (fun h => by (first | omega | ((try simp only [LN, laws_markFlyStepS_v1, laws_markFlyStepS_v2, laws_markFlyStepS_v3, laws_markFlyStepS_v4, laws_markFlyStepS_v5]); omega) | ((try simp only [wr, IntKind.wrap_i64, LN, laws_markFlyStepS_v1, laws_markFlyStepS_v2, laws_markFlyStepS_v3, laws_markFlyStepS_v4, laws_markFlyStepS_v5] at *); omega) | (simp_all <;> omega)))] (fun f15 => ⟨[(0, .one (.c (.mu 1000 (fs 0 0) 7 0 ((laws_markFlyStepS_v3 i1 s1).map FlyStep.row).length))), (1, .one (.c (.v (.int .i64 (wr ((wr ((wr ((wr ((wr (s1.1 + 1)) + 1)) + 1)) + 1)) + 1)))))), (5, .one (.c (.v (.int .i64 ((i1 : Nat) : Int)))))], [(1000, some (fs 0 0, .arr 7 ((laws_markFlyStepS_v4 i1 s1).map FlyStep.row)))], 64⟩) (fun f => by kernel_rfl) (fun f => by kernel_rfl) fun f15 => ?_
      refine w_sub (s := ⟨[(0, .one (.c (.mu 1000 (fs 0 0) 7 0 ((laws_markFlyStepS_v4 i1 s1).map FlyStep.row).length))), (1, .one (.c (.v (.int .i64 (wr ((wr ((wr ((wr ((wr (s1.1 + 1)) + 1)) + 1)) + 1)) + 1)))))), (5, .one (.c (.v (.int .i64 ((i1 : Nat) : Int)))))], [(1000, some (fs 0 0, .arr 7 ((laws_markFlyStepS_v4 i1 s1).map FlyStep.row)))], 64⟩) (cst (by simp only [LN, laws_markFlyStepS_v1, laws_markFlyStepS_v2, laws_markFlyStepS_v3, laws_markFlyStepS_v4, laws_markFlyStepS_v5]) (sb (s := ⟨[(0, .one (.c (.mu 1000 (fs 0 0) 7 0 ((laws_markFlyStepS_v3 i1 s1).map FlyStep.row).length))), (1, .one (.c (.v (.int .i64 (wr ((wr ((wr ((wr ((wr (s1.1 + 1)) + 1)) + 1)) + 1)) + 1)))))), (5, .one (.c (.v (.int .i64 ((i1 : Nat) : Int)))))], [(1000, some (fs 0 0, .arr 7 ((laws_markFlyStepS_v4 i1 s1).map FlyStep.row)))], 64⟩) (by kernel_rfl))) ?_
      refine xr hT [.wr] (fun f16 => ⟨[(0, .one (.c (.mu 1000 (fs 0 0) 7 0 ((laws_markFlyStepS_v4 i1 s1).map FlyStep.row).length))), (1, .one (.c (.v (.int .i64 (wr ((wr ((wr ((wr ((wr ((wr (s1.1 + 1)) + 1)) + 1)) + 1)) + 1)) + 1)))))), (5, .one (.c (.v (.int .i64 ((i1 : Nat) : Int)))))], [(1000, some (fs 0 0, .arr 7 ((laws_markFlyStepS_v4 i1 s1).map FlyStep.row)))], 64⟩) (fun f => by kernel_rfl) (fun f => by kernel_rfl) fun f16 => ?_
      refine xr hT [.nz true 3 (fun h => by omega), ix FlyStep.row (laws_markFlyStepS_v4 i1 s1) i1 (by (first | omega | ((try simp only [LN, laws_markFlyStepS_v1, laws_markFlyStepS_v2, laws_markFlyStepS_v3, laws_markFlyStepS_v4, laws_markFlyStepS_v5]); omega) | ((try simp only [wr, IntKind.wrap_i64, LN, laws_markFlyStepS_v1, laws_markFlyStepS_v2, laws_markFlyStepS_v3, laws_markFlyStepS_v4, laws_markFlyStepS_v5] at *); omega) | (simp_all <;> omega))), .st inferInstance true FlyStep.row (laws_markFlyStepS_v4 i1 s1) i1 ({ (laws_markFlyStepS_v4 i1 s1).getD i1 default with Hold := decide ((Int.tmod (wr ((wr ((wr ((wr ((wr ((wr (s1.1 + 1)) + 1)) + 1)) + 1)) + 1)) + 1)) 3) = 0) } : FlyStep) (fun h => by (first | omega | ((try simp only [LN, laws_markFlyStepS_v1, laws_markFlyStepS_v2, laws_markFlyStepS_v3, laws_markFlyStepS_v4, laws_markFlyStepS_v5]); omega) | ((try simp only [wr, IntKind.wrap_i64, LN, laws_markFlyStepS_v1, laws_markFlyStepS_v2, laws_markFlyStepS_v3, laws_markFlyStepS_v4, laws_markFlyStepS_v5] at *); omega) | (simp_all <;> omega)))] (fun f17 => ⟨[(0, .one (.c (.mu 1000 (fs 0 0) 7 0 ((laws_markFlyStepS_v4 i1 s1).map FlyStep.row).length))), (1, .one (.c (.v (.int .i64 (wr ((wr ((wr ((wr ((wr ((wr (s1.1 + 1)) + 1)) + 1)) + 1)) + 1)) + 1)))))), (5, .one (.c (.v (.int .i64 ((i1 : Nat) : Int)))))], [(1000, some (fs 0 0, .arr 7 ((laws_markFlyStepS_v5 i1 s1).map FlyStep.row)))], 64⟩) (fun f => by kernel_rfl) (fun f => by kernel_rfl) fun f17 => ?_
      refine w_sub (s := ⟨[(0, .one (.c (.mu 1000 (fs 0 0) 7 0 ((laws_markFlyStepS_v5 i1 s1).map FlyStep.row).length))), (1, .one (.c (.v (.int .i64 (wr ((wr ((wr ((wr ((wr ((wr (s1.1 + 1)) + 1)) + 1)) + 1)) + 1)) + 1)))))), (5, .one (.c (.v (.int .i64 ((i1 : Nat) : Int)))))], [(1000, some (fs 0 0, .arr 7 ((laws_markFlyStepS_v5 i1 s1).map FlyStep.row)))], 64⟩) (cst (by simp only [LN, laws_markFlyStepS_v1, laws_markFlyStepS_v2, laws_markFlyStepS_v3, laws_markFlyStepS_v4, laws_markFlyStepS_v5]) (sb (s := ⟨[(0, .one (.c (.mu 1000 (fs 0 0) 7 0 ((laws_markFlyStepS_v4 i1 s1).map FlyStep.row).length))), (1, .one (.c (.v (.int .i64 (wr ((wr ((wr ((wr ((wr ((wr (s1.1 + 1)) + 1)) + 1)) + 1)) + 1)) + 1)))))), (5, .one (.c (.v (.int .i64 ((i1 : Nat) : Int)))))], [(1000, some (fs 0 0, .arr 7 ((laws_markFlyStepS_v5 i1 s1).map FlyStep.row)))], 64⟩) (by kernel_rfl))) ?_
      refine xr1 (fun _ => rfl) hT [.wr] (fun f18 => ⟨[(0, .one (.c (.mu 1000 (fs 0 0) 7 0 ((laws_markFlyStepS_v5 i1 s1).map FlyStep.row).length))), (1, .one (.c (.v (.int .i64 (wr ((wr ((wr ((wr ((wr ((wr ((wr (s1.1 + 1)) + 1)) + 1)) + 1)) + 1)) + 1)) + 1)))))), (5, .one (.c (.v (.int .i64 ((i1 : Nat) : Int)))))], [(1000, some (fs 0 0, .arr 7 ((laws_markFlyStepS_v5 i1 s1).map FlyStep.row)))], 64⟩) (fun f => by kernel_rfl) (fun f => by kernel_rfl) fun f18 => ?_
      refine x_reg hT [.ex true (((i1 : Nat) : Int) + ((1 : Nat) : Int)) ((((i1 + 1) : Nat) : Int)) (fun _ => wr_nat (n := i1) (c := 1) (by omega))] (fun f19 => laws_markFlyStepS_I1 p0 p1 fs (i1 + 1) (wr ((wr ((wr ((wr ((wr ((wr ((wr (s1.1 + 1)) + 1)) + 1)) + 1)) + 1)) + 1)) + 1), (laws_markFlyStepS_v5 i1 s1)) (lst [])) (fun f => by kernel_rfl) (fun f => by kernel_rfl) fun f19 s' hs' => ?_
      exact ⟨(wr ((wr ((wr ((wr ((wr ((wr ((wr (s1.1 + 1)) + 1)) + 1)) + 1)) + 1)) + 1)) + 1), (laws_markFlyStepS_v5 i1 s1)), (lst []), hl1, (by (try simp only [LN, laws_markFlyStepS_v1, laws_markFlyStepS_v2, laws_markFlyStepS_v3, laws_markFlyStepS_v4, laws_markFlyStepS_v5] at *); omega), hX1.trans (forN_next hl1 (hB1.symm.trans hE1)), hs'⟩
    have hq := of_decide_eq_false h4
    refine w_exit ?_
    exact ⟨s1, (lst []), (by (try simp only [LN, laws_markFlyStepS_v1, laws_markFlyStepS_v2, laws_markFlyStepS_v3, laws_markFlyStepS_v4, laws_markFlyStepS_v5] at *); omega), hX1.trans (forN_end (by first | omega | ((try simp only [LN, laws_markFlyStepS_v1, laws_markFlyStepS_v2, laws_markFlyStepS_v3, laws_markFlyStepS_v4, laws_markFlyStepS_v5] at *); omega))), sb (by kernel_rfl)⟩
  intro s1 x1 hF22 hR20
  try simp only [LN, laws_markFlyStepS_v1, laws_markFlyStepS_v2, laws_markFlyStepS_v3, laws_markFlyStepS_v4, laws_markFlyStepS_v5] at hF22
  rw [laws_markFlyStepS_r1] at hR20
  refine xr hT [] (fun f21 => ⟨[(4, .one (.c (.v (.int .i64 s1.1))))], [(1000, some (fs 0 0, .arr 7 (s1.2.map FlyStep.row)))], 64⟩) (fun f => by kernel_rfl) (fun f => by kernel_rfl) fun f21 => ?_
  refine w_ret ?_
  subst hR20
  exact x_ret (by kernel_rfl)
theorem f_laws_markFlyStepS (p0 : List FlyStep) (p1 : Int) : (laws_markFlyStepS p0 p1).2.length = p0.length := by
  unfold laws_markFlyStepS
  refine forN_inv (fun (i : Nat) (s : Int × List FlyStep) => s.2.length = p0.length) (fun (r : Int × List FlyStep) => r.2.length = p0.length) (p0.length) (fun j s hj h => ?_) (fun s h => h) _ 0 _ rfl (Nat.zero_le _) rfl
  unfold laws_markFlyStepS_b1
  simp only [all_next]
  (try simp only [LN, laws_markFlyStepS_v1, laws_markFlyStepS_v2, laws_markFlyStepS_v3, laws_markFlyStepS_v4, laws_markFlyStepS_v5])
  first | done | exact h | simp [h]

/-- laws.markFlyPath -/
def laws_markFlyPath (p0 : FlyPath) (p1 : Int) : Int × FlyPath := ((laws_markFlyStepS p0.Steps p1).1, (⟨p0.Kind, (laws_markFlyStepS p0.Steps p1).2, p0.From, p0.By⟩ : FlyPath))
theorem c28 (p0 : FlyPath) (p1 : Int) (k0_0 : FlyPath.ok p0) : Fn Proofs.Try.prog 28 [⟨.mt, true, FlyPath.cs .own p0⟩, ⟨.val, false, [.v (.int .i64 p1)]⟩] [.c (.v (.int .i64 (laws_markFlyPath p0 p1).1))] [FlyPath.cs .own (laws_markFlyPath p0 p1).2] := by
  obtain ⟨R, hR⟩ : ∃ R, R = laws_markFlyPath p0 p1 := ⟨_, rfl⟩
  rw [← hR]
  rw [laws_markFlyPath] at hR
  refine ⟨fn_intro hT Proofs.Try.func28 rfl rfl fun fs => ?_, _, Proofs.Try.func28, rfl, rfl⟩
  have q0 := k0_0; simp only [FlyPath.ok] at q0
  refine xr hT [] (fun f1 => ⟨[(1, .one (.c (.v (.int .i64 p1)))), (2, .one (.pt 2 (f1 0 0) 0))], [(2, some (f1 0 0, .box [.v (.int .i64 p0.Kind.Quick), .v (.int .i64 p0.Kind.Slow), .mu 1002 (fs 0 2) 7 0 (p0.Steps.map FlyStep.row).length, .v (.int .i64 p0.From), .v (.int .i64 p0.By)])), (1002, some (fs 0 2, .arr 7 (p0.Steps.map FlyStep.row)))], 10⟩) (fun f => by kernel_rfl) (fun f => by kernel_rfl) fun f1 => ?_
  refine xr hT [ca (c106 p0.Steps p1 (by omega))] (fun f2 => ⟨[(1, .one (.c (.v (.int .i64 ((laws_markFlyStepS p0.Steps p1).1)))))], [(1002, some (fs 0 2, .arr 7 (((laws_markFlyStepS p0.Steps p1).2).map FlyStep.row)))], 10⟩) (fun f => by kernel_rfl) (fun f => by kernel_rfl) fun f2 => ?_
  refine xr hT [] (fun f3 => ⟨[(4, .one (.c (.v (.int .i64 ((laws_markFlyStepS p0.Steps p1).1)))))], [(1002, some (fs 0 2, .arr 7 (((laws_markFlyStepS p0.Steps p1).2).map FlyStep.row)))], 10⟩) (fun f => by kernel_rfl) (fun f => by kernel_rfl) fun f3 => ?_
  refine w_ret ?_
  subst hR
  exact x_ret (by kernel_rfl)
theorem f_laws_markFlyPath (p0 : FlyPath) (p1 : Int) : (laws_markFlyPath p0 p1).2.Steps.length = p0.Steps.length := by
  simp only [laws_markFlyPath, LN, f_laws_markFlyStepS, and_self]

def laws_markProbeBoxS_I1 (p0 : (List ProbeBox)) (p1 : Int) (fs : Nat → Nat → Nat) (i1 : Nat) (s1 : Int × List ProbeBox) (x1 : Nat → Nat) : St := ⟨[(0, .one (.c (.mu 1000 (fs 0 0) 6 0 (s1.2.map ProbeBox.row).length))), (1, .one (.c (.v (.int .i64 s1.1)))), (5, .one (.c (.v (.int .i64 ((i1 : Nat) : Int)))))], [(1000, some (fs 0 0, .arr 6 (s1.2.map ProbeBox.row)))], 55⟩
def laws_markProbeBoxS_J1 (p0 : (List ProbeBox)) (p1 : Int) (fs : Nat → Nat → Nat) (s1 : Int × List ProbeBox) (x1 : Nat → Nat) : St := ⟨[(1, .one (.c (.v (.int .i64 s1.1))))], [(1000, some (fs 0 0, .arr 6 (s1.2.map ProbeBox.row)))], 55⟩
def laws_markProbeBoxS_v1 (i1 : Nat) (s1 : Int × List ProbeBox) : List ProbeBox := (s1.2.set i1 ({ s1.2.getD i1 default with X := s1.1 } : ProbeBox)).set i1 ({ (s1.2.set i1 ({ s1.2.getD i1 default with X := s1.1 } : ProbeBox)).getD i1 default with Y := wr (s1.1 + 1) } : ProbeBox)
def laws_markProbeBoxS_v2 (i1 : Nat) (s1 : Int × List ProbeBox) : List ProbeBox := ((laws_markProbeBoxS_v1 i1 s1).set i1 ({ (laws_markProbeBoxS_v1 i1 s1).getD i1 default with Low := wr ((wr (s1.1 + 1)) + 1) } : ProbeBox)).set i1 ({ ((laws_markProbeBoxS_v1 i1 s1).set i1 ({ (laws_markProbeBoxS_v1 i1 s1).getD i1 default with Low := wr ((wr (s1.1 + 1)) + 1) } : ProbeBox)).getD i1 default with High := wr ((wr ((wr (s1.1 + 1)) + 1)) + 1) } : ProbeBox)
def laws_markProbeBoxS_v3 (i1 : Nat) (s1 : Int × List ProbeBox) : List ProbeBox := (laws_markProbeBoxS_v2 i1 s1).set i1 ({ (laws_markProbeBoxS_v2 i1 s1).getD i1 default with In := wr ((wr ((wr ((wr (s1.1 + 1)) + 1)) + 1)) + 1) } : ProbeBox)
def laws_markProbeBoxS_v4 (i1 : Nat) (s1 : Int × List ProbeBox) : List ProbeBox := (laws_markProbeBoxS_v3 i1 s1).set i1 ({ (laws_markProbeBoxS_v3 i1 s1).getD i1 default with Out := wr ((wr ((wr ((wr ((wr (s1.1 + 1)) + 1)) + 1)) + 1)) + 1) } : ProbeBox)
def laws_markProbeBoxS_b1 (p0 : (List ProbeBox)) (p1 : Int) (i1 : Nat) (s1 : Int × List ProbeBox) : Res (Int × List ProbeBox) (Int × (List ProbeBox)) := (.next (wr ((wr ((wr ((wr ((wr ((wr (s1.1 + 1)) + 1)) + 1)) + 1)) + 1)) + 1), (laws_markProbeBoxS_v4 i1 s1)))
def laws_markProbeBoxS_r1 (p0 : (List ProbeBox)) (p1 : Int) (s1 : Int × List ProbeBox) : (Int × (List ProbeBox)) := (s1.1, s1.2)
/-- laws.markProbeBoxS -/
def laws_markProbeBoxS (p0 : (List ProbeBox)) (p1 : Int) : Int × (List ProbeBox) := (Res.fin (laws_markProbeBoxS_r1 p0 p1) (forN (laws_markProbeBoxS_b1 p0 p1) ((p0).length - 0) 0 (p1, p0)))
theorem c107 (p0 : (List ProbeBox)) (p1 : Int) (k0_0 : p0.length ≤ 1048576) : Fn Proofs.Try.prog 107 [⟨.mt, false, [.sl .own 6 (p0.map ProbeBox.row)]⟩, ⟨.val, false, [.v (.int .i64 p1)]⟩] [.c (.v (.int .i64 (laws_markProbeBoxS p0 p1).1))] [[.sl .own 6 ((laws_markProbeBoxS p0 p1).2.map ProbeBox.row)]] := by
  obtain ⟨R, hR⟩ : ∃ R, R = laws_markProbeBoxS p0 p1 := ⟨_, rfl⟩
  rw [← hR]
  rw [laws_markProbeBoxS] at hR
  refine ⟨fn_intro hT Proofs.Try.func107 rfl rfl fun fs => ?_, _, Proofs.Try.func107, rfl, rfl⟩
  refine xr hT [] (fun f1 => ⟨[(0, .one (.c (.mu 1000 (fs 0 0) 6 0 (p0.map ProbeBox.row).length))), (1, .one (.c (.v (.int .i64 p1))))], [(1000, some (fs 0 0, .arr 6 (p0.map ProbeBox.row)))], 55⟩) (fun f => by kernel_rfl) (fun f => by kernel_rfl) fun f1 => ?_
  refine w_seq ?_
  refine xr hT [] (fun f2 => ⟨[(0, .one (.c (.mu 1000 (fs 0 0) 6 0 (p0.map ProbeBox.row).length))), (1, .one (.c (.v (.int .i64 p1)))), (5, .one (.c (.v (.int .i64 0))))], [(1000, some (fs 0 0, .arr 6 (p0.map ProbeBox.row)))], 55⟩) (fun f => by kernel_rfl) (fun f => by kernel_rfl) fun f2 => ?_
  refine w_forT (fun _ => rfl) (laws_markProbeBoxS_I1 p0 p1 fs) (laws_markProbeBoxS_J1 p0 p1 fs) (fun i1 s1 => s1.2.length = (p0).length) (fun s1 => s1.2.length = (p0).length) ((p0).length) 0 (laws_markProbeBoxS_b1 p0 p1) (laws_markProbeBoxS_r1 p0 p1) 0 ((p1, p0)) (lst []) (sb (by kernel_rfl)) (by first | rfl | ((try simp only [LN, laws_markProbeBoxS_v1, laws_markProbeBoxS_v2, laws_markProbeBoxS_v3, laws_markProbeBoxS_v4]); omega) | (simp; done) | (simp; omega)) hR ?_ ?_
  · skip
    intro i1 s1 x1 hI1 hX1
    try simp only [LN, laws_markProbeBoxS_v1, laws_markProbeBoxS_v2, laws_markProbeBoxS_v3, laws_markProbeBoxS_v4] at hI1
    refine w_seq ?_
    refine xr hT [.ln ProbeBox.row s1.2] (fun f3 => ⟨[(0, .one (.c (.mu 1000 (fs 0 0) 6 0 (s1.2.map ProbeBox.row).length))), (1, .one (.c (.v (.int .i64 s1.1)))), (5, .one (.c (.v (.int .i64 ((i1 : Nat) : Int))))), (9, .one (.c (.v (.bool (decide (((i1 : Nat) : Int) < (s1.2.length : Int)))))))], [(1000, some (fs 0 0, .arr 6 (s1.2.map ProbeBox.row)))], 55⟩) (fun f => by kernel_rfl) (fun f => by kernel_rfl) fun f3 => ?_
    refine w_cond rfl (fun h4 => ?_) fun h4 => ?_
    · skip
      have hl1 : i1 < (p0).length := by have hq := of_decide_eq_true h4; first | omega | ((try simp only [LN, laws_markProbeBoxS_v1, laws_markProbeBoxS_v2, laws_markProbeBoxS_v3, laws_markProbeBoxS_v4] at *); omega)
      have hl1x := hl1; try simp only [LN, laws_markProbeBoxS_v1, laws_markProbeBoxS_v2, laws_markProbeBoxS_v3, laws_markProbeBoxS_v4] at hl1x
      obtain ⟨B1, hB1⟩ : ∃ B, B = laws_markProbeBoxS_b1 p0 p1 i1 s1 := ⟨_, rfl⟩
      have hE1 := hB1
      rw [laws_markProbeBoxS_b1] at hE1
      refine w_skip ?_
      refine w_seq ?_
      refine w_block ?_
      refine xr hT [ix ProbeBox.row s1.2 i1 (by omega), .st inferInstance true ProbeBox.row s1.2 i1 ({ s1.2.getD i1 default with X := s1.1 } : ProbeBox) (fun h => by omega)] (fun f5 => ⟨[(0, .one (.c (.mu 1000 (fs 0 0) 6 0 (s1.2.map ProbeBox.row).length))), (1, .one (.c (.v (.int .i64 s1.1)))), (5, .one (.c (.v (.int .i64 ((i1 : Nat) : Int)))))], [(1000, some (fs 0 0, .arr 6 ((s1.2.set i1 ({ s1.2.getD i1 default with X := s1.1 } : ProbeBox)).map ProbeBox.row)))], 55⟩) (fun f => by kernel_rfl) (fun f => by kernel_rfl) fun f5 => ?_
      refine w_sub (s := ⟨[(0, .one (.c (.mu 1000 (fs 0 0) 6 0 ((s1.2.set i1 ({ s1.2.getD i1 default with X := s1.1 } : ProbeBox)).map ProbeBox.row).length))), (1, .one (.c (.v (.int .i64 s1.1)))), (5, .one (.c (.v (.int .i64 ((i1 : Nat) : Int)))))], [(1000, some (fs 0 0, .arr 6 ((s1.2.set i1 ({ s1.2.getD i1 default with X := s1.1 } : ProbeBox)).map ProbeBox.row)))], 55⟩) (cst (by simp only [LN, laws_markProbeBoxS_v1, laws_markProbeBoxS_v2, laws_markProbeBoxS_v3, laws_markProbeBoxS_v4]) (sb (s := ⟨[(0, .one (.c (.mu 1000 (fs 0 0) 6 0 (s1.2.map ProbeBox.row).length))), (1, .one (.c (.v (.int .i64 s1.1)))), (5, .one (.c (.v (.int .i64 ((i1 : Nat) : Int)))))], [(1000, some (fs 0 0, .arr 6 ((s1.2.set i1 ({ s1.2.getD i1 default with X := s1.1 } : ProbeBox)).map ProbeBox.row)))], 55⟩) (by kernel_rfl))) ?_
      refine xr hT [.wr] (fun f6 => ⟨[(0, .one (.c (.mu 1000 (fs 0 0) 6 0 ((s1.2.set i1 ({ s1.2.getD i1 default with X := s1.1 } : ProbeBox)).map ProbeBox.row).length))), (1, .one (.c (.v (.int .i64 (wr (s1.1 + 1)))))), (5, .one (.c (.v (.int .i64 ((i1 : Nat) : Int)))))], [(1000, some (fs 0 0, .arr 6 ((s1.2.set i1 ({ s1.2.getD i1 default with X := s1.1 } : ProbeBox)).map ProbeBox.row)))], 55⟩) (fun f => by kernel_rfl) (fun f => by kernel_rfl) fun f6 => ?_
      refine xr hT [ix ProbeBox.row (s1.2.set i1 ({ s1.2.getD i1 default with X := s1.1 } : ProbeBox)) i1 (by (first | omega | ((try simp only [LN, laws_markProbeBoxS_v1, laws_markProbeBoxS_v2, laws_markProbeBoxS_v3, laws_markProbeBoxS_v4]); omega) | ((try simp only [wr, IntKind.wrap_i64, LN, laws_markProbeBoxS_v1, laws_markProbeBoxS_v2, laws_markProbeBoxS_v3, laws_markProbeBoxS_v4] at *); omega) | (simp_all <;> omega))), .st inferInstance true ProbeBox.row (s1.2.set i1 ({ s1.2.getD i1 default with X := s1.1 } : ProbeBox)) i1 ({ (s1.2.set i1 ({ s1.2.getD i1 default with X := s1.1 } : ProbeBox)).getD i1 default with Y := wr (s1.1 + 1) } : ProbeBox) (fun h => by (first | omega | ((try simp only [LN, laws_markProbeBoxS_v1, laws_markProbeBoxS_v2, laws_markProbeBoxS_v3, laws_markProbeBoxS_v4]); omega) | ((try simp only [wr, IntKind.wrap_i64, LN, laws_markProbeBoxS_v1, laws_markProbeBoxS_v2, laws_markProbeBoxS_v3, laws_markProbeBoxS_v4] at *); omega) | (simp_all <;> omega)))] (fun f7 => ⟨[(0, .one (.c (.mu 1000 (fs 0 0) 6 0 ((s1.2.set i1 ({ s1.2.getD i1 default with X := s1.1 } : ProbeBox)).map ProbeBox.row).length))), (1, .one (.c (.v (.int .i64 (wr (s1.1 + 1)))))), (5, .one (.c (.v (.int .i64 ((i1 : Nat) : Int)))))], [(1000, some (fs 0 0, .arr 6 ((laws_markProbeBoxS_v1 i1 s1).map ProbeBox.row)))], 55⟩) (fun f => by kernel_rfl) (fun f => by kernel_rfl) fun f7 => ?_
      refine w_sub (s := ⟨[(0, .one (.c (.mu 1000 (fs 0 0) 6 0 ((laws_markProbeBoxS_v1 i1 s1).map ProbeBox.row).length))), (1, .one (.c (.v (.int .i64 (wr (s1.1 + 1)))))), (5, .one (.c (.v (.int .i64 ((i1 : Nat) : Int)))))], [(1000, some (fs 0 0, .arr 6 ((laws_markProbeBoxS_v1 i1 s1).map ProbeBox.row)))], 55⟩) (cst (by simp only [LN, laws_markProbeBoxS_v1, laws_markProbeBoxS_v2, laws_markProbeBoxS_v3, laws_markProbeBoxS_v4]) (sb (s := ⟨[(0, .one (.c (.mu 1000 (fs 0 0) 6 0 ((s1.2.set i1 ({ s1.2.getD i1 default with X := s1.1 } : ProbeBox)).map ProbeBox.row).length))), (1, .one (.c (.v (.int .i64 (wr (s1.1 + 1)))))), (5, .one (.c (.v (.int .i64 ((i1 : Nat) : Int)))))], [(1000, some (fs 0 0, .arr 6 ((laws_markProbeBoxS_v1 i1 s1).map ProbeBox.row)))], 55⟩) (by kernel_rfl))) ?_
      refine xr hT [.wr] (fun f8 => ⟨[(0, .one (.c (.mu 1000 (fs 0 0) 6 0 ((laws_markProbeBoxS_v1 i1 s1).map ProbeBox.row).length))), (1, .one (.c (.v (.int .i64 (wr ((wr (s1.1 + 1)) + 1)))))), (5, .one (.c (.v (.int .i64 ((i1 : Nat) : Int)))))], [(1000, some (fs 0 0, .arr 6 ((laws_markProbeBoxS_v1 i1 s1).map ProbeBox.row)))], 55⟩) (fun f => by kernel_rfl) (fun f => by kernel_rfl) fun f8 => ?_
      refine xr hT [ix ProbeBox.row (laws_markProbeBoxS_v1 i1 s1) i1 (by (first | omega | ((try simp only [LN, laws_markProbeBoxS_v1, laws_markProbeBoxS_v2, laws_markProbeBoxS_v3, laws_markProbeBoxS_v4]); omega) | ((try simp only [wr, IntKind.wrap_i64, LN, laws_markProbeBoxS_v1, laws_markProbeBoxS_v2, laws_markProbeBoxS_v3, laws_markProbeBoxS_v4] at *); omega) | (simp_all <;> omega))), .st inferInstance true ProbeBox.row (laws_markProbeBoxS_v1 i1 s1) i1 ({ (laws_markProbeBoxS_v1 i1 s1).getD i1 default with Low := wr ((wr (s1.1 + 1)) + 1) } : ProbeBox) (fun h => by (first | omega | ((try simp only [LN, laws_markProbeBoxS_v1, laws_markProbeBoxS_v2, laws_markProbeBoxS_v3, laws_markProbeBoxS_v4]); omega) | ((try simp only [wr, IntKind.wrap_i64, LN, laws_markProbeBoxS_v1, laws_markProbeBoxS_v2, laws_markProbeBoxS_v3, laws_markProbeBoxS_v4] at *); omega) | (simp_all <;> omega)))] (fun f9 => ⟨[(0, .one (.c (.mu 1000 (fs 0 0) 6 0 ((laws_markProbeBoxS_v1 i1 s1).map ProbeBox.row).length))), (1, .one (.c (.v (.int .i64 (wr ((wr (s1.1 + 1)) + 1)))))), (5, .one (.c (.v (.int .i64 ((i1 : Nat) : Int)))))], [(1000, some (fs 0 0, .arr 6 (((laws_markProbeBoxS_v1 i1 s1).set i1 ({ (laws_markProbeBoxS_v1 i1 s1).getD i1 default with Low := wr ((wr (s1.1 + 1)) + 1) } : ProbeBox)).map ProbeBox.row)))], 55⟩) (fun f => by kernel_rfl) (fun f => by kernel_rfl) fun f9 => ?_
      refine w_sub (s := ⟨[(0, .one (.c (.mu 1000 (fs 0 0) 6 0 (((laws_markProbeBoxS_v1 i1 s1).set i1 ({ (laws_markProbeBoxS_v1 i1 s1).getD i1 default with Low := wr ((wr (s1.1 + 1)) + 1) } : ProbeBox)).map ProbeBox.row).length))), (1, .one (.c (.v (.int .i64 (wr ((wr (s1.1 + 1)) + 1)))))), (5, .one (.c (.v (.int .i64 ((i1 : Nat) : Int)))))], [(1000, some (fs 0 0, .arr 6 (((laws_markProbeBoxS_v1 i1 s1).set i1 ({ (laws_markProbeBoxS_v1 i1 s1).getD i1 default with Low := wr ((wr (s1.1 + 1)) + 1) } : ProbeBox)).map ProbeBox.row)))], 55⟩) (cst (by simp only [LN, laws_markProbeBoxS_v1, laws_markProbeBoxS_v2, laws_markProbeBoxS_v3, laws_markProbeBoxS_v4]) (sb (s := ⟨[(0, .one (.c (.mu 1000 (fs 0 0) 6 0 ((laws_markProbeBoxS_v1 i1 s1).map ProbeBox.row).length))), (1, .one (.c (.v (.int .i64 (wr ((wr (s1.1 + 1)) + 1)))))), (5, .one (.c (.v (.int .i64 ((i1 : Nat) : Int)))))], [(1000, some (fs 0 0, .arr 6 (((laws_markProbeBoxS_v1 i1 s1).set i1 ({ (laws_markProbeBoxS_v1 i1 s1).getD i1 default with Low := wr ((wr (s1.1 + 1)) + 1) } : ProbeBox)).map ProbeBox.row)))], 55⟩) (by kernel_rfl))) ?_
      refine xr hT [.wr] (fun f10 => ⟨[(0, .one (.c (.mu 1000 (fs 0 0) 6 0 (((laws_markProbeBoxS_v1 i1 s1).set i1 ({ (laws_markProbeBoxS_v1 i1 s1).getD i1 default with Low := wr ((wr (s1.1 + 1)) + 1) } : ProbeBox)).map ProbeBox.row).length))), (1, .one (.c (.v (.int .i64 (wr ((wr ((wr (s1.1 + 1)) + 1)) + 1)))))), (5, .one (.c (.v (.int .i64 ((i1 : Nat) : Int)))))], [(1000, some (fs 0 0, .arr 6 (((laws_markProbeBoxS_v1 i1 s1).set i1 ({ (laws_markProbeBoxS_v1 i1 s1).getD i1 default with Low := wr ((wr (s1.1 + 1)) + 1) } : ProbeBox)).map ProbeBox.row)))], 55⟩) (fun f => by kernel_rfl) (fun f => by kernel_rfl) fun f10 => ?_
      refine xr hT [ix ProbeBox.row ((laws_markProbeBoxS_v1 i1 s1).set i1 ({ (laws_markProbeBoxS_v1 i1 s1).getD i1 default with Low := wr ((wr (s1.1 + 1)) + 1) } : ProbeBox)) i1 (by (first | omega | ((try simp only [LN, laws_markProbeBoxS_v1, laws_markProbeBoxS_v2, laws_markProbeBoxS_v3, laws_markProbeBoxS_v4]); omega) | ((try simp only [wr, IntKind.wrap_i64, LN, laws_markProbeBoxS_v1, laws_markProbeBoxS_v2, laws_markProbeBoxS_v3, laws_markProbeBoxS_v4] at *); omega) | (simp_all <;> omega))), .st inferInstance true ProbeBox.row ((laws_markProbeBoxS_v1 i1 s1).set i1 ({ (laws_markProbeBoxS_v1 i1 s1).getD i1 default with Low := wr ((wr (s1.1 + 1)) + 1) } : ProbeBox)) i1 ({ ((laws_markProbeBoxS_v1 i1 s1).set i1 ({ (laws_markProbeBoxS_v1 i1 s1).getD i1 default with Low := wr ((wr (s1.1 + 1)) + 1) } : ProbeBox)).getD i1 default with High := wr ((wr ((wr (s1.1 + 1)) + 1)) + 1) } : ProbeBox) (fun h => by (first | omega | ((try simp only [LN, laws_markProbeBoxS_v1, laws_markProbeBoxS_v2, laws_markProbeBoxS_v3, laws_markProbeBoxS_v4]); omega) | ((try simp only [wr, IntKind.wrap_i64, LN, laws_markProbeBoxS_v1, laws_markProbeBoxS_v2, laws_markProbeBoxS_v3, laws_markProbeBoxS_v4] at *); omega) | (simp_all <;> omega)))] (fun f11 => ⟨[(0, .one (.c (.mu 1000 (fs 0 0) 6 0 (((laws_markProbeBoxS_v1 i1 s1).set i1 ({ (laws_markProbeBoxS_v1 i1 s1).getD i1 default with Low := wr ((wr (s1.1 + 1)) + 1) } : ProbeBox)).map ProbeBox.row).length))), (1, .one (.c (.v (.int .i64 (wr ((wr ((wr (s1.1 + 1)) + 1)) + 1)))))), (5, .one (.c (.v (.int .i64 ((i1 : Nat) : Int)))))], [(1000, some (fs 0 0, .arr 6 ((laws_markProbeBoxS_v2 i1 s1).map ProbeBox.row)))], 55⟩) (fun f => by kernel_rfl) (fun f => by kernel_rfl) fun f11 => ?_
      refine w_sub (s := ⟨[(0, .one (.c (.mu 1000 (fs 0 0) 6 0 ((laws_markProbeBoxS_v2 i1 s1).map ProbeBox.row).length))), (1, .one (.c (.v (.int .i64 (wr ((wr ((wr (s1.1 + 1)) + 1)) + 1)))))), (5, .one (.c (.v (.int .i64 ((i1 : Nat) : Int)))))], [(1000, some (fs 0 0, .arr 6 ((laws_markProbeBoxS_v2 i1 s1).map ProbeBox.row)))], 55⟩) (cst (by simp only [LN, laws_markProbeBoxS_v1, laws_markProbeBoxS_v2, laws_markProbeBoxS_v3, laws_markProbeBoxS_v4]) (sb (s := ⟨[(0, .one (.c (.mu 1000 (fs 0 0) 6 0 (((laws_markProbeBoxS_v1 i1 s1).set i1 ({ (laws_markProbeBoxS_v1 i1 s1).getD i1 default with Low := wr ((wr (s1.1 + 1)) + 1) } : ProbeBox)).map ProbeBox.row).length))), (1, .one (.c (.v (.int .i64 (wr ((wr ((wr (s1.1 + 1)) + 1)) + 1)))))), (5, .one (.c (.v (.int .i64 ((i1 : Nat) : Int)))))], [(1000, some (fs 0 0, .arr 6 ((laws_markProbeBoxS_v2 i1 s1).map ProbeBox.row)))], 55⟩) (by kernel_rfl))) ?_
      refine xr hT [.wr] (fun f12 => ⟨[(0, .one (.c (.mu 1000 (fs 0 0) 6 0 ((laws_markProbeBoxS_v2 i1 s1).map ProbeBox.row).length))), (1, .one (.c (.v (.int .i64 (wr ((wr ((wr ((wr (s1.1 + 1)) + 1)) + 1)) + 1)))))), (5, .one (.c (.v (.int .i64 ((i1 : Nat) : Int)))))], [(1000, some (fs 0 0, .arr 6 ((laws_markProbeBoxS_v2 i1 s1).map ProbeBox.row)))], 55⟩) (fun f => by kernel_rfl) (fun f => by kernel_rfl) fun f12 => ?_
      refine xr hT [ix ProbeBox.row (laws_markProbeBoxS_v2 i1 s1) i1 (by (first | omega | ((try simp only [LN, laws_markProbeBoxS_v1, laws_markProbeBoxS_v2, laws_markProbeBoxS_v3, laws_markProbeBoxS_v4]); omega) | ((try simp only [wr, IntKind.wrap_i64, LN, laws_markProbeBoxS_v1, laws_markProbeBoxS_v2, laws_markProbeBoxS_v3, laws_markProbeBoxS_v4] at *); omega) | (simp_all <;> omega))), .st inferInstance true ProbeBox.row (laws_markProbeBoxS_v2 i1 s1) i1 ({ (laws_markProbeBoxS_v2 i1 s1).getD i1 default with In := wr ((wr ((wr ((wr (s1.1 + 1)) + 1)) + 1)) + 1) } : ProbeBox) (fun h => by (first | omega | ((try simp only [LN, laws_markProbeBoxS_v1, laws_markProbeBoxS_v2, laws_markProbeBoxS_v3, laws_markProbeBoxS_v4]); omega) | ((try simp only [wr, IntKind.wrap_i64, LN, laws_markProbeBoxS_v1, laws_markProbeBoxS_v2, laws_markProbeBoxS_v3, laws_markProbeBoxS_v4] at *); omega) | (simp_all <;> omega)))] (fun f13 => ⟨[(0, .one (.c (.mu 1000 (fs 0 0) 6 0 ((laws_markProbeBoxS_v2 i1 s1).map ProbeBox.row).length))), (1, .one (.c (.v (.int .i64 (wr ((wr ((wr ((wr (s1.1 + 1)) + 1)) + 1)) + 1)))))), (5, .one (.c (.v (.int .i64 ((i1 : Nat) : Int)))))], [(1000, some (fs 0 0, .arr 6 ((laws_markProbeBoxS_v3 i1 s1).map ProbeBox.row)))], 55⟩) (fun f => by kernel_rfl) (fun f => by kernel_rfl) fun f13 => ?_
      refine w_sub (s := ⟨[(0, .one (.c (.mu 1000 (fs 0 0) 6 0 ((laws_markProbeBoxS_v3 i1 s1).map ProbeBox.row).length))), (1, .one (.c (.v (.int .i64 (wr ((wr ((wr ((wr (s1.1 + 1)) + 1)) + 1)) + 1)))))), (5, .one (.c (.v (.int .i64 ((i1 : Nat) : Int)))))], [(1000, some (fs 0 0, .arr 6 ((laws_markProbeBoxS_v3 i1 s1).map ProbeBox.row)))], 55⟩) (cst (by simp only [LN, laws_markProbeBoxS_v1, laws_markProbeBoxS_v2, laws_markProbeBoxS_v3, laws_markProbeBoxS_v4]) (sb (s := ⟨[(0, .one (.c (.mu 1000 (fs 0 0) 6 0 ((laws_markProbeBoxS_v2 i1 s1).map ProbeBox.row).length))), (1, .one (.c (.v (.int .i64 (wr ((wr ((wr ((wr (s1.1 + 1)) + 1)) + 1)) + 1)))))), (5, .one (.c (.v (.int .i64 ((i1 : Nat) : Int)))))], [(1000, some (fs 0 0, .arr 6 ((laws_markProbeBoxS_v3 i1 s1).map ProbeBox.row)))], 55⟩) (by kernel_rfl))) ?_
      refine xr hT [.wr] (fun f14 => ⟨[(0, .one (.c (.mu 1000 (fs 0 0) 6 0 ((laws_markProbeBoxS_v3 i1 s1).map ProbeBox.row).length))), (1, .one (.c (.v (.int .i64 (wr ((wr ((wr ((wr ((wr (s1.1 + 1)) + 1)) + 1)) + 1)) + 1)))))), (5, .one (.c (.v (.int .i64 ((i1 : Nat) : Int)))))], [(1000, some (fs 0 0, .arr 6 ((laws_markProbeBoxS_v3 i1 s1).map ProbeBox.row)))], 55⟩) (fun f => by kernel_rfl) (fun f => by kernel_rfl) fun f14 => ?_
      refine xr hT [ix ProbeBox.row (laws_markProbeBoxS_v3 i1 s1) i1 (by (first | omega | ((try simp only [LN, laws_markProbeBoxS_v1, laws_markProbeBoxS_v2, laws_markProbeBoxS_v3, laws_markProbeBoxS_v4]); omega) | ((try simp only [wr, IntKind.wrap_i64, LN, laws_markProbeBoxS_v1, laws_markProbeBoxS_v2, laws_markProbeBoxS_v3, laws_markProbeBoxS_v4] at *); omega) | (simp_all <;> omega))), .st inferInstance true ProbeBox.row (laws_markProbeBoxS_v3 i1 s1) i1 ({ (laws_markProbeBoxS_v3 i1 s1).getD i1 default with Out := wr ((wr ((wr ((wr ((wr (s1.1 + 1)) + 1)) + 1)) + 1)) + 1) } : ProbeBox) (fun h => by (first | omega | ((try simp only [LN, laws_markProbeBoxS_v1, laws_markProbeBoxS_v2, laws_markProbeBoxS_v3, laws_markProbeBoxS_v4]); omega) | ((try simp only [wr, IntKind.wrap_i64, LN, laws_markProbeBoxS_v1, laws_markProbeBoxS_v2, laws_markProbeBoxS_v3, laws_markProbeBoxS_v4] at *); omega) | (simp_all <;> omega)))] (fun f15 => ⟨[(0, .one (.c (.mu 1000 (fs 0 0) 6 0 ((laws_markProbeBoxS_v3 i1 s1).map ProbeBox.row).length))), (1, .one (.c (.v (.int .i64 (wr ((wr ((wr ((wr ((wr (s1.1 + 1)) + 1)) + 1)) + 1)) + 1)))))), (5, .one (.c (.v (.int .i64 ((i1 : Nat) : Int)))))], [(1000, some (fs 0 0, .arr 6 ((laws_markProbeBoxS_v4 i1 s1).map ProbeBox.row)))], 55⟩) (fun f => by kernel_rfl) (fun f => by kernel_rfl) fun f15 => ?_
      refine w_sub (s := ⟨[(0, .one (.c (.mu 1000 (fs 0 0) 6 0 ((laws_markProbeBoxS_v4 i1 s1).map ProbeBox.row).length))), (1, .one (.c (.v (.int .i64 (wr ((wr ((wr ((wr ((wr (s1.1 + 1)) + 1)) + 1)) + 1)) + 1)))))), (5, .one (.c (.v (.int .i64 ((i1 : Nat) : Int)))))], [(1000, some (fs 0 0, .arr 6 ((laws_markProbeBoxS_v4 i1 s1).map ProbeBox.row)))], 55⟩) (cst (by simp only [LN, laws_markProbeBoxS_v1, laws_markProbeBoxS_v2, laws_markProbeBoxS_v3, laws_markProbeBoxS_v4]) (sb (s := ⟨[(0, .one (.c (.mu 1000 (fs 0 0) 6 0 ((laws_markProbeBoxS_v3 i1 s1).map ProbeBox.row).length))), (1, .one (.c (.v (.int .i64 (wr ((wr ((wr ((wr ((wr (s1.1 + 1)) + 1)) + 1)) + 1)) + 1)))))), (5, .one (.c (.v (.int .i64 ((i1 : Nat) : Int)))))], [(1000, some (fs 0 0, .arr 6 ((laws_markProbeBoxS_v4 i1 s1).map ProbeBox.row)))], 55⟩) (by kernel_rfl))) ?_
      refine xr1 (fun _ => rfl) hT [.wr] (fun f16 => ⟨[(0, .one (.c (.mu 1000 (fs 0 0) 6 0 ((laws_markProbeBoxS_v4 i1 s1).map ProbeBox.row).length))), (1, .one (.c (.v (.int .i64 (wr ((wr ((wr ((wr ((wr ((wr (s1.1 + 1)) + 1)) + 1)) + 1)) + 1)) + 1)))))), (5, .one (.c (.v (.int .i64 ((i1 : Nat) : Int)))))], [(1000, some (fs 0 0, .arr 6 ((laws_markProbeBoxS_v4 i1 s1).map ProbeBox.row)))], 55⟩) (fun f => by kernel_rfl) (fun f => by kernel_rfl) fun f16 => ?_
      refine x_reg hT [.ex true (((i1 : Nat) : Int) + ((1 : Nat) : Int)) ((((i1 + 1) : Nat) : Int)) (fun _ => wr_nat (n := i1) (c := 1) (by omega))] (fun f17 => laws_markProbeBoxS_I1 p0 p1 fs (i1 + 1) (wr ((wr ((wr ((wr ((wr ((wr (s1.1 + 1)) + 1)) + 1)) + 1)) + 1)) + 1), (laws_markProbeBoxS_v4 i1 s1)) (lst [])) (fun f => by kernel_rfl) (fun f => by kernel_rfl) fun f17 s' hs' => ?_
      exact ⟨(wr ((wr ((wr ((wr ((wr ((wr (s1.1 + 1)) + 1)) + 1)) + 1)) + 1)) + 1), (laws_markProbeBoxS_v4 i1 s1)), (lst []), hl1, (by (try simp only [LN, laws_markProbeBoxS_v1, laws_markProbeBoxS_v2, laws_markProbeBoxS_v3, laws_markProbeBoxS_v4] at *); omega), hX1.trans (forN_next hl1 (hB1.symm.trans hE1)), hs'⟩
    have hq := of_decide_eq_false h4
    refine w_exit ?_
    exact ⟨s1, (lst []), (by (try simp only [LN, laws_markProbeBoxS_v1, laws_markProbeBoxS_v2, laws_markProbeBoxS_v3, laws_markProbeBoxS_v4] at *); omega), hX1.trans (forN_end (by first | omega | ((try simp only [LN, laws_markProbeBoxS_v1, laws_markProbeBoxS_v2, laws_markProbeBoxS_v3, laws_markProbeBoxS_v4] at *); omega))), sb (by kernel_rfl)⟩
  intro s1 x1 hF20 hR18
  try simp only [LN, laws_markProbeBoxS_v1, laws_markProbeBoxS_v2, laws_markProbeBoxS_v3, laws_markProbeBoxS_v4] at hF20
  rw [laws_markProbeBoxS_r1] at hR18
  refine xr hT [] (fun f19 => ⟨[(4, .one (.c (.v (.int .i64 s1.1))))], [(1000, some (fs 0 0, .arr 6 (s1.2.map ProbeBox.row)))], 55⟩) (fun f => by kernel_rfl) (fun f => by kernel_rfl) fun f19 => ?_
  refine w_ret ?_
  subst hR18
  exact x_ret (by kernel_rfl)
theorem f_laws_markProbeBoxS (p0 : List ProbeBox) (p1 : Int) : (laws_markProbeBoxS p0 p1).2.length = p0.length := by
  unfold laws_markProbeBoxS
  refine forN_inv (fun (i : Nat) (s : Int × List ProbeBox) => s.2.length = p0.length) (fun (r : Int × List ProbeBox) => r.2.length = p0.length) (p0.length) (fun j s hj h => ?_) (fun s h => h) _ 0 _ rfl (Nat.zero_le _) rfl
  unfold laws_markProbeBoxS_b1
  simp only [all_next]
  (try simp only [LN, laws_markProbeBoxS_v1, laws_markProbeBoxS_v2, laws_markProbeBoxS_v3, laws_markProbeBoxS_v4])
  first | done | exact h | simp [h]

/-- laws.markProbeTube -/
def laws_markProbeTube (p0 : ProbeTube) (p1 : Int) : Int × ProbeTube := ((laws_markProbeBoxS p0.Boxes p1).1, (⟨p0.Name, (laws_markProbeBoxS p0.Boxes p1).2⟩ : ProbeTube))
theorem c29 (p0 : ProbeTube) (p1 : Int) (k0_0 : ProbeTube.ok p0) : Fn Proofs.Try.prog 29 [⟨.mt, true, ProbeTube.cs .own p0⟩, ⟨.val, false, [.v (.int .i64 p1)]⟩] [.c (.v (.int .i64 (laws_markProbeTube p0 p1).1))] [ProbeTube.cs .own (laws_markProbeTube p0 p1).2] := by
  obtain ⟨R, hR⟩ : ∃ R, R = laws_markProbeTube p0 p1 := ⟨_, rfl⟩
  rw [← hR]
  rw [laws_markProbeTube] at hR
  refine ⟨fn_intro hT Proofs.Try.func29 rfl rfl fun fs => ?_, _, Proofs.Try.func29, rfl, rfl⟩
  have q0 := k0_0; simp only [ProbeTube.ok] at q0
  refine xr hT [] (fun f1 => ⟨[(1, .one (.c (.v (.int .i64 p1)))), (2, .one (.pt 2 (f1 0 0) 0))], [(2, some (f1 0 0, .box [.v (.string p0.Name), .mu 1001 (fs 0 1) 6 0 (p0.Boxes.map ProbeBox.row).length])), (1001, some (fs 0 1, .arr 6 (p0.Boxes.map ProbeBox.row)))], 10⟩) (fun f => by kernel_rfl) (fun f => by kernel_rfl) fun f1 => ?_
  refine xr hT [ca (c107 p0.Boxes p1 (by omega))] (fun f2 => ⟨[(1, .one (.c (.v (.int .i64 ((laws_markProbeBoxS p0.Boxes p1).1)))))], [(1001, some (fs 0 1, .arr 6 (((laws_markProbeBoxS p0.Boxes p1).2).map ProbeBox.row)))], 10⟩) (fun f => by kernel_rfl) (fun f => by kernel_rfl) fun f2 => ?_
  refine xr hT [] (fun f3 => ⟨[(4, .one (.c (.v (.int .i64 ((laws_markProbeBoxS p0.Boxes p1).1)))))], [(1001, some (fs 0 1, .arr 6 (((laws_markProbeBoxS p0.Boxes p1).2).map ProbeBox.row)))], 10⟩) (fun f => by kernel_rfl) (fun f => by kernel_rfl) fun f3 => ?_
  refine w_ret ?_
  subst hR
  exact x_ret (by kernel_rfl)
theorem f_laws_markProbeTube (p0 : ProbeTube) (p1 : Int) : (laws_markProbeTube p0 p1).2.Boxes.length = p0.Boxes.length := by
  simp only [laws_markProbeTube, LN, f_laws_markProbeBoxS, and_self]

def laws_heldProbeBoxS_I1 (p0 : (List ProbeBox)) (p1 : Int) (fs : Nat → Nat → Nat) (i1 : Nat) (s1 : Int) (x1 : Nat → Nat) : St := ⟨[(0, .one (.c (.sl .bor 6 (p0.map ProbeBox.row)))), (1, .one (.c (.v (.int .i64 s1)))), (5, .one (.c (.v (.int .i64 ((i1 : Nat) : Int)))))], [], 67⟩
def laws_heldProbeBoxS_J1 (p0 : (List ProbeBox)) (p1 : Int) (fs : Nat → Nat → Nat) (s1 : Int) (x1 : Nat → Nat) : St := ⟨[(1, .one (.c (.v (.int .i64 s1))))], [], 67⟩
def laws_heldProbeBoxS_b1 (p0 : (List ProbeBox)) (p1 : Int) (i1 : Nat) (s1 : Int) : Res (Int) Int := (if !decide (((p0.getD i1 default).X) = s1) then (.ret (-1)) else (if !decide (((p0.getD i1 default).Y) = (wr (s1 + 1))) then (.ret (-1)) else (if !decide (((p0.getD i1 default).Low) = (wr ((wr (s1 + 1)) + 1))) then (.ret (-1)) else (if !decide (((p0.getD i1 default).High) = (wr ((wr ((wr (s1 + 1)) + 1)) + 1))) then (.ret (-1)) else (if !decide (((p0.getD i1 default).In) = (wr ((wr ((wr ((wr (s1 + 1)) + 1)) + 1)) + 1))) then (.ret (-1)) else (if !decide (((p0.getD i1 default).Out) = (wr ((wr ((wr ((wr ((wr (s1 + 1)) + 1)) + 1)) + 1)) + 1))) then (.ret (-1)) else (.next (wr ((wr ((wr ((wr ((wr ((wr (s1 + 1)) + 1)) + 1)) + 1)) + 1)) + 1)))))))))
def laws_heldProbeBoxS_r1 (p0 : (List ProbeBox)) (p1 : Int) (s1 : Int) : Int := s1
/-- laws.heldProbeBoxS -/
def laws_heldProbeBoxS (p0 : (List ProbeBox)) (p1 : Int) : Int := (Res.fin (laws_heldProbeBoxS_r1 p0 p1) (forN (laws_heldProbeBoxS_b1 p0 p1) (p0.length - 0) 0 p1))
theorem c108 (p0 : (List ProbeBox)) (p1 : Int) (k0_0 : p0.length ≤ 1048576) : Fn Proofs.Try.prog 108 [⟨.val, false, [.sl .bor 6 (p0.map ProbeBox.row)]⟩, ⟨.val, false, [.v (.int .i64 p1)]⟩] [.c (.v (.int .i64 (laws_heldProbeBoxS p0 p1)))] [] := by
  obtain ⟨R, hR⟩ : ∃ R, R = laws_heldProbeBoxS p0 p1 := ⟨_, rfl⟩
  rw [← hR]
  rw [laws_heldProbeBoxS] at hR
  refine ⟨fn_intro hT Proofs.Try.func108 rfl rfl fun fs => ?_, _, Proofs.Try.func108, rfl, rfl⟩
  refine xr hT [] (fun f1 => ⟨[(0, .one (.c (.sl .bor 6 (p0.map ProbeBox.row)))), (1, .one (.c (.v (.int .i64 p1))))], [], 67⟩) (fun f => by kernel_rfl) (fun f => by kernel_rfl) fun f1 => ?_
  refine w_seq ?_
  refine xr hT [] (fun f2 => ⟨[(0, .one (.c (.sl .bor 6 (p0.map ProbeBox.row)))), (1, .one (.c (.v (.int .i64 p1)))), (5, .one (.c (.v (.int .i64 0))))], [], 67⟩) (fun f => by kernel_rfl) (fun f => by kernel_rfl) fun f2 => ?_
  refine w_forT (fun _ => rfl) (laws_heldProbeBoxS_I1 p0 p1 fs) (laws_heldProbeBoxS_J1 p0 p1 fs) (fun i1 s1 => True) (fun s1 => True) (p0.length) 0 (laws_heldProbeBoxS_b1 p0 p1) (laws_heldProbeBoxS_r1 p0 p1) 0 (p1) (lst []) (sb (by kernel_rfl)) trivial hR ?_ ?_
  · skip
    intro i1 s1 x1 hI1 hX1
    refine w_seq ?_
    refine xr hT [.ln ProbeBox.row p0] (fun f3 => ⟨[(0, .one (.c (.sl .bor 6 (p0.map ProbeBox.row)))), (1, .one (.c (.v (.int .i64 s1)))), (5, .one (.c (.v (.int .i64 ((i1 : Nat) : Int))))), (9, .one (.c (.v (.bool (decide (((i1 : Nat) : Int) < (p0.length : Int)))))))], [], 67⟩) (fun f => by kernel_rfl) (fun f => by kernel_rfl) fun f3 => ?_
    refine w_cond rfl (fun h4 => ?_) fun h4 => ?_
    · skip
      have hl1 : i1 < p0.length := by have hq := of_decide_eq_true h4; first | omega | ((try simp only [LN] at *); omega)
      obtain ⟨B1, hB1⟩ : ∃ B, B = laws_heldProbeBoxS_b1 p0 p1 i1 s1 := ⟨_, rfl⟩
      have hE1 := hB1
      rw [laws_heldProbeBoxS_b1] at hE1
      refine w_skip ?_
      refine w_seq ?_
      refine w_block ?_
      refine w_seq ?_
      refine xr hT [ix ProbeBox.row p0 i1 (by omega)] (fun f5 => ⟨[(0, .one (.c (.sl .bor 6 (p0.map ProbeBox.row)))), (1, .one (.c (.v (.int .i64 s1)))), (5, .one (.c (.v (.int .i64 ((i1 : Nat) : Int))))), (18, .one (.c (.v (.bool (!decide (((p0.getD i1 default).X) = s1))))))], [], 67⟩) (fun f => by kernel_rfl) (fun f => by kernel_rfl) fun f5 => ?_
      refine w_cond rfl (fun h6 => ?_) fun h6 => ?_
      · rw [if_pos h6] at hE1
        have gh6 := nd1 h6
        refine xr hT [] (fun f7 => ⟨[(4, .one (.c (.v (.int .i64 (-1)))))], [], 67⟩) (fun f => by kernel_rfl) (fun f => by kernel_rfl) fun f7 => ?_
        refine w_ret ?_
        have hR := hX1.trans (forN_ret hl1 (hB1.symm.trans hE1))
        subst hR
        exact x_ret (by kernel_rfl)
      rw [if_neg (nt h6)] at hE1
      have gh6 := nd0 h6
      refine w_skip ?_
      refine xr hT [.wr] (fun f8 => ⟨[(0, .one (.c (.sl .bor 6 (p0.map ProbeBox.row)))), (1, .one (.c (.v (.int .i64 (wr (s1 + 1)))))), (5, .one (.c (.v (.int .i64 ((i1 : Nat) : Int)))))], [], 67⟩) (fun f => by kernel_rfl) (fun f => by kernel_rfl) fun f8 => ?_
      refine w_seq ?_
      refine xr hT [ix ProbeBox.row p0 i1 (by omega)] (fun f9 => ⟨[(0, .one (.c (.sl .bor 6 (p0.map ProbeBox.row)))), (1, .one (.c (.v (.int .i64 (wr (s1 + 1)))))), (5, .one (.c (.v (.int .i64 ((i1 : Nat) : Int))))), (27, .one (.c (.v (.bool (!decide (((p0.getD i1 default).Y) = (wr (s1 + 1))))))))], [], 67⟩) (fun f => by kernel_rfl) (fun f => by kernel_rfl) fun f9 => ?_
      refine w_cond rfl (fun h10 => ?_) fun h10 => ?_
      · rw [if_pos h10] at hE1
        have gh10 := nd1 h10
        refine xr hT [] (fun f11 => ⟨[(4, .one (.c (.v (.int .i64 (-1)))))], [], 67⟩) (fun f => by kernel_rfl) (fun f => by kernel_rfl) fun f11 => ?_
        refine w_ret ?_
        have hR := hX1.trans (forN_ret hl1 (hB1.symm.trans hE1))
        subst hR
        exact x_ret (by kernel_rfl)
      rw [if_neg (nt h10)] at hE1
      have gh10 := nd0 h10
      refine w_skip ?_
      refine xr hT [.wr] (fun f12 => ⟨[(0, .one (.c (.sl .bor 6 (p0.map ProbeBox.row)))), (1, .one (.c (.v (.int .i64 (wr ((wr (s1 + 1)) + 1)))))), (5, .one (.c (.v (.int .i64 ((i1 : Nat) : Int)))))], [], 67⟩) (fun f => by kernel_rfl) (fun f => by kernel_rfl) fun f12 => ?_
      refine w_seq ?_
      refine xr hT [ix ProbeBox.row p0 i1 (by omega)] (fun f13 => ⟨[(0, .one (.c (.sl .bor 6 (p0.map ProbeBox.row)))), (1, .one (.c (.v (.int .i64 (wr ((wr (s1 + 1)) + 1)))))), (5, .one (.c (.v (.int .i64 ((i1 : Nat) : Int))))), (36, .one (.c (.v (.bool (!decide (((p0.getD i1 default).Low) = (wr ((wr (s1 + 1)) + 1))))))))], [], 67⟩) (fun f => by kernel_rfl) (fun f => by kernel_rfl) fun f13 => ?_
      refine w_cond rfl (fun h14 => ?_) fun h14 => ?_
      · rw [if_pos h14] at hE1
        have gh14 := nd1 h14
        refine xr hT [] (fun f15 => ⟨[(4, .one (.c (.v (.int .i64 (-1)))))], [], 67⟩) (fun f => by kernel_rfl) (fun f => by kernel_rfl) fun f15 => ?_
        refine w_ret ?_
        have hR := hX1.trans (forN_ret hl1 (hB1.symm.trans hE1))
        subst hR
        exact x_ret (by kernel_rfl)
      rw [if_neg (nt h14)] at hE1
      have gh14 := nd0 h14
      refine w_skip ?_
      refine xr hT [.wr] (fun f16 => ⟨[(0, .one (.c (.sl .bor 6 (p0.map ProbeBox.row)))), (1, .one (.c (.v (.int .i64 (wr ((wr ((wr (s1 + 1)) + 1)) + 1)))))), (5, .one (.c (.v (.int .i64 ((i1 : Nat) : Int)))))], [], 67⟩) (fun f => by kernel_rfl) (fun f => by kernel_rfl) fun f16 => ?_
      refine w_seq ?_
      refine xr hT [ix ProbeBox.row p0 i1 (by omega)] (fun f17 => ⟨[(0, .one (.c (.sl .bor 6 (p0.map ProbeBox.row)))), (1, .one (.c (.v (.int .i64 (wr ((wr ((wr (s1 + 1)) + 1)) + 1)))))), (5, .one (.c (.v (.int .i64 ((i1 : Nat) : Int))))), (45, .one (.c (.v (.bool (!decide (((p0.getD i1 default).High) = (wr ((wr ((wr (s1 + 1)) + 1)) + 1))))))))], [], 67⟩) (fun f => by kernel_rfl) (fun f => by kernel_rfl) fun f17 => ?_
      refine w_cond rfl (fun h18 => ?_) fun h18 => ?_
      · rw [if_pos h18] at hE1
        have gh18 := nd1 h18
        refine xr hT [] (fun f19 => ⟨[(4, .one (.c (.v (.int .i64 (-1)))))], [], 67⟩) (fun f => by kernel_rfl) (fun f => by kernel_rfl) fun f19 => ?_
        refine w_ret ?_
        have hR := hX1.trans (forN_ret hl1 (hB1.symm.trans hE1))
        subst hR
        exact x_ret (by kernel_rfl)
      rw [if_neg (nt h18)] at hE1
      have gh18 := nd0 h18
      refine w_skip ?_
      refine xr hT [.wr] (fun f20 => ⟨[(0, .one (.c (.sl .bor 6 (p0.map ProbeBox.row)))), (1, .one (.c (.v (.int .i64 (wr ((wr ((wr ((wr (s1 + 1)) + 1)) + 1)) + 1)))))), (5, .one (.c (.v (.int .i64 ((i1 : Nat) : Int)))))], [], 67⟩) (fun f => by kernel_rfl) (fun f => by kernel_rfl) fun f20 => ?_
      refine w_seq ?_
      refine xr hT [ix ProbeBox.row p0 i1 (by omega)] (fun f21 => ⟨[(0, .one (.c (.sl .bor 6 (p0.map ProbeBox.row)))), (1, .one (.c (.v (.int .i64 (wr ((wr ((wr ((wr (s1 + 1)) + 1)) + 1)) + 1)))))), (5, .one (.c (.v (.int .i64 ((i1 : Nat) : Int))))), (54, .one (.c (.v (.bool (!decide (((p0.getD i1 default).In) = (wr ((wr ((wr ((wr (s1 + 1)) + 1)) + 1)) + 1))))))))], [], 67⟩) (fun f => by kernel_rfl) (fun f => by kernel_rfl) fun f21 => ?_
      refine w_cond rfl (fun h22 => ?_) fun h22 => ?_
      · rw [if_pos h22] at hE1
        have gh22 := nd1 h22
        refine xr hT [] (fun f23 => ⟨[(4, .one (.c (.v (.int .i64 (-1)))))], [], 67⟩) (fun f => by kernel_rfl) (fun f => by kernel_rfl) fun f23 => ?_
        refine w_ret ?_
        have hR := hX1.trans (forN_ret hl1 (hB1.symm.trans hE1))
        subst hR
        exact x_ret (by kernel_rfl)
      rw [if_neg (nt h22)] at hE1
      have gh22 := nd0 h22
      refine w_skip ?_
      refine xr hT [.wr] (fun f24 => ⟨[(0, .one (.c (.sl .bor 6 (p0.map ProbeBox.row)))), (1, .one (.c (.v (.int .i64 (wr ((wr ((wr ((wr ((wr (s1 + 1)) + 1)) + 1)) + 1)) + 1)))))), (5, .one (.c (.v (.int .i64 ((i1 : Nat) : Int)))))], [], 67⟩) (fun f => by kernel_rfl) (fun f => by kernel_rfl) fun f24 => ?_
      refine w_seq ?_
      refine xr hT [ix ProbeBox.row p0 i1 (by omega)] (fun f25 => ⟨[(0, .one (.c (.sl .bor 6 (p0.map ProbeBox.row)))), (1, .one (.c (.v (.int .i64 (wr ((wr ((wr ((wr ((wr (s1 + 1)) + 1)) + 1)) + 1)) + 1)))))), (5, .one (.c (.v (.int .i64 ((i1 : Nat) : Int))))), (63, .one (.c (.v (.bool (!decide (((p0.getD i1 default).Out) = (wr ((wr ((wr ((wr ((wr (s1 + 1)) + 1)) + 1)) + 1)) + 1))))))))], [], 67⟩) (fun f => by kernel_rfl) (fun f => by kernel_rfl) fun f25 => ?_
      refine w_cond rfl (fun h26 => ?_) fun h26 => ?_
      · rw [if_pos h26] at hE1
        have gh26 := nd1 h26
        refine xr hT [] (fun f27 => ⟨[(4, .one (.c (.v (.int .i64 (-1)))))], [], 67⟩) (fun f => by kernel_rfl) (fun f => by kernel_rfl) fun f27 => ?_
        refine w_ret ?_
        have hR := hX1.trans (forN_ret hl1 (hB1.symm.trans hE1))
        subst hR
        exact x_ret (by kernel_rfl)
      rw [if_neg (nt h26)] at hE1
      have gh26 := nd0 h26
      refine w_skip ?_
      refine xr1 (fun _ => rfl) hT [.wr] (fun f28 => ⟨[(0, .one (.c (.sl .bor 6 (p0.map ProbeBox.row)))), (1, .one (.c (.v (.int .i64 (wr ((wr ((wr ((wr ((wr ((wr (s1 + 1)) + 1)) + 1)) + 1)) + 1)) + 1)))))), (5, .one (.c (.v (.int .i64 ((i1 : Nat) : Int)))))], [], 67⟩) (fun f => by kernel_rfl) (fun f => by kernel_rfl) fun f28 => ?_
      refine x_reg hT [.ex true (((i1 : Nat) : Int) + ((1 : Nat) : Int)) ((((i1 + 1) : Nat) : Int)) (fun _ => wr_nat (n := i1) (c := 1) (by omega))] (fun f29 => laws_heldProbeBoxS_I1 p0 p1 fs (i1 + 1) (wr ((wr ((wr ((wr ((wr ((wr (s1 + 1)) + 1)) + 1)) + 1)) + 1)) + 1)) (lst [])) (fun f => by kernel_rfl) (fun f => by kernel_rfl) fun f29 s' hs' => ?_
      exact ⟨wr ((wr ((wr ((wr ((wr ((wr (s1 + 1)) + 1)) + 1)) + 1)) + 1)) + 1), (lst []), hl1, trivial, hX1.trans (forN_next hl1 (hB1.symm.trans hE1)), hs'⟩
    have hq := of_decide_eq_false h4
    refine w_exit ?_
    exact ⟨s1, (lst []), trivial, hX1.trans (forN_end (by first | omega | ((try simp only [LN] at *); omega))), sb (by kernel_rfl)⟩
  intro s1 x1 hF32 hR30
  rw [laws_heldProbeBoxS_r1] at hR30
  refine xr hT [] (fun f31 => ⟨[(4, .one (.c (.v (.int .i64 s1))))], [], 67⟩) (fun f => by kernel_rfl) (fun f => by kernel_rfl) fun f31 => ?_
  refine w_ret ?_
  subst hR30
  exact x_ret (by kernel_rfl)

/-- laws.heldProbeTube -/
def laws_heldProbeTube (p0 : ProbeTube) (p1 : Int) : Int := (if decide ((laws_heldProbeBoxS p0.Boxes p1) < 0) then (-1) else (laws_heldProbeBoxS p0.Boxes p1))
theorem c30 (p0 : ProbeTube) (p1 : Int) (k0_0 : ProbeTube.ok p0) : Fn Proofs.Try.prog 30 [⟨.val, true, ProbeTube.cs .bor p0⟩, ⟨.val, false, [.v (.int .i64 p1)]⟩] [.c (.v (.int .i64 (laws_heldProbeTube p0 p1)))] [] := by
  obtain ⟨R, hR⟩ : ∃ R, R = laws_heldProbeTube p0 p1 := ⟨_, rfl⟩
  rw [← hR]
  rw [laws_heldProbeTube] at hR
  refine ⟨fn_intro hT Proofs.Try.func30 rfl rfl fun fs => ?_, _, Proofs.Try.func30, rfl, rfl⟩
  have q0 := k0_0; simp only [ProbeTube.ok] at q0
  refine xr hT [] (fun f1 => ⟨[(1, .one (.c (.v (.int .i64 p1)))), (2, .one (.pt 2 (f1 0 0) 0))], [(2, some (f1 0 0, .box (ProbeTube.cs .bor p0)))], 12⟩) (fun f => by kernel_rfl) (fun f => by kernel_rfl) fun f1 => ?_
  refine xr hT [ca (c108 p0.Boxes p1 (by omega))] (fun f2 => ⟨[(1, .one (.c (.v (.int .i64 (laws_heldProbeBoxS p0.Boxes p1)))))], [], 12⟩) (fun f => by kernel_rfl) (fun f => by kernel_rfl) fun f2 => ?_
  refine w_seq ?_
  refine xr hT [] (fun f3 => ⟨[(1, .one (.c (.v (.int .i64 (laws_heldProbeBoxS p0.Boxes p1))))), (10, .one (.c (.v (.bool (decide ((laws_heldProbeBoxS p0.Boxes p1) < 0))))))], [], 12⟩) (fun f => by kernel_rfl) (fun f => by kernel_rfl) fun f3 => ?_
  refine w_cond rfl (fun h4 => ?_) fun h4 => ?_
  · rw [if_pos h4] at hR
    have gh4 := of_decide_eq_true h4
    refine xr hT [] (fun f5 => ⟨[(4, .one (.c (.v (.int .i64 (-1)))))], [], 12⟩) (fun f => by kernel_rfl) (fun f => by kernel_rfl) fun f5 => ?_
    refine w_ret ?_
    subst hR
    exact x_ret (by kernel_rfl)
  rw [if_neg (nt h4)] at hR
  have gh4 := of_decide_eq_false h4
  refine w_skip ?_
  refine xr hT [] (fun f6 => ⟨[(4, .one (.c (.v (.int .i64 (laws_heldProbeBoxS p0.Boxes p1)))))], [], 12⟩) (fun f => by kernel_rfl) (fun f => by kernel_rfl) fun f6 => ?_
  refine w_ret ?_
  subst hR
  exact x_ret (by kernel_rfl)

def laws_FnExactLinkTube_v1 (p0 : ByteArray) (p1 : FlyPath) (p2 : Int) : Bool := (decide (((laws_markFlyPath (laws_toFlyPath p1) 1).1) < 0)) || (!(laws_eqProbeTube (impl_LinkTube p0 (laws_toFlyPath p1) p2) (spec_LinkTube p0 (laws_toFlyPath p1) p2)))
def laws_FnExactLinkTube_v2 (p0 : ByteArray) (p1 : FlyPath) (p2 : Int) : Int := (laws_heldProbeTube (⟨(impl_LinkTube p0 (laws_toFlyPath p1) p2).Name, ((laws_markProbeTube (impl_LinkTube p0 (laws_toFlyPath p1) p2) 1).2).Boxes⟩ : ProbeTube) 1)
/-- laws.FnExactLinkTube -/
def laws_FnExactLinkTube (p0 : ByteArray) (p1 : FlyPath) (p2 : Int) : Bool := (if decide (1048576 < (p0.size : Int)) then true else (if decide ((laws_szFlyPath p1 1048576) < 0) then true else (if !(laws_eqProbeTube (impl_LinkTube p0 (laws_toFlyPath p1) p2) (spec_LinkTube p0 (laws_toFlyPath p1) p2)) then false else (if !(laws_eqFlyPath (laws_toFlyPath p1) (laws_toFlyPath p1)) then false else (if (laws_FnExactLinkTube_v1 p0 p1 p2) then false else (if decide ((laws_FnExactLinkTube_v2 p0 p1 p2) < 0) then false else (if !decide ((laws_FnExactLinkTube_v2 p0 p1 p2) = ((laws_markProbeTube (impl_LinkTube p0 (laws_toFlyPath p1) p2) 1).1)) then false else (if !(laws_eqProbeTube (impl_LinkTube p0 (laws_toFlyPath p1) p2) (spec_LinkTube p0 (laws_toFlyPath p1) p2)) then false else (if decide ((laws_FnExactLinkTube_v2 p0 p1 p2) < 0) then false else (if !decide ((laws_FnExactLinkTube_v2 p0 p1 p2) = ((laws_markProbeTube (impl_LinkTube p0 (laws_toFlyPath p1) p2) 1).1)) then false else true))))))))))
set_option maxHeartbeats 1600000 in
theorem c5 (p0 : ByteArray) (p1 : FlyPath) (p2 : Int) (k0_0 : p0.size ≤ 9223372036854775807) (k1_0 : FlyPath.big p1) : Fn Proofs.Try.prog 5 [⟨.val, false, [.v (.string p0)]⟩, ⟨.val, true, FlyPath.cs .bor p1⟩, ⟨.val, false, [.v (.int .i64 p2)]⟩] [.c (.v (.bool (laws_FnExactLinkTube p0 p1 p2)))] [] := by
  obtain ⟨R, hR⟩ : ∃ R, R = laws_FnExactLinkTube p0 p1 p2 := ⟨_, rfl⟩
  rw [← hR]
  rw [laws_FnExactLinkTube] at hR
  refine ⟨fn_intro hT Proofs.Try.func5 rfl rfl fun fs => ?_, _, Proofs.Try.func5, rfl, rfl⟩
  have q1 := k1_0; simp only [FlyPath.big] at q1
  refine xr hT [] (fun f1 => ⟨[(0, .one (.c (.v (.string p0)))), (2, .one (.c (.v (.int .i64 p2)))), (4, .one (.pt 4 (f1 0 0) 0))], [(4, some (f1 0 0, .box (FlyPath.cs .bor p1)))], 82⟩) (fun f => by kernel_rfl) (fun f => by kernel_rfl) fun f1 => ?_
  refine w_seq ?_
  refine xr hT [.und Proofs.Try.underlying9] (fun f2 => ⟨[(0, .one (.c (.v (.string p0)))), (2, .one (.c (.v (.int .i64 p2)))), (4, .one (.pt 4 (f1 0 0) 0)), (17, .one (.c (.v (.bool (decide (1048576 < (p0.size : Int)))))))], [(4, some (f1 0 0, .box (FlyPath.cs .bor p1)))], 82⟩) (fun f => by kernel_rfl) (fun f => by kernel_rfl) fun f2 => ?_
  refine w_cond rfl (fun h3 => ?_) fun h3 => ?_
  · rw [if_pos h3] at hR
    have gh3 := of_decide_eq_true h3
    refine xr hT [] (fun f4 => ⟨[(6, .one (.c (.v (.bool true))))], [], 82⟩) (fun f => by kernel_rfl) (fun f => by kernel_rfl) fun f4 => ?_
    refine w_ret ?_
    subst hR
    exact x_ret (by kernel_rfl)
  rw [if_neg (nt h3)] at hR
  have gh3 := of_decide_eq_false h3
  refine w_skip ?_
  refine xr hT [] (fun f5 => ⟨[(0, .one (.c (.v (.string p0)))), (2, .one (.c (.v (.int .i64 p2)))), (4, .one (.pt 4 (f1 0 0) 0)), (7, .one (.c (.v (.int .i64 1048576))))], [(4, some (f1 0 0, .box (FlyPath.cs .bor p1)))], 82⟩) (fun f => by kernel_rfl) (fun f => by kernel_rfl) fun f5 => ?_
  refine xr hT [ca (c22 p1 1048576 (by first | assumption | exact (by omega : p1.Steps.length ≤ 9223372036854775807)))] (fun f6 => ⟨[(0, .one (.c (.v (.string p0)))), (2, .one (.c (.v (.int .i64 p2)))), (4, .one (.pt 4 (f1 0 0) 0)), (7, .one (.c (.v (.int .i64 (laws_szFlyPath p1 1048576)))))], [(4, some (f1 0 0, .box (FlyPath.cs .bor p1)))], 82⟩) (fun f => by kernel_rfl) (fun f => by kernel_rfl) fun f6 => ?_
  refine w_seq ?_
  refine xr hT [] (fun f7 => ⟨[(0, .one (.c (.v (.string p0)))), (2, .one (.c (.v (.int .i64 p2)))), (4, .one (.pt 4 (f1 0 0) 0)), (22, .one (.c (.v (.bool (decide ((laws_szFlyPath p1 1048576) < 0))))))], [(4, some (f1 0 0, .box (FlyPath.cs .bor p1)))], 82⟩) (fun f => by kernel_rfl) (fun f => by kernel_rfl) fun f7 => ?_
  refine w_cond rfl (fun h8 => ?_) fun h8 => ?_
  · rw [if_pos h8] at hR
    have gh8 := of_decide_eq_true h8
    refine xr hT [] (fun f9 => ⟨[(6, .one (.c (.v (.bool true))))], [], 82⟩) (fun f => by kernel_rfl) (fun f => by kernel_rfl) fun f9 => ?_
    refine w_ret ?_
    subst hR
    exact x_ret (by kernel_rfl)
  rw [if_neg (nt h8)] at hR
  have gh8 := of_decide_eq_false h8
  have ok0 := (f_laws_szFlyPath p1 1048576 k1_0 (by omega) (by omega) (by omega)).1
  refine w_skip ?_
  have w11 := f_spec_LinkTube p0 (laws_toFlyPath p1) p2 (by first | assumption | exact (show ((laws_toFlyPath p1).Steps).length ≤ 1048576 from by (try simp only [LN, f_laws_markFlyPath, f_laws_markProbeTube, f_laws_toFlyPath, spec_LinkTube, laws_FnExactLinkTube_v1, laws_FnExactLinkTube_v2]); omega))
  have w11' := w11; try simp only [LN, f_laws_markFlyPath, f_laws_markProbeTube, f_laws_toFlyPath, spec_LinkTube, laws_FnExactLinkTube_v1, laws_FnExactLinkTube_v2] at w11'
  refine xr hT [ca (c24 p1 (by first | assumption | exact (by omega : p1.Steps.length ≤ 1048576))), ca (c23 p0 (laws_toFlyPath p1) p2 (by first | assumption | exact (show ((laws_toFlyPath p1).Steps).length ≤ 1048576 from by (try simp only [LN, f_laws_markFlyPath, f_laws_markProbeTube, f_laws_toFlyPath, spec_LinkTube, laws_FnExactLinkTube_v1, laws_FnExactLinkTube_v2]); omega)))] (fun f10 => ⟨[(0, .one (.c (.v (.string p0)))), (2, .one (.c (.v (.int .i64 p2)))), (4, .one (.pt 4 (f1 0 0) 0)), (8, .one (.pt 8 (f10 5 0) 0))], [(4, some (f1 0 0, .box (FlyPath.cs .bor p1))), (8, some (f10 5 0, .box [.v (.string ((spec_LinkTube p0 (laws_toFlyPath p1) p2).Name)), .mu 2800001 (gk (f10 4) 0 1) 6 0 (((spec_LinkTube p0 (laws_toFlyPath p1) p2).Boxes).map ProbeBox.row).length])), (2800001, some (gk (f10 4) 0 1, .arr 6 (((spec_LinkTube p0 (laws_toFlyPath p1) p2).Boxes).map ProbeBox.row)))], 82⟩) (fun f => by kernel_rfl) (fun f => by kernel_rfl) fun f10 => ?_
  refine xr hT [ca (c24 p1 (by first | assumption | exact (by omega : p1.Steps.length ≤ 1048576)))] (fun f12 => ⟨[(0, .one (.c (.v (.string p0)))), (2, .one (.c (.v (.int .i64 p2)))), (4, .one (.pt 4 (f1 0 0) 0)), (8, .one (.pt 8 (f10 5 0) 0)), (9, .one (.pt 9 (f12 2 0) 0))], [(4, some (f1 0 0, .box (FlyPath.cs .bor p1))), (8, some (f10 5 0, .box [.v (.string ((spec_LinkTube p0 (laws_toFlyPath p1) p2).Name)), .mu 2800001 (gk (f10 4) 0 1) 6 0 (((spec_LinkTube p0 (laws_toFlyPath p1) p2).Boxes).map ProbeBox.row).length])), (9, some (f12 2 0, .box [.v (.int .i64 ((laws_toFlyPath p1).Kind.Quick)), .v (.int .i64 ((laws_toFlyPath p1).Kind.Slow)), .mu 3000002 (gk (f12 1) 0 2) 7 0 (((laws_toFlyPath p1).Steps).map FlyStep.row).length, .v (.int .i64 ((laws_toFlyPath p1).From)), .v (.int .i64 ((laws_toFlyPath p1).By))])), (2800001, some (gk (f10 4) 0 1, .arr 6 (((spec_LinkTube p0 (laws_toFlyPath p1) p2).Boxes).map ProbeBox.row))), (3000002, some (gk (f12 1) 0 2, .arr 7 (((laws_toFlyPath p1).Steps).map FlyStep.row)))], 82⟩) (fun f => by kernel_rfl) (fun f => by kernel_rfl) fun f12 => ?_
  have w14 := f_impl_LinkTube p0 (laws_toFlyPath p1) p2 (by first | assumption | exact (show ((laws_toFlyPath p1).Steps).length ≤ 1048576 from by (try simp only [LN, f_laws_markFlyPath, f_laws_markProbeTube, f_laws_toFlyPath, spec_LinkTube, laws_FnExactLinkTube_v1, laws_FnExactLinkTube_v2]); omega))
  have w14' := w14; try simp only [LN, f_laws_markFlyPath, f_laws_markProbeTube, f_laws_toFlyPath, spec_LinkTube, laws_FnExactLinkTube_v1, laws_FnExactLinkTube_v2] at w14'
  refine xr hT [ca (c25 p0 (laws_toFlyPath p1) p2 (by first | assumption | exact (show ((laws_toFlyPath p1).Steps).length ≤ 1048576 from by (try simp only [LN, f_laws_markFlyPath, f_laws_markProbeTube, f_laws_toFlyPath, spec_LinkTube, laws_FnExactLinkTube_v1, laws_FnExactLinkTube_v2]); omega)))] (fun f13 => ⟨[(0, .one (.c (.v (.string p0)))), (2, .one (.c (.v (.int .i64 p2)))), (4, .one (.pt 4 (f1 0 0) 0)), (8, .one (.pt 8 (f10 5 0) 0)), (9, .one (.pt 9 (f12 2 0) 0)), (10, .one (.pt 10 (f13 4 0) 0))], [(4, some (f1 0 0, .box (FlyPath.cs .bor p1))), (8, some (f10 5 0, .box [.v (.string ((spec_LinkTube p0 (laws_toFlyPath p1) p2).Name)), .mu 2800001 (gk (f10 4) 0 1) 6 0 (((spec_LinkTube p0 (laws_toFlyPath p1) p2).Boxes).map ProbeBox.row).length])), (9, some (f12 2 0, .box [.v (.int .i64 ((laws_toFlyPath p1).Kind.Quick)), .v (.int .i64 ((laws_toFlyPath p1).Kind.Slow)), .mu 3000002 (gk (f12 1) 0 2) 7 0 (((laws_toFlyPath p1).Steps).map FlyStep.row).length, .v (.int .i64 ((laws_toFlyPath p1).From)), .v (.int .i64 ((laws_toFlyPath p1).By))])), (10, some (f13 4 0, .box [.v (.string ((impl_LinkTube p0 (laws_toFlyPath p1) p2).Name)), .mu 3400001 (gk (f13 3) 0 1) 6 0 (((impl_LinkTube p0 (laws_toFlyPath p1) p2).Boxes).map ProbeBox.row).length])), (2800001, some (gk (f10 4) 0 1, .arr 6 (((spec_LinkTube p0 (laws_toFlyPath p1) p2).Boxes).map ProbeBox.row))), (3000002, some (gk (f12 1) 0 2, .arr 7 (((laws_toFlyPath p1).Steps).map FlyStep.row))), (3400001, some (gk (f13 3) 0 1, .arr 6 (((impl_LinkTube p0 (laws_toFlyPath p1) p2).Boxes).map ProbeBox.row)))], 82⟩) (fun f => by kernel_rfl) (fun f => by kernel_rfl) fun f13 => ?_
  refine w_seq ?_
  refine xr hT [ca (c26 (impl_LinkTube p0 (laws_toFlyPath p1) p2) (spec_LinkTube p0 (laws_toFlyPath p1) p2) (by first | assumption | exact (show ((impl_LinkTube p0 (laws_toFlyPath p1) p2).Boxes).length ≤ 1048576 from by (try simp only [LN, f_laws_markFlyPath, f_laws_markProbeTube, f_laws_toFlyPath, spec_LinkTube, laws_FnExactLinkTube_v1, laws_FnExactLinkTube_v2]); omega)) (by first | assumption | exact (show ((spec_LinkTube p0 (laws_toFlyPath p1) p2).Boxes).length ≤ 1048576 from by (try simp only [LN, f_laws_markFlyPath, f_laws_markProbeTube, f_laws_toFlyPath, spec_LinkTube, laws_FnExactLinkTube_v1, laws_FnExactLinkTube_v2]); omega)))] (fun f15 => ⟨[(0, .one (.c (.v (.string p0)))), (2, .one (.c (.v (.int .i64 p2)))), (4, .one (.pt 4 (f1 0 0) 0)), (8, .one (.pt 8 (f10 5 0) 0)), (9, .one (.pt 9 (f12 2 0) 0)), (10, .one (.pt 10 (f13 4 0) 0)), (37, .one (.c (.v (.bool (!(laws_eqProbeTube (impl_LinkTube p0 (laws_toFlyPath p1) p2) (spec_LinkTube p0 (laws_toFlyPath p1) p2)))))))], [(4, some (f1 0 0, .box (FlyPath.cs .bor p1))), (8, some (f10 5 0, .box [.v (.string ((spec_LinkTube p0 (laws_toFlyPath p1) p2).Name)), .mu 2800001 (gk (f10 4) 0 1) 6 0 (((spec_LinkTube p0 (laws_toFlyPath p1) p2).Boxes).map ProbeBox.row).length])), (9, some (f12 2 0, .box [.v (.int .i64 ((laws_toFlyPath p1).Kind.Quick)), .v (.int .i64 ((laws_toFlyPath p1).Kind.Slow)), .mu 3000002 (gk (f12 1) 0 2) 7 0 (((laws_toFlyPath p1).Steps).map FlyStep.row).length, .v (.int .i64 ((laws_toFlyPath p1).From)), .v (.int .i64 ((laws_toFlyPath p1).By))])), (10, some (f13 4 0, .box [.v (.string ((impl_LinkTube p0 (laws_toFlyPath p1) p2).Name)), .mu 3400001 (gk (f13 3) 0 1) 6 0 (((impl_LinkTube p0 (laws_toFlyPath p1) p2).Boxes).map ProbeBox.row).length])), (2800001, some (gk (f10 4) 0 1, .arr 6 (((spec_LinkTube p0 (laws_toFlyPath p1) p2).Boxes).map ProbeBox.row))), (3000002, some (gk (f12 1) 0 2, .arr 7 (((laws_toFlyPath p1).Steps).map FlyStep.row))), (3400001, some (gk (f13 3) 0 1, .arr 6 (((impl_LinkTube p0 (laws_toFlyPath p1) p2).Boxes).map ProbeBox.row)))], 82⟩) (fun f => by kernel_rfl) (fun f => by kernel_rfl) fun f15 => ?_
  refine w_cond rfl (fun h16 => ?_) fun h16 => ?_
  · rw [if_pos h16] at hR
    refine xr hT [] (fun f17 => ⟨[(6, .one (.c (.v (.bool false))))], [], 82⟩) (fun f => by kernel_rfl) (fun f => by kernel_rfl) fun f17 => ?_
    refine w_ret ?_
    subst hR
    exact x_ret (by kernel_rfl)
  rw [if_neg (nt h16)] at hR
  refine w_skip ?_
  refine w_seq ?_
  refine xd hT hM [ca (c24 p1 (by first | assumption | exact (by omega : p1.Steps.length ≤ 1048576))), ca (c27 (laws_toFlyPath p1) (laws_toFlyPath p1) (by first | assumption | exact (show ((laws_toFlyPath p1).Steps).length ≤ 1048576 from by (try simp only [LN, f_laws_markFlyPath, f_laws_markProbeTube, f_laws_toFlyPath, spec_LinkTube, laws_FnExactLinkTube_v1, laws_FnExactLinkTube_v2]); omega)) (by first | assumption | exact (show ((laws_toFlyPath p1).Steps).length ≤ 1048576 from by (try simp only [LN, f_laws_markFlyPath, f_laws_markProbeTube, f_laws_toFlyPath, spec_LinkTube, laws_FnExactLinkTube_v1, laws_FnExactLinkTube_v2]); omega)))] (fun f18 => ⟨[(0, .one (.c (.v (.string p0)))), (2, .one (.c (.v (.int .i64 p2)))), (4, .one (.pt 4 (f1 0 0) 0)), (8, .one (.pt 8 (f10 5 0) 0)), (9, .one (.pt 9 (f12 2 0) 0)), (10, .one (.pt 10 (f13 4 0) 0)), (42, .one (.c (.v (.bool (!(laws_eqFlyPath (laws_toFlyPath p1) (laws_toFlyPath p1)))))))], [(4, some (f1 0 0, .box (FlyPath.cs .bor p1))), (8, some (f10 5 0, .box [.v (.string ((spec_LinkTube p0 (laws_toFlyPath p1) p2).Name)), .mu 2800001 (gk (f10 4) 0 1) 6 0 (((spec_LinkTube p0 (laws_toFlyPath p1) p2).Boxes).map ProbeBox.row).length])), (9, some (f12 2 0, .box [.v (.int .i64 ((laws_toFlyPath p1).Kind.Quick)), .v (.int .i64 ((laws_toFlyPath p1).Kind.Slow)), .mu 3000002 (gk (f12 1) 0 2) 7 0 (((laws_toFlyPath p1).Steps).map FlyStep.row).length, .v (.int .i64 ((laws_toFlyPath p1).From)), .v (.int .i64 ((laws_toFlyPath p1).By))])), (10, some (f13 4 0, .box [.v (.string ((impl_LinkTube p0 (laws_toFlyPath p1) p2).Name)), .mu 3400001 (gk (f13 3) 0 1) 6 0 (((impl_LinkTube p0 (laws_toFlyPath p1) p2).Boxes).map ProbeBox.row).length])), (2800001, some (gk (f10 4) 0 1, .arr 6 (((spec_LinkTube p0 (laws_toFlyPath p1) p2).Boxes).map ProbeBox.row))), (3000002, some (gk (f12 1) 0 2, .arr 7 (((laws_toFlyPath p1).Steps).map FlyStep.row))), (3400001, some (gk (f13 3) 0 1, .arr 6 (((impl_LinkTube p0 (laws_toFlyPath p1) p2).Boxes).map ProbeBox.row)))], 82⟩) (fun f => by kernel_rfl) (fun f => by kernel_rfl) (fun f => by kernel_rfl) fun f18 => ?_
  refine w_cond rfl (fun h19 => ?_) fun h19 => ?_
  · rw [if_pos h19] at hR
    refine xr hT [] (fun f20 => ⟨[(6, .one (.c (.v (.bool false))))], [], 82⟩) (fun f => by kernel_rfl) (fun f => by kernel_rfl) fun f20 => ?_
    refine w_ret ?_
    subst hR
    exact x_ret (by kernel_rfl)
  rw [if_neg (nt h19)] at hR
  refine w_skip ?_
  refine xr hT [] (fun f21 => ⟨[(0, .one (.c (.v (.string p0)))), (2, .one (.c (.v (.int .i64 p2)))), (4, .one (.pt 4 (f1 0 0) 0)), (8, .one (.pt 8 (f10 5 0) 0)), (9, .one (.pt 9 (f12 2 0) 0)), (10, .one (.pt 10 (f13 4 0) 0)), (11, .one (.c (.v (.int .i64 1))))], [(4, some (f1 0 0, .box (FlyPath.cs .bor p1))), (8, some (f10 5 0, .box [.v (.string ((spec_LinkTube p0 (laws_toFlyPath p1) p2).Name)), .mu 2800001 (gk (f10 4) 0 1) 6 0 (((spec_LinkTube p0 (laws_toFlyPath p1) p2).Boxes).map ProbeBox.row).length])), (9, some (f12 2 0, .box [.v (.int .i64 ((laws_toFlyPath p1).Kind.Quick)), .v (.int .i64 ((laws_toFlyPath p1).Kind.Slow)), .mu 3000002 (gk (f12 1) 0 2) 7 0 (((laws_toFlyPath p1).Steps).map FlyStep.row).length, .v (.int .i64 ((laws_toFlyPath p1).From)), .v (.int .i64 ((laws_toFlyPath p1).By))])), (10, some (f13 4 0, .box [.v (.string ((impl_LinkTube p0 (laws_toFlyPath p1) p2).Name)), .mu 3400001 (gk (f13 3) 0 1) 6 0 (((impl_LinkTube p0 (laws_toFlyPath p1) p2).Boxes).map ProbeBox.row).length])), (2800001, some (gk (f10 4) 0 1, .arr 6 (((spec_LinkTube p0 (laws_toFlyPath p1) p2).Boxes).map ProbeBox.row))), (3000002, some (gk (f12 1) 0 2, .arr 7 (((laws_toFlyPath p1).Steps).map FlyStep.row))), (3400001, some (gk (f13 3) 0 1, .arr 6 (((impl_LinkTube p0 (laws_toFlyPath p1) p2).Boxes).map ProbeBox.row)))], 82⟩) (fun f => by kernel_rfl) (fun f => by kernel_rfl) fun f21 => ?_
  refine xr hT [ca (c28 (laws_toFlyPath p1) 1 (by first | assumption | exact (show ((laws_toFlyPath p1).Steps).length ≤ 1048576 from by (try simp only [LN, f_laws_markFlyPath, f_laws_markProbeTube, f_laws_toFlyPath, spec_LinkTube, laws_FnExactLinkTube_v1, laws_FnExactLinkTube_v2]); omega)))] (fun f22 => ⟨[(0, .one (.c (.v (.string p0)))), (2, .one (.c (.v (.int .i64 p2)))), (4, .one (.pt 4 (f1 0 0) 0)), (8, .one (.pt 8 (f10 5 0) 0)), (10, .one (.pt 10 (f13 4 0) 0)), (11, .one (.c (.v (.int .i64 ((laws_markFlyPath (laws_toFlyPath p1) 1).1)))))], [(4, some (f1 0 0, .box (FlyPath.cs .bor p1))), (8, some (f10 5 0, .box [.v (.string ((spec_LinkTube p0 (laws_toFlyPath p1) p2).Name)), .mu 2800001 (gk (f10 4) 0 1) 6 0 (((spec_LinkTube p0 (laws_toFlyPath p1) p2).Boxes).map ProbeBox.row).length])), (10, some (f13 4 0, .box [.v (.string ((impl_LinkTube p0 (laws_toFlyPath p1) p2).Name)), .mu 3400001 (gk (f13 3) 0 1) 6 0 (((impl_LinkTube p0 (laws_toFlyPath p1) p2).Boxes).map ProbeBox.row).length])), (2800001, some (gk (f10 4) 0 1, .arr 6 (((spec_LinkTube p0 (laws_toFlyPath p1) p2).Boxes).map ProbeBox.row))), (3400001, some (gk (f13 3) 0 1, .arr 6 (((impl_LinkTube p0 (laws_toFlyPath p1) p2).Boxes).map ProbeBox.row)))], 82⟩) (fun f => by kernel_rfl) (fun f => by kernel_rfl) fun f22 => ?_
  refine w_seq ?_
  refine xr hT [cg (!(decide (((laws_markFlyPath (laws_toFlyPath p1) 1).1) < 0))) (fun h => by (try simp only [Bool.and_eq_true, Bool.or_eq_true, decide_eq_true_eq, Bool.not_eq_true', decide_eq_false_iff_not] at h); exact c26 (impl_LinkTube p0 (laws_toFlyPath p1) p2) (spec_LinkTube p0 (laws_toFlyPath p1) p2) (by first | assumption | exact (show ((impl_LinkTube p0 (laws_toFlyPath p1) p2).Boxes).length ≤ 1048576 from by (try simp only [LN, f_laws_markFlyPath, f_laws_markProbeTube, f_laws_toFlyPath, spec_LinkTube, laws_FnExactLinkTube_v1, laws_FnExactLinkTube_v2]); omega)) (by first | assumption | exact (show ((spec_LinkTube p0 (laws_toFlyPath p1) p2).Boxes).length ≤ 1048576 from by (try simp only [LN, f_laws_markFlyPath, f_laws_markProbeTube, f_laws_toFlyPath, spec_LinkTube, laws_FnExactLinkTube_v1, laws_FnExactLinkTube_v2]); omega)))] (fun f23 => ⟨[(0, .one (.c (.v (.string p0)))), (2, .one (.c (.v (.int .i64 p2)))), (4, .one (.pt 4 (f1 0 0) 0)), (8, .one (.pt 8 (f10 5 0) 0)), (10, .one (.pt 10 (f13 4 0) 0)), (53, .one (.c (.v (.bool (laws_FnExactLinkTube_v1 p0 p1 p2)))))], [(4, some (f1 0 0, .box (FlyPath.cs .bor p1))), (8, some (f10 5 0, .box [.v (.string ((spec_LinkTube p0 (laws_toFlyPath p1) p2).Name)), .mu 2800001 (gk (f10 4) 0 1) 6 0 (((spec_LinkTube p0 (laws_toFlyPath p1) p2).Boxes).map ProbeBox.row).length])), (10, some (f13 4 0, .box [.v (.string ((impl_LinkTube p0 (laws_toFlyPath p1) p2).Name)), .mu 3400001 (gk (f13 3) 0 1) 6 0 (((impl_LinkTube p0 (laws_toFlyPath p1) p2).Boxes).map ProbeBox.row).length])), (2800001, some (gk (f10 4) 0 1, .arr 6 (((spec_LinkTube p0 (laws_toFlyPath p1) p2).Boxes).map ProbeBox.row))), (3400001, some (gk (f13 3) 0 1, .arr 6 (((impl_LinkTube p0 (laws_toFlyPath p1) p2).Boxes).map ProbeBox.row)))], 82⟩) (fun f => by kernel_rfl) (fun f => by kernel_rfl) fun f23 => ?_
  refine w_cond rfl (fun h24 => ?_) fun h24 => ?_
  · rw [if_pos h24] at hR
    have gh24 := h24; try simp only [laws_FnExactLinkTube_v1, Bool.not_eq_true', Bool.not_eq_false', decide_eq_true_eq, decide_eq_false_iff_not, Bool.and_eq_true, Bool.or_eq_true, Bool.and_eq_false_iff, Bool.or_eq_false_iff] at gh24
    refine xr hT [] (fun f25 => ⟨[(6, .one (.c (.v (.bool false))))], [], 82⟩) (fun f => by kernel_rfl) (fun f => by kernel_rfl) fun f25 => ?_
    refine w_ret ?_
    subst hR
    exact x_ret (by kernel_rfl)
  rw [if_neg (nt h24)] at hR
  have gh24 := h24; try simp only [laws_FnExactLinkTube_v1, Bool.not_eq_true', Bool.not_eq_false', decide_eq_true_eq, decide_eq_false_iff_not, Bool.and_eq_true, Bool.or_eq_true, Bool.and_eq_false_iff, Bool.or_eq_false_iff] at gh24
  refine w_skip ?_
  refine xr hT [] (fun f26 => ⟨[(0, .one (.c (.v (.string p0)))), (2, .one (.c (.v (.int .i64 p2)))), (4, .one (.pt 4 (f1 0 0) 0)), (8, .one (.pt 8 (f10 5 0) 0)), (10, .one (.pt 10 (f13 4 0) 0)), (12, .one (.c (.v (.int .i64 1))))], [(4, some (f1 0 0, .box (FlyPath.cs .bor p1))), (8, some (f10 5 0, .box [.v (.string ((spec_LinkTube p0 (laws_toFlyPath p1) p2).Name)), .mu 2800001 (gk (f10 4) 0 1) 6 0 (((spec_LinkTube p0 (laws_toFlyPath p1) p2).Boxes).map ProbeBox.row).length])), (10, some (f13 4 0, .box [.v (.string ((impl_LinkTube p0 (laws_toFlyPath p1) p2).Name)), .mu 3400001 (gk (f13 3) 0 1) 6 0 (((impl_LinkTube p0 (laws_toFlyPath p1) p2).Boxes).map ProbeBox.row).length])), (2800001, some (gk (f10 4) 0 1, .arr 6 (((spec_LinkTube p0 (laws_toFlyPath p1) p2).Boxes).map ProbeBox.row))), (3400001, some (gk (f13 3) 0 1, .arr 6 (((impl_LinkTube p0 (laws_toFlyPath p1) p2).Boxes).map ProbeBox.row)))], 82⟩) (fun f => by kernel_rfl) (fun f => by kernel_rfl) fun f26 => ?_
  refine xr hT [ca (c29 (impl_LinkTube p0 (laws_toFlyPath p1) p2) 1 (by first | assumption | exact (show ((impl_LinkTube p0 (laws_toFlyPath p1) p2).Boxes).length ≤ 1048576 from by (try simp only [LN, f_laws_markFlyPath, f_laws_markProbeTube, f_laws_toFlyPath, spec_LinkTube, laws_FnExactLinkTube_v1, laws_FnExactLinkTube_v2]); omega)))] (fun f27 => ⟨[(0, .one (.c (.v (.string p0)))), (2, .one (.c (.v (.int .i64 p2)))), (4, .one (.pt 4 (f1 0 0) 0)), (8, .one (.pt 8 (f10 5 0) 0)), (10, .one (.pt 10 (f13 4 0) 0)), (12, .one (.c (.v (.int .i64 ((laws_markProbeTube (impl_LinkTube p0 (laws_toFlyPath p1) p2) 1).1)))))], [(4, some (f1 0 0, .box (FlyPath.cs .bor p1))), (8, some (f10 5 0, .box [.v (.string ((spec_LinkTube p0 (laws_toFlyPath p1) p2).Name)), .mu 2800001 (gk (f10 4) 0 1) 6 0 (((spec_LinkTube p0 (laws_toFlyPath p1) p2).Boxes).map ProbeBox.row).length])), (10, some (f13 4 0, .box [.v (.string ((impl_LinkTube p0 (laws_toFlyPath p1) p2).Name)), .mu 3400001 (gk (f13 3) 0 1) 6 0 (((impl_LinkTube p0 (laws_toFlyPath p1) p2).Boxes).map ProbeBox.row).length])), (2800001, some (gk (f10 4) 0 1, .arr 6 (((spec_LinkTube p0 (laws_toFlyPath p1) p2).Boxes).map ProbeBox.row))), (3400001, some (gk (f13 3) 0 1, .arr 6 ((((laws_markProbeTube (impl_LinkTube p0 (laws_toFlyPath p1) p2) 1).2).Boxes).map ProbeBox.row)))], 82⟩) (fun f => by kernel_rfl) (fun f => by kernel_rfl) fun f27 => ?_
  refine w_sub (s := ⟨[(0, .one (.c (.v (.string p0)))), (2, .one (.c (.v (.int .i64 p2)))), (4, .one (.pt 4 (f1 0 0) 0)), (8, .one (.pt 8 (f10 5 0) 0)), (10, .one (.pt 10 (f13 4 0) 0)), (12, .one (.c (.v (.int .i64 ((laws_markProbeTube (impl_LinkTube p0 (laws_toFlyPath p1) p2) 1).1)))))], [(4, some (f1 0 0, .box (FlyPath.cs .bor p1))), (8, some (f10 5 0, .box [.v (.string ((spec_LinkTube p0 (laws_toFlyPath p1) p2).Name)), .mu 2800001 (gk (f10 4) 0 1) 6 0 (((spec_LinkTube p0 (laws_toFlyPath p1) p2).Boxes).map ProbeBox.row).length])), (10, some (f13 4 0, .box [.v (.string ((impl_LinkTube p0 (laws_toFlyPath p1) p2).Name)), .mu 3400001 (gk (f13 3) 0 1) 6 0 ((((laws_markProbeTube (impl_LinkTube p0 (laws_toFlyPath p1) p2) 1).2).Boxes).map ProbeBox.row).length])), (2800001, some (gk (f10 4) 0 1, .arr 6 (((spec_LinkTube p0 (laws_toFlyPath p1) p2).Boxes).map ProbeBox.row))), (3400001, some (gk (f13 3) 0 1, .arr 6 ((((laws_markProbeTube (impl_LinkTube p0 (laws_toFlyPath p1) p2) 1).2).Boxes).map ProbeBox.row)))], 82⟩) (cst (by simp only [LN, f_laws_markFlyPath, f_laws_markProbeTube, f_laws_toFlyPath, spec_LinkTube, laws_FnExactLinkTube_v1, laws_FnExactLinkTube_v2]) (sb (s := ⟨[(0, .one (.c (.v (.string p0)))), (2, .one (.c (.v (.int .i64 p2)))), (4, .one (.pt 4 (f1 0 0) 0)), (8, .one (.pt 8 (f10 5 0) 0)), (10, .one (.pt 10 (f13 4 0) 0)), (12, .one (.c (.v (.int .i64 ((laws_markProbeTube (impl_LinkTube p0 (laws_toFlyPath p1) p2) 1).1)))))], [(4, some (f1 0 0, .box (FlyPath.cs .bor p1))), (8, some (f10 5 0, .box [.v (.string ((spec_LinkTube p0 (laws_toFlyPath p1) p2).Name)), .mu 2800001 (gk (f10 4) 0 1) 6 0 (((spec_LinkTube p0 (laws_toFlyPath p1) p2).Boxes).map ProbeBox.row).length])), (10, some (f13 4 0, .box [.v (.string ((impl_LinkTube p0 (laws_toFlyPath p1) p2).Name)), .mu 3400001 (gk (f13 3) 0 1) 6 0 (((impl_LinkTube p0 (laws_toFlyPath p1) p2).Boxes).map ProbeBox.row).length])), (2800001, some (gk (f10 4) 0 1, .arr 6 (((spec_LinkTube p0 (laws_toFlyPath p1) p2).Boxes).map ProbeBox.row))), (3400001, some (gk (f13 3) 0 1, .arr 6 ((((laws_markProbeTube (impl_LinkTube p0 (laws_toFlyPath p1) p2) 1).2).Boxes).map ProbeBox.row)))], 82⟩) (by kernel_rfl))) ?_
  refine xr hT [] (fun f28 => ⟨[(0, .one (.c (.v (.string p0)))), (2, .one (.c (.v (.int .i64 p2)))), (4, .one (.pt 4 (f1 0 0) 0)), (8, .one (.pt 8 (f10 5 0) 0)), (10, .one (.pt 10 (f13 4 0) 0)), (12, .one (.c (.v (.int .i64 ((laws_markProbeTube (impl_LinkTube p0 (laws_toFlyPath p1) p2) 1).1))))), (13, .one (.c (.v (.int .i64 1))))], [(4, some (f1 0 0, .box (FlyPath.cs .bor p1))), (8, some (f10 5 0, .box [.v (.string ((spec_LinkTube p0 (laws_toFlyPath p1) p2).Name)), .mu 2800001 (gk (f10 4) 0 1) 6 0 (((spec_LinkTube p0 (laws_toFlyPath p1) p2).Boxes).map ProbeBox.row).length])), (10, some (f13 4 0, .box [.v (.string ((impl_LinkTube p0 (laws_toFlyPath p1) p2).Name)), .mu 3400001 (gk (f13 3) 0 1) 6 0 ((((laws_markProbeTube (impl_LinkTube p0 (laws_toFlyPath p1) p2) 1).2).Boxes).map ProbeBox.row).length])), (2800001, some (gk (f10 4) 0 1, .arr 6 (((spec_LinkTube p0 (laws_toFlyPath p1) p2).Boxes).map ProbeBox.row))), (3400001, some (gk (f13 3) 0 1, .arr 6 ((((laws_markProbeTube (impl_LinkTube p0 (laws_toFlyPath p1) p2) 1).2).Boxes).map ProbeBox.row)))], 82⟩) (fun f => by kernel_rfl) (fun f => by kernel_rfl) fun f28 => ?_
  refine xr hT [ca (c30 (⟨(impl_LinkTube p0 (laws_toFlyPath p1) p2).Name, ((laws_markProbeTube (impl_LinkTube p0 (laws_toFlyPath p1) p2) 1).2).Boxes⟩ : ProbeTube) 1 (by first | assumption | exact (show (((laws_markProbeTube (impl_LinkTube p0 (laws_toFlyPath p1) p2) 1).2).Boxes).length ≤ 1048576 from by (try simp only [LN, f_laws_markFlyPath, f_laws_markProbeTube, f_laws_toFlyPath, spec_LinkTube, laws_FnExactLinkTube_v1, laws_FnExactLinkTube_v2]); omega)))] (fun f29 => ⟨[(0, .one (.c (.v (.string p0)))), (2, .one (.c (.v (.int .i64 p2)))), (4, .one (.pt 4 (f1 0 0) 0)), (8, .one (.pt 8 (f10 5 0) 0)), (10, .one (.pt 10 (f13 4 0) 0)), (12, .one (.c (.v (.int .i64 ((laws_markProbeTube (impl_LinkTube p0 (laws_toFlyPath p1) p2) 1).1))))), (13, .one (.c (.v (.int .i64 (laws_FnExactLinkTube_v2 p0 p1 p2)))))], [(4, some (f1 0 0, .box (FlyPath.cs .bor p1))), (8, some (f10 5 0, .box [.v (.string ((spec_LinkTube p0 (laws_toFlyPath p1) p2).Name)), .mu 2800001 (gk (f10 4) 0 1) 6 0 (((spec_LinkTube p0 (laws_toFlyPath p1) p2).Boxes).map ProbeBox.row).length])), (10, some (f13 4 0, .box [.v (.string ((impl_LinkTube p0 (laws_toFlyPath p1) p2).Name)), .mu 3400001 (gk (f13 3) 0 1) 6 0 ((((laws_markProbeTube (impl_LinkTube p0 (laws_toFlyPath p1) p2) 1).2).Boxes).map ProbeBox.row).length])), (2800001, some (gk (f10 4) 0 1, .arr 6 (((spec_LinkTube p0 (laws_toFlyPath p1) p2).Boxes).map ProbeBox.row))), (3400001, some (gk (f13 3) 0 1, .arr 6 ((((laws_markProbeTube (impl_LinkTube p0 (laws_toFlyPath p1) p2) 1).2).Boxes).map ProbeBox.row)))], 82⟩) (fun f => by kernel_rfl) (fun f => by kernel_rfl) fun f29 => ?_
  refine w_seq ?_
  refine xr hT [] (fun f30 => ⟨[(0, .one (.c (.v (.string p0)))), (2, .one (.c (.v (.int .i64 p2)))), (4, .one (.pt 4 (f1 0 0) 0)), (8, .one (.pt 8 (f10 5 0) 0)), (10, .one (.pt 10 (f13 4 0) 0)), (12, .one (.c (.v (.int .i64 ((laws_markProbeTube (impl_LinkTube p0 (laws_toFlyPath p1) p2) 1).1))))), (13, .one (.c (.v (.int .i64 (laws_FnExactLinkTube_v2 p0 p1 p2))))), (61, .one (.c (.v (.bool (decide ((laws_FnExactLinkTube_v2 p0 p1 p2) < 0))))))], [(4, some (f1 0 0, .box (FlyPath.cs .bor p1))), (8, some (f10 5 0, .box [.v (.string ((spec_LinkTube p0 (laws_toFlyPath p1) p2).Name)), .mu 2800001 (gk (f10 4) 0 1) 6 0 (((spec_LinkTube p0 (laws_toFlyPath p1) p2).Boxes).map ProbeBox.row).length])), (10, some (f13 4 0, .box [.v (.string ((impl_LinkTube p0 (laws_toFlyPath p1) p2).Name)), .mu 3400001 (gk (f13 3) 0 1) 6 0 ((((laws_markProbeTube (impl_LinkTube p0 (laws_toFlyPath p1) p2) 1).2).Boxes).map ProbeBox.row).length])), (2800001, some (gk (f10 4) 0 1, .arr 6 (((spec_LinkTube p0 (laws_toFlyPath p1) p2).Boxes).map ProbeBox.row))), (3400001, some (gk (f13 3) 0 1, .arr 6 ((((laws_markProbeTube (impl_LinkTube p0 (laws_toFlyPath p1) p2) 1).2).Boxes).map ProbeBox.row)))], 82⟩) (fun f => by kernel_rfl) (fun f => by kernel_rfl) fun f30 => ?_
  refine w_cond rfl (fun h31 => ?_) fun h31 => ?_
  · rw [if_pos h31] at hR
    have gh31 := of_decide_eq_true h31
    refine xr hT [] (fun f32 => ⟨[(6, .one (.c (.v (.bool false))))], [], 82⟩) (fun f => by kernel_rfl) (fun f => by kernel_rfl) fun f32 => ?_
    refine w_ret ?_
    subst hR
    exact x_ret (by kernel_rfl)
  rw [if_neg (nt h31)] at hR
  have gh31 := of_decide_eq_false h31
  refine w_skip ?_
  refine w_seq ?_
  refine xr hT [] (fun f33 => ⟨[(0, .one (.c (.v (.string p0)))), (2, .one (.c (.v (.int .i64 p2)))), (4, .one (.pt 4 (f1 0 0) 0)), (8, .one (.pt 8 (f10 5 0) 0)), (10, .one (.pt 10 (f13 4 0) 0)), (12, .one (.c (.v (.int .i64 ((laws_markProbeTube (impl_LinkTube p0 (laws_toFlyPath p1) p2) 1).1))))), (64, .one (.c (.v (.bool (!decide ((laws_FnExactLinkTube_v2 p0 p1 p2) = ((laws_markProbeTube (impl_LinkTube p0 (laws_toFlyPath p1) p2) 1).1)))))))], [(4, some (f1 0 0, .box (FlyPath.cs .bor p1))), (8, some (f10 5 0, .box [.v (.string ((spec_LinkTube p0 (laws_toFlyPath p1) p2).Name)), .mu 2800001 (gk (f10 4) 0 1) 6 0 (((spec_LinkTube p0 (laws_toFlyPath p1) p2).Boxes).map ProbeBox.row).length])), (10, some (f13 4 0, .box [.v (.string ((impl_LinkTube p0 (laws_toFlyPath p1) p2).Name)), .mu 3400001 (gk (f13 3) 0 1) 6 0 ((((laws_markProbeTube (impl_LinkTube p0 (laws_toFlyPath p1) p2) 1).2).Boxes).map ProbeBox.row).length])), (2800001, some (gk (f10 4) 0 1, .arr 6 (((spec_LinkTube p0 (laws_toFlyPath p1) p2).Boxes).map ProbeBox.row))), (3400001, some (gk (f13 3) 0 1, .arr 6 ((((laws_markProbeTube (impl_LinkTube p0 (laws_toFlyPath p1) p2) 1).2).Boxes).map ProbeBox.row)))], 82⟩) (fun f => by kernel_rfl) (fun f => by kernel_rfl) fun f33 => ?_
  refine w_cond rfl (fun h34 => ?_) fun h34 => ?_
  · rw [if_pos h34] at hR
    have gh34 := nd1 h34
    refine xr hT [] (fun f35 => ⟨[(6, .one (.c (.v (.bool false))))], [], 82⟩) (fun f => by kernel_rfl) (fun f => by kernel_rfl) fun f35 => ?_
    refine w_ret ?_
    subst hR
    exact x_ret (by kernel_rfl)
  rw [if_neg (nt h34)] at hR
  have gh34 := nd0 h34
  refine w_skip ?_
  have w37 := f_impl_LinkTube p0 (laws_toFlyPath p1) p2 (by first | assumption | exact (show ((laws_toFlyPath p1).Steps).length ≤ 1048576 from by (try simp only [LN, f_laws_markFlyPath, f_laws_markProbeTube, f_laws_toFlyPath, spec_LinkTube, laws_FnExactLinkTube_v1, laws_FnExactLinkTube_v2]); omega))
  have w37' := w37; try simp only [LN, f_laws_markFlyPath, f_laws_markProbeTube, f_laws_toFlyPath, spec_LinkTube, laws_FnExactLinkTube_v1, laws_FnExactLinkTube_v2] at w37'
  refine xr hT [ca (c24 p1 (by first | assumption | exact (by omega : p1.Steps.length ≤ 1048576))), ca (c25 p0 (laws_toFlyPath p1) p2 (by first | assumption | exact (show ((laws_toFlyPath p1).Steps).length ≤ 1048576 from by (try simp only [LN, f_laws_markFlyPath, f_laws_markProbeTube, f_laws_toFlyPath, spec_LinkTube, laws_FnExactLinkTube_v1, laws_FnExactLinkTube_v2]); omega)))] (fun f36 => ⟨[(8, .one (.pt 8 (f10 5 0) 0)), (10, .one (.pt 10 (f13 4 0) 0)), (12, .one (.c (.v (.int .i64 ((laws_markProbeTube (impl_LinkTube p0 (laws_toFlyPath p1) p2) 1).1))))), (14, .one (.pt 14 (f36 5 0) 0))], [(8, some (f10 5 0, .box [.v (.string ((spec_LinkTube p0 (laws_toFlyPath p1) p2).Name)), .mu 2800001 (gk (f10 4) 0 1) 6 0 (((spec_LinkTube p0 (laws_toFlyPath p1) p2).Boxes).map ProbeBox.row).length])), (10, some (f13 4 0, .box [.v (.string ((impl_LinkTube p0 (laws_toFlyPath p1) p2).Name)), .mu 3400001 (gk (f13 3) 0 1) 6 0 ((((laws_markProbeTube (impl_LinkTube p0 (laws_toFlyPath p1) p2) 1).2).Boxes).map ProbeBox.row).length])), (14, some (f36 5 0, .box [.v (.string ((impl_LinkTube p0 (laws_toFlyPath p1) p2).Name)), .mu 7000001 (gk (f36 4) 0 1) 6 0 (((impl_LinkTube p0 (laws_toFlyPath p1) p2).Boxes).map ProbeBox.row).length])), (2800001, some (gk (f10 4) 0 1, .arr 6 (((spec_LinkTube p0 (laws_toFlyPath p1) p2).Boxes).map ProbeBox.row))), (3400001, some (gk (f13 3) 0 1, .arr 6 ((((laws_markProbeTube (impl_LinkTube p0 (laws_toFlyPath p1) p2) 1).2).Boxes).map ProbeBox.row))), (7000001, some (gk (f36 4) 0 1, .arr 6 (((impl_LinkTube p0 (laws_toFlyPath p1) p2).Boxes).map ProbeBox.row)))], 82⟩) (fun f => by kernel_rfl) (fun f => by kernel_rfl) fun f36 => ?_
  refine w_seq ?_
  refine xr hT [ca (c26 (impl_LinkTube p0 (laws_toFlyPath p1) p2) (spec_LinkTube p0 (laws_toFlyPath p1) p2) (by first | assumption | exact (show ((impl_LinkTube p0 (laws_toFlyPath p1) p2).Boxes).length ≤ 1048576 from by (try simp only [LN, f_laws_markFlyPath, f_laws_markProbeTube, f_laws_toFlyPath, spec_LinkTube, laws_FnExactLinkTube_v1, laws_FnExactLinkTube_v2]); omega)) (by first | assumption | exact (show ((spec_LinkTube p0 (laws_toFlyPath p1) p2).Boxes).length ≤ 1048576 from by (try simp only [LN, f_laws_markFlyPath, f_laws_markProbeTube, f_laws_toFlyPath, spec_LinkTube, laws_FnExactLinkTube_v1, laws_FnExactLinkTube_v2]); omega)))] (fun f38 => ⟨[(10, .one (.pt 10 (f13 4 0) 0)), (12, .one (.c (.v (.int .i64 ((laws_markProbeTube (impl_LinkTube p0 (laws_toFlyPath p1) p2) 1).1))))), (73, .one (.c (.v (.bool (!(laws_eqProbeTube (impl_LinkTube p0 (laws_toFlyPath p1) p2) (spec_LinkTube p0 (laws_toFlyPath p1) p2)))))))], [(10, some (f13 4 0, .box [.v (.string ((impl_LinkTube p0 (laws_toFlyPath p1) p2).Name)), .mu 3400001 (gk (f13 3) 0 1) 6 0 ((((laws_markProbeTube (impl_LinkTube p0 (laws_toFlyPath p1) p2) 1).2).Boxes).map ProbeBox.row).length])), (3400001, some (gk (f13 3) 0 1, .arr 6 ((((laws_markProbeTube (impl_LinkTube p0 (laws_toFlyPath p1) p2) 1).2).Boxes).map ProbeBox.row)))], 82⟩) (fun f => by kernel_rfl) (fun f => by kernel_rfl) fun f38 => ?_
  refine w_cond rfl (fun h39 => ?_) fun h39 => ?_
  · rw [if_pos h39] at hR
    refine xr hT [] (fun f40 => ⟨[(6, .one (.c (.v (.bool false))))], [], 82⟩) (fun f => by kernel_rfl) (fun f => by kernel_rfl) fun f40 => ?_
    refine w_ret ?_
    subst hR
    exact x_ret (by kernel_rfl)
  rw [if_neg (nt h39)] at hR
  refine w_skip ?_
  refine xr hT [] (fun f41 => ⟨[(10, .one (.pt 10 (f13 4 0) 0)), (12, .one (.c (.v (.int .i64 ((laws_markProbeTube (impl_LinkTube p0 (laws_toFlyPath p1) p2) 1).1))))), (13, .one (.c (.v (.int .i64 1))))], [(10, some (f13 4 0, .box [.v (.string ((impl_LinkTube p0 (laws_toFlyPath p1) p2).Name)), .mu 3400001 (gk (f13 3) 0 1) 6 0 ((((laws_markProbeTube (impl_LinkTube p0 (laws_toFlyPath p1) p2) 1).2).Boxes).map ProbeBox.row).length])), (3400001, some (gk (f13 3) 0 1, .arr 6 ((((laws_markProbeTube (impl_LinkTube p0 (laws_toFlyPath p1) p2) 1).2).Boxes).map ProbeBox.row)))], 82⟩) (fun f => by kernel_rfl) (fun f => by kernel_rfl) fun f41 => ?_
  refine xr hT [ca (c30 (⟨(impl_LinkTube p0 (laws_toFlyPath p1) p2).Name, ((laws_markProbeTube (impl_LinkTube p0 (laws_toFlyPath p1) p2) 1).2).Boxes⟩ : ProbeTube) 1 (by first | assumption | exact (show (((laws_markProbeTube (impl_LinkTube p0 (laws_toFlyPath p1) p2) 1).2).Boxes).length ≤ 1048576 from by (try simp only [LN, f_laws_markFlyPath, f_laws_markProbeTube, f_laws_toFlyPath, spec_LinkTube, laws_FnExactLinkTube_v1, laws_FnExactLinkTube_v2]); omega)))] (fun f42 => ⟨[(12, .one (.c (.v (.int .i64 ((laws_markProbeTube (impl_LinkTube p0 (laws_toFlyPath p1) p2) 1).1))))), (13, .one (.c (.v (.int .i64 (laws_FnExactLinkTube_v2 p0 p1 p2)))))], [], 82⟩) (fun f => by kernel_rfl) (fun f => by kernel_rfl) fun f42 => ?_
  refine w_seq ?_
  refine xr hT [] (fun f43 => ⟨[(12, .one (.c (.v (.int .i64 ((laws_markProbeTube (impl_LinkTube p0 (laws_toFlyPath p1) p2) 1).1))))), (13, .one (.c (.v (.int .i64 (laws_FnExactLinkTube_v2 p0 p1 p2))))), (78, .one (.c (.v (.bool (decide ((laws_FnExactLinkTube_v2 p0 p1 p2) < 0))))))], [], 82⟩) (fun f => by kernel_rfl) (fun f => by kernel_rfl) fun f43 => ?_
  refine w_cond rfl (fun h44 => ?_) fun h44 => ?_
  · rw [if_pos h44] at hR
    have gh44 := of_decide_eq_true h44
    refine xr hT [] (fun f45 => ⟨[(6, .one (.c (.v (.bool false))))], [], 82⟩) (fun f => by kernel_rfl) (fun f => by kernel_rfl) fun f45 => ?_
    refine w_ret ?_
    subst hR
    exact x_ret (by kernel_rfl)
  rw [if_neg (nt h44)] at hR
  have gh44 := of_decide_eq_false h44
  refine w_skip ?_
  refine w_seq ?_
  refine xr hT [] (fun f46 => ⟨[(81, .one (.c (.v (.bool (!decide ((laws_FnExactLinkTube_v2 p0 p1 p2) = ((laws_markProbeTube (impl_LinkTube p0 (laws_toFlyPath p1) p2) 1).1)))))))], [], 82⟩) (fun f => by kernel_rfl) (fun f => by kernel_rfl) fun f46 => ?_
  refine w_cond rfl (fun h47 => ?_) fun h47 => ?_
  · rw [if_pos h47] at hR
    have gh47 := nd1 h47
    refine xr hT [] (fun f48 => ⟨[(6, .one (.c (.v (.bool false))))], [], 82⟩) (fun f => by kernel_rfl) (fun f => by kernel_rfl) fun f48 => ?_
    refine w_ret ?_
    subst hR
    exact x_ret (by kernel_rfl)
  rw [if_neg (nt h47)] at hR
  have gh47 := nd0 h47
  refine w_skip ?_
  refine xr hT [] (fun f49 => ⟨[(6, .one (.c (.v (.bool true))))], [], 82⟩) (fun f => by kernel_rfl) (fun f => by kernel_rfl) fun f49 => ?_
  refine w_ret ?_
  subst hR
  exact x_ret (by kernel_rfl)

def laws_heldFlyStepS_I1 (p0 : (List FlyStep)) (p1 : Int) (fs : Nat → Nat → Nat) (i1 : Nat) (s1 : Int) (x1 : Nat → Nat) : St := ⟨[(0, .one (.c (.sl .bor 7 (p0.map FlyStep.row)))), (1, .one (.c (.v (.int .i64 s1)))), (5, .one (.c (.v (.int .i64 ((i1 : Nat) : Int)))))], [], 78⟩
def laws_heldFlyStepS_J1 (p0 : (List FlyStep)) (p1 : Int) (fs : Nat → Nat → Nat) (s1 : Int) (x1 : Nat → Nat) : St := ⟨[(1, .one (.c (.v (.int .i64 s1))))], [], 78⟩
def laws_heldFlyStepS_b1 (p0 : (List FlyStep)) (p1 : Int) (i1 : Nat) (s1 : Int) : Res (Int) Int := (if !decide (((p0.getD i1 default).X) = s1) then (.ret (-1)) else (if !decide (((p0.getD i1 default).Y) = (wr (s1 + 1))) then (.ret (-1)) else (if !decide (((p0.getD i1 default).Low) = (wr ((wr (s1 + 1)) + 1))) then (.ret (-1)) else (if !decide (((p0.getD i1 default).High) = (wr ((wr ((wr (s1 + 1)) + 1)) + 1))) then (.ret (-1)) else (if !decide (((p0.getD i1 default).From) = (wr ((wr ((wr ((wr (s1 + 1)) + 1)) + 1)) + 1))) then (.ret (-1)) else (if !decide (((p0.getD i1 default).By) = (wr ((wr ((wr ((wr ((wr (s1 + 1)) + 1)) + 1)) + 1)) + 1))) then (.ret (-1)) else (if !(((p0.getD i1 default).Hold) == (decide ((Int.tmod (wr ((wr ((wr ((wr ((wr ((wr (s1 + 1)) + 1)) + 1)) + 1)) + 1)) + 1)) 3) = 0))) then (.ret (-1)) else (.next (wr ((wr ((wr ((wr ((wr ((wr ((wr (s1 + 1)) + 1)) + 1)) + 1)) + 1)) + 1)) + 1))))))))))
def laws_heldFlyStepS_r1 (p0 : (List FlyStep)) (p1 : Int) (s1 : Int) : Int := s1
/-- laws.heldFlyStepS -/
def laws_heldFlyStepS (p0 : (List FlyStep)) (p1 : Int) : Int := (Res.fin (laws_heldFlyStepS_r1 p0 p1) (forN (laws_heldFlyStepS_b1 p0 p1) (p0.length - 0) 0 p1))
theorem c185 (p0 : (List FlyStep)) (p1 : Int) (k0_0 : p0.length ≤ 1048576) : Fn Proofs.Try.prog 185 [⟨.val, false, [.sl .bor 7 (p0.map FlyStep.row)]⟩, ⟨.val, false, [.v (.int .i64 p1)]⟩] [.c (.v (.int .i64 (laws_heldFlyStepS p0 p1)))] [] := by
  obtain ⟨R, hR⟩ : ∃ R, R = laws_heldFlyStepS p0 p1 := ⟨_, rfl⟩
  rw [← hR]
  rw [laws_heldFlyStepS] at hR
  refine ⟨fn_intro hT Proofs.Try.func185 rfl rfl fun fs => ?_, _, Proofs.Try.func185, rfl, rfl⟩
  refine xr hT [] (fun f1 => ⟨[(0, .one (.c (.sl .bor 7 (p0.map FlyStep.row)))), (1, .one (.c (.v (.int .i64 p1))))], [], 78⟩) (fun f => by kernel_rfl) (fun f => by kernel_rfl) fun f1 => ?_
  refine w_seq ?_
  refine xr hT [] (fun f2 => ⟨[(0, .one (.c (.sl .bor 7 (p0.map FlyStep.row)))), (1, .one (.c (.v (.int .i64 p1)))), (5, .one (.c (.v (.int .i64 0))))], [], 78⟩) (fun f => by kernel_rfl) (fun f => by kernel_rfl) fun f2 => ?_
  refine w_forT (fun _ => rfl) (laws_heldFlyStepS_I1 p0 p1 fs) (laws_heldFlyStepS_J1 p0 p1 fs) (fun i1 s1 => True) (fun s1 => True) (p0.length) 0 (laws_heldFlyStepS_b1 p0 p1) (laws_heldFlyStepS_r1 p0 p1) 0 (p1) (lst []) (sb (by kernel_rfl)) trivial hR ?_ ?_
  · skip
    intro i1 s1 x1 hI1 hX1
    refine w_seq ?_
    refine xr hT [.ln FlyStep.row p0] (fun f3 => ⟨[(0, .one (.c (.sl .bor 7 (p0.map FlyStep.row)))), (1, .one (.c (.v (.int .i64 s1)))), (5, .one (.c (.v (.int .i64 ((i1 : Nat) : Int))))), (9, .one (.c (.v (.bool (decide (((i1 : Nat) : Int) < (p0.length : Int)))))))], [], 78⟩) (fun f => by kernel_rfl) (fun f => by kernel_rfl) fun f3 => ?_
    refine w_cond rfl (fun h4 => ?_) fun h4 => ?_
    · skip
      have hl1 : i1 < p0.length := by have hq := of_decide_eq_true h4; first | omega | ((try simp only [LN] at *); omega)
      obtain ⟨B1, hB1⟩ : ∃ B, B = laws_heldFlyStepS_b1 p0 p1 i1 s1 := ⟨_, rfl⟩
      have hE1 := hB1
      rw [laws_heldFlyStepS_b1] at hE1
      refine w_skip ?_
      refine w_seq ?_
      refine w_block ?_
      refine w_seq ?_
      refine xr hT [ix FlyStep.row p0 i1 (by omega)] (fun f5 => ⟨[(0, .one (.c (.sl .bor 7 (p0.map FlyStep.row)))), (1, .one (.c (.v (.int .i64 s1)))), (5, .one (.c (.v (.int .i64 ((i1 : Nat) : Int))))), (18, .one (.c (.v (.bool (!decide (((p0.getD i1 default).X) = s1))))))], [], 78⟩) (fun f => by kernel_rfl) (fun f => by kernel_rfl) fun f5 => ?_
      refine w_cond rfl (fun h6 => ?_) fun h6 => ?_
      · rw [if_pos h6] at hE1
        have gh6 := nd1 h6
        refine xr hT [] (fun f7 => ⟨[(4, .one (.c (.v (.int .i64 (-1)))))], [], 78⟩) (fun f => by kernel_rfl) (fun f => by kernel_rfl) fun f7 => ?_
        refine w_ret ?_
        have hR := hX1.trans (forN_ret hl1 (hB1.symm.trans hE1))
        subst hR
        exact x_ret (by kernel_rfl)
      rw [if_neg (nt h6)] at hE1
      have gh6 := nd0 h6
      refine w_skip ?_
      refine xr hT [.wr] (fun f8 => ⟨[(0, .one (.c (.sl .bor 7 (p0.map FlyStep.row)))), (1, .one (.c (.v (.int .i64 (wr (s1 + 1)))))), (5, .one (.c (.v (.int .i64 ((i1 : Nat) : Int)))))], [], 78⟩) (fun f => by kernel_rfl) (fun f => by kernel_rfl) fun f8 => ?_
      refine w_seq ?_
      refine xr hT [ix FlyStep.row p0 i1 (by omega)] (fun f9 => ⟨[(0, .one (.c (.sl .bor 7 (p0.map FlyStep.row)))), (1, .one (.c (.v (.int .i64 (wr (s1 + 1)))))), (5, .one (.c (.v (.int .i64 ((i1 : Nat) : Int))))), (27, .one (.c (.v (.bool (!decide (((p0.getD i1 default).Y) = (wr (s1 + 1))))))))], [], 78⟩) (fun f => by kernel_rfl) (fun f => by kernel_rfl) fun f9 => ?_
      refine w_cond rfl (fun h10 => ?_) fun h10 => ?_
      · rw [if_pos h10] at hE1
        have gh10 := nd1 h10
        refine xr hT [] (fun f11 => ⟨[(4, .one (.c (.v (.int .i64 (-1)))))], [], 78⟩) (fun f => by kernel_rfl) (fun f => by kernel_rfl) fun f11 => ?_
        refine w_ret ?_
        have hR := hX1.trans (forN_ret hl1 (hB1.symm.trans hE1))
        subst hR
        exact x_ret (by kernel_rfl)
      rw [if_neg (nt h10)] at hE1
      have gh10 := nd0 h10
      refine w_skip ?_
      refine xr hT [.wr] (fun f12 => ⟨[(0, .one (.c (.sl .bor 7 (p0.map FlyStep.row)))), (1, .one (.c (.v (.int .i64 (wr ((wr (s1 + 1)) + 1)))))), (5, .one (.c (.v (.int .i64 ((i1 : Nat) : Int)))))], [], 78⟩) (fun f => by kernel_rfl) (fun f => by kernel_rfl) fun f12 => ?_
      refine w_seq ?_
      refine xr hT [ix FlyStep.row p0 i1 (by omega)] (fun f13 => ⟨[(0, .one (.c (.sl .bor 7 (p0.map FlyStep.row)))), (1, .one (.c (.v (.int .i64 (wr ((wr (s1 + 1)) + 1)))))), (5, .one (.c (.v (.int .i64 ((i1 : Nat) : Int))))), (36, .one (.c (.v (.bool (!decide (((p0.getD i1 default).Low) = (wr ((wr (s1 + 1)) + 1))))))))], [], 78⟩) (fun f => by kernel_rfl) (fun f => by kernel_rfl) fun f13 => ?_
      refine w_cond rfl (fun h14 => ?_) fun h14 => ?_
      · rw [if_pos h14] at hE1
        have gh14 := nd1 h14
        refine xr hT [] (fun f15 => ⟨[(4, .one (.c (.v (.int .i64 (-1)))))], [], 78⟩) (fun f => by kernel_rfl) (fun f => by kernel_rfl) fun f15 => ?_
        refine w_ret ?_
        have hR := hX1.trans (forN_ret hl1 (hB1.symm.trans hE1))
        subst hR
        exact x_ret (by kernel_rfl)
      rw [if_neg (nt h14)] at hE1
      have gh14 := nd0 h14
      refine w_skip ?_
      refine xr hT [.wr] (fun f16 => ⟨[(0, .one (.c (.sl .bor 7 (p0.map FlyStep.row)))), (1, .one (.c (.v (.int .i64 (wr ((wr ((wr (s1 + 1)) + 1)) + 1)))))), (5, .one (.c (.v (.int .i64 ((i1 : Nat) : Int)))))], [], 78⟩) (fun f => by kernel_rfl) (fun f => by kernel_rfl) fun f16 => ?_
      refine w_seq ?_
      refine xr hT [ix FlyStep.row p0 i1 (by omega)] (fun f17 => ⟨[(0, .one (.c (.sl .bor 7 (p0.map FlyStep.row)))), (1, .one (.c (.v (.int .i64 (wr ((wr ((wr (s1 + 1)) + 1)) + 1)))))), (5, .one (.c (.v (.int .i64 ((i1 : Nat) : Int))))), (45, .one (.c (.v (.bool (!decide (((p0.getD i1 default).High) = (wr ((wr ((wr (s1 + 1)) + 1)) + 1))))))))], [], 78⟩) (fun f => by kernel_rfl) (fun f => by kernel_rfl) fun f17 => ?_
      refine w_cond rfl (fun h18 => ?_) fun h18 => ?_
      · rw [if_pos h18] at hE1
        have gh18 := nd1 h18
        refine xr hT [] (fun f19 => ⟨[(4, .one (.c (.v (.int .i64 (-1)))))], [], 78⟩) (fun f => by kernel_rfl) (fun f => by kernel_rfl) fun f19 => ?_
        refine w_ret ?_
        have hR := hX1.trans (forN_ret hl1 (hB1.symm.trans hE1))
        subst hR
        exact x_ret (by kernel_rfl)
      rw [if_neg (nt h18)] at hE1
      have gh18 := nd0 h18
      refine w_skip ?_
      refine xr hT [.wr] (fun f20 => ⟨[(0, .one (.c (.sl .bor 7 (p0.map FlyStep.row)))), (1, .one (.c (.v (.int .i64 (wr ((wr ((wr ((wr (s1 + 1)) + 1)) + 1)) + 1)))))), (5, .one (.c (.v (.int .i64 ((i1 : Nat) : Int)))))], [], 78⟩) (fun f => by kernel_rfl) (fun f => by kernel_rfl) fun f20 => ?_
      refine w_seq ?_
      refine xr hT [ix FlyStep.row p0 i1 (by omega)] (fun f21 => ⟨[(0, .one (.c (.sl .bor 7 (p0.map FlyStep.row)))), (1, .one (.c (.v (.int .i64 (wr ((wr ((wr ((wr (s1 + 1)) + 1)) + 1)) + 1)))))), (5, .one (.c (.v (.int .i64 ((i1 : Nat) : Int))))), (54, .one (.c (.v (.bool (!decide (((p0.getD i1 default).From) = (wr ((wr ((wr ((wr (s1 + 1)) + 1)) + 1)) + 1))))))))], [], 78⟩) (fun f => by kernel_rfl) (fun f => by kernel_rfl) fun f21 => ?_
      refine w_cond rfl (fun h22 => ?_) fun h22 => ?_
      · rw [if_pos h22] at hE1
        have gh22 := nd1 h22
        refine xr hT [] (fun f23 => ⟨[(4, .one (.c (.v (.int .i64 (-1)))))], [], 78⟩) (fun f => by kernel_rfl) (fun f => by kernel_rfl) fun f23 => ?_
        refine w_ret ?_
        have hR := hX1.trans (forN_ret hl1 (hB1.symm.trans hE1))
        subst hR
        exact x_ret (by kernel_rfl)
      rw [if_neg (nt h22)] at hE1
      have gh22 := nd0 h22
      refine w_skip ?_
      refine xr hT [.wr] (fun f24 => ⟨[(0, .one (.c (.sl .bor 7 (p0.map FlyStep.row)))), (1, .one (.c (.v (.int .i64 (wr ((wr ((wr ((wr ((wr (s1 + 1)) + 1)) + 1)) + 1)) + 1)))))), (5, .one (.c (.v (.int .i64 ((i1 : Nat) : Int)))))], [], 78⟩) (fun f => by kernel_rfl) (fun f => by kernel_rfl) fun f24 => ?_
      refine w_seq ?_
      refine xr hT [ix FlyStep.row p0 i1 (by omega)] (fun f25 => ⟨[(0, .one (.c (.sl .bor 7 (p0.map FlyStep.row)))), (1, .one (.c (.v (.int .i64 (wr ((wr ((wr ((wr ((wr (s1 + 1)) + 1)) + 1)) + 1)) + 1)))))), (5, .one (.c (.v (.int .i64 ((i1 : Nat) : Int))))), (63, .one (.c (.v (.bool (!decide (((p0.getD i1 default).By) = (wr ((wr ((wr ((wr ((wr (s1 + 1)) + 1)) + 1)) + 1)) + 1))))))))], [], 78⟩) (fun f => by kernel_rfl) (fun f => by kernel_rfl) fun f25 => ?_
      refine w_cond rfl (fun h26 => ?_) fun h26 => ?_
      · rw [if_pos h26] at hE1
        have gh26 := nd1 h26
        refine xr hT [] (fun f27 => ⟨[(4, .one (.c (.v (.int .i64 (-1)))))], [], 78⟩) (fun f => by kernel_rfl) (fun f => by kernel_rfl) fun f27 => ?_
        refine w_ret ?_
        have hR := hX1.trans (forN_ret hl1 (hB1.symm.trans hE1))
        subst hR
        exact x_ret (by kernel_rfl)
      rw [if_neg (nt h26)] at hE1
      have gh26 := nd0 h26
      refine w_skip ?_
      refine xr hT [.wr] (fun f28 => ⟨[(0, .one (.c (.sl .bor 7 (p0.map FlyStep.row)))), (1, .one (.c (.v (.int .i64 (wr ((wr ((wr ((wr ((wr ((wr (s1 + 1)) + 1)) + 1)) + 1)) + 1)) + 1)))))), (5, .one (.c (.v (.int .i64 ((i1 : Nat) : Int)))))], [], 78⟩) (fun f => by kernel_rfl) (fun f => by kernel_rfl) fun f28 => ?_
      refine w_seq ?_
      refine xr hT [ix FlyStep.row p0 i1 (by omega), .nz true 3 (fun h => by omega), .und Proofs.Try.underlying4] (fun f29 => ⟨[(0, .one (.c (.sl .bor 7 (p0.map FlyStep.row)))), (1, .one (.c (.v (.int .i64 (wr ((wr ((wr ((wr ((wr ((wr (s1 + 1)) + 1)) + 1)) + 1)) + 1)) + 1)))))), (5, .one (.c (.v (.int .i64 ((i1 : Nat) : Int))))), (74, .one (.c (.v (.bool (!(((p0.getD i1 default).Hold) == (decide ((Int.tmod (wr ((wr ((wr ((wr ((wr ((wr (s1 + 1)) + 1)) + 1)) + 1)) + 1)) + 1)) 3) = 0))))))))], [], 78⟩) (fun f => by kernel_rfl) (fun f => by kernel_rfl) fun f29 => ?_
      refine w_cond rfl (fun h30 => ?_) fun h30 => ?_
      · rw [if_pos h30] at hE1
        have gh30 := h30; try simp only [Bool.not_eq_true', Bool.not_eq_false', decide_eq_true_eq, decide_eq_false_iff_not, Bool.and_eq_true, Bool.or_eq_true, Bool.and_eq_false_iff, Bool.or_eq_false_iff] at gh30
        refine xr hT [] (fun f31 => ⟨[(4, .one (.c (.v (.int .i64 (-1)))))], [], 78⟩) (fun f => by kernel_rfl) (fun f => by kernel_rfl) fun f31 => ?_
        refine w_ret ?_
        have hR := hX1.trans (forN_ret hl1 (hB1.symm.trans hE1))
        subst hR
        exact x_ret (by kernel_rfl)
      rw [if_neg (nt h30)] at hE1
      have gh30 := h30; try simp only [Bool.not_eq_true', Bool.not_eq_false', decide_eq_true_eq, decide_eq_false_iff_not, Bool.and_eq_true, Bool.or_eq_true, Bool.and_eq_false_iff, Bool.or_eq_false_iff] at gh30
      refine w_skip ?_
      refine xr1 (fun _ => rfl) hT [.wr] (fun f32 => ⟨[(0, .one (.c (.sl .bor 7 (p0.map FlyStep.row)))), (1, .one (.c (.v (.int .i64 (wr ((wr ((wr ((wr ((wr ((wr ((wr (s1 + 1)) + 1)) + 1)) + 1)) + 1)) + 1)) + 1)))))), (5, .one (.c (.v (.int .i64 ((i1 : Nat) : Int)))))], [], 78⟩) (fun f => by kernel_rfl) (fun f => by kernel_rfl) fun f32 => ?_
      refine x_reg hT [.ex true (((i1 : Nat) : Int) + ((1 : Nat) : Int)) ((((i1 + 1) : Nat) : Int)) (fun _ => wr_nat (n := i1) (c := 1) (by omega))] (fun f33 => laws_heldFlyStepS_I1 p0 p1 fs (i1 + 1) (wr ((wr ((wr ((wr ((wr ((wr ((wr (s1 + 1)) + 1)) + 1)) + 1)) + 1)) + 1)) + 1)) (lst [])) (fun f => by kernel_rfl) (fun f => by kernel_rfl) fun f33 s' hs' => ?_
      exact ⟨wr ((wr ((wr ((wr ((wr ((wr ((wr (s1 + 1)) + 1)) + 1)) + 1)) + 1)) + 1)) + 1), (lst []), hl1, trivial, hX1.trans (forN_next hl1 (hB1.symm.trans hE1)), hs'⟩
    have hq := of_decide_eq_false h4
    refine w_exit ?_
    exact ⟨s1, (lst []), trivial, hX1.trans (forN_end (by first | omega | ((try simp only [LN] at *); omega))), sb (by kernel_rfl)⟩
  intro s1 x1 hF36 hR34
  rw [laws_heldFlyStepS_r1] at hR34
  refine xr hT [] (fun f35 => ⟨[(4, .one (.c (.v (.int .i64 s1))))], [], 78⟩) (fun f => by kernel_rfl) (fun f => by kernel_rfl) fun f35 => ?_
  refine w_ret ?_
  subst hR34
  exact x_ret (by kernel_rfl)

def laws_markIntS_I1 (p0 : (List Int)) (p1 : Int) (fs : Nat → Nat → Nat) (i1 : Nat) (s1 : Int × List Int) (x1 : Nat → Nat) : St := ⟨[(0, .one (.c (.mu 1000 (fs 0 0) 1 0 (s1.2.map Int.row).length))), (1, .one (.c (.v (.int .i64 s1.1)))), (5, .one (.c (.v (.int .i64 ((i1 : Nat) : Int)))))], [(1000, some (fs 0 0, .arr 1 (s1.2.map Int.row)))], 19⟩
def laws_markIntS_J1 (p0 : (List Int)) (p1 : Int) (fs : Nat → Nat → Nat) (s1 : Int × List Int) (x1 : Nat → Nat) : St := ⟨[(1, .one (.c (.v (.int .i64 s1.1))))], [(1000, some (fs 0 0, .arr 1 (s1.2.map Int.row)))], 19⟩
def laws_markIntS_b1 (p0 : (List Int)) (p1 : Int) (i1 : Nat) (s1 : Int × List Int) : Res (Int × List Int) (Int × (List Int)) := (.next (wr (s1.1 + 1), s1.2.set i1 (s1.1 : Int)))
def laws_markIntS_r1 (p0 : (List Int)) (p1 : Int) (s1 : Int × List Int) : (Int × (List Int)) := (s1.1, s1.2)
/-- laws.markIntS -/
def laws_markIntS (p0 : (List Int)) (p1 : Int) : Int × (List Int) := (Res.fin (laws_markIntS_r1 p0 p1) (forN (laws_markIntS_b1 p0 p1) ((p0).length - 0) 0 (p1, p0)))
theorem c150 (p0 : (List Int)) (p1 : Int) (k0_0 : p0.length ≤ 1048576) : Fn Proofs.Try.prog 150 [⟨.mt, false, [.sl .own 1 (p0.map Int.row)]⟩, ⟨.val, false, [.v (.int .i64 p1)]⟩] [.c (.v (.int .i64 (laws_markIntS p0 p1).1))] [[.sl .own 1 ((laws_markIntS p0 p1).2.map Int.row)]] := by
  obtain ⟨R, hR⟩ : ∃ R, R = laws_markIntS p0 p1 := ⟨_, rfl⟩
  rw [← hR]
  rw [laws_markIntS] at hR
  refine ⟨fn_intro hT Proofs.Try.func150 rfl rfl fun fs => ?_, _, Proofs.Try.func150, rfl, rfl⟩
  refine xr hT [] (fun f1 => ⟨[(0, .one (.c (.mu 1000 (fs 0 0) 1 0 (p0.map Int.row).length))), (1, .one (.c (.v (.int .i64 p1))))], [(1000, some (fs 0 0, .arr 1 (p0.map Int.row)))], 19⟩) (fun f => by kernel_rfl) (fun f => by kernel_rfl) fun f1 => ?_
  refine w_seq ?_
  refine xr hT [] (fun f2 => ⟨[(0, .one (.c (.mu 1000 (fs 0 0) 1 0 (p0.map Int.row).length))), (1, .one (.c (.v (.int .i64 p1)))), (5, .one (.c (.v (.int .i64 0))))], [(1000, some (fs 0 0, .arr 1 (p0.map Int.row)))], 19⟩) (fun f => by kernel_rfl) (fun f => by kernel_rfl) fun f2 => ?_
  refine w_forT (fun _ => rfl) (laws_markIntS_I1 p0 p1 fs) (laws_markIntS_J1 p0 p1 fs) (fun i1 s1 => s1.2.length = (p0).length) (fun s1 => s1.2.length = (p0).length) ((p0).length) 0 (laws_markIntS_b1 p0 p1) (laws_markIntS_r1 p0 p1) 0 ((p1, p0)) (lst []) (sb (by kernel_rfl)) (by first | rfl | ((try simp only [LN]); omega) | (simp; done) | (simp; omega)) hR ?_ ?_
  · skip
    intro i1 s1 x1 hI1 hX1
    try simp only [LN] at hI1
    refine w_seq ?_
    refine xr hT [.ln Int.row s1.2] (fun f3 => ⟨[(0, .one (.c (.mu 1000 (fs 0 0) 1 0 (s1.2.map Int.row).length))), (1, .one (.c (.v (.int .i64 s1.1)))), (5, .one (.c (.v (.int .i64 ((i1 : Nat) : Int))))), (9, .one (.c (.v (.bool (decide (((i1 : Nat) : Int) < (s1.2.length : Int)))))))], [(1000, some (fs 0 0, .arr 1 (s1.2.map Int.row)))], 19⟩) (fun f => by kernel_rfl) (fun f => by kernel_rfl) fun f3 => ?_
    refine w_cond rfl (fun h4 => ?_) fun h4 => ?_
    · skip
      have hl1 : i1 < (p0).length := by have hq := of_decide_eq_true h4; first | omega | ((try simp only [LN] at *); omega)
      have hl1x := hl1; try simp only [LN] at hl1x
      obtain ⟨B1, hB1⟩ : ∃ B, B = laws_markIntS_b1 p0 p1 i1 s1 := ⟨_, rfl⟩
      have hE1 := hB1
      rw [laws_markIntS_b1] at hE1
      refine w_skip ?_
      refine w_seq ?_
      refine w_block ?_
      refine xr hT [ix Int.row s1.2 i1 (by omega), .st inferInstance true Int.row s1.2 i1 (s1.1 : Int) (fun h => by omega)] (fun f5 => ⟨[(0, .one (.c (.mu 1000 (fs 0 0) 1 0 (s1.2.map Int.row).length))), (1, .one (.c (.v (.int .i64 s1.1)))), (5, .one (.c (.v (.int .i64 ((i1 : Nat) : Int)))))], [(1000, some (fs 0 0, .arr 1 ((s1.2.set i1 (s1.1 : Int)).map Int.row)))], 19⟩) (fun f => by kernel_rfl) (fun f => by kernel_rfl) fun f5 => ?_
      refine w_sub (s := ⟨[(0, .one (.c (.mu 1000 (fs 0 0) 1 0 ((s1.2.set i1 (s1.1 : Int)).map Int.row).length))), (1, .one (.c (.v (.int .i64 s1.1)))), (5, .one (.c (.v (.int .i64 ((i1 : Nat) : Int)))))], [(1000, some (fs 0 0, .arr 1 ((s1.2.set i1 (s1.1 : Int)).map Int.row)))], 19⟩) (cst (by simp only [LN]) (sb (s := ⟨[(0, .one (.c (.mu 1000 (fs 0 0) 1 0 (s1.2.map Int.row).length))), (1, .one (.c (.v (.int .i64 s1.1)))), (5, .one (.c (.v (.int .i64 ((i1 : Nat) : Int)))))], [(1000, some (fs 0 0, .arr 1 ((s1.2.set i1 (s1.1 : Int)).map Int.row)))], 19⟩) (by kernel_rfl))) ?_
      refine xr1 (fun _ => rfl) hT [.wr] (fun f6 => ⟨[(0, .one (.c (.mu 1000 (fs 0 0) 1 0 ((s1.2.set i1 (s1.1 : Int)).map Int.row).length))), (1, .one (.c (.v (.int .i64 (wr (s1.1 + 1)))))), (5, .one (.c (.v (.int .i64 ((i1 : Nat) : Int)))))], [(1000, some (fs 0 0, .arr 1 ((s1.2.set i1 (s1.1 : Int)).map Int.row)))], 19⟩) (fun f => by kernel_rfl) (fun f => by kernel_rfl) fun f6 => ?_
      refine x_reg hT [.ex true (((i1 : Nat) : Int) + ((1 : Nat) : Int)) ((((i1 + 1) : Nat) : Int)) (fun _ => wr_nat (n := i1) (c := 1) (by omega))] (fun f7 => laws_markIntS_I1 p0 p1 fs (i1 + 1) (wr (s1.1 + 1), s1.2.set i1 (s1.1 : Int)) (lst [])) (fun f => by kernel_rfl) (fun f => by kernel_rfl) fun f7 s' hs' => ?_
      exact ⟨(wr (s1.1 + 1), s1.2.set i1 (s1.1 : Int)), (lst []), hl1, (by (try simp only [LN] at *); omega), hX1.trans (forN_next hl1 (hB1.symm.trans hE1)), hs'⟩
    have hq := of_decide_eq_false h4
    refine w_exit ?_
    exact ⟨s1, (lst []), (by (try simp only [LN] at *); omega), hX1.trans (forN_end (by first | omega | ((try simp only [LN] at *); omega))), sb (by kernel_rfl)⟩
  intro s1 x1 hF10 hR8
  try simp only [LN] at hF10
  rw [laws_markIntS_r1] at hR8
  refine xr hT [] (fun f9 => ⟨[(4, .one (.c (.v (.int .i64 s1.1))))], [(1000, some (fs 0 0, .arr 1 (s1.2.map Int.row)))], 19⟩) (fun f => by kernel_rfl) (fun f => by kernel_rfl) fun f9 => ?_
  refine w_ret ?_
  subst hR8
  exact x_ret (by kernel_rfl)
theorem f_laws_markIntS (p0 : List Int) (p1 : Int) : (laws_markIntS p0 p1).2.length = p0.length := by
  unfold laws_markIntS
  refine forN_inv (fun (i : Nat) (s : Int × List Int) => s.2.length = p0.length) (fun (r : Int × List Int) => r.2.length = p0.length) (p0.length) (fun j s hj h => ?_) (fun s h => h) _ 0 _ rfl (Nat.zero_le _) rfl
  unfold laws_markIntS_b1
  simp only [all_next]
  (try simp only [LN])
  first | done | exact h | simp [h]

def laws_heldIntS_I1 (p0 : (List Int)) (p1 : Int) (fs : Nat → Nat → Nat) (i1 : Nat) (s1 : Int) (x1 : Nat → Nat) : St := ⟨[(0, .one (.c (.sl .bor 1 (p0.map Int.row)))), (1, .one (.c (.v (.int .i64 s1)))), (5, .one (.c (.v (.int .i64 ((i1 : Nat) : Int)))))], [], 21⟩
def laws_heldIntS_J1 (p0 : (List Int)) (p1 : Int) (fs : Nat → Nat → Nat) (s1 : Int) (x1 : Nat → Nat) : St := ⟨[(1, .one (.c (.v (.int .i64 s1))))], [], 21⟩
def laws_heldIntS_b1 (p0 : (List Int)) (p1 : Int) (i1 : Nat) (s1 : Int) : Res (Int) Int := (if !decide ((p0.getD i1 default) = s1) then (.ret (-1)) else (.next (wr (s1 + 1))))
def laws_heldIntS_r1 (p0 : (List Int)) (p1 : Int) (s1 : Int) : Int := s1
/-- laws.heldIntS -/
def laws_heldIntS (p0 : (List Int)) (p1 : Int) : Int := (Res.fin (laws_heldIntS_r1 p0 p1) (forN (laws_heldIntS_b1 p0 p1) (p0.length - 0) 0 p1))
theorem c152 (p0 : (List Int)) (p1 : Int) (k0_0 : p0.length ≤ 1048576) : Fn Proofs.Try.prog 152 [⟨.val, false, [.sl .bor 1 (p0.map Int.row)]⟩, ⟨.val, false, [.v (.int .i64 p1)]⟩] [.c (.v (.int .i64 (laws_heldIntS p0 p1)))] [] := by
  obtain ⟨R, hR⟩ : ∃ R, R = laws_heldIntS p0 p1 := ⟨_, rfl⟩
  rw [← hR]
  rw [laws_heldIntS] at hR
  refine ⟨fn_intro hT Proofs.Try.func152 rfl rfl fun fs => ?_, _, Proofs.Try.func152, rfl, rfl⟩
  refine xr hT [] (fun f1 => ⟨[(0, .one (.c (.sl .bor 1 (p0.map Int.row)))), (1, .one (.c (.v (.int .i64 p1))))], [], 21⟩) (fun f => by kernel_rfl) (fun f => by kernel_rfl) fun f1 => ?_
  refine w_seq ?_
  refine xr hT [] (fun f2 => ⟨[(0, .one (.c (.sl .bor 1 (p0.map Int.row)))), (1, .one (.c (.v (.int .i64 p1)))), (5, .one (.c (.v (.int .i64 0))))], [], 21⟩) (fun f => by kernel_rfl) (fun f => by kernel_rfl) fun f2 => ?_
  refine w_forT (fun _ => rfl) (laws_heldIntS_I1 p0 p1 fs) (laws_heldIntS_J1 p0 p1 fs) (fun i1 s1 => True) (fun s1 => True) (p0.length) 0 (laws_heldIntS_b1 p0 p1) (laws_heldIntS_r1 p0 p1) 0 (p1) (lst []) (sb (by kernel_rfl)) trivial hR ?_ ?_
  · skip
    intro i1 s1 x1 hI1 hX1
    refine w_seq ?_
    refine xr hT [.ln Int.row p0] (fun f3 => ⟨[(0, .one (.c (.sl .bor 1 (p0.map Int.row)))), (1, .one (.c (.v (.int .i64 s1)))), (5, .one (.c (.v (.int .i64 ((i1 : Nat) : Int))))), (9, .one (.c (.v (.bool (decide (((i1 : Nat) : Int) < (p0.length : Int)))))))], [], 21⟩) (fun f => by kernel_rfl) (fun f => by kernel_rfl) fun f3 => ?_
    refine w_cond rfl (fun h4 => ?_) fun h4 => ?_
    · skip
      have hl1 : i1 < p0.length := by have hq := of_decide_eq_true h4; first | omega | ((try simp only [LN] at *); omega)
      obtain ⟨B1, hB1⟩ : ∃ B, B = laws_heldIntS_b1 p0 p1 i1 s1 := ⟨_, rfl⟩
      have hE1 := hB1
      rw [laws_heldIntS_b1] at hE1
      refine w_skip ?_
      refine w_seq ?_
      refine w_block ?_
      refine w_seq ?_
      refine xr hT [ix Int.row p0 i1 (by omega)] (fun f5 => ⟨[(0, .one (.c (.sl .bor 1 (p0.map Int.row)))), (1, .one (.c (.v (.int .i64 s1)))), (5, .one (.c (.v (.int .i64 ((i1 : Nat) : Int))))), (17, .one (.c (.v (.bool (!decide ((p0.getD i1 default) = s1))))))], [], 21⟩) (fun f => by kernel_rfl) (fun f => by kernel_rfl) fun f5 => ?_
      refine w_cond rfl (fun h6 => ?_) fun h6 => ?_
      · rw [if_pos h6] at hE1
        have gh6 := nd1 h6
        refine xr hT [] (fun f7 => ⟨[(4, .one (.c (.v (.int .i64 (-1)))))], [], 21⟩) (fun f => by kernel_rfl) (fun f => by kernel_rfl) fun f7 => ?_
        refine w_ret ?_
        have hR := hX1.trans (forN_ret hl1 (hB1.symm.trans hE1))
        subst hR
        exact x_ret (by kernel_rfl)
      rw [if_neg (nt h6)] at hE1
      have gh6 := nd0 h6
      refine w_skip ?_
      refine xr1 (fun _ => rfl) hT [.wr] (fun f8 => ⟨[(0, .one (.c (.sl .bor 1 (p0.map Int.row)))), (1, .one (.c (.v (.int .i64 (wr (s1 + 1)))))), (5, .one (.c (.v (.int .i64 ((i1 : Nat) : Int)))))], [], 21⟩) (fun f => by kernel_rfl) (fun f => by kernel_rfl) fun f8 => ?_
      refine x_reg hT [.ex true (((i1 : Nat) : Int) + ((1 : Nat) : Int)) ((((i1 + 1) : Nat) : Int)) (fun _ => wr_nat (n := i1) (c := 1) (by omega))] (fun f9 => laws_heldIntS_I1 p0 p1 fs (i1 + 1) (wr (s1 + 1)) (lst [])) (fun f => by kernel_rfl) (fun f => by kernel_rfl) fun f9 s' hs' => ?_
      exact ⟨wr (s1 + 1), (lst []), hl1, trivial, hX1.trans (forN_next hl1 (hB1.symm.trans hE1)), hs'⟩
    have hq := of_decide_eq_false h4
    refine w_exit ?_
    exact ⟨s1, (lst []), trivial, hX1.trans (forN_end (by first | omega | ((try simp only [LN] at *); omega))), sb (by kernel_rfl)⟩
  intro s1 x1 hF12 hR10
  rw [laws_heldIntS_r1] at hR10
  refine xr hT [] (fun f11 => ⟨[(4, .one (.c (.v (.int .i64 s1))))], [], 21⟩) (fun f => by kernel_rfl) (fun f => by kernel_rfl) fun f11 => ?_
  refine w_ret ?_
  subst hR10
  exact x_ret (by kernel_rfl)

/-- spec.l22Craft -/
def spec_l22Craft (p0 : LinkCraft) : LinkCraft := (⟨p0.Name, p0.Number, p0.No, (spec_l2Copy p0.Path), p0.Flown⟩ : LinkCraft)
theorem c148 (p0 : LinkCraft) (k0_0 : LinkCraft.ok p0) : Fn Proofs.Try.prog 148 [⟨.val, true, LinkCraft.cs .bor p0⟩] [.ag (LinkCraft.cs .own (spec_l22Craft p0))] [] := by
  obtain ⟨R, hR⟩ : ∃ R, R = spec_l22Craft p0 := ⟨_, rfl⟩
  rw [← hR]
  rw [spec_l22Craft] at hR
  refine ⟨fn_intro hT Proofs.Try.func148 rfl rfl fun fs => ?_, _, Proofs.Try.func148, rfl, rfl⟩
  have q0 := k0_0; simp only [LinkCraft.ok] at q0
  refine xr hT [] (fun f1 => ⟨[(1, .one (.pt 1 (f1 0 0) 0)), (2, .one (.pt 2 (f1 1 0) 0))], [(1, some (f1 0 0, .box (LinkCraft.cs .bor p0))), (2, some (f1 1 0, .box [.v (.string ⟨#[]⟩), .v (.int .i64 0), .v (.int .i64 0), .v (.int .i64 0), .v (.int .i64 0), .nl, .v (.int .i64 0), .v (.int .i64 0), .nl]))], 17⟩) (fun f => by kernel_rfl) (fun f => by kernel_rfl) fun f1 => ?_
  refine xd hT hM [ca (c186 p0.Path (by first | assumption | exact (by omega : p0.Path.Steps.length ≤ 1048576))), .app true Int.row ([] : List Int) p0.Flown 8 (fun h => by (try simp only [LN, spec_l2Copy]); omega), .pl (Int.rv p0.Flown)] (fun f2 => ⟨[(2, .one (.pt 2 (f1 1 0) 0))], [(2, some (f1 1 0, .box [.v (.string p0.Name), .v (.int .i64 p0.Number), .v (.int .i64 p0.No), .v (.int .i64 ((spec_l2Copy p0.Path).Kind.Quick)), .v (.int .i64 ((spec_l2Copy p0.Path).Kind.Slow)), .mu 1200002 (gk (f2 8) 0 2) 7 0 (((spec_l2Copy p0.Path).Steps).map FlyStep.row).length, .v (.int .i64 ((spec_l2Copy p0.Path).From)), .v (.int .i64 ((spec_l2Copy p0.Path).By)), .mu 12 (f2 12 0) 1 0 (p0.Flown.map Int.row).length])), (12, some (f2 12 0, .arr 1 (p0.Flown.map Int.row))), (1200002, some (gk (f2 8) 0 2, .arr 7 (((spec_l2Copy p0.Path).Steps).map FlyStep.row)))], 17⟩) (fun f => by kernel_rfl) (fun f => by kernel_rfl) (fun f => by kernel_rfl) fun f2 => ?_
  refine w_ret ?_
  subst hR
  exact x_ret (by kernel_rfl)

/-- spec.LinkMove -/
def spec_LinkMove (p0 : LinkCraft) (p1 : Int) : LinkCraft × Bool := (if ((!(spec_l12NameOk p0.Name)) || (!(spec_l22Begun p0.Path p0.Flown))) || (!(spec_l22Next p0 p1)) then ((spec_l22Craft p0), false) else ((⟨(spec_l22Craft p0).Name, (spec_l22Craft p0).Number, (spec_l22Craft p0).No, (spec_l22Craft p0).Path, ((spec_l22Craft p0).Flown) ++ [p1]⟩ : LinkCraft), true))
theorem c68 (p0 : LinkCraft) (p1 : Int) (k0_0 : LinkCraft.ok p0) : Fn Proofs.Try.prog 68 [⟨.val, true, LinkCraft.cs .bor p0⟩, ⟨.val, false, [.v (.int .i64 p1)]⟩] [.ag (LinkCraft.cs .own (spec_LinkMove p0 p1).1), .c (.v (.bool (spec_LinkMove p0 p1).2))] [] := by
  obtain ⟨R, hR⟩ : ∃ R, R = spec_LinkMove p0 p1 := ⟨_, rfl⟩
  rw [← hR]
  rw [spec_LinkMove] at hR
  refine ⟨fn_intro hT Proofs.Try.func68 rfl rfl fun fs => ?_, _, Proofs.Try.func68, rfl, rfl⟩
  have q0 := k0_0; simp only [LinkCraft.ok] at q0
  refine xr hT [] (fun f1 => ⟨[(1, .one (.c (.v (.int .i64 p1)))), (2, .one (.pt 2 (f1 0 0) 0)), (4, .one (.pt 4 (f1 1 0) 0))], [(2, some (f1 0 0, .box (LinkCraft.cs .bor p0))), (4, some (f1 1 0, .box [.v (.string ⟨#[]⟩), .v (.int .i64 0), .v (.int .i64 0), .v (.int .i64 0), .v (.int .i64 0), .nl, .v (.int .i64 0), .v (.int .i64 0), .nl]))], 36⟩) (fun f => by kernel_rfl) (fun f => by kernel_rfl) fun f1 => ?_
  refine w_seq ?_
  refine xr hT [ca (c92 p0.Name), cg (!(!(spec_l12NameOk p0.Name))) (fun h => by (try simp only [Bool.and_eq_true, Bool.or_eq_true, decide_eq_true_eq, Bool.not_eq_true', decide_eq_false_iff_not] at h); exact c85 p0.Path p0.Flown (by first | assumption | exact (by omega : p0.Path.Steps.length ≤ 1048576)) (by omega)), cg (!((!(spec_l12NameOk p0.Name)) || (!(spec_l22Begun p0.Path p0.Flown)))) (fun h => by (try simp only [Bool.and_eq_true, Bool.or_eq_true, decide_eq_true_eq, Bool.not_eq_true', decide_eq_false_iff_not] at h); exact c86 p0 p1 (by first | assumption | exact ⟨(by omega : p0.Path.Steps.length ≤ 1048576), (by omega : p0.Flown.length ≤ 1048576)⟩))] (fun f2 => ⟨[(1, .one (.c (.v (.int .i64 p1)))), (2, .one (.pt 2 (f1 0 0) 0)), (4, .one (.pt 4 (f1 1 0) 0)), (24, .one (.c (.v (.bool (((!(spec_l12NameOk p0.Name)) || (!(spec_l22Begun p0.Path p0.Flown))) || (!(spec_l22Next p0 p1)))))))], [(2, some (f1 0 0, .box (LinkCraft.cs .bor p0))), (4, some (f1 1 0, .box [.v (.string ⟨#[]⟩), .v (.int .i64 0), .v (.int .i64 0), .v (.int .i64 0), .v (.int .i64 0), .nl, .v (.int .i64 0), .v (.int .i64 0), .nl]))], 36⟩) (fun f => by kernel_rfl) (fun f => by kernel_rfl) fun f2 => ?_
  refine w_cond rfl (fun h3 => ?_) fun h3 => ?_
  · rw [if_pos h3] at hR
    refine xr hT [ca (c148 p0 (by first | assumption | exact ⟨(by omega : p0.Path.Steps.length ≤ 1048576), (by omega : p0.Flown.length ≤ 1048576)⟩))] (fun f4 => ⟨[(4, .one (.pt 4 (f1 1 0) 0)), (5, .one (.c (.v (.bool false))))], [(4, some (f1 1 0, .box [.v (.string ((spec_l22Craft p0).Name)), .v (.int .i64 ((spec_l22Craft p0).Number)), .v (.int .i64 ((spec_l22Craft p0).No)), .v (.int .i64 ((spec_l22Craft p0).Path.Kind.Quick)), .v (.int .i64 ((spec_l22Craft p0).Path.Kind.Slow)), .mu 2700005 (gk (f4 1) 0 5) 7 0 (((spec_l22Craft p0).Path.Steps).map FlyStep.row).length, .v (.int .i64 ((spec_l22Craft p0).Path.From)), .v (.int .i64 ((spec_l22Craft p0).Path.By)), .mu 2700008 (gk (f4 1) 0 8) 1 0 (((spec_l22Craft p0).Flown).map Int.row).length])), (2700005, some (gk (f4 1) 0 5, .arr 7 (((spec_l22Craft p0).Path.Steps).map FlyStep.row))), (2700008, some (gk (f4 1) 0 8, .arr 1 (((spec_l22Craft p0).Flown).map Int.row)))], 36⟩) (fun f => by kernel_rfl) (fun f => by kernel_rfl) fun f4 => ?_
    refine w_ret ?_
    subst hR
    exact x_ret (by kernel_rfl)
  rw [if_neg (nt h3)] at hR
  refine w_skip ?_
  refine xr hT [ca (c148 p0 (by first | assumption | exact ⟨(by omega : p0.Path.Steps.length ≤ 1048576), (by omega : p0.Flown.length ≤ 1048576)⟩))] (fun f5 => ⟨[(1, .one (.c (.v (.int .i64 p1)))), (4, .one (.pt 4 (f1 1 0) 0)), (6, .one (.pt 6 (f5 2 0) 0))], [(4, some (f1 1 0, .box [.v (.string ⟨#[]⟩), .v (.int .i64 0), .v (.int .i64 0), .v (.int .i64 0), .v (.int .i64 0), .nl, .v (.int .i64 0), .v (.int .i64 0), .nl])), (6, some (f5 2 0, .box [.v (.string ((spec_l22Craft p0).Name)), .v (.int .i64 ((spec_l22Craft p0).Number)), .v (.int .i64 ((spec_l22Craft p0).No)), .v (.int .i64 ((spec_l22Craft p0).Path.Kind.Quick)), .v (.int .i64 ((spec_l22Craft p0).Path.Kind.Slow)), .mu 2900005 (gk (f5 1) 0 5) 7 0 (((spec_l22Craft p0).Path.Steps).map FlyStep.row).length, .v (.int .i64 ((spec_l22Craft p0).Path.From)), .v (.int .i64 ((spec_l22Craft p0).Path.By)), .mu 2900008 (gk (f5 1) 0 8) 1 0 (((spec_l22Craft p0).Flown).map Int.row).length])), (2900005, some (gk (f5 1) 0 5, .arr 7 (((spec_l22Craft p0).Path.Steps).map FlyStep.row))), (2900008, some (gk (f5 1) 0 8, .arr 1 (((spec_l22Craft p0).Flown).map Int.row)))], 36⟩) (fun f => by kernel_rfl) (fun f => by kernel_rfl) fun f5 => ?_
  refine xr hT [.rows Int.row [p1], .app true Int.row ((spec_l22Craft p0).Flown) [p1] 8 (fun h => by (try simp only [LN, spec_l22Begun, spec_l22Craft, spec_l22Next]); omega)] (fun f6 => ⟨[(4, .one (.pt 4 (f1 1 0) 0)), (6, .one (.pt 6 (f5 2 0) 0))], [(4, some (f1 1 0, .box [.v (.string ⟨#[]⟩), .v (.int .i64 0), .v (.int .i64 0), .v (.int .i64 0), .v (.int .i64 0), .nl, .v (.int .i64 0), .v (.int .i64 0), .nl])), (6, some (f5 2 0, .box [.v (.string ((spec_l22Craft p0).Name)), .v (.int .i64 ((spec_l22Craft p0).Number)), .v (.int .i64 ((spec_l22Craft p0).No)), .v (.int .i64 ((spec_l22Craft p0).Path.Kind.Quick)), .v (.int .i64 ((spec_l22Craft p0).Path.Kind.Slow)), .mu 2900005 (gk (f5 1) 0 5) 7 0 (((spec_l22Craft p0).Path.Steps).map FlyStep.row).length, .v (.int .i64 ((spec_l22Craft p0).Path.From)), .v (.int .i64 ((spec_l22Craft p0).Path.By)), .mu 2900008 (f6 4 0) 1 0 ((((spec_l22Craft p0).Flown) ++ [p1]).map Int.row).length])), (2900005, some (gk (f5 1) 0 5, .arr 7 (((spec_l22Craft p0).Path.Steps).map FlyStep.row))), (2900008, some (f6 4 0, .arr 1 ((((spec_l22Craft p0).Flown) ++ [p1]).map Int.row)))], 36⟩) (fun f => by kernel_rfl) (fun f => by kernel_rfl) fun f6 => ?_
  refine xr hT [] (fun f7 => ⟨[(4, .one (.pt 4 (f1 1 0) 0)), (5, .one (.c (.v (.bool true))))], [(4, some (f1 1 0, .box [.v (.string ((spec_l22Craft p0).Name)), .v (.int .i64 ((spec_l22Craft p0).Number)), .v (.int .i64 ((spec_l22Craft p0).No)), .v (.int .i64 ((spec_l22Craft p0).Path.Kind.Quick)), .v (.int .i64 ((spec_l22Craft p0).Path.Kind.Slow)), .mu 2900005 (gk (f5 1) 0 5) 7 0 (((spec_l22Craft p0).Path.Steps).map FlyStep.row).length, .v (.int .i64 ((spec_l22Craft p0).Path.From)), .v (.int .i64 ((spec_l22Craft p0).Path.By)), .mu 2900008 (f6 4 0) 1 0 ((((spec_l22Craft p0).Flown) ++ [p1]).map Int.row).length])), (2900005, some (gk (f5 1) 0 5, .arr 7 (((spec_l22Craft p0).Path.Steps).map FlyStep.row))), (2900008, some (f6 4 0, .arr 1 ((((spec_l22Craft p0).Flown) ++ [p1]).map Int.row)))], 36⟩) (fun f => by kernel_rfl) (fun f => by kernel_rfl) fun f7 => ?_
  refine w_ret ?_
  subst hR
  exact x_ret (by kernel_rfl)
theorem f_spec_LinkMove (p0 : LinkCraft) (p1 : Int) (h0 : LinkCraft.ok p0) : (spec_LinkMove p0 p1).1.Path.Steps.length ≤ 1048576 ∧ (spec_LinkMove p0 p1).1.Flown.length ≤ 1048576 := by
  unfold spec_LinkMove
  simp only [LinkCraft.ok] at h0
  split
  · (try simp only [LN, spec_l22Begun, spec_l22Craft, spec_l22Next]); exact h0
  · rename_i h
    simp only [Bool.or_eq_true, Bool.not_eq_true', not_or, Bool.not_eq_false] at h
    have hb : spec_l22Begun p0.Path p0.Flown = true := by exact h.1.2
    simp only [spec_l22Begun, Bool.and_eq_true, decide_eq_true_eq] at hb
    have hp := ((pathok_spec p0.Path).1 hb.1.1).s.n40
    (try simp only [LN, spec_l22Begun, spec_l22Craft, spec_l22Next])
    (try simp only [spec_l2Copy, impl_copyPath])
    omega

/-- impl.copyCraft -/
def impl_copyCraft (p0 : LinkCraft) : LinkCraft := (⟨p0.Name, p0.Number, p0.No, (impl_copyPath p0.Path), p0.Flown⟩ : LinkCraft)
theorem c149 (p0 : LinkCraft) (k0_0 : LinkCraft.ok p0) : Fn Proofs.Try.prog 149 [⟨.val, true, LinkCraft.cs .bor p0⟩] [.ag (LinkCraft.cs .own (impl_copyCraft p0))] [] := by
  obtain ⟨R, hR⟩ : ∃ R, R = impl_copyCraft p0 := ⟨_, rfl⟩
  rw [← hR]
  rw [impl_copyCraft] at hR
  refine ⟨fn_intro hT Proofs.Try.func149 rfl rfl fun fs => ?_, _, Proofs.Try.func149, rfl, rfl⟩
  have q0 := k0_0; simp only [LinkCraft.ok] at q0
  refine xr hT [] (fun f1 => ⟨[(1, .one (.pt 1 (f1 0 0) 0)), (2, .one (.pt 2 (f1 1 0) 0))], [(1, some (f1 0 0, .box (LinkCraft.cs .bor p0))), (2, some (f1 1 0, .box [.v (.string ⟨#[]⟩), .v (.int .i64 0), .v (.int .i64 0), .v (.int .i64 0), .v (.int .i64 0), .nl, .v (.int .i64 0), .v (.int .i64 0), .nl]))], 13⟩) (fun f => by kernel_rfl) (fun f => by kernel_rfl) fun f1 => ?_
  refine xr hT [ca (c182 p0.Path (by first | assumption | exact (by omega : p0.Path.Steps.length ≤ 1048576)))] (fun f2 => ⟨[(1, .one (.pt 1 (f1 0 0) 0)), (2, .one (.pt 2 (f1 1 0) 0))], [(1, some (f1 0 0, .box [.v (.string p0.Name), .v (.int .i64 p0.Number), .v (.int .i64 p0.No), .v (.int .i64 ((impl_copyPath p0.Path).Kind.Quick)), .v (.int .i64 ((impl_copyPath p0.Path).Kind.Slow)), .mu 600002 (gk (f2 2) 0 2) 7 0 (((impl_copyPath p0.Path).Steps).map FlyStep.row).length, .v (.int .i64 ((impl_copyPath p0.Path).From)), .v (.int .i64 ((impl_copyPath p0.Path).By)), .sl .bor 1 (p0.Flown.map Int.row)])), (2, some (f1 1 0, .box [.v (.string ⟨#[]⟩), .v (.int .i64 0), .v (.int .i64 0), .v (.int .i64 0), .v (.int .i64 0), .nl, .v (.int .i64 0), .v (.int .i64 0), .nl])), (600002, some (gk (f2 2) 0 2, .arr 7 (((impl_copyPath p0.Path).Steps).map FlyStep.row)))], 13⟩) (fun f => by kernel_rfl) (fun f => by kernel_rfl) fun f2 => ?_
  refine xr hT [.app true Int.row ([] : List Int) p0.Flown 8 (fun h => by (try simp only [LN, impl_copyPath]); omega), .pl (Int.rv p0.Flown)] (fun f3 => ⟨[(1, .one (.pt 1 (f1 0 0) 0)), (2, .one (.pt 2 (f1 1 0) 0))], [(1, some (f1 0 0, .box [.v (.string p0.Name), .v (.int .i64 p0.Number), .v (.int .i64 p0.No), .v (.int .i64 ((impl_copyPath p0.Path).Kind.Quick)), .v (.int .i64 ((impl_copyPath p0.Path).Kind.Slow)), .mu 600002 (gk (f2 2) 0 2) 7 0 (((impl_copyPath p0.Path).Steps).map FlyStep.row).length, .v (.int .i64 ((impl_copyPath p0.Path).From)), .v (.int .i64 ((impl_copyPath p0.Path).By)), .mu 7 (f3 3 0) 1 0 (p0.Flown.map Int.row).length])), (2, some (f1 1 0, .box [.v (.string ⟨#[]⟩), .v (.int .i64 0), .v (.int .i64 0), .v (.int .i64 0), .v (.int .i64 0), .nl, .v (.int .i64 0), .v (.int .i64 0), .nl])), (7, some (f3 3 0, .arr 1 (p0.Flown.map Int.row))), (600002, some (gk (f2 2) 0 2, .arr 7 (((impl_copyPath p0.Path).Steps).map FlyStep.row)))], 13⟩) (fun f => by kernel_rfl) (fun f => by kernel_rfl) fun f3 => ?_
  refine xr hT [] (fun f4 => ⟨[(2, .one (.pt 2 (f1 1 0) 0))], [(2, some (f1 1 0, .box [.v (.string p0.Name), .v (.int .i64 p0.Number), .v (.int .i64 p0.No), .v (.int .i64 ((impl_copyPath p0.Path).Kind.Quick)), .v (.int .i64 ((impl_copyPath p0.Path).Kind.Slow)), .mu 600002 (gk (f2 2) 0 2) 7 0 (((impl_copyPath p0.Path).Steps).map FlyStep.row).length, .v (.int .i64 ((impl_copyPath p0.Path).From)), .v (.int .i64 ((impl_copyPath p0.Path).By)), .mu 7 (f3 3 0) 1 0 (p0.Flown.map Int.row).length])), (7, some (f3 3 0, .arr 1 (p0.Flown.map Int.row))), (600002, some (gk (f2 2) 0 2, .arr 7 (((impl_copyPath p0.Path).Steps).map FlyStep.row)))], 13⟩) (fun f => by kernel_rfl) (fun f => by kernel_rfl) fun f4 => ?_
  refine w_ret ?_
  subst hR
  exact x_ret (by kernel_rfl)

/-- impl.LinkMove -/
def impl_LinkMove (p0 : LinkCraft) (p1 : Int) : LinkCraft × Bool := (if (!(impl_name p0.Name)) || (!(impl_LinkCraft_mayGo p0 p1)) then ((impl_copyCraft p0), false) else ((⟨(impl_copyCraft p0).Name, (impl_copyCraft p0).Number, (impl_copyCraft p0).No, (impl_copyCraft p0).Path, ((impl_copyCraft p0).Flown) ++ [p1]⟩ : LinkCraft), true))
theorem c69 (p0 : LinkCraft) (p1 : Int) (k0_0 : LinkCraft.ok p0) : Fn Proofs.Try.prog 69 [⟨.val, true, LinkCraft.cs .bor p0⟩, ⟨.val, false, [.v (.int .i64 p1)]⟩] [.ag (LinkCraft.cs .own (impl_LinkMove p0 p1).1), .c (.v (.bool (impl_LinkMove p0 p1).2))] [] := by
  obtain ⟨R, hR⟩ : ∃ R, R = impl_LinkMove p0 p1 := ⟨_, rfl⟩
  rw [← hR]
  rw [impl_LinkMove] at hR
  refine ⟨fn_intro hT Proofs.Try.func69 rfl rfl fun fs => ?_, _, Proofs.Try.func69, rfl, rfl⟩
  have q0 := k0_0; simp only [LinkCraft.ok] at q0
  refine xr hT [] (fun f1 => ⟨[(1, .one (.c (.v (.int .i64 p1)))), (2, .one (.pt 2 (f1 0 0) 0)), (4, .one (.pt 4 (f1 1 0) 0))], [(2, some (f1 0 0, .box (LinkCraft.cs .bor p0))), (4, some (f1 1 0, .box [.v (.string ⟨#[]⟩), .v (.int .i64 0), .v (.int .i64 0), .v (.int .i64 0), .v (.int .i64 0), .nl, .v (.int .i64 0), .v (.int .i64 0), .nl]))], 27⟩) (fun f => by kernel_rfl) (fun f => by kernel_rfl) fun f1 => ?_
  refine xr hT [ca (c149 p0 (by first | assumption | exact ⟨(by omega : p0.Path.Steps.length ≤ 1048576), (by omega : p0.Flown.length ≤ 1048576)⟩))] (fun f2 => ⟨[(1, .one (.c (.v (.int .i64 p1)))), (2, .one (.pt 2 (f1 0 0) 0)), (4, .one (.pt 4 (f1 1 0) 0)), (6, .one (.pt 6 (f2 2 0) 0))], [(2, some (f1 0 0, .box (LinkCraft.cs .bor p0))), (4, some (f1 1 0, .box [.v (.string ⟨#[]⟩), .v (.int .i64 0), .v (.int .i64 0), .v (.int .i64 0), .v (.int .i64 0), .nl, .v (.int .i64 0), .v (.int .i64 0), .nl])), (6, some (f2 2 0, .box [.v (.string ((impl_copyCraft p0).Name)), .v (.int .i64 ((impl_copyCraft p0).Number)), .v (.int .i64 ((impl_copyCraft p0).No)), .v (.int .i64 ((impl_copyCraft p0).Path.Kind.Quick)), .v (.int .i64 ((impl_copyCraft p0).Path.Kind.Slow)), .mu 900005 (gk (f2 1) 0 5) 7 0 (((impl_copyCraft p0).Path.Steps).map FlyStep.row).length, .v (.int .i64 ((impl_copyCraft p0).Path.From)), .v (.int .i64 ((impl_copyCraft p0).Path.By)), .mu 900008 (gk (f2 1) 0 8) 1 0 (((impl_copyCraft p0).Flown).map Int.row).length])), (900005, some (gk (f2 1) 0 5, .arr 7 (((impl_copyCraft p0).Path.Steps).map FlyStep.row))), (900008, some (gk (f2 1) 0 8, .arr 1 (((impl_copyCraft p0).Flown).map Int.row)))], 27⟩) (fun f => by kernel_rfl) (fun f => by kernel_rfl) fun f2 => ?_
  refine w_seq ?_
  refine xr hT [ca (c94 p0.Name), cg (!(!(impl_name p0.Name))) (fun h => by (try simp only [Bool.and_eq_true, Bool.or_eq_true, decide_eq_true_eq, Bool.not_eq_true', decide_eq_false_iff_not] at h); exact c89 p0 p1 (by first | assumption | exact ⟨(by omega : p0.Path.Steps.length ≤ 1048576), (by omega : p0.Flown.length ≤ 1048576)⟩))] (fun f3 => ⟨[(1, .one (.c (.v (.int .i64 p1)))), (4, .one (.pt 4 (f1 1 0) 0)), (6, .one (.pt 6 (f2 2 0) 0)), (18, .one (.c (.v (.bool ((!(impl_name p0.Name)) || (!(impl_LinkCraft_mayGo p0 p1)))))))], [(4, some (f1 1 0, .box [.v (.string ⟨#[]⟩), .v (.int .i64 0), .v (.int .i64 0), .v (.int .i64 0), .v (.int .i64 0), .nl, .v (.int .i64 0), .v (.int .i64 0), .nl])), (6, some (f2 2 0, .box [.v (.string ((impl_copyCraft p0).Name)), .v (.int .i64 ((impl_copyCraft p0).Number)), .v (.int .i64 ((impl_copyCraft p0).No)), .v (.int .i64 ((impl_copyCraft p0).Path.Kind.Quick)), .v (.int .i64 ((impl_copyCraft p0).Path.Kind.Slow)), .mu 900005 (gk (f2 1) 0 5) 7 0 (((impl_copyCraft p0).Path.Steps).map FlyStep.row).length, .v (.int .i64 ((impl_copyCraft p0).Path.From)), .v (.int .i64 ((impl_copyCraft p0).Path.By)), .mu 900008 (gk (f2 1) 0 8) 1 0 (((impl_copyCraft p0).Flown).map Int.row).length])), (900005, some (gk (f2 1) 0 5, .arr 7 (((impl_copyCraft p0).Path.Steps).map FlyStep.row))), (900008, some (gk (f2 1) 0 8, .arr 1 (((impl_copyCraft p0).Flown).map Int.row)))], 27⟩) (fun f => by kernel_rfl) (fun f => by kernel_rfl) fun f3 => ?_
  refine w_cond rfl (fun h4 => ?_) fun h4 => ?_
  · rw [if_pos h4] at hR
    refine xr hT [] (fun f5 => ⟨[(4, .one (.pt 4 (f1 1 0) 0)), (5, .one (.c (.v (.bool false))))], [(4, some (f1 1 0, .box [.v (.string ((impl_copyCraft p0).Name)), .v (.int .i64 ((impl_copyCraft p0).Number)), .v (.int .i64 ((impl_copyCraft p0).No)), .v (.int .i64 ((impl_copyCraft p0).Path.Kind.Quick)), .v (.int .i64 ((impl_copyCraft p0).Path.Kind.Slow)), .mu 900005 (gk (f2 1) 0 5) 7 0 (((impl_copyCraft p0).Path.Steps).map FlyStep.row).length, .v (.int .i64 ((impl_copyCraft p0).Path.From)), .v (.int .i64 ((impl_copyCraft p0).Path.By)), .mu 900008 (gk (f2 1) 0 8) 1 0 (((impl_copyCraft p0).Flown).map Int.row).length])), (900005, some (gk (f2 1) 0 5, .arr 7 (((impl_copyCraft p0).Path.Steps).map FlyStep.row))), (900008, some (gk (f2 1) 0 8, .arr 1 (((impl_copyCraft p0).Flown).map Int.row)))], 27⟩) (fun f => by kernel_rfl) (fun f => by kernel_rfl) fun f5 => ?_
    refine w_ret ?_
    subst hR
    exact x_ret (by kernel_rfl)
  rw [if_neg (nt h4)] at hR
  refine w_skip ?_
  refine xr hT [.rows Int.row [p1], .app true Int.row ((impl_copyCraft p0).Flown) [p1] 8 (fun h => by (try simp only [LN, impl_copyCraft, impl_name]); omega)] (fun f6 => ⟨[(4, .one (.pt 4 (f1 1 0) 0)), (6, .one (.pt 6 (f2 2 0) 0))], [(4, some (f1 1 0, .box [.v (.string ⟨#[]⟩), .v (.int .i64 0), .v (.int .i64 0), .v (.int .i64 0), .v (.int .i64 0), .nl, .v (.int .i64 0), .v (.int .i64 0), .nl])), (6, some (f2 2 0, .box [.v (.string ((impl_copyCraft p0).Name)), .v (.int .i64 ((impl_copyCraft p0).Number)), .v (.int .i64 ((impl_copyCraft p0).No)), .v (.int .i64 ((impl_copyCraft p0).Path.Kind.Quick)), .v (.int .i64 ((impl_copyCraft p0).Path.Kind.Slow)), .mu 900005 (gk (f2 1) 0 5) 7 0 (((impl_copyCraft p0).Path.Steps).map FlyStep.row).length, .v (.int .i64 ((impl_copyCraft p0).Path.From)), .v (.int .i64 ((impl_copyCraft p0).Path.By)), .mu 900008 (f6 4 0) 1 0 ((((impl_copyCraft p0).Flown) ++ [p1]).map Int.row).length])), (900005, some (gk (f2 1) 0 5, .arr 7 (((impl_copyCraft p0).Path.Steps).map FlyStep.row))), (900008, some (f6 4 0, .arr 1 ((((impl_copyCraft p0).Flown) ++ [p1]).map Int.row)))], 27⟩) (fun f => by kernel_rfl) (fun f => by kernel_rfl) fun f6 => ?_
  refine xr hT [] (fun f7 => ⟨[(4, .one (.pt 4 (f1 1 0) 0)), (5, .one (.c (.v (.bool true))))], [(4, some (f1 1 0, .box [.v (.string ((impl_copyCraft p0).Name)), .v (.int .i64 ((impl_copyCraft p0).Number)), .v (.int .i64 ((impl_copyCraft p0).No)), .v (.int .i64 ((impl_copyCraft p0).Path.Kind.Quick)), .v (.int .i64 ((impl_copyCraft p0).Path.Kind.Slow)), .mu 900005 (gk (f2 1) 0 5) 7 0 (((impl_copyCraft p0).Path.Steps).map FlyStep.row).length, .v (.int .i64 ((impl_copyCraft p0).Path.From)), .v (.int .i64 ((impl_copyCraft p0).Path.By)), .mu 900008 (f6 4 0) 1 0 ((((impl_copyCraft p0).Flown) ++ [p1]).map Int.row).length])), (900005, some (gk (f2 1) 0 5, .arr 7 (((impl_copyCraft p0).Path.Steps).map FlyStep.row))), (900008, some (f6 4 0, .arr 1 ((((impl_copyCraft p0).Flown) ++ [p1]).map Int.row)))], 27⟩) (fun f => by kernel_rfl) (fun f => by kernel_rfl) fun f7 => ?_
  refine w_ret ?_
  subst hR
  exact x_ret (by kernel_rfl)
theorem f_impl_LinkMove (p0 : LinkCraft) (p1 : Int) (h0 : LinkCraft.ok p0) : (impl_LinkMove p0 p1).1.Path.Steps.length ≤ 1048576 ∧ (impl_LinkMove p0 p1).1.Flown.length ≤ 1048576 := by
  unfold impl_LinkMove
  simp only [LinkCraft.ok] at h0
  split
  · (try simp only [LN, impl_copyCraft, impl_name]); exact h0
  · rename_i h
    simp only [Bool.or_eq_true, Bool.not_eq_true', not_or, Bool.not_eq_false] at h
    have hb : spec_l22Begun p0.Path p0.Flown = true := by have := h.2; rw [maygo_eq, Bool.and_eq_true] at this; exact this.1
    simp only [spec_l22Begun, Bool.and_eq_true, decide_eq_true_eq] at hb
    have hp := ((pathok_spec p0.Path).1 hb.1.1).s.n40
    (try simp only [LN, impl_copyCraft, impl_name])
    (try simp only [spec_l2Copy, impl_copyPath])
    omega

/-- laws.markLinkCraft -/
def laws_markLinkCraft (p0 : LinkCraft) (p1 : Int) : Int × LinkCraft := ((laws_markIntS p0.Flown ((laws_markFlyPath p0.Path p1).1)).1, (⟨p0.Name, p0.Number, p0.No, ⟨p0.Path.Kind, ((laws_markFlyPath p0.Path p1).2).Steps, p0.Path.From, p0.Path.By⟩, (laws_markIntS p0.Flown ((laws_markFlyPath p0.Path p1).1)).2⟩ : LinkCraft))
theorem c70 (p0 : LinkCraft) (p1 : Int) (k0_0 : LinkCraft.ok p0) : Fn Proofs.Try.prog 70 [⟨.mt, true, LinkCraft.cs .own p0⟩, ⟨.val, false, [.v (.int .i64 p1)]⟩] [.c (.v (.int .i64 (laws_markLinkCraft p0 p1).1))] [LinkCraft.cs .own (laws_markLinkCraft p0 p1).2] := by
  obtain ⟨R, hR⟩ : ∃ R, R = laws_markLinkCraft p0 p1 := ⟨_, rfl⟩
  rw [← hR]
  rw [laws_markLinkCraft] at hR
  refine ⟨fn_intro hT Proofs.Try.func70 rfl rfl fun fs => ?_, _, Proofs.Try.func70, rfl, rfl⟩
  have q0 := k0_0; simp only [LinkCraft.ok] at q0
  refine xr hT [] (fun f1 => ⟨[(1, .one (.c (.v (.int .i64 p1)))), (2, .one (.pt 2 (f1 0 0) 0))], [(2, some (f1 0 0, .box [.v (.string p0.Name), .v (.int .i64 p0.Number), .v (.int .i64 p0.No), .v (.int .i64 p0.Path.Kind.Quick), .v (.int .i64 p0.Path.Kind.Slow), .mu 1005 (fs 0 5) 7 0 (p0.Path.Steps.map FlyStep.row).length, .v (.int .i64 p0.Path.From), .v (.int .i64 p0.Path.By), .mu 1008 (fs 0 8) 1 0 (p0.Flown.map Int.row).length])), (1005, some (fs 0 5, .arr 7 (p0.Path.Steps.map FlyStep.row))), (1008, some (fs 0 8, .arr 1 (p0.Flown.map Int.row)))], 14⟩) (fun f => by kernel_rfl) (fun f => by kernel_rfl) fun f1 => ?_
  refine xr hT [ca (c28 p0.Path p1 (by first | assumption | exact (by omega : p0.Path.Steps.length ≤ 1048576)))] (fun f2 => ⟨[(1, .one (.c (.v (.int .i64 ((laws_markFlyPath p0.Path p1).1))))), (2, .one (.pt 2 (f1 0 0) 0))], [(2, some (f1 0 0, .box [.v (.string p0.Name), .v (.int .i64 p0.Number), .v (.int .i64 p0.No), .v (.int .i64 p0.Path.Kind.Quick), .v (.int .i64 p0.Path.Kind.Slow), .mu 1005 (fs 0 5) 7 0 (p0.Path.Steps.map FlyStep.row).length, .v (.int .i64 p0.Path.From), .v (.int .i64 p0.Path.By), .mu 1008 (fs 0 8) 1 0 (p0.Flown.map Int.row).length])), (1005, some (fs 0 5, .arr 7 ((((laws_markFlyPath p0.Path p1).2).Steps).map FlyStep.row))), (1008, some (fs 0 8, .arr 1 (p0.Flown.map Int.row)))], 14⟩) (fun f => by kernel_rfl) (fun f => by kernel_rfl) fun f2 => ?_
  refine w_sub (s := ⟨[(1, .one (.c (.v (.int .i64 ((laws_markFlyPath p0.Path p1).1))))), (2, .one (.pt 2 (f1 0 0) 0))], [(2, some (f1 0 0, .box [.v (.string p0.Name), .v (.int .i64 p0.Number), .v (.int .i64 p0.No), .v (.int .i64 p0.Path.Kind.Quick), .v (.int .i64 p0.Path.Kind.Slow), .mu 1005 (fs 0 5) 7 0 ((((laws_markFlyPath p0.Path p1).2).Steps).map FlyStep.row).length, .v (.int .i64 p0.Path.From), .v (.int .i64 p0.Path.By), .mu 1008 (fs 0 8) 1 0 (p0.Flown.map Int.row).length])), (1005, some (fs 0 5, .arr 7 ((((laws_markFlyPath p0.Path p1).2).Steps).map FlyStep.row))), (1008, some (fs 0 8, .arr 1 (p0.Flown.map Int.row)))], 14⟩) (cst (by simp only [LN, f_laws_markFlyPath, f_laws_markIntS]) (sb (s := ⟨[(1, .one (.c (.v (.int .i64 ((laws_markFlyPath p0.Path p1).1))))), (2, .one (.pt 2 (f1 0 0) 0))], [(2, some (f1 0 0, .box [.v (.string p0.Name), .v (.int .i64 p0.Number), .v (.int .i64 p0.No), .v (.int .i64 p0.Path.Kind.Quick), .v (.int .i64 p0.Path.Kind.Slow), .mu 1005 (fs 0 5) 7 0 (p0.Path.Steps.map FlyStep.row).length, .v (.int .i64 p0.Path.From), .v (.int .i64 p0.Path.By), .mu 1008 (fs 0 8) 1 0 (p0.Flown.map Int.row).length])), (1005, some (fs 0 5, .arr 7 ((((laws_markFlyPath p0.Path p1).2).Steps).map FlyStep.row))), (1008, some (fs 0 8, .arr 1 (p0.Flown.map Int.row)))], 14⟩) (by kernel_rfl))) ?_
  refine xr hT [ca (c150 p0.Flown ((laws_markFlyPath p0.Path p1).1) (by omega))] (fun f3 => ⟨[(1, .one (.c (.v (.int .i64 ((laws_markIntS p0.Flown ((laws_markFlyPath p0.Path p1).1)).1)))))], [(1005, some (fs 0 5, .arr 7 ((((laws_markFlyPath p0.Path p1).2).Steps).map FlyStep.row))), (1008, some (fs 0 8, .arr 1 (((laws_markIntS p0.Flown ((laws_markFlyPath p0.Path p1).1)).2).map Int.row)))], 14⟩) (fun f => by kernel_rfl) (fun f => by kernel_rfl) fun f3 => ?_
  refine xr hT [] (fun f4 => ⟨[(4, .one (.c (.v (.int .i64 ((laws_markIntS p0.Flown ((laws_markFlyPath p0.Path p1).1)).1)))))], [(1005, some (fs 0 5, .arr 7 ((((laws_markFlyPath p0.Path p1).2).Steps).map FlyStep.row))), (1008, some (fs 0 8, .arr 1 (((laws_markIntS p0.Flown ((laws_markFlyPath p0.Path p1).1)).2).map Int.row)))], 14⟩) (fun f => by kernel_rfl) (fun f => by kernel_rfl) fun f4 => ?_
  refine w_ret ?_
  subst hR
  exact x_ret (by kernel_rfl)
theorem f_laws_markLinkCraft (p0 : LinkCraft) (p1 : Int) : (laws_markLinkCraft p0 p1).2.Path.Steps.length = p0.Path.Steps.length ∧ (laws_markLinkCraft p0 p1).2.Flown.length = p0.Flown.length := by
  simp only [laws_markLinkCraft, LN, f_laws_markFlyPath, f_laws_markIntS, and_self]

/-- laws.heldFlyPath -/
def laws_heldFlyPath (p0 : FlyPath) (p1 : Int) : Int := (if decide ((laws_heldFlyStepS p0.Steps p1) < 0) then (-1) else (laws_heldFlyStepS p0.Steps p1))
theorem c151 (p0 : FlyPath) (p1 : Int) (k0_0 : FlyPath.ok p0) : Fn Proofs.Try.prog 151 [⟨.val, true, FlyPath.cs .bor p0⟩, ⟨.val, false, [.v (.int .i64 p1)]⟩] [.c (.v (.int .i64 (laws_heldFlyPath p0 p1)))] [] := by
  obtain ⟨R, hR⟩ : ∃ R, R = laws_heldFlyPath p0 p1 := ⟨_, rfl⟩
  rw [← hR]
  rw [laws_heldFlyPath] at hR
  refine ⟨fn_intro hT Proofs.Try.func151 rfl rfl fun fs => ?_, _, Proofs.Try.func151, rfl, rfl⟩
  have q0 := k0_0; simp only [FlyPath.ok] at q0
  refine xr hT [] (fun f1 => ⟨[(1, .one (.c (.v (.int .i64 p1)))), (2, .one (.pt 2 (f1 0 0) 0))], [(2, some (f1 0 0, .box (FlyPath.cs .bor p0)))], 12⟩) (fun f => by kernel_rfl) (fun f => by kernel_rfl) fun f1 => ?_
  refine xr hT [ca (c185 p0.Steps p1 (by omega))] (fun f2 => ⟨[(1, .one (.c (.v (.int .i64 (laws_heldFlyStepS p0.Steps p1)))))], [], 12⟩) (fun f => by kernel_rfl) (fun f => by kernel_rfl) fun f2 => ?_
  refine w_seq ?_
  refine xr hT [] (fun f3 => ⟨[(1, .one (.c (.v (.int .i64 (laws_heldFlyStepS p0.Steps p1))))), (10, .one (.c (.v (.bool (decide ((laws_heldFlyStepS p0.Steps p1) < 0))))))], [], 12⟩) (fun f => by kernel_rfl) (fun f => by kernel_rfl) fun f3 => ?_
  refine w_cond rfl (fun h4 => ?_) fun h4 => ?_
  · rw [if_pos h4] at hR
    have gh4 := of_decide_eq_true h4
    refine xr hT [] (fun f5 => ⟨[(4, .one (.c (.v (.int .i64 (-1)))))], [], 12⟩) (fun f => by kernel_rfl) (fun f => by kernel_rfl) fun f5 => ?_
    refine w_ret ?_
    subst hR
    exact x_ret (by kernel_rfl)
  rw [if_neg (nt h4)] at hR
  have gh4 := of_decide_eq_false h4
  refine w_skip ?_
  refine xr hT [] (fun f6 => ⟨[(4, .one (.c (.v (.int .i64 (laws_heldFlyStepS p0.Steps p1)))))], [], 12⟩) (fun f => by kernel_rfl) (fun f => by kernel_rfl) fun f6 => ?_
  refine w_ret ?_
  subst hR
  exact x_ret (by kernel_rfl)

/-- laws.heldLinkCraft -/
def laws_heldLinkCraft (p0 : LinkCraft) (p1 : Int) : Int := (if decide ((laws_heldFlyPath p0.Path p1) < 0) then (-1) else (if decide ((laws_heldIntS p0.Flown (laws_heldFlyPath p0.Path p1)) < 0) then (-1) else (laws_heldIntS p0.Flown (laws_heldFlyPath p0.Path p1))))
theorem c71 (p0 : LinkCraft) (p1 : Int) (k0_0 : LinkCraft.ok p0) : Fn Proofs.Try.prog 71 [⟨.val, true, LinkCraft.cs .bor p0⟩, ⟨.val, false, [.v (.int .i64 p1)]⟩] [.c (.v (.int .i64 (laws_heldLinkCraft p0 p1)))] [] := by
  obtain ⟨R, hR⟩ : ∃ R, R = laws_heldLinkCraft p0 p1 := ⟨_, rfl⟩
  rw [← hR]
  rw [laws_heldLinkCraft] at hR
  refine ⟨fn_intro hT Proofs.Try.func71 rfl rfl fun fs => ?_, _, Proofs.Try.func71, rfl, rfl⟩
  have q0 := k0_0; simp only [LinkCraft.ok] at q0
  refine xr hT [] (fun f1 => ⟨[(1, .one (.c (.v (.int .i64 p1)))), (2, .one (.pt 2 (f1 0 0) 0))], [(2, some (f1 0 0, .box (LinkCraft.cs .bor p0)))], 18⟩) (fun f => by kernel_rfl) (fun f => by kernel_rfl) fun f1 => ?_
  refine xr hT [ca (c151 p0.Path p1 (by first | assumption | exact (by omega : p0.Path.Steps.length ≤ 1048576)))] (fun f2 => ⟨[(1, .one (.c (.v (.int .i64 (laws_heldFlyPath p0.Path p1))))), (2, .one (.pt 2 (f1 0 0) 0))], [(2, some (f1 0 0, .box (LinkCraft.cs .bor p0)))], 18⟩) (fun f => by kernel_rfl) (fun f => by kernel_rfl) fun f2 => ?_
  refine w_seq ?_
  refine xr hT [] (fun f3 => ⟨[(1, .one (.c (.v (.int .i64 (laws_heldFlyPath p0.Path p1))))), (2, .one (.pt 2 (f1 0 0) 0)), (10, .one (.c (.v (.bool (decide ((laws_heldFlyPath p0.Path p1) < 0))))))], [(2, some (f1 0 0, .box (LinkCraft.cs .bor p0)))], 18⟩) (fun f => by kernel_rfl) (fun f => by kernel_rfl) fun f3 => ?_
  refine w_cond rfl (fun h4 => ?_) fun h4 => ?_
  · rw [if_pos h4] at hR
    have gh4 := of_decide_eq_true h4
    refine xr hT [] (fun f5 => ⟨[(4, .one (.c (.v (.int .i64 (-1)))))], [], 18⟩) (fun f => by kernel_rfl) (fun f => by kernel_rfl) fun f5 => ?_
    refine w_ret ?_
    subst hR
    exact x_ret (by kernel_rfl)
  rw [if_neg (nt h4)] at hR
  have gh4 := of_decide_eq_false h4
  refine w_skip ?_
  refine xr hT [ca (c152 p0.Flown (laws_heldFlyPath p0.Path p1) (by omega))] (fun f6 => ⟨[(1, .one (.c (.v (.int .i64 (laws_heldIntS p0.Flown (laws_heldFlyPath p0.Path p1))))))], [], 18⟩) (fun f => by kernel_rfl) (fun f => by kernel_rfl) fun f6 => ?_
  refine w_seq ?_
  refine xr hT [] (fun f7 => ⟨[(1, .one (.c (.v (.int .i64 (laws_heldIntS p0.Flown (laws_heldFlyPath p0.Path p1)))))), (16, .one (.c (.v (.bool (decide ((laws_heldIntS p0.Flown (laws_heldFlyPath p0.Path p1)) < 0))))))], [], 18⟩) (fun f => by kernel_rfl) (fun f => by kernel_rfl) fun f7 => ?_
  refine w_cond rfl (fun h8 => ?_) fun h8 => ?_
  · rw [if_pos h8] at hR
    have gh8 := of_decide_eq_true h8
    refine xr hT [] (fun f9 => ⟨[(4, .one (.c (.v (.int .i64 (-1)))))], [], 18⟩) (fun f => by kernel_rfl) (fun f => by kernel_rfl) fun f9 => ?_
    refine w_ret ?_
    subst hR
    exact x_ret (by kernel_rfl)
  rw [if_neg (nt h8)] at hR
  have gh8 := of_decide_eq_false h8
  refine w_skip ?_
  refine xr hT [] (fun f10 => ⟨[(4, .one (.c (.v (.int .i64 (laws_heldIntS p0.Flown (laws_heldFlyPath p0.Path p1))))))], [], 18⟩) (fun f => by kernel_rfl) (fun f => by kernel_rfl) fun f10 => ?_
  refine w_ret ?_
  subst hR
  exact x_ret (by kernel_rfl)
end Go.Lap
