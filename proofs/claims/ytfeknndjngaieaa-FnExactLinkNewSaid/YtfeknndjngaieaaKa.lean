/- Walks: models of the functions, and that the code computes them. -/
import Derived.Test.YtfeknndjngaieaaFe
set_option linter.unusedVariables false
set_option linter.unusedSimpArgs false
namespace Go.Lap
open Go.RowKit

/-- laws.eqFlyKind -/
def laws_eqFlyKind (p0 : FlyKind) (p1 : FlyKind) : Bool := (if !decide (p0.Quick = p1.Quick) then false else (if !decide (p0.Slow = p1.Slow) then false else true))
theorem c104 (p0 : FlyKind) (p1 : FlyKind) : Fn Proofs.Try.prog 104 [⟨.val, true, FlyKind.cs .bor p0⟩, ⟨.val, true, FlyKind.cs .bor p1⟩] [.c (.v (.bool (laws_eqFlyKind p0 p1)))] [] := by
  obtain ⟨R, hR⟩ : ∃ R, R = laws_eqFlyKind p0 p1 := ⟨_, rfl⟩
  rw [← hR]
  rw [laws_eqFlyKind] at hR
  refine ⟨fn_intro hT Proofs.Try.func104 rfl rfl fun fs => ?_, _, Proofs.Try.func104, rfl, rfl⟩
  refine xr hT [] (fun f1 => ⟨[(2, .one (.pt 2 (f1 0 0) 0)), (3, .one (.pt 3 (f1 1 0) 0))], [(2, some (f1 0 0, .box (FlyKind.cs .bor p0))), (3, some (f1 1 0, .box (FlyKind.cs .bor p1)))], 15⟩) (fun f => by kernel_rfl) (fun f => by kernel_rfl) fun f1 => ?_
  refine w_seq ?_
  refine xr hT [] (fun f2 => ⟨[(2, .one (.pt 2 (f1 0 0) 0)), (3, .one (.pt 3 (f1 1 0) 0)), (9, .one (.c (.v (.bool (!decide (p0.Quick = p1.Quick))))))], [(2, some (f1 0 0, .box (FlyKind.cs .bor p0))), (3, some (f1 1 0, .box (FlyKind.cs .bor p1)))], 15⟩) (fun f => by kernel_rfl) (fun f => by kernel_rfl) fun f2 => ?_
  refine w_cond rfl (fun h3 => ?_) fun h3 => ?_
  · rw [if_pos h3] at hR
    have gh3 := nd1 h3
    refine xr hT [] (fun f4 => ⟨[(4, .one (.c (.v (.bool false))))], [], 15⟩) (fun f => by kernel_rfl) (fun f => by kernel_rfl) fun f4 => ?_
    refine w_ret ?_
    subst hR
    exact x_ret (by kernel_rfl)
  rw [if_neg (nt h3)] at hR
  have gh3 := nd0 h3
  refine w_skip ?_
  refine w_seq ?_
  refine xr hT [] (fun f5 => ⟨[(14, .one (.c (.v (.bool (!decide (p0.Slow = p1.Slow))))))], [], 15⟩) (fun f => by kernel_rfl) (fun f => by kernel_rfl) fun f5 => ?_
  refine w_cond rfl (fun h6 => ?_) fun h6 => ?_
  · rw [if_pos h6] at hR
    have gh6 := nd1 h6
    refine xr hT [] (fun f7 => ⟨[(4, .one (.c (.v (.bool false))))], [], 15⟩) (fun f => by kernel_rfl) (fun f => by kernel_rfl) fun f7 => ?_
    refine w_ret ?_
    subst hR
    exact x_ret (by kernel_rfl)
  rw [if_neg (nt h6)] at hR
  have gh6 := nd0 h6
  refine w_skip ?_
  refine xr hT [] (fun f8 => ⟨[(4, .one (.c (.v (.bool true))))], [], 15⟩) (fun f => by kernel_rfl) (fun f => by kernel_rfl) fun f8 => ?_
  refine w_ret ?_
  subst hR
  exact x_ret (by kernel_rfl)

/-- laws.eqFlyStep -/
def laws_eqFlyStep (p0 : FlyStep) (p1 : FlyStep) : Bool := (if !decide (p0.X = p1.X) then false else (if !decide (p0.Y = p1.Y) then false else (if !decide (p0.Low = p1.Low) then false else (if !decide (p0.High = p1.High) then false else (if !decide (p0.From = p1.From) then false else (if !decide (p0.By = p1.By) then false else (if !(p0.Hold == p1.Hold) then false else true)))))))
theorem c179 (p0 : FlyStep) (p1 : FlyStep) : Fn Proofs.Try.prog 179 [⟨.val, true, FlyStep.cs .bor p0⟩, ⟨.val, true, FlyStep.cs .bor p1⟩] [.c (.v (.bool (laws_eqFlyStep p0 p1)))] [] := by
  obtain ⟨R, hR⟩ : ∃ R, R = laws_eqFlyStep p0 p1 := ⟨_, rfl⟩
  rw [← hR]
  rw [laws_eqFlyStep] at hR
  refine ⟨fn_intro hT Proofs.Try.func179 rfl rfl fun fs => ?_, _, Proofs.Try.func179, rfl, rfl⟩
  refine xr hT [] (fun f1 => ⟨[(2, .one (.pt 2 (f1 0 0) 0)), (3, .one (.pt 3 (f1 1 0) 0))], [(2, some (f1 0 0, .box (FlyStep.cs .bor p0))), (3, some (f1 1 0, .box (FlyStep.cs .bor p1)))], 40⟩) (fun f => by kernel_rfl) (fun f => by kernel_rfl) fun f1 => ?_
  refine w_seq ?_
  refine xr hT [] (fun f2 => ⟨[(2, .one (.pt 2 (f1 0 0) 0)), (3, .one (.pt 3 (f1 1 0) 0)), (9, .one (.c (.v (.bool (!decide (p0.X = p1.X))))))], [(2, some (f1 0 0, .box (FlyStep.cs .bor p0))), (3, some (f1 1 0, .box (FlyStep.cs .bor p1)))], 40⟩) (fun f => by kernel_rfl) (fun f => by kernel_rfl) fun f2 => ?_
  refine w_cond rfl (fun h3 => ?_) fun h3 => ?_
  · rw [if_pos h3] at hR
    have gh3 := nd1 h3
    refine xr hT [] (fun f4 => ⟨[(4, .one (.c (.v (.bool false))))], [], 40⟩) (fun f => by kernel_rfl) (fun f => by kernel_rfl) fun f4 => ?_
    refine w_ret ?_
    subst hR
    exact x_ret (by kernel_rfl)
  rw [if_neg (nt h3)] at hR
  have gh3 := nd0 h3
  refine w_skip ?_
  refine w_seq ?_
  refine xr hT [] (fun f5 => ⟨[(2, .one (.pt 2 (f1 0 0) 0)), (3, .one (.pt 3 (f1 1 0) 0)), (14, .one (.c (.v (.bool (!decide (p0.Y = p1.Y))))))], [(2, some (f1 0 0, .box (FlyStep.cs .bor p0))), (3, some (f1 1 0, .box (FlyStep.cs .bor p1)))], 40⟩) (fun f => by kernel_rfl) (fun f => by kernel_rfl) fun f5 => ?_
  refine w_cond rfl (fun h6 => ?_) fun h6 => ?_
  · rw [if_pos h6] at hR
    have gh6 := nd1 h6
    refine xr hT [] (fun f7 => ⟨[(4, .one (.c (.v (.bool false))))], [], 40⟩) (fun f => by kernel_rfl) (fun f => by kernel_rfl) fun f7 => ?_
    refine w_ret ?_
    subst hR
    exact x_ret (by kernel_rfl)
  rw [if_neg (nt h6)] at hR
  have gh6 := nd0 h6
  refine w_skip ?_
  refine w_seq ?_
  refine xr hT [] (fun f8 => ⟨[(2, .one (.pt 2 (f1 0 0) 0)), (3, .one (.pt 3 (f1 1 0) 0)), (19, .one (.c (.v (.bool (!decide (p0.Low = p1.Low))))))], [(2, some (f1 0 0, .box (FlyStep.cs .bor p0))), (3, some (f1 1 0, .box (FlyStep.cs .bor p1)))], 40⟩) (fun f => by kernel_rfl) (fun f => by kernel_rfl) fun f8 => ?_
  refine w_cond rfl (fun h9 => ?_) fun h9 => ?_
  · rw [if_pos h9] at hR
    have gh9 := nd1 h9
    refine xr hT [] (fun f10 => ⟨[(4, .one (.c (.v (.bool false))))], [], 40⟩) (fun f => by kernel_rfl) (fun f => by kernel_rfl) fun f10 => ?_
    refine w_ret ?_
    subst hR
    exact x_ret (by kernel_rfl)
  rw [if_neg (nt h9)] at hR
  have gh9 := nd0 h9
  refine w_skip ?_
  refine w_seq ?_
  refine xr hT [] (fun f11 => ⟨[(2, .one (.pt 2 (f1 0 0) 0)), (3, .one (.pt 3 (f1 1 0) 0)), (24, .one (.c (.v (.bool (!decide (p0.High = p1.High))))))], [(2, some (f1 0 0, .box (FlyStep.cs .bor p0))), (3, some (f1 1 0, .box (FlyStep.cs .bor p1)))], 40⟩) (fun f => by kernel_rfl) (fun f => by kernel_rfl) fun f11 => ?_
  refine w_cond rfl (fun h12 => ?_) fun h12 => ?_
  · rw [if_pos h12] at hR
    have gh12 := nd1 h12
    refine xr hT [] (fun f13 => ⟨[(4, .one (.c (.v (.bool false))))], [], 40⟩) (fun f => by kernel_rfl) (fun f => by kernel_rfl) fun f13 => ?_
    refine w_ret ?_
    subst hR
    exact x_ret (by kernel_rfl)
  rw [if_neg (nt h12)] at hR
  have gh12 := nd0 h12
  refine w_skip ?_
  refine w_seq ?_
  refine xr hT [] (fun f14 => ⟨[(2, .one (.pt 2 (f1 0 0) 0)), (3, .one (.pt 3 (f1 1 0) 0)), (29, .one (.c (.v (.bool (!decide (p0.From = p1.From))))))], [(2, some (f1 0 0, .box (FlyStep.cs .bor p0))), (3, some (f1 1 0, .box (FlyStep.cs .bor p1)))], 40⟩) (fun f => by kernel_rfl) (fun f => by kernel_rfl) fun f14 => ?_
  refine w_cond rfl (fun h15 => ?_) fun h15 => ?_
  · rw [if_pos h15] at hR
    have gh15 := nd1 h15
    refine xr hT [] (fun f16 => ⟨[(4, .one (.c (.v (.bool false))))], [], 40⟩) (fun f => by kernel_rfl) (fun f => by kernel_rfl) fun f16 => ?_
    refine w_ret ?_
    subst hR
    exact x_ret (by kernel_rfl)
  rw [if_neg (nt h15)] at hR
  have gh15 := nd0 h15
  refine w_skip ?_
  refine w_seq ?_
  refine xr hT [] (fun f17 => ⟨[(2, .one (.pt 2 (f1 0 0) 0)), (3, .one (.pt 3 (f1 1 0) 0)), (34, .one (.c (.v (.bool (!decide (p0.By = p1.By))))))], [(2, some (f1 0 0, .box (FlyStep.cs .bor p0))), (3, some (f1 1 0, .box (FlyStep.cs .bor p1)))], 40⟩) (fun f => by kernel_rfl) (fun f => by kernel_rfl) fun f17 => ?_
  refine w_cond rfl (fun h18 => ?_) fun h18 => ?_
  · rw [if_pos h18] at hR
    have gh18 := nd1 h18
    refine xr hT [] (fun f19 => ⟨[(4, .one (.c (.v (.bool false))))], [], 40⟩) (fun f => by kernel_rfl) (fun f => by kernel_rfl) fun f19 => ?_
    refine w_ret ?_
    subst hR
    exact x_ret (by kernel_rfl)
  rw [if_neg (nt h18)] at hR
  have gh18 := nd0 h18
  refine w_skip ?_
  refine w_seq ?_
  refine xr hT [.und Proofs.Try.underlying4] (fun f20 => ⟨[(39, .one (.c (.v (.bool (!(p0.Hold == p1.Hold))))))], [], 40⟩) (fun f => by kernel_rfl) (fun f => by kernel_rfl) fun f20 => ?_
  refine w_cond rfl (fun h21 => ?_) fun h21 => ?_
  · rw [if_pos h21] at hR
    refine xr hT [] (fun f22 => ⟨[(4, .one (.c (.v (.bool false))))], [], 40⟩) (fun f => by kernel_rfl) (fun f => by kernel_rfl) fun f22 => ?_
    refine w_ret ?_
    subst hR
    exact x_ret (by kernel_rfl)
  rw [if_neg (nt h21)] at hR
  refine w_skip ?_
  refine xr hT [] (fun f23 => ⟨[(4, .one (.c (.v (.bool true))))], [], 40⟩) (fun f => by kernel_rfl) (fun f => by kernel_rfl) fun f23 => ?_
  refine w_ret ?_
  subst hR
  exact x_ret (by kernel_rfl)

def laws_eqFlyStepS_I1 (p0 : (List FlyStep)) (p1 : (List FlyStep)) (fs : Nat → Nat → Nat) (i1 : Nat) (s1 : Unit) (x1 : Nat → Nat) : St := ⟨[(0, .one (.c (.sl .bor 7 (p0.map FlyStep.row)))), (1, .one (.c (.sl .bor 7 (p1.map FlyStep.row)))), (5, .one (.c (.v (.int .i64 ((i1 : Nat) : Int)))))], [], 27⟩
def laws_eqFlyStepS_J1 (p0 : (List FlyStep)) (p1 : (List FlyStep)) (fs : Nat → Nat → Nat) (s1 : Unit) (x1 : Nat → Nat) : St := ⟨[], [], 27⟩
def laws_eqFlyStepS_b1 (p0 : (List FlyStep)) (p1 : (List FlyStep)) (i1 : Nat) (s1 : Unit) : Res (Unit) Bool := (if !(laws_eqFlyStep (p0.getD i1 default) (p1.getD i1 default)) then (.ret false) else (.next ()))
def laws_eqFlyStepS_r1 (p0 : (List FlyStep)) (p1 : (List FlyStep)) (s1 : Unit) : Bool := true
/-- laws.eqFlyStepS -/
def laws_eqFlyStepS (p0 : (List FlyStep)) (p1 : (List FlyStep)) : Bool := (if !decide ((p0.length : Int) = (p1.length : Int)) then false else (Res.fin (laws_eqFlyStepS_r1 p0 p1) (forN (laws_eqFlyStepS_b1 p0 p1) (p0.length - 0) 0 ())))
theorem c105 (p0 : (List FlyStep)) (p1 : (List FlyStep)) (k0_0 : p0.length ≤ 1048576) (k1_0 : p1.length ≤ 1048576) : Fn Proofs.Try.prog 105 [⟨.val, false, [.sl .bor 7 (p0.map FlyStep.row)]⟩, ⟨.val, false, [.sl .bor 7 (p1.map FlyStep.row)]⟩] [.c (.v (.bool (laws_eqFlyStepS p0 p1)))] [] := by
  obtain ⟨R, hR⟩ : ∃ R, R = laws_eqFlyStepS p0 p1 := ⟨_, rfl⟩
  rw [← hR]
  rw [laws_eqFlyStepS] at hR
  refine ⟨fn_intro hT Proofs.Try.func105 rfl rfl fun fs => ?_, _, Proofs.Try.func105, rfl, rfl⟩
  refine xr hT [] (fun f1 => ⟨[(0, .one (.c (.sl .bor 7 (p0.map FlyStep.row)))), (1, .one (.c (.sl .bor 7 (p1.map FlyStep.row))))], [], 27⟩) (fun f => by kernel_rfl) (fun f => by kernel_rfl) fun f1 => ?_
  refine w_seq ?_
  refine xr hT [.ln FlyStep.row p0, .ln FlyStep.row p1] (fun f2 => ⟨[(0, .one (.c (.sl .bor 7 (p0.map FlyStep.row)))), (1, .one (.c (.sl .bor 7 (p1.map FlyStep.row)))), (10, .one (.c (.v (.bool (!decide ((p0.length : Int) = (p1.length : Int)))))))], [], 27⟩) (fun f => by kernel_rfl) (fun f => by kernel_rfl) fun f2 => ?_
  refine w_cond rfl (fun h3 => ?_) fun h3 => ?_
  · rw [if_pos h3] at hR
    have gh3 := nd1 h3
    refine xr hT [] (fun f4 => ⟨[(4, .one (.c (.v (.bool false))))], [], 27⟩) (fun f => by kernel_rfl) (fun f => by kernel_rfl) fun f4 => ?_
    refine w_ret ?_
    subst hR
    exact x_ret (by kernel_rfl)
  rw [if_neg (nt h3)] at hR
  have gh3 := nd0 h3
  refine w_skip ?_
  refine w_seq ?_
  refine xr hT [] (fun f5 => ⟨[(0, .one (.c (.sl .bor 7 (p0.map FlyStep.row)))), (1, .one (.c (.sl .bor 7 (p1.map FlyStep.row)))), (5, .one (.c (.v (.int .i64 0))))], [], 27⟩) (fun f => by kernel_rfl) (fun f => by kernel_rfl) fun f5 => ?_
  refine w_forT (fun _ => rfl) (laws_eqFlyStepS_I1 p0 p1 fs) (laws_eqFlyStepS_J1 p0 p1 fs) (fun i1 s1 => True) (fun s1 => True) (p0.length) 0 (laws_eqFlyStepS_b1 p0 p1) (laws_eqFlyStepS_r1 p0 p1) 0 (()) (lst []) (sb (by kernel_rfl)) trivial hR ?_ ?_
  · skip
    intro i1 s1 x1 hI1 hX1
    refine w_seq ?_
    refine xr hT [.ln FlyStep.row p0] (fun f6 => ⟨[(0, .one (.c (.sl .bor 7 (p0.map FlyStep.row)))), (1, .one (.c (.sl .bor 7 (p1.map FlyStep.row)))), (5, .one (.c (.v (.int .i64 ((i1 : Nat) : Int))))), (14, .one (.c (.v (.bool (decide (((i1 : Nat) : Int) < (p0.length : Int)))))))], [], 27⟩) (fun f => by kernel_rfl) (fun f => by kernel_rfl) fun f6 => ?_
    refine w_cond rfl (fun h7 => ?_) fun h7 => ?_
    · skip
      have hl1 : i1 < p0.length := by have hq := of_decide_eq_true h7; first | omega | ((try simp only [LN] at *); omega)
      obtain ⟨B1, hB1⟩ : ∃ B, B = laws_eqFlyStepS_b1 p0 p1 i1 s1 := ⟨_, rfl⟩
      have hE1 := hB1
      rw [laws_eqFlyStepS_b1] at hE1
      refine w_skip ?_
      refine w_seq ?_
      refine w_block ?_
      refine xd hT hM [ix FlyStep.row p0 i1 (by omega), ix FlyStep.row p1 i1 (by omega), ca (c179 (p0.getD i1 default) (p1.getD i1 default))] (fun f8 => ⟨[(0, .one (.c (.sl .bor 7 (p0.map FlyStep.row)))), (1, .one (.c (.sl .bor 7 (p1.map FlyStep.row)))), (5, .one (.c (.v (.int .i64 ((i1 : Nat) : Int))))), (26, .one (.c (.v (.bool (!(laws_eqFlyStep (p0.getD i1 default) (p1.getD i1 default)))))))], [], 27⟩) (fun f => by kernel_rfl) (fun f => by kernel_rfl) (fun f => by kernel_rfl) fun f8 => ?_
      refine w_cond rfl (fun h9 => ?_) fun h9 => ?_
      · rw [if_pos h9] at hE1
        refine xr hT [] (fun f10 => ⟨[(4, .one (.c (.v (.bool false))))], [], 27⟩) (fun f => by kernel_rfl) (fun f => by kernel_rfl) fun f10 => ?_
        refine w_ret ?_
        have hR := hX1.trans (forN_ret hl1 (hB1.symm.trans hE1))
        subst hR
        exact x_ret (by kernel_rfl)
      rw [if_neg (nt h9)] at hE1
      refine w_skip ?_
      refine x_reg hT [.ex true (((i1 : Nat) : Int) + ((1 : Nat) : Int)) ((((i1 + 1) : Nat) : Int)) (fun _ => wr_nat (n := i1) (c := 1) (by omega))] (fun f11 => laws_eqFlyStepS_I1 p0 p1 fs (i1 + 1) () (lst [])) (fun f => by kernel_rfl) (fun f => by kernel_rfl) fun f11 s' hs' => ?_
      exact ⟨(), (lst []), hl1, trivial, hX1.trans (forN_next hl1 (hB1.symm.trans hE1)), hs'⟩
    have hq := of_decide_eq_false h7
    refine w_exit ?_
    exact ⟨s1, (lst []), trivial, hX1.trans (forN_end (by first | omega | ((try simp only [LN] at *); omega))), sb (by kernel_rfl)⟩
  intro s1 x1 hF14 hR12
  rw [laws_eqFlyStepS_r1] at hR12
  refine xr hT [] (fun f13 => ⟨[(4, .one (.c (.v (.bool true))))], [], 27⟩) (fun f => by kernel_rfl) (fun f => by kernel_rfl) fun f13 => ?_
  refine w_ret ?_
  subst hR12
  exact x_ret (by kernel_rfl)

/-- laws.eqFlyPath -/
def laws_eqFlyPath (p0 : FlyPath) (p1 : FlyPath) : Bool := (if !(laws_eqFlyKind p0.Kind p1.Kind) then false else (if !(laws_eqFlyStepS p0.Steps p1.Steps) then false else (if !decide (p0.From = p1.From) then false else (if !decide (p0.By = p1.By) then false else true))))
theorem c27 (p0 : FlyPath) (p1 : FlyPath) (k0_0 : FlyPath.ok p0) (k1_0 : FlyPath.ok p1) : Fn Proofs.Try.prog 27 [⟨.val, true, FlyPath.cs .bor p0⟩, ⟨.val, true, FlyPath.cs .bor p1⟩] [.c (.v (.bool (laws_eqFlyPath p0 p1)))] [] := by
  obtain ⟨R, hR⟩ : ∃ R, R = laws_eqFlyPath p0 p1 := ⟨_, rfl⟩
  rw [← hR]
  rw [laws_eqFlyPath] at hR
  refine ⟨fn_intro hT Proofs.Try.func27 rfl rfl fun fs => ?_, _, Proofs.Try.func27, rfl, rfl⟩
  have q0 := k0_0; simp only [FlyPath.ok] at q0
  have q1 := k1_0; simp only [FlyPath.ok] at q1
  refine xr hT [] (fun f1 => ⟨[(2, .one (.pt 2 (f1 0 0) 0)), (3, .one (.pt 3 (f1 1 0) 0))], [(2, some (f1 0 0, .box (FlyPath.cs .bor p0))), (3, some (f1 1 0, .box (FlyPath.cs .bor p1)))], 27⟩) (fun f => by kernel_rfl) (fun f => by kernel_rfl) fun f1 => ?_
  refine w_seq ?_
  refine xr hT [ca (c104 p0.Kind p1.Kind)] (fun f2 => ⟨[(2, .one (.pt 2 (f1 0 0) 0)), (3, .one (.pt 3 (f1 1 0) 0)), (10, .one (.c (.v (.bool (!(laws_eqFlyKind p0.Kind p1.Kind))))))], [(2, some (f1 0 0, .box (FlyPath.cs .bor p0))), (3, some (f1 1 0, .box (FlyPath.cs .bor p1)))], 27⟩) (fun f => by kernel_rfl) (fun f => by kernel_rfl) fun f2 => ?_
  refine w_cond rfl (fun h3 => ?_) fun h3 => ?_
  · rw [if_pos h3] at hR
    refine xr hT [] (fun f4 => ⟨[(4, .one (.c (.v (.bool false))))], [], 27⟩) (fun f => by kernel_rfl) (fun f => by kernel_rfl) fun f4 => ?_
    refine w_ret ?_
    subst hR
    exact x_ret (by kernel_rfl)
  rw [if_neg (nt h3)] at hR
  refine w_skip ?_
  refine w_seq ?_
  refine xr hT [ca (c105 p0.Steps p1.Steps (by omega) (by omega))] (fun f5 => ⟨[(2, .one (.pt 2 (f1 0 0) 0)), (3, .one (.pt 3 (f1 1 0) 0)), (16, .one (.c (.v (.bool (!(laws_eqFlyStepS p0.Steps p1.Steps))))))], [(2, some (f1 0 0, .box (FlyPath.cs .bor p0))), (3, some (f1 1 0, .box (FlyPath.cs .bor p1)))], 27⟩) (fun f => by kernel_rfl) (fun f => by kernel_rfl) fun f5 => ?_
  refine w_cond rfl (fun h6 => ?_) fun h6 => ?_
  · rw [if_pos h6] at hR
    refine xr hT [] (fun f7 => ⟨[(4, .one (.c (.v (.bool false))))], [], 27⟩) (fun f => by kernel_rfl) (fun f => by kernel_rfl) fun f7 => ?_
    refine w_ret ?_
    subst hR
    exact x_ret (by kernel_rfl)
  rw [if_neg (nt h6)] at hR
  refine w_skip ?_
  refine w_seq ?_
  refine xr hT [] (fun f8 => ⟨[(2, .one (.pt 2 (f1 0 0) 0)), (3, .one (.pt 3 (f1 1 0) 0)), (21, .one (.c (.v (.bool (!decide (p0.From = p1.From))))))], [(2, some (f1 0 0, .box (FlyPath.cs .bor p0))), (3, some (f1 1 0, .box (FlyPath.cs .bor p1)))], 27⟩) (fun f => by kernel_rfl) (fun f => by kernel_rfl) fun f8 => ?_
  refine w_cond rfl (fun h9 => ?_) fun h9 => ?_
  · rw [if_pos h9] at hR
    have gh9 := nd1 h9
    refine xr hT [] (fun f10 => ⟨[(4, .one (.c (.v (.bool false))))], [], 27⟩) (fun f => by kernel_rfl) (fun f => by kernel_rfl) fun f10 => ?_
    refine w_ret ?_
    subst hR
    exact x_ret (by kernel_rfl)
  rw [if_neg (nt h9)] at hR
  have gh9 := nd0 h9
  refine w_skip ?_
  refine w_seq ?_
  refine xr hT [] (fun f11 => ⟨[(26, .one (.c (.v (.bool (!decide (p0.By = p1.By))))))], [], 27⟩) (fun f => by kernel_rfl) (fun f => by kernel_rfl) fun f11 => ?_
  refine w_cond rfl (fun h12 => ?_) fun h12 => ?_
  · rw [if_pos h12] at hR
    have gh12 := nd1 h12
    refine xr hT [] (fun f13 => ⟨[(4, .one (.c (.v (.bool false))))], [], 27⟩) (fun f => by kernel_rfl) (fun f => by kernel_rfl) fun f13 => ?_
    refine w_ret ?_
    subst hR
    exact x_ret (by kernel_rfl)
  rw [if_neg (nt h12)] at hR
  have gh12 := nd0 h12
  refine w_skip ?_
  refine xr hT [] (fun f14 => ⟨[(4, .one (.c (.v (.bool true))))], [], 27⟩) (fun f => by kernel_rfl) (fun f => by kernel_rfl) fun f14 => ?_
  refine w_ret ?_
  subst hR
  exact x_ret (by kernel_rfl)

def laws_eqIntS_I1 (p0 : (List Int)) (p1 : (List Int)) (fs : Nat → Nat → Nat) (i1 : Nat) (s1 : Unit) (x1 : Nat → Nat) : St := ⟨[(0, .one (.c (.sl .bor 1 (p0.map Int.row)))), (1, .one (.c (.sl .bor 1 (p1.map Int.row)))), (5, .one (.c (.v (.int .i64 ((i1 : Nat) : Int)))))], [], 26⟩
def laws_eqIntS_J1 (p0 : (List Int)) (p1 : (List Int)) (fs : Nat → Nat → Nat) (s1 : Unit) (x1 : Nat → Nat) : St := ⟨[], [], 26⟩
def laws_eqIntS_b1 (p0 : (List Int)) (p1 : (List Int)) (i1 : Nat) (s1 : Unit) : Res (Unit) Bool := (if !decide ((p0.getD i1 default) = (p1.getD i1 default)) then (.ret false) else (.next ()))
def laws_eqIntS_r1 (p0 : (List Int)) (p1 : (List Int)) (s1 : Unit) : Bool := true
/-- laws.eqIntS -/
def laws_eqIntS (p0 : (List Int)) (p1 : (List Int)) : Bool := (if !decide ((p0.length : Int) = (p1.length : Int)) then false else (Res.fin (laws_eqIntS_r1 p0 p1) (forN (laws_eqIntS_b1 p0 p1) (p0.length - 0) 0 ())))
theorem c91 (p0 : (List Int)) (p1 : (List Int)) (k0_0 : p0.length ≤ 1048576) (k1_0 : p1.length ≤ 1048576) : Fn Proofs.Try.prog 91 [⟨.val, false, [.sl .bor 1 (p0.map Int.row)]⟩, ⟨.val, false, [.sl .bor 1 (p1.map Int.row)]⟩] [.c (.v (.bool (laws_eqIntS p0 p1)))] [] := by
  obtain ⟨R, hR⟩ : ∃ R, R = laws_eqIntS p0 p1 := ⟨_, rfl⟩
  rw [← hR]
  rw [laws_eqIntS] at hR
  refine ⟨fn_intro hT Proofs.Try.func91 rfl rfl fun fs => ?_, _, Proofs.Try.func91, rfl, rfl⟩
  refine xr hT [] (fun f1 => ⟨[(0, .one (.c (.sl .bor 1 (p0.map Int.row)))), (1, .one (.c (.sl .bor 1 (p1.map Int.row))))], [], 26⟩) (fun f => by kernel_rfl) (fun f => by kernel_rfl) fun f1 => ?_
  refine w_seq ?_
  refine xr hT [.ln Int.row p0, .ln Int.row p1] (fun f2 => ⟨[(0, .one (.c (.sl .bor 1 (p0.map Int.row)))), (1, .one (.c (.sl .bor 1 (p1.map Int.row)))), (10, .one (.c (.v (.bool (!decide ((p0.length : Int) = (p1.length : Int)))))))], [], 26⟩) (fun f => by kernel_rfl) (fun f => by kernel_rfl) fun f2 => ?_
  refine w_cond rfl (fun h3 => ?_) fun h3 => ?_
  · rw [if_pos h3] at hR
    have gh3 := nd1 h3
    refine xr hT [] (fun f4 => ⟨[(4, .one (.c (.v (.bool false))))], [], 26⟩) (fun f => by kernel_rfl) (fun f => by kernel_rfl) fun f4 => ?_
    refine w_ret ?_
    subst hR
    exact x_ret (by kernel_rfl)
  rw [if_neg (nt h3)] at hR
  have gh3 := nd0 h3
  refine w_skip ?_
  refine w_seq ?_
  refine xr hT [] (fun f5 => ⟨[(0, .one (.c (.sl .bor 1 (p0.map Int.row)))), (1, .one (.c (.sl .bor 1 (p1.map Int.row)))), (5, .one (.c (.v (.int .i64 0))))], [], 26⟩) (fun f => by kernel_rfl) (fun f => by kernel_rfl) fun f5 => ?_
  refine w_forT (fun _ => rfl) (laws_eqIntS_I1 p0 p1 fs) (laws_eqIntS_J1 p0 p1 fs) (fun i1 s1 => True) (fun s1 => True) (p0.length) 0 (laws_eqIntS_b1 p0 p1) (laws_eqIntS_r1 p0 p1) 0 (()) (lst []) (sb (by kernel_rfl)) trivial hR ?_ ?_
  · skip
    intro i1 s1 x1 hI1 hX1
    refine w_seq ?_
    refine xr hT [.ln Int.row p0] (fun f6 => ⟨[(0, .one (.c (.sl .bor 1 (p0.map Int.row)))), (1, .one (.c (.sl .bor 1 (p1.map Int.row)))), (5, .one (.c (.v (.int .i64 ((i1 : Nat) : Int))))), (14, .one (.c (.v (.bool (decide (((i1 : Nat) : Int) < (p0.length : Int)))))))], [], 26⟩) (fun f => by kernel_rfl) (fun f => by kernel_rfl) fun f6 => ?_
    refine w_cond rfl (fun h7 => ?_) fun h7 => ?_
    · skip
      have hl1 : i1 < p0.length := by have hq := of_decide_eq_true h7; first | omega | ((try simp only [LN] at *); omega)
      obtain ⟨B1, hB1⟩ : ∃ B, B = laws_eqIntS_b1 p0 p1 i1 s1 := ⟨_, rfl⟩
      have hE1 := hB1
      rw [laws_eqIntS_b1] at hE1
      refine w_skip ?_
      refine w_seq ?_
      refine w_block ?_
      refine xd hT hM [ix Int.row p0 i1 (by omega), ix Int.row p1 i1 (by omega)] (fun f8 => ⟨[(0, .one (.c (.sl .bor 1 (p0.map Int.row)))), (1, .one (.c (.sl .bor 1 (p1.map Int.row)))), (5, .one (.c (.v (.int .i64 ((i1 : Nat) : Int))))), (25, .one (.c (.v (.bool (!decide ((p0.getD i1 default) = (p1.getD i1 default)))))))], [], 26⟩) (fun f => by kernel_rfl) (fun f => by kernel_rfl) (fun f => by kernel_rfl) fun f8 => ?_
      refine w_cond rfl (fun h9 => ?_) fun h9 => ?_
      · rw [if_pos h9] at hE1
        have gh9 := nd1 h9
        refine xr hT [] (fun f10 => ⟨[(4, .one (.c (.v (.bool false))))], [], 26⟩) (fun f => by kernel_rfl) (fun f => by kernel_rfl) fun f10 => ?_
        refine w_ret ?_
        have hR := hX1.trans (forN_ret hl1 (hB1.symm.trans hE1))
        subst hR
        exact x_ret (by kernel_rfl)
      rw [if_neg (nt h9)] at hE1
      have gh9 := nd0 h9
      refine w_skip ?_
      refine x_reg hT [.ex true (((i1 : Nat) : Int) + ((1 : Nat) : Int)) ((((i1 + 1) : Nat) : Int)) (fun _ => wr_nat (n := i1) (c := 1) (by omega))] (fun f11 => laws_eqIntS_I1 p0 p1 fs (i1 + 1) () (lst [])) (fun f => by kernel_rfl) (fun f => by kernel_rfl) fun f11 s' hs' => ?_
      exact ⟨(), (lst []), hl1, trivial, hX1.trans (forN_next hl1 (hB1.symm.trans hE1)), hs'⟩
    have hq := of_decide_eq_false h7
    refine w_exit ?_
    exact ⟨s1, (lst []), trivial, hX1.trans (forN_end (by first | omega | ((try simp only [LN] at *); omega))), sb (by kernel_rfl)⟩
  intro s1 x1 hF14 hR12
  rw [laws_eqIntS_r1] at hR12
  refine xr hT [] (fun f13 => ⟨[(4, .one (.c (.v (.bool true))))], [], 26⟩) (fun f => by kernel_rfl) (fun f => by kernel_rfl) fun f13 => ?_
  refine w_ret ?_
  subst hR12
  exact x_ret (by kernel_rfl)

/-- laws.eqLinkCraft -/
def laws_eqLinkCraft (p0 : LinkCraft) (p1 : LinkCraft) : Bool := (if !(p0.Name.toList == p1.Name.toList) then false else (if !decide (p0.Number = p1.Number) then false else (if !decide (p0.No = p1.No) then false else (if !(laws_eqFlyPath p0.Path p1.Path) then false else (if !(laws_eqIntS p0.Flown p1.Flown) then false else true)))))
theorem c19 (p0 : LinkCraft) (p1 : LinkCraft) (k0_0 : LinkCraft.ok p0) (k1_0 : LinkCraft.ok p1) : Fn Proofs.Try.prog 19 [⟨.val, true, LinkCraft.cs .bor p0⟩, ⟨.val, true, LinkCraft.cs .bor p1⟩] [.c (.v (.bool (laws_eqLinkCraft p0 p1)))] [] := by
  obtain ⟨R, hR⟩ : ∃ R, R = laws_eqLinkCraft p0 p1 := ⟨_, rfl⟩
  rw [← hR]
  rw [laws_eqLinkCraft] at hR
  refine ⟨fn_intro hT Proofs.Try.func19 rfl rfl fun fs => ?_, _, Proofs.Try.func19, rfl, rfl⟩
  have q0 := k0_0; simp only [LinkCraft.ok] at q0
  have q1 := k1_0; simp only [LinkCraft.ok] at q1
  refine xr hT [] (fun f1 => ⟨[(2, .one (.pt 2 (f1 0 0) 0)), (3, .one (.pt 3 (f1 1 0) 0))], [(2, some (f1 0 0, .box (LinkCraft.cs .bor p0))), (3, some (f1 1 0, .box (LinkCraft.cs .bor p1)))], 32⟩) (fun f => by kernel_rfl) (fun f => by kernel_rfl) fun f1 => ?_
  refine w_seq ?_
  refine xr hT [] (fun f2 => ⟨[(2, .one (.pt 2 (f1 0 0) 0)), (3, .one (.pt 3 (f1 1 0) 0)), (9, .one (.c (.v (.bool (!(p0.Name.toList == p1.Name.toList))))))], [(2, some (f1 0 0, .box (LinkCraft.cs .bor p0))), (3, some (f1 1 0, .box (LinkCraft.cs .bor p1)))], 32⟩) (fun f => by kernel_rfl) (fun f => by kernel_rfl) fun f2 => ?_
  refine w_cond rfl (fun h3 => ?_) fun h3 => ?_
  · rw [if_pos h3] at hR
    refine xr hT [] (fun f4 => ⟨[(4, .one (.c (.v (.bool false))))], [], 32⟩) (fun f => by kernel_rfl) (fun f => by kernel_rfl) fun f4 => ?_
    refine w_ret ?_
    subst hR
    exact x_ret (by kernel_rfl)
  rw [if_neg (nt h3)] at hR
  refine w_skip ?_
  refine w_seq ?_
  refine xr hT [] (fun f5 => ⟨[(2, .one (.pt 2 (f1 0 0) 0)), (3, .one (.pt 3 (f1 1 0) 0)), (14, .one (.c (.v (.bool (!decide (p0.Number = p1.Number))))))], [(2, some (f1 0 0, .box (LinkCraft.cs .bor p0))), (3, some (f1 1 0, .box (LinkCraft.cs .bor p1)))], 32⟩) (fun f => by kernel_rfl) (fun f => by kernel_rfl) fun f5 => ?_
  refine w_cond rfl (fun h6 => ?_) fun h6 => ?_
  · rw [if_pos h6] at hR
    have gh6 := nd1 h6
    refine xr hT [] (fun f7 => ⟨[(4, .one (.c (.v (.bool false))))], [], 32⟩) (fun f => by kernel_rfl) (fun f => by kernel_rfl) fun f7 => ?_
    refine w_ret ?_
    subst hR
    exact x_ret (by kernel_rfl)
  rw [if_neg (nt h6)] at hR
  have gh6 := nd0 h6
  refine w_skip ?_
  refine w_seq ?_
  refine xr hT [] (fun f8 => ⟨[(2, .one (.pt 2 (f1 0 0) 0)), (3, .one (.pt 3 (f1 1 0) 0)), (19, .one (.c (.v (.bool (!decide (p0.No = p1.No))))))], [(2, some (f1 0 0, .box (LinkCraft.cs .bor p0))), (3, some (f1 1 0, .box (LinkCraft.cs .bor p1)))], 32⟩) (fun f => by kernel_rfl) (fun f => by kernel_rfl) fun f8 => ?_
  refine w_cond rfl (fun h9 => ?_) fun h9 => ?_
  · rw [if_pos h9] at hR
    have gh9 := nd1 h9
    refine xr hT [] (fun f10 => ⟨[(4, .one (.c (.v (.bool false))))], [], 32⟩) (fun f => by kernel_rfl) (fun f => by kernel_rfl) fun f10 => ?_
    refine w_ret ?_
    subst hR
    exact x_ret (by kernel_rfl)
  rw [if_neg (nt h9)] at hR
  have gh9 := nd0 h9
  refine w_skip ?_
  refine w_seq ?_
  refine xr hT [ca (c27 p0.Path p1.Path (by first | assumption | exact (by omega : p0.Path.Steps.length ≤ 1048576)) (by first | assumption | exact (by omega : p1.Path.Steps.length ≤ 1048576)))] (fun f11 => ⟨[(2, .one (.pt 2 (f1 0 0) 0)), (3, .one (.pt 3 (f1 1 0) 0)), (25, .one (.c (.v (.bool (!(laws_eqFlyPath p0.Path p1.Path))))))], [(2, some (f1 0 0, .box (LinkCraft.cs .bor p0))), (3, some (f1 1 0, .box (LinkCraft.cs .bor p1)))], 32⟩) (fun f => by kernel_rfl) (fun f => by kernel_rfl) fun f11 => ?_
  refine w_cond rfl (fun h12 => ?_) fun h12 => ?_
  · rw [if_pos h12] at hR
    refine xr hT [] (fun f13 => ⟨[(4, .one (.c (.v (.bool false))))], [], 32⟩) (fun f => by kernel_rfl) (fun f => by kernel_rfl) fun f13 => ?_
    refine w_ret ?_
    subst hR
    exact x_ret (by kernel_rfl)
  rw [if_neg (nt h12)] at hR
  refine w_skip ?_
  refine w_seq ?_
  refine xr hT [ca (c91 p0.Flown p1.Flown (by omega) (by omega))] (fun f14 => ⟨[(31, .one (.c (.v (.bool (!(laws_eqIntS p0.Flown p1.Flown))))))], [], 32⟩) (fun f => by kernel_rfl) (fun f => by kernel_rfl) fun f14 => ?_
  refine w_cond rfl (fun h15 => ?_) fun h15 => ?_
  · rw [if_pos h15] at hR
    refine xr hT [] (fun f16 => ⟨[(4, .one (.c (.v (.bool false))))], [], 32⟩) (fun f => by kernel_rfl) (fun f => by kernel_rfl) fun f16 => ?_
    refine w_ret ?_
    subst hR
    exact x_ret (by kernel_rfl)
  rw [if_neg (nt h15)] at hR
  refine w_skip ?_
  refine xr hT [] (fun f17 => ⟨[(4, .one (.c (.v (.bool true))))], [], 32⟩) (fun f => by kernel_rfl) (fun f => by kernel_rfl) fun f17 => ?_
  refine w_ret ?_
  subst hR
  exact x_ret (by kernel_rfl)

/-- laws.eqLinkHeld -/
def laws_eqLinkHeld (p0 : LinkHeld) (p1 : LinkHeld) : Bool := (if !(p0.Name.toList == p1.Name.toList) then false else (if !decide (p0.Number = p1.Number) then false else (if !(laws_eqFlyPath p0.Path p1.Path) then false else (if !decide (p0.Sent = p1.Sent) then false else (if !(laws_eqFlyPath p0.Next p1.Next) then false else true)))))
theorem c183 (p0 : LinkHeld) (p1 : LinkHeld) (k0_0 : LinkHeld.ok p0) (k1_0 : LinkHeld.ok p1) : Fn Proofs.Try.prog 183 [⟨.val, true, LinkHeld.cs .bor p0⟩, ⟨.val, true, LinkHeld.cs .bor p1⟩] [.c (.v (.bool (laws_eqLinkHeld p0 p1)))] [] := by
  obtain ⟨R, hR⟩ : ∃ R, R = laws_eqLinkHeld p0 p1 := ⟨_, rfl⟩
  rw [← hR]
  rw [laws_eqLinkHeld] at hR
  refine ⟨fn_intro hT Proofs.Try.func183 rfl rfl fun fs => ?_, _, Proofs.Try.func183, rfl, rfl⟩
  have q0 := k0_0; simp only [LinkHeld.ok] at q0
  have q1 := k1_0; simp only [LinkHeld.ok] at q1
  refine xr hT [] (fun f1 => ⟨[(2, .one (.pt 2 (f1 0 0) 0)), (3, .one (.pt 3 (f1 1 0) 0))], [(2, some (f1 0 0, .box (LinkHeld.cs .bor p0))), (3, some (f1 1 0, .box (LinkHeld.cs .bor p1)))], 32⟩) (fun f => by kernel_rfl) (fun f => by kernel_rfl) fun f1 => ?_
  refine w_seq ?_
  refine xr hT [] (fun f2 => ⟨[(2, .one (.pt 2 (f1 0 0) 0)), (3, .one (.pt 3 (f1 1 0) 0)), (9, .one (.c (.v (.bool (!(p0.Name.toList == p1.Name.toList))))))], [(2, some (f1 0 0, .box (LinkHeld.cs .bor p0))), (3, some (f1 1 0, .box (LinkHeld.cs .bor p1)))], 32⟩) (fun f => by kernel_rfl) (fun f => by kernel_rfl) fun f2 => ?_
  refine w_cond rfl (fun h3 => ?_) fun h3 => ?_
  · rw [if_pos h3] at hR
    refine xr hT [] (fun f4 => ⟨[(4, .one (.c (.v (.bool false))))], [], 32⟩) (fun f => by kernel_rfl) (fun f => by kernel_rfl) fun f4 => ?_
    refine w_ret ?_
    subst hR
    exact x_ret (by kernel_rfl)
  rw [if_neg (nt h3)] at hR
  refine w_skip ?_
  refine w_seq ?_
  refine xr hT [] (fun f5 => ⟨[(2, .one (.pt 2 (f1 0 0) 0)), (3, .one (.pt 3 (f1 1 0) 0)), (14, .one (.c (.v (.bool (!decide (p0.Number = p1.Number))))))], [(2, some (f1 0 0, .box (LinkHeld.cs .bor p0))), (3, some (f1 1 0, .box (LinkHeld.cs .bor p1)))], 32⟩) (fun f => by kernel_rfl) (fun f => by kernel_rfl) fun f5 => ?_
  refine w_cond rfl (fun h6 => ?_) fun h6 => ?_
  · rw [if_pos h6] at hR
    have gh6 := nd1 h6
    refine xr hT [] (fun f7 => ⟨[(4, .one (.c (.v (.bool false))))], [], 32⟩) (fun f => by kernel_rfl) (fun f => by kernel_rfl) fun f7 => ?_
    refine w_ret ?_
    subst hR
    exact x_ret (by kernel_rfl)
  rw [if_neg (nt h6)] at hR
  have gh6 := nd0 h6
  refine w_skip ?_
  refine w_seq ?_
  refine xr hT [ca (c27 p0.Path p1.Path (by first | assumption | exact (by omega : p0.Path.Steps.length ≤ 1048576)) (by first | assumption | exact (by omega : p1.Path.Steps.length ≤ 1048576)))] (fun f8 => ⟨[(2, .one (.pt 2 (f1 0 0) 0)), (3, .one (.pt 3 (f1 1 0) 0)), (20, .one (.c (.v (.bool (!(laws_eqFlyPath p0.Path p1.Path))))))], [(2, some (f1 0 0, .box (LinkHeld.cs .bor p0))), (3, some (f1 1 0, .box (LinkHeld.cs .bor p1)))], 32⟩) (fun f => by kernel_rfl) (fun f => by kernel_rfl) fun f8 => ?_
  refine w_cond rfl (fun h9 => ?_) fun h9 => ?_
  · rw [if_pos h9] at hR
    refine xr hT [] (fun f10 => ⟨[(4, .one (.c (.v (.bool false))))], [], 32⟩) (fun f => by kernel_rfl) (fun f => by kernel_rfl) fun f10 => ?_
    refine w_ret ?_
    subst hR
    exact x_ret (by kernel_rfl)
  rw [if_neg (nt h9)] at hR
  refine w_skip ?_
  refine w_seq ?_
  refine xr hT [] (fun f11 => ⟨[(2, .one (.pt 2 (f1 0 0) 0)), (3, .one (.pt 3 (f1 1 0) 0)), (25, .one (.c (.v (.bool (!decide (p0.Sent = p1.Sent))))))], [(2, some (f1 0 0, .box (LinkHeld.cs .bor p0))), (3, some (f1 1 0, .box (LinkHeld.cs .bor p1)))], 32⟩) (fun f => by kernel_rfl) (fun f => by kernel_rfl) fun f11 => ?_
  refine w_cond rfl (fun h12 => ?_) fun h12 => ?_
  · rw [if_pos h12] at hR
    have gh12 := nd1 h12
    refine xr hT [] (fun f13 => ⟨[(4, .one (.c (.v (.bool false))))], [], 32⟩) (fun f => by kernel_rfl) (fun f => by kernel_rfl) fun f13 => ?_
    refine w_ret ?_
    subst hR
    exact x_ret (by kernel_rfl)
  rw [if_neg (nt h12)] at hR
  have gh12 := nd0 h12
  refine w_skip ?_
  refine w_seq ?_
  refine xr hT [ca (c27 p0.Next p1.Next (by first | assumption | exact (by omega : p0.Next.Steps.length ≤ 1048576)) (by first | assumption | exact (by omega : p1.Next.Steps.length ≤ 1048576)))] (fun f14 => ⟨[(31, .one (.c (.v (.bool (!(laws_eqFlyPath p0.Next p1.Next))))))], [], 32⟩) (fun f => by kernel_rfl) (fun f => by kernel_rfl) fun f14 => ?_
  refine w_cond rfl (fun h15 => ?_) fun h15 => ?_
  · rw [if_pos h15] at hR
    refine xr hT [] (fun f16 => ⟨[(4, .one (.c (.v (.bool false))))], [], 32⟩) (fun f => by kernel_rfl) (fun f => by kernel_rfl) fun f16 => ?_
    refine w_ret ?_
    subst hR
    exact x_ret (by kernel_rfl)
  rw [if_neg (nt h15)] at hR
  refine w_skip ?_
  refine xr hT [] (fun f17 => ⟨[(4, .one (.c (.v (.bool true))))], [], 32⟩) (fun f => by kernel_rfl) (fun f => by kernel_rfl) fun f17 => ?_
  refine w_ret ?_
  subst hR
  exact x_ret (by kernel_rfl)

def laws_eqLinkHeldS_I1 (p0 : (List LinkHeld)) (p1 : (List LinkHeld)) (fs : Nat → Nat → Nat) (i1 : Nat) (s1 : Unit) (x1 : Nat → Nat) : St := ⟨[(0, .one (.c (.sl .bor 13 (p0.map LinkHeld.row)))), (1, .one (.c (.sl .bor 13 (p1.map LinkHeld.row)))), (5, .one (.c (.v (.int .i64 ((i1 : Nat) : Int)))))], [], 27⟩
def laws_eqLinkHeldS_J1 (p0 : (List LinkHeld)) (p1 : (List LinkHeld)) (fs : Nat → Nat → Nat) (s1 : Unit) (x1 : Nat → Nat) : St := ⟨[], [], 27⟩
def laws_eqLinkHeldS_b1 (p0 : (List LinkHeld)) (p1 : (List LinkHeld)) (i1 : Nat) (s1 : Unit) : Res (Unit) Bool := (if !(laws_eqLinkHeld (p0.getD i1 default) (p1.getD i1 default)) then (.ret false) else (.next ()))
def laws_eqLinkHeldS_r1 (p0 : (List LinkHeld)) (p1 : (List LinkHeld)) (s1 : Unit) : Bool := true
/-- laws.eqLinkHeldS -/
def laws_eqLinkHeldS (p0 : (List LinkHeld)) (p1 : (List LinkHeld)) : Bool := (if !decide ((p0.length : Int) = (p1.length : Int)) then false else (Res.fin (laws_eqLinkHeldS_r1 p0 p1) (forN (laws_eqLinkHeldS_b1 p0 p1) (p0.length - 0) 0 ())))
theorem c115 (p0 : (List LinkHeld)) (p1 : (List LinkHeld)) (k0_0 : p0.length ≤ 1048576) (k0_1 : ∀ y ∈ p0, LinkHeld.ok y) (k1_0 : p1.length ≤ 1048576) (k1_1 : ∀ y ∈ p1, LinkHeld.ok y) : Fn Proofs.Try.prog 115 [⟨.val, false, [.sl .bor 13 (p0.map LinkHeld.row)]⟩, ⟨.val, false, [.sl .bor 13 (p1.map LinkHeld.row)]⟩] [.c (.v (.bool (laws_eqLinkHeldS p0 p1)))] [] := by
  obtain ⟨R, hR⟩ : ∃ R, R = laws_eqLinkHeldS p0 p1 := ⟨_, rfl⟩
  rw [← hR]
  rw [laws_eqLinkHeldS] at hR
  refine ⟨fn_intro hT Proofs.Try.func115 rfl rfl fun fs => ?_, _, Proofs.Try.func115, rfl, rfl⟩
  refine xr hT [] (fun f1 => ⟨[(0, .one (.c (.sl .bor 13 (p0.map LinkHeld.row)))), (1, .one (.c (.sl .bor 13 (p1.map LinkHeld.row))))], [], 27⟩) (fun f => by kernel_rfl) (fun f => by kernel_rfl) fun f1 => ?_
  refine w_seq ?_
  refine xr hT [.ln LinkHeld.row p0, .ln LinkHeld.row p1] (fun f2 => ⟨[(0, .one (.c (.sl .bor 13 (p0.map LinkHeld.row)))), (1, .one (.c (.sl .bor 13 (p1.map LinkHeld.row)))), (10, .one (.c (.v (.bool (!decide ((p0.length : Int) = (p1.length : Int)))))))], [], 27⟩) (fun f => by kernel_rfl) (fun f => by kernel_rfl) fun f2 => ?_
  refine w_cond rfl (fun h3 => ?_) fun h3 => ?_
  · rw [if_pos h3] at hR
    have gh3 := nd1 h3
    refine xr hT [] (fun f4 => ⟨[(4, .one (.c (.v (.bool false))))], [], 27⟩) (fun f => by kernel_rfl) (fun f => by kernel_rfl) fun f4 => ?_
    refine w_ret ?_
    subst hR
    exact x_ret (by kernel_rfl)
  rw [if_neg (nt h3)] at hR
  have gh3 := nd0 h3
  refine w_skip ?_
  refine w_seq ?_
  refine xr hT [] (fun f5 => ⟨[(0, .one (.c (.sl .bor 13 (p0.map LinkHeld.row)))), (1, .one (.c (.sl .bor 13 (p1.map LinkHeld.row)))), (5, .one (.c (.v (.int .i64 0))))], [], 27⟩) (fun f => by kernel_rfl) (fun f => by kernel_rfl) fun f5 => ?_
  refine w_forT (fun _ => rfl) (laws_eqLinkHeldS_I1 p0 p1 fs) (laws_eqLinkHeldS_J1 p0 p1 fs) (fun i1 s1 => True) (fun s1 => True) (p0.length) 0 (laws_eqLinkHeldS_b1 p0 p1) (laws_eqLinkHeldS_r1 p0 p1) 0 (()) (lst []) (sb (by kernel_rfl)) trivial hR ?_ ?_
  · skip
    intro i1 s1 x1 hI1 hX1
    refine w_seq ?_
    refine xr hT [.ln LinkHeld.row p0] (fun f6 => ⟨[(0, .one (.c (.sl .bor 13 (p0.map LinkHeld.row)))), (1, .one (.c (.sl .bor 13 (p1.map LinkHeld.row)))), (5, .one (.c (.v (.int .i64 ((i1 : Nat) : Int))))), (14, .one (.c (.v (.bool (decide (((i1 : Nat) : Int) < (p0.length : Int)))))))], [], 27⟩) (fun f => by kernel_rfl) (fun f => by kernel_rfl) fun f6 => ?_
    refine w_cond rfl (fun h7 => ?_) fun h7 => ?_
    · skip
      have hl1 : i1 < p0.length := by have hq := of_decide_eq_true h7; first | omega | ((try simp only [LN] at *); omega)
      obtain ⟨B1, hB1⟩ : ∃ B, B = laws_eqLinkHeldS_b1 p0 p1 i1 s1 := ⟨_, rfl⟩
      have hE1 := hB1
      rw [laws_eqLinkHeldS_b1] at hE1
      refine w_skip ?_
      refine w_seq ?_
      refine w_block ?_
      try have e9 := okget (xs := p0) (k := i1) (k0_1) (by first | omega | ((try simp only [LN]); omega))
      try simp only [LinkHeld.ok] at e9
      try have e10 := okget (xs := p1) (k := i1) (k1_1) (by first | omega | ((try simp only [LN]); omega))
      try simp only [LinkHeld.ok] at e10
      refine xd hT hM [ix LinkHeld.row p0 i1 (by omega), .rw (FlyStep.rv ((p0.getD i1 default).Path.Steps)), .rw (FlyStep.rv ((p0.getD i1 default).Next.Steps)), ix LinkHeld.row p1 i1 (by omega), .rw (FlyStep.rv ((p1.getD i1 default).Path.Steps)), .rw (FlyStep.rv ((p1.getD i1 default).Next.Steps)), ca (c183 (p0.getD i1 default) (p1.getD i1 default) (by first | assumption | exact ⟨(by omega : ((p0.getD i1 default).Path.Steps).length ≤ 1048576), (by omega : ((p0.getD i1 default).Next.Steps).length ≤ 1048576)⟩) (by first | assumption | exact ⟨(by omega : ((p1.getD i1 default).Path.Steps).length ≤ 1048576), (by omega : ((p1.getD i1 default).Next.Steps).length ≤ 1048576)⟩))] (fun f8 => ⟨[(0, .one (.c (.sl .bor 13 (p0.map LinkHeld.row)))), (1, .one (.c (.sl .bor 13 (p1.map LinkHeld.row)))), (5, .one (.c (.v (.int .i64 ((i1 : Nat) : Int))))), (26, .one (.c (.v (.bool (!(laws_eqLinkHeld (p0.getD i1 default) (p1.getD i1 default)))))))], [], 27⟩) (fun f => by kernel_rfl) (fun f => by kernel_rfl) (fun f => by kernel_rfl) fun f8 => ?_
      refine w_cond rfl (fun h11 => ?_) fun h11 => ?_
      · rw [if_pos h11] at hE1
        refine xr hT [] (fun f12 => ⟨[(4, .one (.c (.v (.bool false))))], [], 27⟩) (fun f => by kernel_rfl) (fun f => by kernel_rfl) fun f12 => ?_
        refine w_ret ?_
        have hR := hX1.trans (forN_ret hl1 (hB1.symm.trans hE1))
        subst hR
        exact x_ret (by kernel_rfl)
      rw [if_neg (nt h11)] at hE1
      refine w_skip ?_
      refine x_reg hT [.ex true (((i1 : Nat) : Int) + ((1 : Nat) : Int)) ((((i1 + 1) : Nat) : Int)) (fun _ => wr_nat (n := i1) (c := 1) (by omega))] (fun f13 => laws_eqLinkHeldS_I1 p0 p1 fs (i1 + 1) () (lst [])) (fun f => by kernel_rfl) (fun f => by kernel_rfl) fun f13 s' hs' => ?_
      exact ⟨(), (lst []), hl1, trivial, hX1.trans (forN_next hl1 (hB1.symm.trans hE1)), hs'⟩
    have hq := of_decide_eq_false h7
    refine w_exit ?_
    exact ⟨s1, (lst []), trivial, hX1.trans (forN_end (by first | omega | ((try simp only [LN] at *); omega))), sb (by kernel_rfl)⟩
  intro s1 x1 hF16 hR14
  rw [laws_eqLinkHeldS_r1] at hR14
  refine xr hT [] (fun f15 => ⟨[(4, .one (.c (.v (.bool true))))], [], 27⟩) (fun f => by kernel_rfl) (fun f => by kernel_rfl) fun f15 => ?_
  refine w_ret ?_
  subst hR14
  exact x_ret (by kernel_rfl)

/-- laws.eqLinkBook -/
def laws_eqLinkBook (p0 : LinkBook) (p1 : LinkBook) : Bool := (if !decide (p0.Last = p1.Last) then false else (if !(laws_eqLinkHeldS p0.Held p1.Held) then false else true))
theorem c37 (p0 : LinkBook) (p1 : LinkBook) (k0_0 : LinkBook.ok p0) (k1_0 : LinkBook.ok p1) : Fn Proofs.Try.prog 37 [⟨.val, true, LinkBook.cs .bor p0⟩, ⟨.val, true, LinkBook.cs .bor p1⟩] [.c (.v (.bool (laws_eqLinkBook p0 p1)))] [] := by
  obtain ⟨R, hR⟩ : ∃ R, R = laws_eqLinkBook p0 p1 := ⟨_, rfl⟩
  rw [← hR]
  rw [laws_eqLinkBook] at hR
  refine ⟨fn_intro hT Proofs.Try.func37 rfl rfl fun fs => ?_, _, Proofs.Try.func37, rfl, rfl⟩
  have q0 := k0_0; simp only [LinkBook.ok] at q0
  have q1 := k1_0; simp only [LinkBook.ok] at q1
  refine xr hT [] (fun f1 => ⟨[(2, .one (.pt 2 (f1 0 0) 0)), (3, .one (.pt 3 (f1 1 0) 0))], [(2, some (f1 0 0, .box (LinkBook.cs .bor p0))), (3, some (f1 1 0, .box (LinkBook.cs .bor p1)))], 16⟩) (fun f => by kernel_rfl) (fun f => by kernel_rfl) fun f1 => ?_
  refine w_seq ?_
  refine xr hT [] (fun f2 => ⟨[(2, .one (.pt 2 (f1 0 0) 0)), (3, .one (.pt 3 (f1 1 0) 0)), (9, .one (.c (.v (.bool (!decide (p0.Last = p1.Last))))))], [(2, some (f1 0 0, .box (LinkBook.cs .bor p0))), (3, some (f1 1 0, .box (LinkBook.cs .bor p1)))], 16⟩) (fun f => by kernel_rfl) (fun f => by kernel_rfl) fun f2 => ?_
  refine w_cond rfl (fun h3 => ?_) fun h3 => ?_
  · rw [if_pos h3] at hR
    have gh3 := nd1 h3
    refine xr hT [] (fun f4 => ⟨[(4, .one (.c (.v (.bool false))))], [], 16⟩) (fun f => by kernel_rfl) (fun f => by kernel_rfl) fun f4 => ?_
    refine w_ret ?_
    subst hR
    exact x_ret (by kernel_rfl)
  rw [if_neg (nt h3)] at hR
  have gh3 := nd0 h3
  refine w_skip ?_
  refine w_seq ?_
  refine xr hT [ca (c115 p0.Held p1.Held (by omega) (q0.2) (by omega) (q1.2))] (fun f5 => ⟨[(15, .one (.c (.v (.bool (!(laws_eqLinkHeldS p0.Held p1.Held))))))], [], 16⟩) (fun f => by kernel_rfl) (fun f => by kernel_rfl) fun f5 => ?_
  refine w_cond rfl (fun h6 => ?_) fun h6 => ?_
  · rw [if_pos h6] at hR
    refine xr hT [] (fun f7 => ⟨[(4, .one (.c (.v (.bool false))))], [], 16⟩) (fun f => by kernel_rfl) (fun f => by kernel_rfl) fun f7 => ?_
    refine w_ret ?_
    subst hR
    exact x_ret (by kernel_rfl)
  rw [if_neg (nt h6)] at hR
  refine w_skip ?_
  refine xr hT [] (fun f8 => ⟨[(4, .one (.c (.v (.bool true))))], [], 16⟩) (fun f => by kernel_rfl) (fun f => by kernel_rfl) fun f8 => ?_
  refine w_ret ?_
  subst hR
  exact x_ret (by kernel_rfl)

/-- laws.eqLinkWord -/
def laws_eqLinkWord (p0 : LinkWord) (p1 : LinkWord) : Bool := (if !decide (p0.Kind = p1.Kind) then false else (if !(p0.Name.toList == p1.Name.toList) then false else (if !decide (p0.Number = p1.Number) then false else (if !(laws_eqFlyPath p0.Path p1.Path) then false else true))))
theorem c38 (p0 : LinkWord) (p1 : LinkWord) (k0_0 : LinkWord.ok p0) (k1_0 : LinkWord.ok p1) : Fn Proofs.Try.prog 38 [⟨.val, true, LinkWord.cs .bor p0⟩, ⟨.val, true, LinkWord.cs .bor p1⟩] [.c (.v (.bool (laws_eqLinkWord p0 p1)))] [] := by
  obtain ⟨R, hR⟩ : ∃ R, R = laws_eqLinkWord p0 p1 := ⟨_, rfl⟩
  rw [← hR]
  rw [laws_eqLinkWord] at hR
  refine ⟨fn_intro hT Proofs.Try.func38 rfl rfl fun fs => ?_, _, Proofs.Try.func38, rfl, rfl⟩
  have q0 := k0_0; simp only [LinkWord.ok] at q0
  have q1 := k1_0; simp only [LinkWord.ok] at q1
  refine xr hT [] (fun f1 => ⟨[(2, .one (.pt 2 (f1 0 0) 0)), (3, .one (.pt 3 (f1 1 0) 0))], [(2, some (f1 0 0, .box (LinkWord.cs .bor p0))), (3, some (f1 1 0, .box (LinkWord.cs .bor p1)))], 26⟩) (fun f => by kernel_rfl) (fun f => by kernel_rfl) fun f1 => ?_
  refine w_seq ?_
  refine xr hT [] (fun f2 => ⟨[(2, .one (.pt 2 (f1 0 0) 0)), (3, .one (.pt 3 (f1 1 0) 0)), (9, .one (.c (.v (.bool (!decide (p0.Kind = p1.Kind))))))], [(2, some (f1 0 0, .box (LinkWord.cs .bor p0))), (3, some (f1 1 0, .box (LinkWord.cs .bor p1)))], 26⟩) (fun f => by kernel_rfl) (fun f => by kernel_rfl) fun f2 => ?_
  refine w_cond rfl (fun h3 => ?_) fun h3 => ?_
  · rw [if_pos h3] at hR
    have gh3 := nd1 h3
    refine xr hT [] (fun f4 => ⟨[(4, .one (.c (.v (.bool false))))], [], 26⟩) (fun f => by kernel_rfl) (fun f => by kernel_rfl) fun f4 => ?_
    refine w_ret ?_
    subst hR
    exact x_ret (by kernel_rfl)
  rw [if_neg (nt h3)] at hR
  have gh3 := nd0 h3
  refine w_skip ?_
  refine w_seq ?_
  refine xr hT [] (fun f5 => ⟨[(2, .one (.pt 2 (f1 0 0) 0)), (3, .one (.pt 3 (f1 1 0) 0)), (14, .one (.c (.v (.bool (!(p0.Name.toList == p1.Name.toList))))))], [(2, some (f1 0 0, .box (LinkWord.cs .bor p0))), (3, some (f1 1 0, .box (LinkWord.cs .bor p1)))], 26⟩) (fun f => by kernel_rfl) (fun f => by kernel_rfl) fun f5 => ?_
  refine w_cond rfl (fun h6 => ?_) fun h6 => ?_
  · rw [if_pos h6] at hR
    refine xr hT [] (fun f7 => ⟨[(4, .one (.c (.v (.bool false))))], [], 26⟩) (fun f => by kernel_rfl) (fun f => by kernel_rfl) fun f7 => ?_
    refine w_ret ?_
    subst hR
    exact x_ret (by kernel_rfl)
  rw [if_neg (nt h6)] at hR
  refine w_skip ?_
  refine w_seq ?_
  refine xr hT [] (fun f8 => ⟨[(2, .one (.pt 2 (f1 0 0) 0)), (3, .one (.pt 3 (f1 1 0) 0)), (19, .one (.c (.v (.bool (!decide (p0.Number = p1.Number))))))], [(2, some (f1 0 0, .box (LinkWord.cs .bor p0))), (3, some (f1 1 0, .box (LinkWord.cs .bor p1)))], 26⟩) (fun f => by kernel_rfl) (fun f => by kernel_rfl) fun f8 => ?_
  refine w_cond rfl (fun h9 => ?_) fun h9 => ?_
  · rw [if_pos h9] at hR
    have gh9 := nd1 h9
    refine xr hT [] (fun f10 => ⟨[(4, .one (.c (.v (.bool false))))], [], 26⟩) (fun f => by kernel_rfl) (fun f => by kernel_rfl) fun f10 => ?_
    refine w_ret ?_
    subst hR
    exact x_ret (by kernel_rfl)
  rw [if_neg (nt h9)] at hR
  have gh9 := nd0 h9
  refine w_skip ?_
  refine w_seq ?_
  refine xr hT [ca (c27 p0.Path p1.Path (by first | assumption | exact (by omega : p0.Path.Steps.length ≤ 1048576)) (by first | assumption | exact (by omega : p1.Path.Steps.length ≤ 1048576)))] (fun f11 => ⟨[(25, .one (.c (.v (.bool (!(laws_eqFlyPath p0.Path p1.Path))))))], [], 26⟩) (fun f => by kernel_rfl) (fun f => by kernel_rfl) fun f11 => ?_
  refine w_cond rfl (fun h12 => ?_) fun h12 => ?_
  · rw [if_pos h12] at hR
    refine xr hT [] (fun f13 => ⟨[(4, .one (.c (.v (.bool false))))], [], 26⟩) (fun f => by kernel_rfl) (fun f => by kernel_rfl) fun f13 => ?_
    refine w_ret ?_
    subst hR
    exact x_ret (by kernel_rfl)
  rw [if_neg (nt h12)] at hR
  refine w_skip ?_
  refine xr hT [] (fun f14 => ⟨[(4, .one (.c (.v (.bool true))))], [], 26⟩) (fun f => by kernel_rfl) (fun f => by kernel_rfl) fun f14 => ?_
  refine w_ret ?_
  subst hR
  exact x_ret (by kernel_rfl)

def laws_markLinkHeldS_I1 (p0 : (List LinkHeld)) (p1 : Int) (fs : Nat → Nat → Nat) (i1 : Nat) (s1 : Int) (x1 : Nat → Nat) : St := ⟨[(0, .one (.c (.mu 1000 (fs 0 0) 13 0 (p0.map LinkHeld.row).length))), (1, .one (.c (.v (.int .i64 s1)))), (5, .one (.c (.v (.int .i64 ((i1 : Nat) : Int)))))], [(1000, some (fs 0 0, .arr 13 (p0.map LinkHeld.row)))], 119⟩
def laws_markLinkHeldS_J1 (p0 : (List LinkHeld)) (p1 : Int) (fs : Nat → Nat → Nat) (s1 : Int) (x1 : Nat → Nat) : St := ⟨[(1, .one (.c (.v (.int .i64 s1))))], [(1000, some (fs 0 0, .arr 13 (p0.map LinkHeld.row)))], 119⟩
def laws_markLinkHeldS_b1 (p0 : (List LinkHeld)) (p1 : Int) (i1 : Nat) (s1 : Int) : Res (Int) (Int × (List LinkHeld)) := (.next s1)
def laws_markLinkHeldS_r1 (p0 : (List LinkHeld)) (p1 : Int) (s1 : Int) : (Int × (List LinkHeld)) := (s1, p0)
/-- laws.markLinkHeldS -/
def laws_markLinkHeldS (p0 : (List LinkHeld)) (p1 : Int) : Int × (List LinkHeld) := (Res.fin (laws_markLinkHeldS_r1 p0 p1) (forN (laws_markLinkHeldS_b1 p0 p1) (p0.length - 0) 0 p1))
theorem c116 (p0 : (List LinkHeld)) (p1 : Int) (k0_0 : p0.length ≤ 1048576) (k0_1 : ∀ y ∈ p0, LinkHeld.ok y) (h0 : p0.length = 0) : Fn Proofs.Try.prog 116 [⟨.mt, false, [.sl .own 13 (p0.map LinkHeld.row)]⟩, ⟨.val, false, [.v (.int .i64 p1)]⟩] [.c (.v (.int .i64 (laws_markLinkHeldS p0 p1).1))] [[.sl .own 13 ((laws_markLinkHeldS p0 p1).2.map LinkHeld.row)]] := by
  obtain ⟨R, hR⟩ : ∃ R, R = laws_markLinkHeldS p0 p1 := ⟨_, rfl⟩
  rw [← hR]
  rw [laws_markLinkHeldS] at hR
  refine ⟨fn_intro hT Proofs.Try.func116 rfl rfl fun fs => ?_, _, Proofs.Try.func116, rfl, rfl⟩
  refine xr hT [] (fun f1 => ⟨[(0, .one (.c (.mu 1000 (fs 0 0) 13 0 (p0.map LinkHeld.row).length))), (1, .one (.c (.v (.int .i64 p1))))], [(1000, some (fs 0 0, .arr 13 (p0.map LinkHeld.row)))], 119⟩) (fun f => by kernel_rfl) (fun f => by kernel_rfl) fun f1 => ?_
  refine w_seq ?_
  refine xr hT [] (fun f2 => ⟨[(0, .one (.c (.mu 1000 (fs 0 0) 13 0 (p0.map LinkHeld.row).length))), (1, .one (.c (.v (.int .i64 p1)))), (5, .one (.c (.v (.int .i64 0))))], [(1000, some (fs 0 0, .arr 13 (p0.map LinkHeld.row)))], 119⟩) (fun f => by kernel_rfl) (fun f => by kernel_rfl) fun f2 => ?_
  refine w_forT (fun _ => rfl) (laws_markLinkHeldS_I1 p0 p1 fs) (laws_markLinkHeldS_J1 p0 p1 fs) (fun i1 s1 => True) (fun s1 => True) (p0.length) 0 (laws_markLinkHeldS_b1 p0 p1) (laws_markLinkHeldS_r1 p0 p1) 0 (p1) (lst []) (sb (by kernel_rfl)) trivial hR ?_ ?_
  · skip
    intro i1 s1 x1 hI1 hX1
    refine w_seq ?_
    refine xr hT [.ln LinkHeld.row p0] (fun f3 => ⟨[(0, .one (.c (.mu 1000 (fs 0 0) 13 0 (p0.map LinkHeld.row).length))), (1, .one (.c (.v (.int .i64 s1)))), (5, .one (.c (.v (.int .i64 ((i1 : Nat) : Int))))), (9, .one (.c (.v (.bool (decide (((i1 : Nat) : Int) < (p0.length : Int)))))))], [(1000, some (fs 0 0, .arr 13 (p0.map LinkHeld.row)))], 119⟩) (fun f => by kernel_rfl) (fun f => by kernel_rfl) fun f3 => ?_
    refine w_cond rfl (fun h4 => ?_) fun h4 => ?_
    · skip
      have hl1 : i1 < p0.length := by have hq := of_decide_eq_true h4; first | omega | ((try simp only [LN] at *); omega)
      exact absurd hl1 (by omega)
    have hq := of_decide_eq_false h4
    refine w_exit ?_
    exact ⟨s1, (lst []), trivial, hX1.trans (forN_end (by first | omega | ((try simp only [LN] at *); omega))), sb (by kernel_rfl)⟩
  intro s1 x1 hF7 hR5
  rw [laws_markLinkHeldS_r1] at hR5
  refine xr hT [] (fun f6 => ⟨[(4, .one (.c (.v (.int .i64 s1))))], [(1000, some (fs 0 0, .arr 13 (p0.map LinkHeld.row)))], 119⟩) (fun f => by kernel_rfl) (fun f => by kernel_rfl) fun f6 => ?_
  refine w_ret ?_
  subst hR5
  exact x_ret (by kernel_rfl)
theorem f_laws_markLinkHeldS (p0 : List LinkHeld) (p1 : Int) : laws_markLinkHeldS p0 p1 = (p1, p0) := by
  have e : ∀ (c i : Nat) (s : Int), forN (laws_markLinkHeldS_b1 p0 p1) c i s = .next s := by
    intro c
    induction c with
    | zero => intro i s; rfl
    | succ c ih => intro i s; simp only [forN, laws_markLinkHeldS_b1]; exact ih (i + 1) s
  unfold laws_markLinkHeldS
  rw [e]
  rfl

/-- laws.markLinkBook -/
def laws_markLinkBook (p0 : LinkBook) (p1 : Int) : Int × LinkBook := ((laws_markLinkHeldS p0.Held p1).1, (⟨p0.Last, (laws_markLinkHeldS p0.Held p1).2⟩ : LinkBook))
theorem c39 (p0 : LinkBook) (p1 : Int) (k0_0 : LinkBook.ok p0) (h0 : p0.Held.length = 0) : Fn Proofs.Try.prog 39 [⟨.mt, true, LinkBook.cs .own p0⟩, ⟨.val, false, [.v (.int .i64 p1)]⟩] [.c (.v (.int .i64 (laws_markLinkBook p0 p1).1))] [LinkBook.cs .own (laws_markLinkBook p0 p1).2] := by
  obtain ⟨R, hR⟩ : ∃ R, R = laws_markLinkBook p0 p1 := ⟨_, rfl⟩
  rw [← hR]
  rw [laws_markLinkBook] at hR
  refine ⟨fn_intro hT Proofs.Try.func39 rfl rfl fun fs => ?_, _, Proofs.Try.func39, rfl, rfl⟩
  have q0 := k0_0; simp only [LinkBook.ok] at q0
  refine xr hT [] (fun f1 => ⟨[(1, .one (.c (.v (.int .i64 p1)))), (2, .one (.pt 2 (f1 0 0) 0))], [(2, some (f1 0 0, .box [.v (.int .i64 p0.Last), .mu 1001 (fs 0 1) 13 0 (p0.Held.map LinkHeld.row).length])), (1001, some (fs 0 1, .arr 13 (p0.Held.map LinkHeld.row)))], 10⟩) (fun f => by kernel_rfl) (fun f => by kernel_rfl) fun f1 => ?_
  refine xr hT [ca (c116 p0.Held p1 (by omega) (q0.2) (by first | assumption | ((try simp only [LN, f_laws_markLinkHeldS]) <;> omega) | (simp only [LN, f_laws_markLinkHeldS] <;> assumption)))] (fun f2 => ⟨[(1, .one (.c (.v (.int .i64 ((laws_markLinkHeldS p0.Held p1).1)))))], [(1001, some (fs 0 1, .arr 13 (((laws_markLinkHeldS p0.Held p1).2).map LinkHeld.row)))], 10⟩) (fun f => by kernel_rfl) (fun f => by kernel_rfl) fun f2 => ?_
  refine xr hT [] (fun f3 => ⟨[(4, .one (.c (.v (.int .i64 ((laws_markLinkHeldS p0.Held p1).1)))))], [(1001, some (fs 0 1, .arr 13 (((laws_markLinkHeldS p0.Held p1).2).map LinkHeld.row)))], 10⟩) (fun f => by kernel_rfl) (fun f => by kernel_rfl) fun f3 => ?_
  refine w_ret ?_
  subst hR
  exact x_ret (by kernel_rfl)
theorem f_laws_markLinkBook (p0 : LinkBook) (p1 : Int) : laws_markLinkBook p0 p1 = (p1, p0) := by
  simp only [laws_markLinkBook, LN, f_laws_markLinkHeldS]

def laws_heldLinkHeldS_I1 (p0 : (List LinkHeld)) (p1 : Int) (fs : Nat → Nat → Nat) (i1 : Nat) (s1 : Int) (x1 : Nat → Nat) : St := ⟨[(0, .one (.c (.sl .bor 13 (p0.map LinkHeld.row)))), (1, .one (.c (.v (.int .i64 s1)))), (5, .one (.c (.v (.int .i64 ((i1 : Nat) : Int)))))], [], 145⟩
def laws_heldLinkHeldS_J1 (p0 : (List LinkHeld)) (p1 : Int) (fs : Nat → Nat → Nat) (s1 : Int) (x1 : Nat → Nat) : St := ⟨[(1, .one (.c (.v (.int .i64 s1))))], [], 145⟩
def laws_heldLinkHeldS_b1 (p0 : (List LinkHeld)) (p1 : Int) (i1 : Nat) (s1 : Int) : Res (Int) Int := (.next s1)
def laws_heldLinkHeldS_r1 (p0 : (List LinkHeld)) (p1 : Int) (s1 : Int) : Int := s1
/-- laws.heldLinkHeldS -/
def laws_heldLinkHeldS (p0 : (List LinkHeld)) (p1 : Int) : Int := (Res.fin (laws_heldLinkHeldS_r1 p0 p1) (forN (laws_heldLinkHeldS_b1 p0 p1) (p0.length - 0) 0 p1))
theorem c117 (p0 : (List LinkHeld)) (p1 : Int) (k0_0 : p0.length ≤ 1048576) (k0_1 : ∀ y ∈ p0, LinkHeld.ok y) (h0 : p0.length = 0) : Fn Proofs.Try.prog 117 [⟨.val, false, [.sl .bor 13 (p0.map LinkHeld.row)]⟩, ⟨.val, false, [.v (.int .i64 p1)]⟩] [.c (.v (.int .i64 (laws_heldLinkHeldS p0 p1)))] [] := by
  obtain ⟨R, hR⟩ : ∃ R, R = laws_heldLinkHeldS p0 p1 := ⟨_, rfl⟩
  rw [← hR]
  rw [laws_heldLinkHeldS] at hR
  refine ⟨fn_intro hT Proofs.Try.func117 rfl rfl fun fs => ?_, _, Proofs.Try.func117, rfl, rfl⟩
  refine xr hT [] (fun f1 => ⟨[(0, .one (.c (.sl .bor 13 (p0.map LinkHeld.row)))), (1, .one (.c (.v (.int .i64 p1))))], [], 145⟩) (fun f => by kernel_rfl) (fun f => by kernel_rfl) fun f1 => ?_
  refine w_seq ?_
  refine xr hT [] (fun f2 => ⟨[(0, .one (.c (.sl .bor 13 (p0.map LinkHeld.row)))), (1, .one (.c (.v (.int .i64 p1)))), (5, .one (.c (.v (.int .i64 0))))], [], 145⟩) (fun f => by kernel_rfl) (fun f => by kernel_rfl) fun f2 => ?_
  refine w_forT (fun _ => rfl) (laws_heldLinkHeldS_I1 p0 p1 fs) (laws_heldLinkHeldS_J1 p0 p1 fs) (fun i1 s1 => True) (fun s1 => True) (p0.length) 0 (laws_heldLinkHeldS_b1 p0 p1) (laws_heldLinkHeldS_r1 p0 p1) 0 (p1) (lst []) (sb (by kernel_rfl)) trivial hR ?_ ?_
  · skip
    intro i1 s1 x1 hI1 hX1
    refine w_seq ?_
    refine xr hT [.ln LinkHeld.row p0] (fun f3 => ⟨[(0, .one (.c (.sl .bor 13 (p0.map LinkHeld.row)))), (1, .one (.c (.v (.int .i64 s1)))), (5, .one (.c (.v (.int .i64 ((i1 : Nat) : Int))))), (9, .one (.c (.v (.bool (decide (((i1 : Nat) : Int) < (p0.length : Int)))))))], [], 145⟩) (fun f => by kernel_rfl) (fun f => by kernel_rfl) fun f3 => ?_
    refine w_cond rfl (fun h4 => ?_) fun h4 => ?_
    · skip
      have hl1 : i1 < p0.length := by have hq := of_decide_eq_true h4; first | omega | ((try simp only [LN] at *); omega)
      exact absurd hl1 (by omega)
    have hq := of_decide_eq_false h4
    refine w_exit ?_
    exact ⟨s1, (lst []), trivial, hX1.trans (forN_end (by first | omega | ((try simp only [LN] at *); omega))), sb (by kernel_rfl)⟩
  intro s1 x1 hF7 hR5
  rw [laws_heldLinkHeldS_r1] at hR5
  refine xr hT [] (fun f6 => ⟨[(4, .one (.c (.v (.int .i64 s1))))], [], 145⟩) (fun f => by kernel_rfl) (fun f => by kernel_rfl) fun f6 => ?_
  refine w_ret ?_
  subst hR5
  exact x_ret (by kernel_rfl)

/-- laws.heldLinkBook -/
def laws_heldLinkBook (p0 : LinkBook) (p1 : Int) : Int := (if decide ((laws_heldLinkHeldS p0.Held p1) < 0) then (-1) else (laws_heldLinkHeldS p0.Held p1))
theorem c41 (p0 : LinkBook) (p1 : Int) (k0_0 : LinkBook.ok p0) (h0 : p0.Held.length = 0) : Fn Proofs.Try.prog 41 [⟨.val, true, LinkBook.cs .bor p0⟩, ⟨.val, false, [.v (.int .i64 p1)]⟩] [.c (.v (.int .i64 (laws_heldLinkBook p0 p1)))] [] := by
  obtain ⟨R, hR⟩ : ∃ R, R = laws_heldLinkBook p0 p1 := ⟨_, rfl⟩
  rw [← hR]
  rw [laws_heldLinkBook] at hR
  refine ⟨fn_intro hT Proofs.Try.func41 rfl rfl fun fs => ?_, _, Proofs.Try.func41, rfl, rfl⟩
  have q0 := k0_0; simp only [LinkBook.ok] at q0
  refine xr hT [] (fun f1 => ⟨[(1, .one (.c (.v (.int .i64 p1)))), (2, .one (.pt 2 (f1 0 0) 0))], [(2, some (f1 0 0, .box (LinkBook.cs .bor p0)))], 12⟩) (fun f => by kernel_rfl) (fun f => by kernel_rfl) fun f1 => ?_
  refine xr hT [ca (c117 p0.Held p1 (by omega) (q0.2) (by first | assumption | ((try simp only [LN]) <;> omega) | (simp only [LN] <;> assumption)))] (fun f2 => ⟨[(1, .one (.c (.v (.int .i64 (laws_heldLinkHeldS p0.Held p1)))))], [], 12⟩) (fun f => by kernel_rfl) (fun f => by kernel_rfl) fun f2 => ?_
  refine w_seq ?_
  refine xr hT [] (fun f3 => ⟨[(1, .one (.c (.v (.int .i64 (laws_heldLinkHeldS p0.Held p1))))), (10, .one (.c (.v (.bool (decide ((laws_heldLinkHeldS p0.Held p1) < 0))))))], [], 12⟩) (fun f => by kernel_rfl) (fun f => by kernel_rfl) fun f3 => ?_
  refine w_cond rfl (fun h4 => ?_) fun h4 => ?_
  · rw [if_pos h4] at hR
    have gh4 := of_decide_eq_true h4
    refine xr hT [] (fun f5 => ⟨[(4, .one (.c (.v (.int .i64 (-1)))))], [], 12⟩) (fun f => by kernel_rfl) (fun f => by kernel_rfl) fun f5 => ?_
    refine w_ret ?_
    subst hR
    exact x_ret (by kernel_rfl)
  rw [if_neg (nt h4)] at hR
  have gh4 := of_decide_eq_false h4
  refine w_skip ?_
  refine xr hT [] (fun f6 => ⟨[(4, .one (.c (.v (.int .i64 (laws_heldLinkHeldS p0.Held p1)))))], [], 12⟩) (fun f => by kernel_rfl) (fun f => by kernel_rfl) fun f6 => ?_
  refine w_ret ?_
  subst hR
  exact x_ret (by kernel_rfl)

/-- spec.LinkNew -/
def spec_LinkNew : LinkWorld := (⟨0, ⟨true, ⟨0, []⟩, ⟨0, []⟩, []⟩, [], []⟩ : LinkWorld)
theorem c63 : Fn Proofs.Try.prog 63 [] [.ag (LinkWorld.cs .own (spec_LinkNew))] [] := by
  obtain ⟨R, hR⟩ : ∃ R, R = spec_LinkNew := ⟨_, rfl⟩
  rw [← hR]
  rw [spec_LinkNew] at hR
  refine ⟨fn_intro hT Proofs.Try.func63 rfl rfl fun fs => ?_, _, Proofs.Try.func63, rfl, rfl⟩
  refine xr hT [] (fun f1 => ⟨[(0, .one (.pt 0 (f1 0 0) 0))], [(0, some (f1 0 0, .box [.v (.int .i64 0), .v (.bool false), .v (.int .i64 0), .nl, .v (.int .i64 0), .nl, .nl, .nl, .nl]))], 3⟩) (fun f => by kernel_rfl) (fun f => by kernel_rfl) fun f1 => ?_
  refine xr hT [] (fun f2 => ⟨[(0, .one (.pt 0 (f1 0 0) 0))], [(0, some (f1 0 0, .box [.v (.int .i64 0), .v (.bool true), .v (.int .i64 0), .nl, .v (.int .i64 0), .nl, .nl, .nl, .nl]))], 3⟩) (fun f => by kernel_rfl) (fun f => by kernel_rfl) fun f2 => ?_
  refine w_ret ?_
  subst hR
  exact x_ret (by kernel_rfl)
theorem f_spec_LinkNew : LinkWorld.ok spec_LinkNew := by
  simp [LinkWorld.ok, LinkGround.ok, LinkBook.ok, spec_LinkNew]

/-- impl.LinkNew -/
def impl_LinkNew : LinkWorld := (⟨0, ⟨true, ⟨0, []⟩, ⟨0, []⟩, []⟩, [], []⟩ : LinkWorld)
theorem c64 : Fn Proofs.Try.prog 64 [] [.ag (LinkWorld.cs .own (impl_LinkNew))] [] := by
  obtain ⟨R, hR⟩ : ∃ R, R = impl_LinkNew := ⟨_, rfl⟩
  rw [← hR]
  rw [impl_LinkNew] at hR
  refine ⟨fn_intro hT Proofs.Try.func64 rfl rfl fun fs => ?_, _, Proofs.Try.func64, rfl, rfl⟩
  refine xr hT [] (fun f1 => ⟨[(0, .one (.pt 0 (f1 0 0) 0))], [(0, some (f1 0 0, .box [.v (.int .i64 0), .v (.bool false), .v (.int .i64 0), .nl, .v (.int .i64 0), .nl, .nl, .nl, .nl]))], 3⟩) (fun f => by kernel_rfl) (fun f => by kernel_rfl) fun f1 => ?_
  refine xr hT [] (fun f2 => ⟨[(0, .one (.pt 0 (f1 0 0) 0))], [(0, some (f1 0 0, .box [.v (.int .i64 0), .v (.bool true), .v (.int .i64 0), .nl, .v (.int .i64 0), .nl, .nl, .nl, .nl]))], 3⟩) (fun f => by kernel_rfl) (fun f => by kernel_rfl) fun f2 => ?_
  refine w_ret ?_
  subst hR
  exact x_ret (by kernel_rfl)
theorem f_impl_LinkNew : LinkWorld.ok impl_LinkNew := by
  simp [LinkWorld.ok, LinkGround.ok, LinkBook.ok, impl_LinkNew]

def laws_eqLinkWordS_I1 (p0 : (List LinkWord)) (p1 : (List LinkWord)) (fs : Nat → Nat → Nat) (i1 : Nat) (s1 : Unit) (x1 : Nat → Nat) : St := ⟨[(0, .one (.c (.sl .bor 8 (p0.map LinkWord.row)))), (1, .one (.c (.sl .bor 8 (p1.map LinkWord.row)))), (5, .one (.c (.v (.int .i64 ((i1 : Nat) : Int)))))], [], 27⟩
def laws_eqLinkWordS_J1 (p0 : (List LinkWord)) (p1 : (List LinkWord)) (fs : Nat → Nat → Nat) (s1 : Unit) (x1 : Nat → Nat) : St := ⟨[], [], 27⟩
def laws_eqLinkWordS_b1 (p0 : (List LinkWord)) (p1 : (List LinkWord)) (i1 : Nat) (s1 : Unit) : Res (Unit) Bool := (if !(laws_eqLinkWord (p0.getD i1 default) (p1.getD i1 default)) then (.ret false) else (.next ()))
def laws_eqLinkWordS_r1 (p0 : (List LinkWord)) (p1 : (List LinkWord)) (s1 : Unit) : Bool := true
/-- laws.eqLinkWordS -/
def laws_eqLinkWordS (p0 : (List LinkWord)) (p1 : (List LinkWord)) : Bool := (if !decide ((p0.length : Int) = (p1.length : Int)) then false else (Res.fin (laws_eqLinkWordS_r1 p0 p1) (forN (laws_eqLinkWordS_b1 p0 p1) (p0.length - 0) 0 ())))
theorem c141 (p0 : (List LinkWord)) (p1 : (List LinkWord)) (k0_0 : p0.length ≤ 1048576) (k0_1 : ∀ y ∈ p0, LinkWord.ok y) (k1_0 : p1.length ≤ 1048576) (k1_1 : ∀ y ∈ p1, LinkWord.ok y) : Fn Proofs.Try.prog 141 [⟨.val, false, [.sl .bor 8 (p0.map LinkWord.row)]⟩, ⟨.val, false, [.sl .bor 8 (p1.map LinkWord.row)]⟩] [.c (.v (.bool (laws_eqLinkWordS p0 p1)))] [] := by
  obtain ⟨R, hR⟩ : ∃ R, R = laws_eqLinkWordS p0 p1 := ⟨_, rfl⟩
  rw [← hR]
  rw [laws_eqLinkWordS] at hR
  refine ⟨fn_intro hT Proofs.Try.func141 rfl rfl fun fs => ?_, _, Proofs.Try.func141, rfl, rfl⟩
  refine xr hT [] (fun f1 => ⟨[(0, .one (.c (.sl .bor 8 (p0.map LinkWord.row)))), (1, .one (.c (.sl .bor 8 (p1.map LinkWord.row))))], [], 27⟩) (fun f => by kernel_rfl) (fun f => by kernel_rfl) fun f1 => ?_
  refine w_seq ?_
  refine xr hT [.ln LinkWord.row p0, .ln LinkWord.row p1] (fun f2 => ⟨[(0, .one (.c (.sl .bor 8 (p0.map LinkWord.row)))), (1, .one (.c (.sl .bor 8 (p1.map LinkWord.row)))), (10, .one (.c (.v (.bool (!decide ((p0.length : Int) = (p1.length : Int)))))))], [], 27⟩) (fun f => by kernel_rfl) (fun f => by kernel_rfl) fun f2 => ?_
  refine w_cond rfl (fun h3 => ?_) fun h3 => ?_
  · rw [if_pos h3] at hR
    have gh3 := nd1 h3
    refine xr hT [] (fun f4 => ⟨[(4, .one (.c (.v (.bool false))))], [], 27⟩) (fun f => by kernel_rfl) (fun f => by kernel_rfl) fun f4 => ?_
    refine w_ret ?_
    subst hR
    exact x_ret (by kernel_rfl)
  rw [if_neg (nt h3)] at hR
  have gh3 := nd0 h3
  refine w_skip ?_
  refine w_seq ?_
  refine xr hT [] (fun f5 => ⟨[(0, .one (.c (.sl .bor 8 (p0.map LinkWord.row)))), (1, .one (.c (.sl .bor 8 (p1.map LinkWord.row)))), (5, .one (.c (.v (.int .i64 0))))], [], 27⟩) (fun f => by kernel_rfl) (fun f => by kernel_rfl) fun f5 => ?_
  refine w_forT (fun _ => rfl) (laws_eqLinkWordS_I1 p0 p1 fs) (laws_eqLinkWordS_J1 p0 p1 fs) (fun i1 s1 => True) (fun s1 => True) (p0.length) 0 (laws_eqLinkWordS_b1 p0 p1) (laws_eqLinkWordS_r1 p0 p1) 0 (()) (lst []) (sb (by kernel_rfl)) trivial hR ?_ ?_
  · skip
    intro i1 s1 x1 hI1 hX1
    refine w_seq ?_
    refine xr hT [.ln LinkWord.row p0] (fun f6 => ⟨[(0, .one (.c (.sl .bor 8 (p0.map LinkWord.row)))), (1, .one (.c (.sl .bor 8 (p1.map LinkWord.row)))), (5, .one (.c (.v (.int .i64 ((i1 : Nat) : Int))))), (14, .one (.c (.v (.bool (decide (((i1 : Nat) : Int) < (p0.length : Int)))))))], [], 27⟩) (fun f => by kernel_rfl) (fun f => by kernel_rfl) fun f6 => ?_
    refine w_cond rfl (fun h7 => ?_) fun h7 => ?_
    · skip
      have hl1 : i1 < p0.length := by have hq := of_decide_eq_true h7; first | omega | ((try simp only [LN] at *); omega)
      obtain ⟨B1, hB1⟩ : ∃ B, B = laws_eqLinkWordS_b1 p0 p1 i1 s1 := ⟨_, rfl⟩
      have hE1 := hB1
      rw [laws_eqLinkWordS_b1] at hE1
      refine w_skip ?_
      refine w_seq ?_
      refine w_block ?_
      try have e9 := okget (xs := p0) (k := i1) (k0_1) (by first | omega | ((try simp only [LN]); omega))
      try simp only [LinkWord.ok] at e9
      try have e10 := okget (xs := p1) (k := i1) (k1_1) (by first | omega | ((try simp only [LN]); omega))
      try simp only [LinkWord.ok] at e10
      refine xd hT hM [ix LinkWord.row p0 i1 (by omega), .rw (FlyStep.rv ((p0.getD i1 default).Path.Steps)), ix LinkWord.row p1 i1 (by omega), .rw (FlyStep.rv ((p1.getD i1 default).Path.Steps)), ca (c38 (p0.getD i1 default) (p1.getD i1 default) (by first | assumption | exact (by omega : ((p0.getD i1 default).Path.Steps).length ≤ 1048576)) (by first | assumption | exact (by omega : ((p1.getD i1 default).Path.Steps).length ≤ 1048576)))] (fun f8 => ⟨[(0, .one (.c (.sl .bor 8 (p0.map LinkWord.row)))), (1, .one (.c (.sl .bor 8 (p1.map LinkWord.row)))), (5, .one (.c (.v (.int .i64 ((i1 : Nat) : Int))))), (26, .one (.c (.v (.bool (!(laws_eqLinkWord (p0.getD i1 default) (p1.getD i1 default)))))))], [], 27⟩) (fun f => by kernel_rfl) (fun f => by kernel_rfl) (fun f => by kernel_rfl) fun f8 => ?_
      refine w_cond rfl (fun h11 => ?_) fun h11 => ?_
      · rw [if_pos h11] at hE1
        refine xr hT [] (fun f12 => ⟨[(4, .one (.c (.v (.bool false))))], [], 27⟩) (fun f => by kernel_rfl) (fun f => by kernel_rfl) fun f12 => ?_
        refine w_ret ?_
        have hR := hX1.trans (forN_ret hl1 (hB1.symm.trans hE1))
        subst hR
        exact x_ret (by kernel_rfl)
      rw [if_neg (nt h11)] at hE1
      refine w_skip ?_
      refine x_reg hT [.ex true (((i1 : Nat) : Int) + ((1 : Nat) : Int)) ((((i1 + 1) : Nat) : Int)) (fun _ => wr_nat (n := i1) (c := 1) (by omega))] (fun f13 => laws_eqLinkWordS_I1 p0 p1 fs (i1 + 1) () (lst [])) (fun f => by kernel_rfl) (fun f => by kernel_rfl) fun f13 s' hs' => ?_
      exact ⟨(), (lst []), hl1, trivial, hX1.trans (forN_next hl1 (hB1.symm.trans hE1)), hs'⟩
    have hq := of_decide_eq_false h7
    refine w_exit ?_
    exact ⟨s1, (lst []), trivial, hX1.trans (forN_end (by first | omega | ((try simp only [LN] at *); omega))), sb (by kernel_rfl)⟩
  intro s1 x1 hF16 hR14
  rw [laws_eqLinkWordS_r1] at hR14
  refine xr hT [] (fun f15 => ⟨[(4, .one (.c (.v (.bool true))))], [], 27⟩) (fun f => by kernel_rfl) (fun f => by kernel_rfl) fun f15 => ?_
  refine w_ret ?_
  subst hR14
  exact x_ret (by kernel_rfl)

/-- laws.eqLinkGround -/
def laws_eqLinkGround (p0 : LinkGround) (p1 : LinkGround) : Bool := (if !(p0.Up == p1.Up) then false else (if !(laws_eqLinkBook p0.Mind p1.Mind) then false else (if !(laws_eqLinkBook p0.Disk p1.Disk) then false else (if !(laws_eqLinkWordS p0.Out p1.Out) then false else true))))
theorem c139 (p0 : LinkGround) (p1 : LinkGround) (k0_0 : LinkGround.ok p0) (k1_0 : LinkGround.ok p1) : Fn Proofs.Try.prog 139 [⟨.val, true, LinkGround.cs .bor p0⟩, ⟨.val, true, LinkGround.cs .bor p1⟩] [.c (.v (.bool (laws_eqLinkGround p0 p1)))] [] := by
  obtain ⟨R, hR⟩ : ∃ R, R = laws_eqLinkGround p0 p1 := ⟨_, rfl⟩
  rw [← hR]
  rw [laws_eqLinkGround] at hR
  refine ⟨fn_intro hT Proofs.Try.func139 rfl rfl fun fs => ?_, _, Proofs.Try.func139, rfl, rfl⟩
  have q0 := k0_0; simp only [LinkGround.ok] at q0
  have q1 := k1_0; simp only [LinkGround.ok] at q1
  refine xr hT [] (fun f1 => ⟨[(2, .one (.pt 2 (f1 0 0) 0)), (3, .one (.pt 3 (f1 1 0) 0))], [(2, some (f1 0 0, .box (LinkGround.cs .bor p0))), (3, some (f1 1 0, .box (LinkGround.cs .bor p1)))], 28⟩) (fun f => by kernel_rfl) (fun f => by kernel_rfl) fun f1 => ?_
  refine w_seq ?_
  refine xr hT [.und Proofs.Try.underlying4] (fun f2 => ⟨[(2, .one (.pt 2 (f1 0 0) 0)), (3, .one (.pt 3 (f1 1 0) 0)), (9, .one (.c (.v (.bool (!(p0.Up == p1.Up))))))], [(2, some (f1 0 0, .box (LinkGround.cs .bor p0))), (3, some (f1 1 0, .box (LinkGround.cs .bor p1)))], 28⟩) (fun f => by kernel_rfl) (fun f => by kernel_rfl) fun f2 => ?_
  refine w_cond rfl (fun h3 => ?_) fun h3 => ?_
  · rw [if_pos h3] at hR
    refine xr hT [] (fun f4 => ⟨[(4, .one (.c (.v (.bool false))))], [], 28⟩) (fun f => by kernel_rfl) (fun f => by kernel_rfl) fun f4 => ?_
    refine w_ret ?_
    subst hR
    exact x_ret (by kernel_rfl)
  rw [if_neg (nt h3)] at hR
  refine w_skip ?_
  refine w_seq ?_
  refine xr hT [ca (c37 p0.Mind p1.Mind (by first | assumption | exact ⟨(by omega : p0.Mind.Held.length ≤ 1048576), (q0.2.1)⟩) (by first | assumption | exact ⟨(by omega : p1.Mind.Held.length ≤ 1048576), (q1.2.1)⟩))] (fun f5 => ⟨[(2, .one (.pt 2 (f1 0 0) 0)), (3, .one (.pt 3 (f1 1 0) 0)), (15, .one (.c (.v (.bool (!(laws_eqLinkBook p0.Mind p1.Mind))))))], [(2, some (f1 0 0, .box (LinkGround.cs .bor p0))), (3, some (f1 1 0, .box (LinkGround.cs .bor p1)))], 28⟩) (fun f => by kernel_rfl) (fun f => by kernel_rfl) fun f5 => ?_
  refine w_cond rfl (fun h6 => ?_) fun h6 => ?_
  · rw [if_pos h6] at hR
    refine xr hT [] (fun f7 => ⟨[(4, .one (.c (.v (.bool false))))], [], 28⟩) (fun f => by kernel_rfl) (fun f => by kernel_rfl) fun f7 => ?_
    refine w_ret ?_
    subst hR
    exact x_ret (by kernel_rfl)
  rw [if_neg (nt h6)] at hR
  refine w_skip ?_
  refine w_seq ?_
  refine xr hT [ca (c37 p0.Disk p1.Disk (by first | assumption | exact ⟨(by omega : p0.Disk.Held.length ≤ 1048576), (q0.2.2.2.1)⟩) (by first | assumption | exact ⟨(by omega : p1.Disk.Held.length ≤ 1048576), (q1.2.2.2.1)⟩))] (fun f8 => ⟨[(2, .one (.pt 2 (f1 0 0) 0)), (3, .one (.pt 3 (f1 1 0) 0)), (21, .one (.c (.v (.bool (!(laws_eqLinkBook p0.Disk p1.Disk))))))], [(2, some (f1 0 0, .box (LinkGround.cs .bor p0))), (3, some (f1 1 0, .box (LinkGround.cs .bor p1)))], 28⟩) (fun f => by kernel_rfl) (fun f => by kernel_rfl) fun f8 => ?_
  refine w_cond rfl (fun h9 => ?_) fun h9 => ?_
  · rw [if_pos h9] at hR
    refine xr hT [] (fun f10 => ⟨[(4, .one (.c (.v (.bool false))))], [], 28⟩) (fun f => by kernel_rfl) (fun f => by kernel_rfl) fun f10 => ?_
    refine w_ret ?_
    subst hR
    exact x_ret (by kernel_rfl)
  rw [if_neg (nt h9)] at hR
  refine w_skip ?_
  refine w_seq ?_
  refine xr hT [ca (c141 p0.Out p1.Out (by omega) (q0.2.2.2.2.2) (by omega) (q1.2.2.2.2.2))] (fun f11 => ⟨[(27, .one (.c (.v (.bool (!(laws_eqLinkWordS p0.Out p1.Out))))))], [], 28⟩) (fun f => by kernel_rfl) (fun f => by kernel_rfl) fun f11 => ?_
  refine w_cond rfl (fun h12 => ?_) fun h12 => ?_
  · rw [if_pos h12] at hR
    refine xr hT [] (fun f13 => ⟨[(4, .one (.c (.v (.bool false))))], [], 28⟩) (fun f => by kernel_rfl) (fun f => by kernel_rfl) fun f13 => ?_
    refine w_ret ?_
    subst hR
    exact x_ret (by kernel_rfl)
  rw [if_neg (nt h12)] at hR
  refine w_skip ?_
  refine xr hT [] (fun f14 => ⟨[(4, .one (.c (.v (.bool true))))], [], 28⟩) (fun f => by kernel_rfl) (fun f => by kernel_rfl) fun f14 => ?_
  refine w_ret ?_
  subst hR
  exact x_ret (by kernel_rfl)

def laws_eqLinkCraftS_I1 (p0 : (List LinkCraft)) (p1 : (List LinkCraft)) (fs : Nat → Nat → Nat) (i1 : Nat) (s1 : Unit) (x1 : Nat → Nat) : St := ⟨[(0, .one (.c (.sl .bor 9 (p0.map LinkCraft.row)))), (1, .one (.c (.sl .bor 9 (p1.map LinkCraft.row)))), (5, .one (.c (.v (.int .i64 ((i1 : Nat) : Int)))))], [], 27⟩
def laws_eqLinkCraftS_J1 (p0 : (List LinkCraft)) (p1 : (List LinkCraft)) (fs : Nat → Nat → Nat) (s1 : Unit) (x1 : Nat → Nat) : St := ⟨[], [], 27⟩
def laws_eqLinkCraftS_b1 (p0 : (List LinkCraft)) (p1 : (List LinkCraft)) (i1 : Nat) (s1 : Unit) : Res (Unit) Bool := (if !(laws_eqLinkCraft (p0.getD i1 default) (p1.getD i1 default)) then (.ret false) else (.next ()))
def laws_eqLinkCraftS_r1 (p0 : (List LinkCraft)) (p1 : (List LinkCraft)) (s1 : Unit) : Bool := true
/-- laws.eqLinkCraftS -/
def laws_eqLinkCraftS (p0 : (List LinkCraft)) (p1 : (List LinkCraft)) : Bool := (if !decide ((p0.length : Int) = (p1.length : Int)) then false else (Res.fin (laws_eqLinkCraftS_r1 p0 p1) (forN (laws_eqLinkCraftS_b1 p0 p1) (p0.length - 0) 0 ())))
theorem c140 (p0 : (List LinkCraft)) (p1 : (List LinkCraft)) (k0_0 : p0.length ≤ 1048576) (k0_1 : ∀ y ∈ p0, LinkCraft.ok y) (k1_0 : p1.length ≤ 1048576) (k1_1 : ∀ y ∈ p1, LinkCraft.ok y) : Fn Proofs.Try.prog 140 [⟨.val, false, [.sl .bor 9 (p0.map LinkCraft.row)]⟩, ⟨.val, false, [.sl .bor 9 (p1.map LinkCraft.row)]⟩] [.c (.v (.bool (laws_eqLinkCraftS p0 p1)))] [] := by
  obtain ⟨R, hR⟩ : ∃ R, R = laws_eqLinkCraftS p0 p1 := ⟨_, rfl⟩
  rw [← hR]
  rw [laws_eqLinkCraftS] at hR
  refine ⟨fn_intro hT Proofs.Try.func140 rfl rfl fun fs => ?_, _, Proofs.Try.func140, rfl, rfl⟩
  refine xr hT [] (fun f1 => ⟨[(0, .one (.c (.sl .bor 9 (p0.map LinkCraft.row)))), (1, .one (.c (.sl .bor 9 (p1.map LinkCraft.row))))], [], 27⟩) (fun f => by kernel_rfl) (fun f => by kernel_rfl) fun f1 => ?_
  refine w_seq ?_
  refine xr hT [.ln LinkCraft.row p0, .ln LinkCraft.row p1] (fun f2 => ⟨[(0, .one (.c (.sl .bor 9 (p0.map LinkCraft.row)))), (1, .one (.c (.sl .bor 9 (p1.map LinkCraft.row)))), (10, .one (.c (.v (.bool (!decide ((p0.length : Int) = (p1.length : Int)))))))], [], 27⟩) (fun f => by kernel_rfl) (fun f => by kernel_rfl) fun f2 => ?_
  refine w_cond rfl (fun h3 => ?_) fun h3 => ?_
  · rw [if_pos h3] at hR
    have gh3 := nd1 h3
    refine xr hT [] (fun f4 => ⟨[(4, .one (.c (.v (.bool false))))], [], 27⟩) (fun f => by kernel_rfl) (fun f => by kernel_rfl) fun f4 => ?_
    refine w_ret ?_
    subst hR
    exact x_ret (by kernel_rfl)
  rw [if_neg (nt h3)] at hR
  have gh3 := nd0 h3
  refine w_skip ?_
  refine w_seq ?_
  refine xr hT [] (fun f5 => ⟨[(0, .one (.c (.sl .bor 9 (p0.map LinkCraft.row)))), (1, .one (.c (.sl .bor 9 (p1.map LinkCraft.row)))), (5, .one (.c (.v (.int .i64 0))))], [], 27⟩) (fun f => by kernel_rfl) (fun f => by kernel_rfl) fun f5 => ?_
  refine w_forT (fun _ => rfl) (laws_eqLinkCraftS_I1 p0 p1 fs) (laws_eqLinkCraftS_J1 p0 p1 fs) (fun i1 s1 => True) (fun s1 => True) (p0.length) 0 (laws_eqLinkCraftS_b1 p0 p1) (laws_eqLinkCraftS_r1 p0 p1) 0 (()) (lst []) (sb (by kernel_rfl)) trivial hR ?_ ?_
  · skip
    intro i1 s1 x1 hI1 hX1
    refine w_seq ?_
    refine xr hT [.ln LinkCraft.row p0] (fun f6 => ⟨[(0, .one (.c (.sl .bor 9 (p0.map LinkCraft.row)))), (1, .one (.c (.sl .bor 9 (p1.map LinkCraft.row)))), (5, .one (.c (.v (.int .i64 ((i1 : Nat) : Int))))), (14, .one (.c (.v (.bool (decide (((i1 : Nat) : Int) < (p0.length : Int)))))))], [], 27⟩) (fun f => by kernel_rfl) (fun f => by kernel_rfl) fun f6 => ?_
    refine w_cond rfl (fun h7 => ?_) fun h7 => ?_
    · skip
      have hl1 : i1 < p0.length := by have hq := of_decide_eq_true h7; first | omega | ((try simp only [LN] at *); omega)
      obtain ⟨B1, hB1⟩ : ∃ B, B = laws_eqLinkCraftS_b1 p0 p1 i1 s1 := ⟨_, rfl⟩
      have hE1 := hB1
      rw [laws_eqLinkCraftS_b1] at hE1
      refine w_skip ?_
      refine w_seq ?_
      refine w_block ?_
      try have e9 := okget (xs := p0) (k := i1) (k0_1) (by first | omega | ((try simp only [LN]); omega))
      try simp only [LinkCraft.ok] at e9
      try have e10 := okget (xs := p1) (k := i1) (k1_1) (by first | omega | ((try simp only [LN]); omega))
      try simp only [LinkCraft.ok] at e10
      refine xd hT hM [ix LinkCraft.row p0 i1 (by omega), .rw (FlyStep.rv ((p0.getD i1 default).Path.Steps)), .rw (Int.rv ((p0.getD i1 default).Flown)), ix LinkCraft.row p1 i1 (by omega), .rw (FlyStep.rv ((p1.getD i1 default).Path.Steps)), .rw (Int.rv ((p1.getD i1 default).Flown)), ca (c19 (p0.getD i1 default) (p1.getD i1 default) (by first | assumption | exact ⟨(by omega : ((p0.getD i1 default).Path.Steps).length ≤ 1048576), (by omega : ((p0.getD i1 default).Flown).length ≤ 1048576)⟩) (by first | assumption | exact ⟨(by omega : ((p1.getD i1 default).Path.Steps).length ≤ 1048576), (by omega : ((p1.getD i1 default).Flown).length ≤ 1048576)⟩))] (fun f8 => ⟨[(0, .one (.c (.sl .bor 9 (p0.map LinkCraft.row)))), (1, .one (.c (.sl .bor 9 (p1.map LinkCraft.row)))), (5, .one (.c (.v (.int .i64 ((i1 : Nat) : Int))))), (26, .one (.c (.v (.bool (!(laws_eqLinkCraft (p0.getD i1 default) (p1.getD i1 default)))))))], [], 27⟩) (fun f => by kernel_rfl) (fun f => by kernel_rfl) (fun f => by kernel_rfl) fun f8 => ?_
      refine w_cond rfl (fun h11 => ?_) fun h11 => ?_
      · rw [if_pos h11] at hE1
        refine xr hT [] (fun f12 => ⟨[(4, .one (.c (.v (.bool false))))], [], 27⟩) (fun f => by kernel_rfl) (fun f => by kernel_rfl) fun f12 => ?_
        refine w_ret ?_
        have hR := hX1.trans (forN_ret hl1 (hB1.symm.trans hE1))
        subst hR
        exact x_ret (by kernel_rfl)
      rw [if_neg (nt h11)] at hE1
      refine w_skip ?_
      refine x_reg hT [.ex true (((i1 : Nat) : Int) + ((1 : Nat) : Int)) ((((i1 + 1) : Nat) : Int)) (fun _ => wr_nat (n := i1) (c := 1) (by omega))] (fun f13 => laws_eqLinkCraftS_I1 p0 p1 fs (i1 + 1) () (lst [])) (fun f => by kernel_rfl) (fun f => by kernel_rfl) fun f13 s' hs' => ?_
      exact ⟨(), (lst []), hl1, trivial, hX1.trans (forN_next hl1 (hB1.symm.trans hE1)), hs'⟩
    have hq := of_decide_eq_false h7
    refine w_exit ?_
    exact ⟨s1, (lst []), trivial, hX1.trans (forN_end (by first | omega | ((try simp only [LN] at *); omega))), sb (by kernel_rfl)⟩
  intro s1 x1 hF16 hR14
  rw [laws_eqLinkCraftS_r1] at hR14
  refine xr hT [] (fun f15 => ⟨[(4, .one (.c (.v (.bool true))))], [], 27⟩) (fun f => by kernel_rfl) (fun f => by kernel_rfl) fun f15 => ?_
  refine w_ret ?_
  subst hR14
  exact x_ret (by kernel_rfl)

/-- laws.eqLinkWorld -/
def laws_eqLinkWorld (p0 : LinkWorld) (p1 : LinkWorld) : Bool := (if !decide (p0.Now = p1.Now) then false else (if !(laws_eqLinkGround p0.Ground p1.Ground) then false else (if !(laws_eqLinkCraftS p0.Crafts p1.Crafts) then false else (if !(laws_eqLinkWordS p0.Radio p1.Radio) then false else true))))
theorem c65 (p0 : LinkWorld) (p1 : LinkWorld) (k0_0 : LinkWorld.ok p0) (k1_0 : LinkWorld.ok p1) : Fn Proofs.Try.prog 65 [⟨.val, true, LinkWorld.cs .bor p0⟩, ⟨.val, true, LinkWorld.cs .bor p1⟩] [.c (.v (.bool (laws_eqLinkWorld p0 p1)))] [] := by
  obtain ⟨R, hR⟩ : ∃ R, R = laws_eqLinkWorld p0 p1 := ⟨_, rfl⟩
  rw [← hR]
  rw [laws_eqLinkWorld] at hR
  refine ⟨fn_intro hT Proofs.Try.func65 rfl rfl fun fs => ?_, _, Proofs.Try.func65, rfl, rfl⟩
  have q0 := k0_0; simp only [LinkWorld.ok] at q0
  have q1 := k1_0; simp only [LinkWorld.ok] at q1
  refine xr hT [] (fun f1 => ⟨[(2, .one (.pt 2 (f1 0 0) 0)), (3, .one (.pt 3 (f1 1 0) 0))], [(2, some (f1 0 0, .box (LinkWorld.cs .bor p0))), (3, some (f1 1 0, .box (LinkWorld.cs .bor p1)))], 28⟩) (fun f => by kernel_rfl) (fun f => by kernel_rfl) fun f1 => ?_
  refine w_seq ?_
  refine xr hT [] (fun f2 => ⟨[(2, .one (.pt 2 (f1 0 0) 0)), (3, .one (.pt 3 (f1 1 0) 0)), (9, .one (.c (.v (.bool (!decide (p0.Now = p1.Now))))))], [(2, some (f1 0 0, .box (LinkWorld.cs .bor p0))), (3, some (f1 1 0, .box (LinkWorld.cs .bor p1)))], 28⟩) (fun f => by kernel_rfl) (fun f => by kernel_rfl) fun f2 => ?_
  refine w_cond rfl (fun h3 => ?_) fun h3 => ?_
  · rw [if_pos h3] at hR
    have gh3 := nd1 h3
    refine xr hT [] (fun f4 => ⟨[(4, .one (.c (.v (.bool false))))], [], 28⟩) (fun f => by kernel_rfl) (fun f => by kernel_rfl) fun f4 => ?_
    refine w_ret ?_
    subst hR
    exact x_ret (by kernel_rfl)
  rw [if_neg (nt h3)] at hR
  have gh3 := nd0 h3
  refine w_skip ?_
  refine w_seq ?_
  refine xr hT [ca (c139 p0.Ground p1.Ground (by first | assumption | exact ⟨(by omega : p0.Ground.Mind.Held.length ≤ 1048576), (q0.2.1), (by omega : p0.Ground.Disk.Held.length ≤ 1048576), (q0.2.2.2.1), (by omega : p0.Ground.Out.length ≤ 1048576), (q0.2.2.2.2.2.1)⟩) (by first | assumption | exact ⟨(by omega : p1.Ground.Mind.Held.length ≤ 1048576), (q1.2.1), (by omega : p1.Ground.Disk.Held.length ≤ 1048576), (q1.2.2.2.1), (by omega : p1.Ground.Out.length ≤ 1048576), (q1.2.2.2.2.2.1)⟩))] (fun f5 => ⟨[(2, .one (.pt 2 (f1 0 0) 0)), (3, .one (.pt 3 (f1 1 0) 0)), (15, .one (.c (.v (.bool (!(laws_eqLinkGround p0.Ground p1.Ground))))))], [(2, some (f1 0 0, .box (LinkWorld.cs .bor p0))), (3, some (f1 1 0, .box (LinkWorld.cs .bor p1)))], 28⟩) (fun f => by kernel_rfl) (fun f => by kernel_rfl) fun f5 => ?_
  refine w_cond rfl (fun h6 => ?_) fun h6 => ?_
  · rw [if_pos h6] at hR
    refine xr hT [] (fun f7 => ⟨[(4, .one (.c (.v (.bool false))))], [], 28⟩) (fun f => by kernel_rfl) (fun f => by kernel_rfl) fun f7 => ?_
    refine w_ret ?_
    subst hR
    exact x_ret (by kernel_rfl)
  rw [if_neg (nt h6)] at hR
  refine w_skip ?_
  refine w_seq ?_
  refine xr hT [ca (c140 p0.Crafts p1.Crafts (by omega) (q0.2.2.2.2.2.2.2.1) (by omega) (q1.2.2.2.2.2.2.2.1))] (fun f8 => ⟨[(2, .one (.pt 2 (f1 0 0) 0)), (3, .one (.pt 3 (f1 1 0) 0)), (21, .one (.c (.v (.bool (!(laws_eqLinkCraftS p0.Crafts p1.Crafts))))))], [(2, some (f1 0 0, .box (LinkWorld.cs .bor p0))), (3, some (f1 1 0, .box (LinkWorld.cs .bor p1)))], 28⟩) (fun f => by kernel_rfl) (fun f => by kernel_rfl) fun f8 => ?_
  refine w_cond rfl (fun h9 => ?_) fun h9 => ?_
  · rw [if_pos h9] at hR
    refine xr hT [] (fun f10 => ⟨[(4, .one (.c (.v (.bool false))))], [], 28⟩) (fun f => by kernel_rfl) (fun f => by kernel_rfl) fun f10 => ?_
    refine w_ret ?_
    subst hR
    exact x_ret (by kernel_rfl)
  rw [if_neg (nt h9)] at hR
  refine w_skip ?_
  refine w_seq ?_
  refine xr hT [ca (c141 p0.Radio p1.Radio (by omega) (q0.2.2.2.2.2.2.2.2.2) (by omega) (q1.2.2.2.2.2.2.2.2.2))] (fun f11 => ⟨[(27, .one (.c (.v (.bool (!(laws_eqLinkWordS p0.Radio p1.Radio))))))], [], 28⟩) (fun f => by kernel_rfl) (fun f => by kernel_rfl) fun f11 => ?_
  refine w_cond rfl (fun h12 => ?_) fun h12 => ?_
  · rw [if_pos h12] at hR
    refine xr hT [] (fun f13 => ⟨[(4, .one (.c (.v (.bool false))))], [], 28⟩) (fun f => by kernel_rfl) (fun f => by kernel_rfl) fun f13 => ?_
    refine w_ret ?_
    subst hR
    exact x_ret (by kernel_rfl)
  rw [if_neg (nt h12)] at hR
  refine w_skip ?_
  refine xr hT [] (fun f14 => ⟨[(4, .one (.c (.v (.bool true))))], [], 28⟩) (fun f => by kernel_rfl) (fun f => by kernel_rfl) fun f14 => ?_
  refine w_ret ?_
  subst hR
  exact x_ret (by kernel_rfl)

def laws_markLinkWordS_I1 (p0 : (List LinkWord)) (p1 : Int) (fs : Nat → Nat → Nat) (i1 : Nat) (s1 : Int) (x1 : Nat → Nat) : St := ⟨[(0, .one (.c (.mu 1000 (fs 0 0) 8 0 (p0.map LinkWord.row).length))), (1, .one (.c (.v (.int .i64 s1)))), (5, .one (.c (.v (.int .i64 ((i1 : Nat) : Int)))))], [(1000, some (fs 0 0, .arr 8 (p0.map LinkWord.row)))], 77⟩
def laws_markLinkWordS_J1 (p0 : (List LinkWord)) (p1 : Int) (fs : Nat → Nat → Nat) (s1 : Int) (x1 : Nat → Nat) : St := ⟨[(1, .one (.c (.v (.int .i64 s1))))], [(1000, some (fs 0 0, .arr 8 (p0.map LinkWord.row)))], 77⟩
def laws_markLinkWordS_b1 (p0 : (List LinkWord)) (p1 : Int) (i1 : Nat) (s1 : Int) : Res (Int) (Int × (List LinkWord)) := (.next s1)
def laws_markLinkWordS_r1 (p0 : (List LinkWord)) (p1 : Int) (s1 : Int) : (Int × (List LinkWord)) := (s1, p0)
/-- laws.markLinkWordS -/
def laws_markLinkWordS (p0 : (List LinkWord)) (p1 : Int) : Int × (List LinkWord) := (Res.fin (laws_markLinkWordS_r1 p0 p1) (forN (laws_markLinkWordS_b1 p0 p1) (p0.length - 0) 0 p1))
theorem c144 (p0 : (List LinkWord)) (p1 : Int) (k0_0 : p0.length ≤ 1048576) (k0_1 : ∀ y ∈ p0, LinkWord.ok y) (h0 : p0.length = 0) : Fn Proofs.Try.prog 144 [⟨.mt, false, [.sl .own 8 (p0.map LinkWord.row)]⟩, ⟨.val, false, [.v (.int .i64 p1)]⟩] [.c (.v (.int .i64 (laws_markLinkWordS p0 p1).1))] [[.sl .own 8 ((laws_markLinkWordS p0 p1).2.map LinkWord.row)]] := by
  obtain ⟨R, hR⟩ : ∃ R, R = laws_markLinkWordS p0 p1 := ⟨_, rfl⟩
  rw [← hR]
  rw [laws_markLinkWordS] at hR
  refine ⟨fn_intro hT Proofs.Try.func144 rfl rfl fun fs => ?_, _, Proofs.Try.func144, rfl, rfl⟩
  refine xr hT [] (fun f1 => ⟨[(0, .one (.c (.mu 1000 (fs 0 0) 8 0 (p0.map LinkWord.row).length))), (1, .one (.c (.v (.int .i64 p1))))], [(1000, some (fs 0 0, .arr 8 (p0.map LinkWord.row)))], 77⟩) (fun f => by kernel_rfl) (fun f => by kernel_rfl) fun f1 => ?_
  refine w_seq ?_
  refine xr hT [] (fun f2 => ⟨[(0, .one (.c (.mu 1000 (fs 0 0) 8 0 (p0.map LinkWord.row).length))), (1, .one (.c (.v (.int .i64 p1)))), (5, .one (.c (.v (.int .i64 0))))], [(1000, some (fs 0 0, .arr 8 (p0.map LinkWord.row)))], 77⟩) (fun f => by kernel_rfl) (fun f => by kernel_rfl) fun f2 => ?_
  refine w_forT (fun _ => rfl) (laws_markLinkWordS_I1 p0 p1 fs) (laws_markLinkWordS_J1 p0 p1 fs) (fun i1 s1 => True) (fun s1 => True) (p0.length) 0 (laws_markLinkWordS_b1 p0 p1) (laws_markLinkWordS_r1 p0 p1) 0 (p1) (lst []) (sb (by kernel_rfl)) trivial hR ?_ ?_
  · skip
    intro i1 s1 x1 hI1 hX1
    refine w_seq ?_
    refine xr hT [.ln LinkWord.row p0] (fun f3 => ⟨[(0, .one (.c (.mu 1000 (fs 0 0) 8 0 (p0.map LinkWord.row).length))), (1, .one (.c (.v (.int .i64 s1)))), (5, .one (.c (.v (.int .i64 ((i1 : Nat) : Int))))), (9, .one (.c (.v (.bool (decide (((i1 : Nat) : Int) < (p0.length : Int)))))))], [(1000, some (fs 0 0, .arr 8 (p0.map LinkWord.row)))], 77⟩) (fun f => by kernel_rfl) (fun f => by kernel_rfl) fun f3 => ?_
    refine w_cond rfl (fun h4 => ?_) fun h4 => ?_
    · skip
      have hl1 : i1 < p0.length := by have hq := of_decide_eq_true h4; first | omega | ((try simp only [LN] at *); omega)
      exact absurd hl1 (by omega)
    have hq := of_decide_eq_false h4
    refine w_exit ?_
    exact ⟨s1, (lst []), trivial, hX1.trans (forN_end (by first | omega | ((try simp only [LN] at *); omega))), sb (by kernel_rfl)⟩
  intro s1 x1 hF7 hR5
  rw [laws_markLinkWordS_r1] at hR5
  refine xr hT [] (fun f6 => ⟨[(4, .one (.c (.v (.int .i64 s1))))], [(1000, some (fs 0 0, .arr 8 (p0.map LinkWord.row)))], 77⟩) (fun f => by kernel_rfl) (fun f => by kernel_rfl) fun f6 => ?_
  refine w_ret ?_
  subst hR5
  exact x_ret (by kernel_rfl)
theorem f_laws_markLinkWordS (p0 : List LinkWord) (p1 : Int) : laws_markLinkWordS p0 p1 = (p1, p0) := by
  have e : ∀ (c i : Nat) (s : Int), forN (laws_markLinkWordS_b1 p0 p1) c i s = .next s := by
    intro c
    induction c with
    | zero => intro i s; rfl
    | succ c ih => intro i s; simp only [forN, laws_markLinkWordS_b1]; exact ih (i + 1) s
  unfold laws_markLinkWordS
  rw [e]
  rfl

/-- laws.markLinkGround -/
def laws_markLinkGround (p0 : LinkGround) (p1 : Int) : Int × LinkGround := ((laws_markLinkWordS p0.Out ((laws_markLinkBook p0.Disk ((laws_markLinkBook p0.Mind p1).1)).1)).1, (⟨p0.Up, ⟨p0.Mind.Last, ((laws_markLinkBook p0.Mind p1).2).Held⟩, ⟨p0.Disk.Last, ((laws_markLinkBook p0.Disk ((laws_markLinkBook p0.Mind p1).1)).2).Held⟩, (laws_markLinkWordS p0.Out ((laws_markLinkBook p0.Disk ((laws_markLinkBook p0.Mind p1).1)).1)).2⟩ : LinkGround))
theorem c142 (p0 : LinkGround) (p1 : Int) (k0_0 : LinkGround.ok p0) (h0 : p0.Mind.Held.length = 0) (h1 : p0.Disk.Held.length = 0) (h2 : p0.Out.length = 0) : Fn Proofs.Try.prog 142 [⟨.mt, true, LinkGround.cs .own p0⟩, ⟨.val, false, [.v (.int .i64 p1)]⟩] [.c (.v (.int .i64 (laws_markLinkGround p0 p1).1))] [LinkGround.cs .own (laws_markLinkGround p0 p1).2] := by
  obtain ⟨R, hR⟩ : ∃ R, R = laws_markLinkGround p0 p1 := ⟨_, rfl⟩
  rw [← hR]
  rw [laws_markLinkGround] at hR
  refine ⟨fn_intro hT Proofs.Try.func142 rfl rfl fun fs => ?_, _, Proofs.Try.func142, rfl, rfl⟩
  have q0 := k0_0; simp only [LinkGround.ok] at q0
  refine xr hT [] (fun f1 => ⟨[(1, .one (.c (.v (.int .i64 p1)))), (2, .one (.pt 2 (f1 0 0) 0))], [(2, some (f1 0 0, .box [.v (.bool p0.Up), .v (.int .i64 p0.Mind.Last), .mu 1002 (fs 0 2) 13 0 (p0.Mind.Held.map LinkHeld.row).length, .v (.int .i64 p0.Disk.Last), .mu 1004 (fs 0 4) 13 0 (p0.Disk.Held.map LinkHeld.row).length, .mu 1005 (fs 0 5) 8 0 (p0.Out.map LinkWord.row).length])), (1002, some (fs 0 2, .arr 13 (p0.Mind.Held.map LinkHeld.row))), (1004, some (fs 0 4, .arr 13 (p0.Disk.Held.map LinkHeld.row))), (1005, some (fs 0 5, .arr 8 (p0.Out.map LinkWord.row)))], 18⟩) (fun f => by kernel_rfl) (fun f => by kernel_rfl) fun f1 => ?_
  refine xr hT [ca (c39 p0.Mind p1 (by first | assumption | exact ⟨(by omega : p0.Mind.Held.length ≤ 1048576), (q0.2.1)⟩) (by first | assumption | ((try simp only [LN, f_laws_markLinkBook, f_laws_markLinkWordS, LinkBook.ok]) <;> omega) | (simp only [LN, f_laws_markLinkBook, f_laws_markLinkWordS] <;> assumption)))] (fun f2 => ⟨[(1, .one (.c (.v (.int .i64 ((laws_markLinkBook p0.Mind p1).1))))), (2, .one (.pt 2 (f1 0 0) 0))], [(2, some (f1 0 0, .box [.v (.bool p0.Up), .v (.int .i64 p0.Mind.Last), .mu 1002 (fs 0 2) 13 0 (p0.Mind.Held.map LinkHeld.row).length, .v (.int .i64 p0.Disk.Last), .mu 1004 (fs 0 4) 13 0 (p0.Disk.Held.map LinkHeld.row).length, .mu 1005 (fs 0 5) 8 0 (p0.Out.map LinkWord.row).length])), (1002, some (fs 0 2, .arr 13 ((((laws_markLinkBook p0.Mind p1).2).Held).map LinkHeld.row))), (1004, some (fs 0 4, .arr 13 (p0.Disk.Held.map LinkHeld.row))), (1005, some (fs 0 5, .arr 8 (p0.Out.map LinkWord.row)))], 18⟩) (fun f => by kernel_rfl) (fun f => by kernel_rfl) fun f2 => ?_
  refine w_sub (s := ⟨[(1, .one (.c (.v (.int .i64 ((laws_markLinkBook p0.Mind p1).1))))), (2, .one (.pt 2 (f1 0 0) 0))], [(2, some (f1 0 0, .box [.v (.bool p0.Up), .v (.int .i64 p0.Mind.Last), .mu 1002 (fs 0 2) 13 0 ((((laws_markLinkBook p0.Mind p1).2).Held).map LinkHeld.row).length, .v (.int .i64 p0.Disk.Last), .mu 1004 (fs 0 4) 13 0 (p0.Disk.Held.map LinkHeld.row).length, .mu 1005 (fs 0 5) 8 0 (p0.Out.map LinkWord.row).length])), (1002, some (fs 0 2, .arr 13 ((((laws_markLinkBook p0.Mind p1).2).Held).map LinkHeld.row))), (1004, some (fs 0 4, .arr 13 (p0.Disk.Held.map LinkHeld.row))), (1005, some (fs 0 5, .arr 8 (p0.Out.map LinkWord.row)))], 18⟩) (cst (by simp only [LN, f_laws_markLinkBook, f_laws_markLinkWordS]) (sb (s := ⟨[(1, .one (.c (.v (.int .i64 ((laws_markLinkBook p0.Mind p1).1))))), (2, .one (.pt 2 (f1 0 0) 0))], [(2, some (f1 0 0, .box [.v (.bool p0.Up), .v (.int .i64 p0.Mind.Last), .mu 1002 (fs 0 2) 13 0 (p0.Mind.Held.map LinkHeld.row).length, .v (.int .i64 p0.Disk.Last), .mu 1004 (fs 0 4) 13 0 (p0.Disk.Held.map LinkHeld.row).length, .mu 1005 (fs 0 5) 8 0 (p0.Out.map LinkWord.row).length])), (1002, some (fs 0 2, .arr 13 ((((laws_markLinkBook p0.Mind p1).2).Held).map LinkHeld.row))), (1004, some (fs 0 4, .arr 13 (p0.Disk.Held.map LinkHeld.row))), (1005, some (fs 0 5, .arr 8 (p0.Out.map LinkWord.row)))], 18⟩) (by kernel_rfl))) ?_
  refine xr hT [ca (c39 p0.Disk ((laws_markLinkBook p0.Mind p1).1) (by first | assumption | exact ⟨(by omega : p0.Disk.Held.length ≤ 1048576), (q0.2.2.2.1)⟩) (by first | assumption | ((try simp only [LN, f_laws_markLinkBook, f_laws_markLinkWordS, LinkBook.ok]) <;> omega) | (simp only [LN, f_laws_markLinkBook, f_laws_markLinkWordS] <;> assumption)))] (fun f3 => ⟨[(1, .one (.c (.v (.int .i64 ((laws_markLinkBook p0.Disk ((laws_markLinkBook p0.Mind p1).1)).1))))), (2, .one (.pt 2 (f1 0 0) 0))], [(2, some (f1 0 0, .box [.v (.bool p0.Up), .v (.int .i64 p0.Mind.Last), .mu 1002 (fs 0 2) 13 0 ((((laws_markLinkBook p0.Mind p1).2).Held).map LinkHeld.row).length, .v (.int .i64 p0.Disk.Last), .mu 1004 (fs 0 4) 13 0 (p0.Disk.Held.map LinkHeld.row).length, .mu 1005 (fs 0 5) 8 0 (p0.Out.map LinkWord.row).length])), (1002, some (fs 0 2, .arr 13 ((((laws_markLinkBook p0.Mind p1).2).Held).map LinkHeld.row))), (1004, some (fs 0 4, .arr 13 ((((laws_markLinkBook p0.Disk ((laws_markLinkBook p0.Mind p1).1)).2).Held).map LinkHeld.row))), (1005, some (fs 0 5, .arr 8 (p0.Out.map LinkWord.row)))], 18⟩) (fun f => by kernel_rfl) (fun f => by kernel_rfl) fun f3 => ?_
  refine w_sub (s := ⟨[(1, .one (.c (.v (.int .i64 ((laws_markLinkBook p0.Disk ((laws_markLinkBook p0.Mind p1).1)).1))))), (2, .one (.pt 2 (f1 0 0) 0))], [(2, some (f1 0 0, .box [.v (.bool p0.Up), .v (.int .i64 p0.Mind.Last), .mu 1002 (fs 0 2) 13 0 ((((laws_markLinkBook p0.Mind p1).2).Held).map LinkHeld.row).length, .v (.int .i64 p0.Disk.Last), .mu 1004 (fs 0 4) 13 0 ((((laws_markLinkBook p0.Disk ((laws_markLinkBook p0.Mind p1).1)).2).Held).map LinkHeld.row).length, .mu 1005 (fs 0 5) 8 0 (p0.Out.map LinkWord.row).length])), (1002, some (fs 0 2, .arr 13 ((((laws_markLinkBook p0.Mind p1).2).Held).map LinkHeld.row))), (1004, some (fs 0 4, .arr 13 ((((laws_markLinkBook p0.Disk ((laws_markLinkBook p0.Mind p1).1)).2).Held).map LinkHeld.row))), (1005, some (fs 0 5, .arr 8 (p0.Out.map LinkWord.row)))], 18⟩) (cst (by simp only [LN, f_laws_markLinkBook, f_laws_markLinkWordS]) (sb (s := ⟨[(1, .one (.c (.v (.int .i64 ((laws_markLinkBook p0.Disk ((laws_markLinkBook p0.Mind p1).1)).1))))), (2, .one (.pt 2 (f1 0 0) 0))], [(2, some (f1 0 0, .box [.v (.bool p0.Up), .v (.int .i64 p0.Mind.Last), .mu 1002 (fs 0 2) 13 0 ((((laws_markLinkBook p0.Mind p1).2).Held).map LinkHeld.row).length, .v (.int .i64 p0.Disk.Last), .mu 1004 (fs 0 4) 13 0 (p0.Disk.Held.map LinkHeld.row).length, .mu 1005 (fs 0 5) 8 0 (p0.Out.map LinkWord.row).length])), (1002, some (fs 0 2, .arr 13 ((((laws_markLinkBook p0.Mind p1).2).Held).map LinkHeld.row))), (1004, some (fs 0 4, .arr 13 ((((laws_markLinkBook p0.Disk ((laws_markLinkBook p0.Mind p1).1)).2).Held).map LinkHeld.row))), (1005, some (fs 0 5, .arr 8 (p0.Out.map LinkWord.row)))], 18⟩) (by kernel_rfl))) ?_
  refine xr hT [ca (c144 p0.Out ((laws_markLinkBook p0.Disk ((laws_markLinkBook p0.Mind p1).1)).1) (by omega) (q0.2.2.2.2.2) (by first | assumption | ((try simp only [LN, f_laws_markLinkBook, f_laws_markLinkWordS]) <;> omega) | (simp only [LN, f_laws_markLinkBook, f_laws_markLinkWordS] <;> assumption)))] (fun f4 => ⟨[(1, .one (.c (.v (.int .i64 ((laws_markLinkWordS p0.Out ((laws_markLinkBook p0.Disk ((laws_markLinkBook p0.Mind p1).1)).1)).1)))))], [(1002, some (fs 0 2, .arr 13 ((((laws_markLinkBook p0.Mind p1).2).Held).map LinkHeld.row))), (1004, some (fs 0 4, .arr 13 ((((laws_markLinkBook p0.Disk ((laws_markLinkBook p0.Mind p1).1)).2).Held).map LinkHeld.row))), (1005, some (fs 0 5, .arr 8 (((laws_markLinkWordS p0.Out ((laws_markLinkBook p0.Disk ((laws_markLinkBook p0.Mind p1).1)).1)).2).map LinkWord.row)))], 18⟩) (fun f => by kernel_rfl) (fun f => by kernel_rfl) fun f4 => ?_
  refine xr hT [] (fun f5 => ⟨[(4, .one (.c (.v (.int .i64 ((laws_markLinkWordS p0.Out ((laws_markLinkBook p0.Disk ((laws_markLinkBook p0.Mind p1).1)).1)).1)))))], [(1002, some (fs 0 2, .arr 13 ((((laws_markLinkBook p0.Mind p1).2).Held).map LinkHeld.row))), (1004, some (fs 0 4, .arr 13 ((((laws_markLinkBook p0.Disk ((laws_markLinkBook p0.Mind p1).1)).2).Held).map LinkHeld.row))), (1005, some (fs 0 5, .arr 8 (((laws_markLinkWordS p0.Out ((laws_markLinkBook p0.Disk ((laws_markLinkBook p0.Mind p1).1)).1)).2).map LinkWord.row)))], 18⟩) (fun f => by kernel_rfl) (fun f => by kernel_rfl) fun f5 => ?_
  refine w_ret ?_
  subst hR
  exact x_ret (by kernel_rfl)
theorem f_laws_markLinkGround (p0 : LinkGround) (p1 : Int) : laws_markLinkGround p0 p1 = (p1, p0) := by
  simp only [laws_markLinkGround, LN, f_laws_markLinkBook, f_laws_markLinkWordS]

def laws_markLinkCraftS_I1 (p0 : (List LinkCraft)) (p1 : Int) (fs : Nat → Nat → Nat) (i1 : Nat) (s1 : Int) (x1 : Nat → Nat) : St := ⟨[(0, .one (.c (.mu 1000 (fs 0 0) 9 0 (p0.map LinkCraft.row).length))), (1, .one (.c (.v (.int .i64 s1)))), (5, .one (.c (.v (.int .i64 ((i1 : Nat) : Int)))))], [(1000, some (fs 0 0, .arr 9 (p0.map LinkCraft.row)))], 84⟩
def laws_markLinkCraftS_J1 (p0 : (List LinkCraft)) (p1 : Int) (fs : Nat → Nat → Nat) (s1 : Int) (x1 : Nat → Nat) : St := ⟨[(1, .one (.c (.v (.int .i64 s1))))], [(1000, some (fs 0 0, .arr 9 (p0.map LinkCraft.row)))], 84⟩
def laws_markLinkCraftS_b1 (p0 : (List LinkCraft)) (p1 : Int) (i1 : Nat) (s1 : Int) : Res (Int) (Int × (List LinkCraft)) := (.next s1)
def laws_markLinkCraftS_r1 (p0 : (List LinkCraft)) (p1 : Int) (s1 : Int) : (Int × (List LinkCraft)) := (s1, p0)
/-- laws.markLinkCraftS -/
def laws_markLinkCraftS (p0 : (List LinkCraft)) (p1 : Int) : Int × (List LinkCraft) := (Res.fin (laws_markLinkCraftS_r1 p0 p1) (forN (laws_markLinkCraftS_b1 p0 p1) (p0.length - 0) 0 p1))
theorem c143 (p0 : (List LinkCraft)) (p1 : Int) (k0_0 : p0.length ≤ 1048576) (k0_1 : ∀ y ∈ p0, LinkCraft.ok y) (h0 : p0.length = 0) : Fn Proofs.Try.prog 143 [⟨.mt, false, [.sl .own 9 (p0.map LinkCraft.row)]⟩, ⟨.val, false, [.v (.int .i64 p1)]⟩] [.c (.v (.int .i64 (laws_markLinkCraftS p0 p1).1))] [[.sl .own 9 ((laws_markLinkCraftS p0 p1).2.map LinkCraft.row)]] := by
  obtain ⟨R, hR⟩ : ∃ R, R = laws_markLinkCraftS p0 p1 := ⟨_, rfl⟩
  rw [← hR]
  rw [laws_markLinkCraftS] at hR
  refine ⟨fn_intro hT Proofs.Try.func143 rfl rfl fun fs => ?_, _, Proofs.Try.func143, rfl, rfl⟩
  refine xr hT [] (fun f1 => ⟨[(0, .one (.c (.mu 1000 (fs 0 0) 9 0 (p0.map LinkCraft.row).length))), (1, .one (.c (.v (.int .i64 p1))))], [(1000, some (fs 0 0, .arr 9 (p0.map LinkCraft.row)))], 84⟩) (fun f => by kernel_rfl) (fun f => by kernel_rfl) fun f1 => ?_
  refine w_seq ?_
  refine xr hT [] (fun f2 => ⟨[(0, .one (.c (.mu 1000 (fs 0 0) 9 0 (p0.map LinkCraft.row).length))), (1, .one (.c (.v (.int .i64 p1)))), (5, .one (.c (.v (.int .i64 0))))], [(1000, some (fs 0 0, .arr 9 (p0.map LinkCraft.row)))], 84⟩) (fun f => by kernel_rfl) (fun f => by kernel_rfl) fun f2 => ?_
  refine w_forT (fun _ => rfl) (laws_markLinkCraftS_I1 p0 p1 fs) (laws_markLinkCraftS_J1 p0 p1 fs) (fun i1 s1 => True) (fun s1 => True) (p0.length) 0 (laws_markLinkCraftS_b1 p0 p1) (laws_markLinkCraftS_r1 p0 p1) 0 (p1) (lst []) (sb (by kernel_rfl)) trivial hR ?_ ?_
  · skip
    intro i1 s1 x1 hI1 hX1
    refine w_seq ?_
    refine xr hT [.ln LinkCraft.row p0] (fun f3 => ⟨[(0, .one (.c (.mu 1000 (fs 0 0) 9 0 (p0.map LinkCraft.row).length))), (1, .one (.c (.v (.int .i64 s1)))), (5, .one (.c (.v (.int .i64 ((i1 : Nat) : Int))))), (9, .one (.c (.v (.bool (decide (((i1 : Nat) : Int) < (p0.length : Int)))))))], [(1000, some (fs 0 0, .arr 9 (p0.map LinkCraft.row)))], 84⟩) (fun f => by kernel_rfl) (fun f => by kernel_rfl) fun f3 => ?_
    refine w_cond rfl (fun h4 => ?_) fun h4 => ?_
    · skip
      have hl1 : i1 < p0.length := by have hq := of_decide_eq_true h4; first | omega | ((try simp only [LN] at *); omega)
      exact absurd hl1 (by omega)
    have hq := of_decide_eq_false h4
    refine w_exit ?_
    exact ⟨s1, (lst []), trivial, hX1.trans (forN_end (by first | omega | ((try simp only [LN] at *); omega))), sb (by kernel_rfl)⟩
  intro s1 x1 hF7 hR5
  rw [laws_markLinkCraftS_r1] at hR5
  refine xr hT [] (fun f6 => ⟨[(4, .one (.c (.v (.int .i64 s1))))], [(1000, some (fs 0 0, .arr 9 (p0.map LinkCraft.row)))], 84⟩) (fun f => by kernel_rfl) (fun f => by kernel_rfl) fun f6 => ?_
  refine w_ret ?_
  subst hR5
  exact x_ret (by kernel_rfl)
theorem f_laws_markLinkCraftS (p0 : List LinkCraft) (p1 : Int) : laws_markLinkCraftS p0 p1 = (p1, p0) := by
  have e : ∀ (c i : Nat) (s : Int), forN (laws_markLinkCraftS_b1 p0 p1) c i s = .next s := by
    intro c
    induction c with
    | zero => intro i s; rfl
    | succ c ih => intro i s; simp only [forN, laws_markLinkCraftS_b1]; exact ih (i + 1) s
  unfold laws_markLinkCraftS
  rw [e]
  rfl

/-- laws.markLinkWorld -/
def laws_markLinkWorld (p0 : LinkWorld) (p1 : Int) : Int × LinkWorld := ((laws_markLinkWordS p0.Radio ((laws_markLinkCraftS p0.Crafts ((laws_markLinkGround p0.Ground p1).1)).1)).1, (⟨p0.Now, ⟨p0.Ground.Up, ⟨p0.Ground.Mind.Last, ((laws_markLinkGround p0.Ground p1).2).Mind.Held⟩, ⟨p0.Ground.Disk.Last, ((laws_markLinkGround p0.Ground p1).2).Disk.Held⟩, ((laws_markLinkGround p0.Ground p1).2).Out⟩, (laws_markLinkCraftS p0.Crafts ((laws_markLinkGround p0.Ground p1).1)).2, (laws_markLinkWordS p0.Radio ((laws_markLinkCraftS p0.Crafts ((laws_markLinkGround p0.Ground p1).1)).1)).2⟩ : LinkWorld))
theorem c66 (p0 : LinkWorld) (p1 : Int) (k0_0 : LinkWorld.ok p0) (h0 : p0.Ground.Mind.Held.length = 0) (h1 : p0.Ground.Disk.Held.length = 0) (h2 : p0.Ground.Out.length = 0) (h3 : p0.Crafts.length = 0) (h4 : p0.Radio.length = 0) : Fn Proofs.Try.prog 66 [⟨.mt, true, LinkWorld.cs .own p0⟩, ⟨.val, false, [.v (.int .i64 p1)]⟩] [.c (.v (.int .i64 (laws_markLinkWorld p0 p1).1))] [LinkWorld.cs .own (laws_markLinkWorld p0 p1).2] := by
  obtain ⟨R, hR⟩ : ∃ R, R = laws_markLinkWorld p0 p1 := ⟨_, rfl⟩
  rw [← hR]
  rw [laws_markLinkWorld] at hR
  refine ⟨fn_intro hT Proofs.Try.func66 rfl rfl fun fs => ?_, _, Proofs.Try.func66, rfl, rfl⟩
  have q0 := k0_0; simp only [LinkWorld.ok] at q0
  refine xr hT [] (fun f1 => ⟨[(1, .one (.c (.v (.int .i64 p1)))), (2, .one (.pt 2 (f1 0 0) 0))], [(2, some (f1 0 0, .box [.v (.int .i64 p0.Now), .v (.bool p0.Ground.Up), .v (.int .i64 p0.Ground.Mind.Last), .mu 1003 (fs 0 3) 13 0 (p0.Ground.Mind.Held.map LinkHeld.row).length, .v (.int .i64 p0.Ground.Disk.Last), .mu 1005 (fs 0 5) 13 0 (p0.Ground.Disk.Held.map LinkHeld.row).length, .mu 1006 (fs 0 6) 8 0 (p0.Ground.Out.map LinkWord.row).length, .mu 1007 (fs 0 7) 9 0 (p0.Crafts.map LinkCraft.row).length, .mu 1008 (fs 0 8) 8 0 (p0.Radio.map LinkWord.row).length])), (1003, some (fs 0 3, .arr 13 (p0.Ground.Mind.Held.map LinkHeld.row))), (1005, some (fs 0 5, .arr 13 (p0.Ground.Disk.Held.map LinkHeld.row))), (1006, some (fs 0 6, .arr 8 (p0.Ground.Out.map LinkWord.row))), (1007, some (fs 0 7, .arr 9 (p0.Crafts.map LinkCraft.row))), (1008, some (fs 0 8, .arr 8 (p0.Radio.map LinkWord.row)))], 18⟩) (fun f => by kernel_rfl) (fun f => by kernel_rfl) fun f1 => ?_
  refine xr hT [ca (c142 p0.Ground p1 (by first | assumption | exact ⟨(by omega : p0.Ground.Mind.Held.length ≤ 1048576), (q0.2.1), (by omega : p0.Ground.Disk.Held.length ≤ 1048576), (q0.2.2.2.1), (by omega : p0.Ground.Out.length ≤ 1048576), (q0.2.2.2.2.2.1)⟩) (by first | assumption | ((try simp only [LN, f_laws_markLinkCraftS, f_laws_markLinkGround, f_laws_markLinkWordS, LinkGround.ok]) <;> omega) | (simp only [LN, f_laws_markLinkCraftS, f_laws_markLinkGround, f_laws_markLinkWordS] <;> assumption)) (by first | assumption | ((try simp only [LN, f_laws_markLinkCraftS, f_laws_markLinkGround, f_laws_markLinkWordS, LinkGround.ok]) <;> omega) | (simp only [LN, f_laws_markLinkCraftS, f_laws_markLinkGround, f_laws_markLinkWordS] <;> assumption)) (by first | assumption | ((try simp only [LN, f_laws_markLinkCraftS, f_laws_markLinkGround, f_laws_markLinkWordS, LinkGround.ok]) <;> omega) | (simp only [LN, f_laws_markLinkCraftS, f_laws_markLinkGround, f_laws_markLinkWordS] <;> assumption)))] (fun f2 => ⟨[(1, .one (.c (.v (.int .i64 ((laws_markLinkGround p0.Ground p1).1))))), (2, .one (.pt 2 (f1 0 0) 0))], [(2, some (f1 0 0, .box [.v (.int .i64 p0.Now), .v (.bool p0.Ground.Up), .v (.int .i64 p0.Ground.Mind.Last), .mu 1003 (fs 0 3) 13 0 (p0.Ground.Mind.Held.map LinkHeld.row).length, .v (.int .i64 p0.Ground.Disk.Last), .mu 1005 (fs 0 5) 13 0 (p0.Ground.Disk.Held.map LinkHeld.row).length, .mu 1006 (fs 0 6) 8 0 (p0.Ground.Out.map LinkWord.row).length, .mu 1007 (fs 0 7) 9 0 (p0.Crafts.map LinkCraft.row).length, .mu 1008 (fs 0 8) 8 0 (p0.Radio.map LinkWord.row).length])), (1003, some (fs 0 3, .arr 13 ((((laws_markLinkGround p0.Ground p1).2).Mind.Held).map LinkHeld.row))), (1005, some (fs 0 5, .arr 13 ((((laws_markLinkGround p0.Ground p1).2).Disk.Held).map LinkHeld.row))), (1006, some (fs 0 6, .arr 8 ((((laws_markLinkGround p0.Ground p1).2).Out).map LinkWord.row))), (1007, some (fs 0 7, .arr 9 (p0.Crafts.map LinkCraft.row))), (1008, some (fs 0 8, .arr 8 (p0.Radio.map LinkWord.row)))], 18⟩) (fun f => by kernel_rfl) (fun f => by kernel_rfl) fun f2 => ?_
  refine w_sub (s := ⟨[(1, .one (.c (.v (.int .i64 ((laws_markLinkGround p0.Ground p1).1))))), (2, .one (.pt 2 (f1 0 0) 0))], [(2, some (f1 0 0, .box [.v (.int .i64 p0.Now), .v (.bool p0.Ground.Up), .v (.int .i64 p0.Ground.Mind.Last), .mu 1003 (fs 0 3) 13 0 ((((laws_markLinkGround p0.Ground p1).2).Mind.Held).map LinkHeld.row).length, .v (.int .i64 p0.Ground.Disk.Last), .mu 1005 (fs 0 5) 13 0 ((((laws_markLinkGround p0.Ground p1).2).Disk.Held).map LinkHeld.row).length, .mu 1006 (fs 0 6) 8 0 ((((laws_markLinkGround p0.Ground p1).2).Out).map LinkWord.row).length, .mu 1007 (fs 0 7) 9 0 (p0.Crafts.map LinkCraft.row).length, .mu 1008 (fs 0 8) 8 0 (p0.Radio.map LinkWord.row).length])), (1003, some (fs 0 3, .arr 13 ((((laws_markLinkGround p0.Ground p1).2).Mind.Held).map LinkHeld.row))), (1005, some (fs 0 5, .arr 13 ((((laws_markLinkGround p0.Ground p1).2).Disk.Held).map LinkHeld.row))), (1006, some (fs 0 6, .arr 8 ((((laws_markLinkGround p0.Ground p1).2).Out).map LinkWord.row))), (1007, some (fs 0 7, .arr 9 (p0.Crafts.map LinkCraft.row))), (1008, some (fs 0 8, .arr 8 (p0.Radio.map LinkWord.row)))], 18⟩) (cst (by simp only [LN, f_laws_markLinkCraftS, f_laws_markLinkGround, f_laws_markLinkWordS]) (sb (s := ⟨[(1, .one (.c (.v (.int .i64 ((laws_markLinkGround p0.Ground p1).1))))), (2, .one (.pt 2 (f1 0 0) 0))], [(2, some (f1 0 0, .box [.v (.int .i64 p0.Now), .v (.bool p0.Ground.Up), .v (.int .i64 p0.Ground.Mind.Last), .mu 1003 (fs 0 3) 13 0 (p0.Ground.Mind.Held.map LinkHeld.row).length, .v (.int .i64 p0.Ground.Disk.Last), .mu 1005 (fs 0 5) 13 0 (p0.Ground.Disk.Held.map LinkHeld.row).length, .mu 1006 (fs 0 6) 8 0 (p0.Ground.Out.map LinkWord.row).length, .mu 1007 (fs 0 7) 9 0 (p0.Crafts.map LinkCraft.row).length, .mu 1008 (fs 0 8) 8 0 (p0.Radio.map LinkWord.row).length])), (1003, some (fs 0 3, .arr 13 ((((laws_markLinkGround p0.Ground p1).2).Mind.Held).map LinkHeld.row))), (1005, some (fs 0 5, .arr 13 ((((laws_markLinkGround p0.Ground p1).2).Disk.Held).map LinkHeld.row))), (1006, some (fs 0 6, .arr 8 ((((laws_markLinkGround p0.Ground p1).2).Out).map LinkWord.row))), (1007, some (fs 0 7, .arr 9 (p0.Crafts.map LinkCraft.row))), (1008, some (fs 0 8, .arr 8 (p0.Radio.map LinkWord.row)))], 18⟩) (by kernel_rfl))) ?_
  refine xr hT [ca (c143 p0.Crafts ((laws_markLinkGround p0.Ground p1).1) (by omega) (q0.2.2.2.2.2.2.2.1) (by first | assumption | ((try simp only [LN, f_laws_markLinkCraftS, f_laws_markLinkGround, f_laws_markLinkWordS]) <;> omega) | (simp only [LN, f_laws_markLinkCraftS, f_laws_markLinkGround, f_laws_markLinkWordS] <;> assumption)))] (fun f3 => ⟨[(1, .one (.c (.v (.int .i64 ((laws_markLinkCraftS p0.Crafts ((laws_markLinkGround p0.Ground p1).1)).1))))), (2, .one (.pt 2 (f1 0 0) 0))], [(2, some (f1 0 0, .box [.v (.int .i64 p0.Now), .v (.bool p0.Ground.Up), .v (.int .i64 p0.Ground.Mind.Last), .mu 1003 (fs 0 3) 13 0 ((((laws_markLinkGround p0.Ground p1).2).Mind.Held).map LinkHeld.row).length, .v (.int .i64 p0.Ground.Disk.Last), .mu 1005 (fs 0 5) 13 0 ((((laws_markLinkGround p0.Ground p1).2).Disk.Held).map LinkHeld.row).length, .mu 1006 (fs 0 6) 8 0 ((((laws_markLinkGround p0.Ground p1).2).Out).map LinkWord.row).length, .mu 1007 (fs 0 7) 9 0 (p0.Crafts.map LinkCraft.row).length, .mu 1008 (fs 0 8) 8 0 (p0.Radio.map LinkWord.row).length])), (1003, some (fs 0 3, .arr 13 ((((laws_markLinkGround p0.Ground p1).2).Mind.Held).map LinkHeld.row))), (1005, some (fs 0 5, .arr 13 ((((laws_markLinkGround p0.Ground p1).2).Disk.Held).map LinkHeld.row))), (1006, some (fs 0 6, .arr 8 ((((laws_markLinkGround p0.Ground p1).2).Out).map LinkWord.row))), (1007, some (fs 0 7, .arr 9 (((laws_markLinkCraftS p0.Crafts ((laws_markLinkGround p0.Ground p1).1)).2).map LinkCraft.row))), (1008, some (fs 0 8, .arr 8 (p0.Radio.map LinkWord.row)))], 18⟩) (fun f => by kernel_rfl) (fun f => by kernel_rfl) fun f3 => ?_
  refine w_sub (s := ⟨[(1, .one (.c (.v (.int .i64 ((laws_markLinkCraftS p0.Crafts ((laws_markLinkGround p0.Ground p1).1)).1))))), (2, .one (.pt 2 (f1 0 0) 0))], [(2, some (f1 0 0, .box [.v (.int .i64 p0.Now), .v (.bool p0.Ground.Up), .v (.int .i64 p0.Ground.Mind.Last), .mu 1003 (fs 0 3) 13 0 ((((laws_markLinkGround p0.Ground p1).2).Mind.Held).map LinkHeld.row).length, .v (.int .i64 p0.Ground.Disk.Last), .mu 1005 (fs 0 5) 13 0 ((((laws_markLinkGround p0.Ground p1).2).Disk.Held).map LinkHeld.row).length, .mu 1006 (fs 0 6) 8 0 ((((laws_markLinkGround p0.Ground p1).2).Out).map LinkWord.row).length, .mu 1007 (fs 0 7) 9 0 (((laws_markLinkCraftS p0.Crafts ((laws_markLinkGround p0.Ground p1).1)).2).map LinkCraft.row).length, .mu 1008 (fs 0 8) 8 0 (p0.Radio.map LinkWord.row).length])), (1003, some (fs 0 3, .arr 13 ((((laws_markLinkGround p0.Ground p1).2).Mind.Held).map LinkHeld.row))), (1005, some (fs 0 5, .arr 13 ((((laws_markLinkGround p0.Ground p1).2).Disk.Held).map LinkHeld.row))), (1006, some (fs 0 6, .arr 8 ((((laws_markLinkGround p0.Ground p1).2).Out).map LinkWord.row))), (1007, some (fs 0 7, .arr 9 (((laws_markLinkCraftS p0.Crafts ((laws_markLinkGround p0.Ground p1).1)).2).map LinkCraft.row))), (1008, some (fs 0 8, .arr 8 (p0.Radio.map LinkWord.row)))], 18⟩) (cst (by simp only [LN, f_laws_markLinkCraftS, f_laws_markLinkGround, f_laws_markLinkWordS]) (sb (s := ⟨[(1, .one (.c (.v (.int .i64 ((laws_markLinkCraftS p0.Crafts ((laws_markLinkGround p0.Ground p1).1)).1))))), (2, .one (.pt 2 (f1 0 0) 0))], [(2, some (f1 0 0, .box [.v (.int .i64 p0.Now), .v (.bool p0.Ground.Up), .v (.int .i64 p0.Ground.Mind.Last), .mu 1003 (fs 0 3) 13 0 ((((laws_markLinkGround p0.Ground p1).2).Mind.Held).map LinkHeld.row).length, .v (.int .i64 p0.Ground.Disk.Last), .mu 1005 (fs 0 5) 13 0 ((((laws_markLinkGround p0.Ground p1).2).Disk.Held).map LinkHeld.row).length, .mu 1006 (fs 0 6) 8 0 ((((laws_markLinkGround p0.Ground p1).2).Out).map LinkWord.row).length, .mu 1007 (fs 0 7) 9 0 (p0.Crafts.map LinkCraft.row).length, .mu 1008 (fs 0 8) 8 0 (p0.Radio.map LinkWord.row).length])), (1003, some (fs 0 3, .arr 13 ((((laws_markLinkGround p0.Ground p1).2).Mind.Held).map LinkHeld.row))), (1005, some (fs 0 5, .arr 13 ((((laws_markLinkGround p0.Ground p1).2).Disk.Held).map LinkHeld.row))), (1006, some (fs 0 6, .arr 8 ((((laws_markLinkGround p0.Ground p1).2).Out).map LinkWord.row))), (1007, some (fs 0 7, .arr 9 (((laws_markLinkCraftS p0.Crafts ((laws_markLinkGround p0.Ground p1).1)).2).map LinkCraft.row))), (1008, some (fs 0 8, .arr 8 (p0.Radio.map LinkWord.row)))], 18⟩) (by kernel_rfl))) ?_
  refine xr hT [ca (c144 p0.Radio ((laws_markLinkCraftS p0.Crafts ((laws_markLinkGround p0.Ground p1).1)).1) (by omega) (q0.2.2.2.2.2.2.2.2.2) (by first | assumption | ((try simp only [LN, f_laws_markLinkCraftS, f_laws_markLinkGround, f_laws_markLinkWordS]) <;> omega) | (simp only [LN, f_laws_markLinkCraftS, f_laws_markLinkGround, f_laws_markLinkWordS] <;> assumption)))] (fun f4 => ⟨[(1, .one (.c (.v (.int .i64 ((laws_markLinkWordS p0.Radio ((laws_markLinkCraftS p0.Crafts ((laws_markLinkGround p0.Ground p1).1)).1)).1)))))], [(1003, some (fs 0 3, .arr 13 ((((laws_markLinkGround p0.Ground p1).2).Mind.Held).map LinkHeld.row))), (1005, some (fs 0 5, .arr 13 ((((laws_markLinkGround p0.Ground p1).2).Disk.Held).map LinkHeld.row))), (1006, some (fs 0 6, .arr 8 ((((laws_markLinkGround p0.Ground p1).2).Out).map LinkWord.row))), (1007, some (fs 0 7, .arr 9 (((laws_markLinkCraftS p0.Crafts ((laws_markLinkGround p0.Ground p1).1)).2).map LinkCraft.row))), (1008, some (fs 0 8, .arr 8 (((laws_markLinkWordS p0.Radio ((laws_markLinkCraftS p0.Crafts ((laws_markLinkGround p0.Ground p1).1)).1)).2).map LinkWord.row)))], 18⟩) (fun f => by kernel_rfl) (fun f => by kernel_rfl) fun f4 => ?_
  refine xr hT [] (fun f5 => ⟨[(4, .one (.c (.v (.int .i64 ((laws_markLinkWordS p0.Radio ((laws_markLinkCraftS p0.Crafts ((laws_markLinkGround p0.Ground p1).1)).1)).1)))))], [(1003, some (fs 0 3, .arr 13 ((((laws_markLinkGround p0.Ground p1).2).Mind.Held).map LinkHeld.row))), (1005, some (fs 0 5, .arr 13 ((((laws_markLinkGround p0.Ground p1).2).Disk.Held).map LinkHeld.row))), (1006, some (fs 0 6, .arr 8 ((((laws_markLinkGround p0.Ground p1).2).Out).map LinkWord.row))), (1007, some (fs 0 7, .arr 9 (((laws_markLinkCraftS p0.Crafts ((laws_markLinkGround p0.Ground p1).1)).2).map LinkCraft.row))), (1008, some (fs 0 8, .arr 8 (((laws_markLinkWordS p0.Radio ((laws_markLinkCraftS p0.Crafts ((laws_markLinkGround p0.Ground p1).1)).1)).2).map LinkWord.row)))], 18⟩) (fun f => by kernel_rfl) (fun f => by kernel_rfl) fun f5 => ?_
  refine w_ret ?_
  subst hR
  exact x_ret (by kernel_rfl)
theorem f_laws_markLinkWorld (p0 : LinkWorld) (p1 : Int) : laws_markLinkWorld p0 p1 = (p1, p0) := by
  simp only [laws_markLinkWorld, LN, f_laws_markLinkCraftS, f_laws_markLinkGround, f_laws_markLinkWordS]

def laws_heldLinkWordS_I1 (p0 : (List LinkWord)) (p1 : Int) (fs : Nat → Nat → Nat) (i1 : Nat) (s1 : Int) (x1 : Nat → Nat) : St := ⟨[(0, .one (.c (.sl .bor 8 (p0.map LinkWord.row)))), (1, .one (.c (.v (.int .i64 s1)))), (5, .one (.c (.v (.int .i64 ((i1 : Nat) : Int)))))], [], 93⟩
def laws_heldLinkWordS_J1 (p0 : (List LinkWord)) (p1 : Int) (fs : Nat → Nat → Nat) (s1 : Int) (x1 : Nat → Nat) : St := ⟨[(1, .one (.c (.v (.int .i64 s1))))], [], 93⟩
def laws_heldLinkWordS_b1 (p0 : (List LinkWord)) (p1 : Int) (i1 : Nat) (s1 : Int) : Res (Int) Int := (.next s1)
def laws_heldLinkWordS_r1 (p0 : (List LinkWord)) (p1 : Int) (s1 : Int) : Int := s1
/-- laws.heldLinkWordS -/
def laws_heldLinkWordS (p0 : (List LinkWord)) (p1 : Int) : Int := (Res.fin (laws_heldLinkWordS_r1 p0 p1) (forN (laws_heldLinkWordS_b1 p0 p1) (p0.length - 0) 0 p1))
theorem c147 (p0 : (List LinkWord)) (p1 : Int) (k0_0 : p0.length ≤ 1048576) (k0_1 : ∀ y ∈ p0, LinkWord.ok y) (h0 : p0.length = 0) : Fn Proofs.Try.prog 147 [⟨.val, false, [.sl .bor 8 (p0.map LinkWord.row)]⟩, ⟨.val, false, [.v (.int .i64 p1)]⟩] [.c (.v (.int .i64 (laws_heldLinkWordS p0 p1)))] [] := by
  obtain ⟨R, hR⟩ : ∃ R, R = laws_heldLinkWordS p0 p1 := ⟨_, rfl⟩
  rw [← hR]
  rw [laws_heldLinkWordS] at hR
  refine ⟨fn_intro hT Proofs.Try.func147 rfl rfl fun fs => ?_, _, Proofs.Try.func147, rfl, rfl⟩
  refine xr hT [] (fun f1 => ⟨[(0, .one (.c (.sl .bor 8 (p0.map LinkWord.row)))), (1, .one (.c (.v (.int .i64 p1))))], [], 93⟩) (fun f => by kernel_rfl) (fun f => by kernel_rfl) fun f1 => ?_
  refine w_seq ?_
  refine xr hT [] (fun f2 => ⟨[(0, .one (.c (.sl .bor 8 (p0.map LinkWord.row)))), (1, .one (.c (.v (.int .i64 p1)))), (5, .one (.c (.v (.int .i64 0))))], [], 93⟩) (fun f => by kernel_rfl) (fun f => by kernel_rfl) fun f2 => ?_
  refine w_forT (fun _ => rfl) (laws_heldLinkWordS_I1 p0 p1 fs) (laws_heldLinkWordS_J1 p0 p1 fs) (fun i1 s1 => True) (fun s1 => True) (p0.length) 0 (laws_heldLinkWordS_b1 p0 p1) (laws_heldLinkWordS_r1 p0 p1) 0 (p1) (lst []) (sb (by kernel_rfl)) trivial hR ?_ ?_
  · skip
    intro i1 s1 x1 hI1 hX1
    refine w_seq ?_
    refine xr hT [.ln LinkWord.row p0] (fun f3 => ⟨[(0, .one (.c (.sl .bor 8 (p0.map LinkWord.row)))), (1, .one (.c (.v (.int .i64 s1)))), (5, .one (.c (.v (.int .i64 ((i1 : Nat) : Int))))), (9, .one (.c (.v (.bool (decide (((i1 : Nat) : Int) < (p0.length : Int)))))))], [], 93⟩) (fun f => by kernel_rfl) (fun f => by kernel_rfl) fun f3 => ?_
    refine w_cond rfl (fun h4 => ?_) fun h4 => ?_
    · skip
      have hl1 : i1 < p0.length := by have hq := of_decide_eq_true h4; first | omega | ((try simp only [LN] at *); omega)
      exact absurd hl1 (by omega)
    have hq := of_decide_eq_false h4
    refine w_exit ?_
    exact ⟨s1, (lst []), trivial, hX1.trans (forN_end (by first | omega | ((try simp only [LN] at *); omega))), sb (by kernel_rfl)⟩
  intro s1 x1 hF7 hR5
  rw [laws_heldLinkWordS_r1] at hR5
  refine xr hT [] (fun f6 => ⟨[(4, .one (.c (.v (.int .i64 s1))))], [], 93⟩) (fun f => by kernel_rfl) (fun f => by kernel_rfl) fun f6 => ?_
  refine w_ret ?_
  subst hR5
  exact x_ret (by kernel_rfl)

/-- laws.heldLinkGround -/
def laws_heldLinkGround (p0 : LinkGround) (p1 : Int) : Int := (if decide ((laws_heldLinkBook p0.Mind p1) < 0) then (-1) else (if decide ((laws_heldLinkBook p0.Disk (laws_heldLinkBook p0.Mind p1)) < 0) then (-1) else (if decide ((laws_heldLinkWordS p0.Out (laws_heldLinkBook p0.Disk (laws_heldLinkBook p0.Mind p1))) < 0) then (-1) else (laws_heldLinkWordS p0.Out (laws_heldLinkBook p0.Disk (laws_heldLinkBook p0.Mind p1))))))
theorem c145 (p0 : LinkGround) (p1 : Int) (k0_0 : LinkGround.ok p0) (h0 : p0.Mind.Held.length = 0) (h1 : p0.Disk.Held.length = 0) (h2 : p0.Out.length = 0) : Fn Proofs.Try.prog 145 [⟨.val, true, LinkGround.cs .bor p0⟩, ⟨.val, false, [.v (.int .i64 p1)]⟩] [.c (.v (.int .i64 (laws_heldLinkGround p0 p1)))] [] := by
  obtain ⟨R, hR⟩ : ∃ R, R = laws_heldLinkGround p0 p1 := ⟨_, rfl⟩
  rw [← hR]
  rw [laws_heldLinkGround] at hR
  refine ⟨fn_intro hT Proofs.Try.func145 rfl rfl fun fs => ?_, _, Proofs.Try.func145, rfl, rfl⟩
  have q0 := k0_0; simp only [LinkGround.ok] at q0
  refine xr hT [] (fun f1 => ⟨[(1, .one (.c (.v (.int .i64 p1)))), (2, .one (.pt 2 (f1 0 0) 0))], [(2, some (f1 0 0, .box (LinkGround.cs .bor p0)))], 24⟩) (fun f => by kernel_rfl) (fun f => by kernel_rfl) fun f1 => ?_
  refine xr hT [ca (c41 p0.Mind p1 (by first | assumption | exact ⟨(by omega : p0.Mind.Held.length ≤ 1048576), (q0.2.1)⟩) (by first | assumption | ((try simp only [LN, LinkBook.ok]) <;> omega) | (simp only [LN] <;> assumption)))] (fun f2 => ⟨[(1, .one (.c (.v (.int .i64 (laws_heldLinkBook p0.Mind p1))))), (2, .one (.pt 2 (f1 0 0) 0))], [(2, some (f1 0 0, .box (LinkGround.cs .bor p0)))], 24⟩) (fun f => by kernel_rfl) (fun f => by kernel_rfl) fun f2 => ?_
  refine w_seq ?_
  refine xr hT [] (fun f3 => ⟨[(1, .one (.c (.v (.int .i64 (laws_heldLinkBook p0.Mind p1))))), (2, .one (.pt 2 (f1 0 0) 0)), (10, .one (.c (.v (.bool (decide ((laws_heldLinkBook p0.Mind p1) < 0))))))], [(2, some (f1 0 0, .box (LinkGround.cs .bor p0)))], 24⟩) (fun f => by kernel_rfl) (fun f => by kernel_rfl) fun f3 => ?_
  refine w_cond rfl (fun h4 => ?_) fun h4 => ?_
  · rw [if_pos h4] at hR
    have gh4 := of_decide_eq_true h4
    refine xr hT [] (fun f5 => ⟨[(4, .one (.c (.v (.int .i64 (-1)))))], [], 24⟩) (fun f => by kernel_rfl) (fun f => by kernel_rfl) fun f5 => ?_
    refine w_ret ?_
    subst hR
    exact x_ret (by kernel_rfl)
  rw [if_neg (nt h4)] at hR
  have gh4 := of_decide_eq_false h4
  refine w_skip ?_
  refine xr hT [ca (c41 p0.Disk (laws_heldLinkBook p0.Mind p1) (by first | assumption | exact ⟨(by omega : p0.Disk.Held.length ≤ 1048576), (q0.2.2.2.1)⟩) (by first | assumption | ((try simp only [LN, LinkBook.ok]) <;> omega) | (simp only [LN] <;> assumption)))] (fun f6 => ⟨[(1, .one (.c (.v (.int .i64 (laws_heldLinkBook p0.Disk (laws_heldLinkBook p0.Mind p1)))))), (2, .one (.pt 2 (f1 0 0) 0))], [(2, some (f1 0 0, .box (LinkGround.cs .bor p0)))], 24⟩) (fun f => by kernel_rfl) (fun f => by kernel_rfl) fun f6 => ?_
  refine w_seq ?_
  refine xr hT [] (fun f7 => ⟨[(1, .one (.c (.v (.int .i64 (laws_heldLinkBook p0.Disk (laws_heldLinkBook p0.Mind p1)))))), (2, .one (.pt 2 (f1 0 0) 0)), (16, .one (.c (.v (.bool (decide ((laws_heldLinkBook p0.Disk (laws_heldLinkBook p0.Mind p1)) < 0))))))], [(2, some (f1 0 0, .box (LinkGround.cs .bor p0)))], 24⟩) (fun f => by kernel_rfl) (fun f => by kernel_rfl) fun f7 => ?_
  refine w_cond rfl (fun h8 => ?_) fun h8 => ?_
  · rw [if_pos h8] at hR
    have gh8 := of_decide_eq_true h8
    refine xr hT [] (fun f9 => ⟨[(4, .one (.c (.v (.int .i64 (-1)))))], [], 24⟩) (fun f => by kernel_rfl) (fun f => by kernel_rfl) fun f9 => ?_
    refine w_ret ?_
    subst hR
    exact x_ret (by kernel_rfl)
  rw [if_neg (nt h8)] at hR
  have gh8 := of_decide_eq_false h8
  refine w_skip ?_
  refine xr hT [ca (c147 p0.Out (laws_heldLinkBook p0.Disk (laws_heldLinkBook p0.Mind p1)) (by omega) (q0.2.2.2.2.2) (by first | assumption | ((try simp only [LN]) <;> omega) | (simp only [LN] <;> assumption)))] (fun f10 => ⟨[(1, .one (.c (.v (.int .i64 (laws_heldLinkWordS p0.Out (laws_heldLinkBook p0.Disk (laws_heldLinkBook p0.Mind p1)))))))], [], 24⟩) (fun f => by kernel_rfl) (fun f => by kernel_rfl) fun f10 => ?_
  refine w_seq ?_
  refine xr hT [] (fun f11 => ⟨[(1, .one (.c (.v (.int .i64 (laws_heldLinkWordS p0.Out (laws_heldLinkBook p0.Disk (laws_heldLinkBook p0.Mind p1))))))), (22, .one (.c (.v (.bool (decide ((laws_heldLinkWordS p0.Out (laws_heldLinkBook p0.Disk (laws_heldLinkBook p0.Mind p1))) < 0))))))], [], 24⟩) (fun f => by kernel_rfl) (fun f => by kernel_rfl) fun f11 => ?_
  refine w_cond rfl (fun h12 => ?_) fun h12 => ?_
  · rw [if_pos h12] at hR
    have gh12 := of_decide_eq_true h12
    refine xr hT [] (fun f13 => ⟨[(4, .one (.c (.v (.int .i64 (-1)))))], [], 24⟩) (fun f => by kernel_rfl) (fun f => by kernel_rfl) fun f13 => ?_
    refine w_ret ?_
    subst hR
    exact x_ret (by kernel_rfl)
  rw [if_neg (nt h12)] at hR
  have gh12 := of_decide_eq_false h12
  refine w_skip ?_
  refine xr hT [] (fun f14 => ⟨[(4, .one (.c (.v (.int .i64 (laws_heldLinkWordS p0.Out (laws_heldLinkBook p0.Disk (laws_heldLinkBook p0.Mind p1)))))))], [], 24⟩) (fun f => by kernel_rfl) (fun f => by kernel_rfl) fun f14 => ?_
  refine w_ret ?_
  subst hR
  exact x_ret (by kernel_rfl)

def laws_heldLinkCraftS_I1 (p0 : (List LinkCraft)) (p1 : Int) (fs : Nat → Nat → Nat) (i1 : Nat) (s1 : Int) (x1 : Nat → Nat) : St := ⟨[(0, .one (.c (.sl .bor 9 (p0.map LinkCraft.row)))), (1, .one (.c (.v (.int .i64 s1)))), (5, .one (.c (.v (.int .i64 ((i1 : Nat) : Int)))))], [], 102⟩
def laws_heldLinkCraftS_J1 (p0 : (List LinkCraft)) (p1 : Int) (fs : Nat → Nat → Nat) (s1 : Int) (x1 : Nat → Nat) : St := ⟨[(1, .one (.c (.v (.int .i64 s1))))], [], 102⟩
def laws_heldLinkCraftS_b1 (p0 : (List LinkCraft)) (p1 : Int) (i1 : Nat) (s1 : Int) : Res (Int) Int := (.next s1)
def laws_heldLinkCraftS_r1 (p0 : (List LinkCraft)) (p1 : Int) (s1 : Int) : Int := s1
/-- laws.heldLinkCraftS -/
def laws_heldLinkCraftS (p0 : (List LinkCraft)) (p1 : Int) : Int := (Res.fin (laws_heldLinkCraftS_r1 p0 p1) (forN (laws_heldLinkCraftS_b1 p0 p1) (p0.length - 0) 0 p1))
theorem c146 (p0 : (List LinkCraft)) (p1 : Int) (k0_0 : p0.length ≤ 1048576) (k0_1 : ∀ y ∈ p0, LinkCraft.ok y) (h0 : p0.length = 0) : Fn Proofs.Try.prog 146 [⟨.val, false, [.sl .bor 9 (p0.map LinkCraft.row)]⟩, ⟨.val, false, [.v (.int .i64 p1)]⟩] [.c (.v (.int .i64 (laws_heldLinkCraftS p0 p1)))] [] := by
  obtain ⟨R, hR⟩ : ∃ R, R = laws_heldLinkCraftS p0 p1 := ⟨_, rfl⟩
  rw [← hR]
  rw [laws_heldLinkCraftS] at hR
  refine ⟨fn_intro hT Proofs.Try.func146 rfl rfl fun fs => ?_, _, Proofs.Try.func146, rfl, rfl⟩
  refine xr hT [] (fun f1 => ⟨[(0, .one (.c (.sl .bor 9 (p0.map LinkCraft.row)))), (1, .one (.c (.v (.int .i64 p1))))], [], 102⟩) (fun f => by kernel_rfl) (fun f => by kernel_rfl) fun f1 => ?_
  refine w_seq ?_
  refine xr hT [] (fun f2 => ⟨[(0, .one (.c (.sl .bor 9 (p0.map LinkCraft.row)))), (1, .one (.c (.v (.int .i64 p1)))), (5, .one (.c (.v (.int .i64 0))))], [], 102⟩) (fun f => by kernel_rfl) (fun f => by kernel_rfl) fun f2 => ?_
  refine w_forT (fun _ => rfl) (laws_heldLinkCraftS_I1 p0 p1 fs) (laws_heldLinkCraftS_J1 p0 p1 fs) (fun i1 s1 => True) (fun s1 => True) (p0.length) 0 (laws_heldLinkCraftS_b1 p0 p1) (laws_heldLinkCraftS_r1 p0 p1) 0 (p1) (lst []) (sb (by kernel_rfl)) trivial hR ?_ ?_
  · skip
    intro i1 s1 x1 hI1 hX1
    refine w_seq ?_
    refine xr hT [.ln LinkCraft.row p0] (fun f3 => ⟨[(0, .one (.c (.sl .bor 9 (p0.map LinkCraft.row)))), (1, .one (.c (.v (.int .i64 s1)))), (5, .one (.c (.v (.int .i64 ((i1 : Nat) : Int))))), (9, .one (.c (.v (.bool (decide (((i1 : Nat) : Int) < (p0.length : Int)))))))], [], 102⟩) (fun f => by kernel_rfl) (fun f => by kernel_rfl) fun f3 => ?_
    refine w_cond rfl (fun h4 => ?_) fun h4 => ?_
    · skip
      have hl1 : i1 < p0.length := by have hq := of_decide_eq_true h4; first | omega | ((try simp only [LN] at *); omega)
      exact absurd hl1 (by omega)
    have hq := of_decide_eq_false h4
    refine w_exit ?_
    exact ⟨s1, (lst []), trivial, hX1.trans (forN_end (by first | omega | ((try simp only [LN] at *); omega))), sb (by kernel_rfl)⟩
  intro s1 x1 hF7 hR5
  rw [laws_heldLinkCraftS_r1] at hR5
  refine xr hT [] (fun f6 => ⟨[(4, .one (.c (.v (.int .i64 s1))))], [], 102⟩) (fun f => by kernel_rfl) (fun f => by kernel_rfl) fun f6 => ?_
  refine w_ret ?_
  subst hR5
  exact x_ret (by kernel_rfl)

/-- laws.heldLinkWorld -/
def laws_heldLinkWorld (p0 : LinkWorld) (p1 : Int) : Int := (if decide ((laws_heldLinkGround p0.Ground p1) < 0) then (-1) else (if decide ((laws_heldLinkCraftS p0.Crafts (laws_heldLinkGround p0.Ground p1)) < 0) then (-1) else (if decide ((laws_heldLinkWordS p0.Radio (laws_heldLinkCraftS p0.Crafts (laws_heldLinkGround p0.Ground p1))) < 0) then (-1) else (laws_heldLinkWordS p0.Radio (laws_heldLinkCraftS p0.Crafts (laws_heldLinkGround p0.Ground p1))))))
theorem c67 (p0 : LinkWorld) (p1 : Int) (k0_0 : LinkWorld.ok p0) (h0 : p0.Ground.Mind.Held.length = 0) (h1 : p0.Ground.Disk.Held.length = 0) (h2 : p0.Ground.Out.length = 0) (h3 : p0.Crafts.length = 0) (h4 : p0.Radio.length = 0) : Fn Proofs.Try.prog 67 [⟨.val, true, LinkWorld.cs .bor p0⟩, ⟨.val, false, [.v (.int .i64 p1)]⟩] [.c (.v (.int .i64 (laws_heldLinkWorld p0 p1)))] [] := by
  obtain ⟨R, hR⟩ : ∃ R, R = laws_heldLinkWorld p0 p1 := ⟨_, rfl⟩
  rw [← hR]
  rw [laws_heldLinkWorld] at hR
  refine ⟨fn_intro hT Proofs.Try.func67 rfl rfl fun fs => ?_, _, Proofs.Try.func67, rfl, rfl⟩
  have q0 := k0_0; simp only [LinkWorld.ok] at q0
  refine xr hT [] (fun f1 => ⟨[(1, .one (.c (.v (.int .i64 p1)))), (2, .one (.pt 2 (f1 0 0) 0))], [(2, some (f1 0 0, .box (LinkWorld.cs .bor p0)))], 24⟩) (fun f => by kernel_rfl) (fun f => by kernel_rfl) fun f1 => ?_
  refine xr hT [ca (c145 p0.Ground p1 (by first | assumption | exact ⟨(by omega : p0.Ground.Mind.Held.length ≤ 1048576), (q0.2.1), (by omega : p0.Ground.Disk.Held.length ≤ 1048576), (q0.2.2.2.1), (by omega : p0.Ground.Out.length ≤ 1048576), (q0.2.2.2.2.2.1)⟩) (by first | assumption | ((try simp only [LN, LinkGround.ok]) <;> omega) | (simp only [LN] <;> assumption)) (by first | assumption | ((try simp only [LN, LinkGround.ok]) <;> omega) | (simp only [LN] <;> assumption)) (by first | assumption | ((try simp only [LN, LinkGround.ok]) <;> omega) | (simp only [LN] <;> assumption)))] (fun f2 => ⟨[(1, .one (.c (.v (.int .i64 (laws_heldLinkGround p0.Ground p1))))), (2, .one (.pt 2 (f1 0 0) 0))], [(2, some (f1 0 0, .box (LinkWorld.cs .bor p0)))], 24⟩) (fun f => by kernel_rfl) (fun f => by kernel_rfl) fun f2 => ?_
  refine w_seq ?_
  refine xr hT [] (fun f3 => ⟨[(1, .one (.c (.v (.int .i64 (laws_heldLinkGround p0.Ground p1))))), (2, .one (.pt 2 (f1 0 0) 0)), (10, .one (.c (.v (.bool (decide ((laws_heldLinkGround p0.Ground p1) < 0))))))], [(2, some (f1 0 0, .box (LinkWorld.cs .bor p0)))], 24⟩) (fun f => by kernel_rfl) (fun f => by kernel_rfl) fun f3 => ?_
  refine w_cond rfl (fun h4 => ?_) fun h4 => ?_
  · rw [if_pos h4] at hR
    have gh4 := of_decide_eq_true h4
    refine xr hT [] (fun f5 => ⟨[(4, .one (.c (.v (.int .i64 (-1)))))], [], 24⟩) (fun f => by kernel_rfl) (fun f => by kernel_rfl) fun f5 => ?_
    refine w_ret ?_
    subst hR
    exact x_ret (by kernel_rfl)
  rw [if_neg (nt h4)] at hR
  have gh4 := of_decide_eq_false h4
  refine w_skip ?_
  refine xr hT [ca (c146 p0.Crafts (laws_heldLinkGround p0.Ground p1) (by omega) (q0.2.2.2.2.2.2.2.1) (by first | assumption | ((try simp only [LN]) <;> omega) | (simp only [LN] <;> assumption)))] (fun f6 => ⟨[(1, .one (.c (.v (.int .i64 (laws_heldLinkCraftS p0.Crafts (laws_heldLinkGround p0.Ground p1)))))), (2, .one (.pt 2 (f1 0 0) 0))], [(2, some (f1 0 0, .box (LinkWorld.cs .bor p0)))], 24⟩) (fun f => by kernel_rfl) (fun f => by kernel_rfl) fun f6 => ?_
  refine w_seq ?_
  refine xr hT [] (fun f7 => ⟨[(1, .one (.c (.v (.int .i64 (laws_heldLinkCraftS p0.Crafts (laws_heldLinkGround p0.Ground p1)))))), (2, .one (.pt 2 (f1 0 0) 0)), (16, .one (.c (.v (.bool (decide ((laws_heldLinkCraftS p0.Crafts (laws_heldLinkGround p0.Ground p1)) < 0))))))], [(2, some (f1 0 0, .box (LinkWorld.cs .bor p0)))], 24⟩) (fun f => by kernel_rfl) (fun f => by kernel_rfl) fun f7 => ?_
  refine w_cond rfl (fun h8 => ?_) fun h8 => ?_
  · rw [if_pos h8] at hR
    have gh8 := of_decide_eq_true h8
    refine xr hT [] (fun f9 => ⟨[(4, .one (.c (.v (.int .i64 (-1)))))], [], 24⟩) (fun f => by kernel_rfl) (fun f => by kernel_rfl) fun f9 => ?_
    refine w_ret ?_
    subst hR
    exact x_ret (by kernel_rfl)
  rw [if_neg (nt h8)] at hR
  have gh8 := of_decide_eq_false h8
  refine w_skip ?_
  refine xr hT [ca (c147 p0.Radio (laws_heldLinkCraftS p0.Crafts (laws_heldLinkGround p0.Ground p1)) (by omega) (q0.2.2.2.2.2.2.2.2.2) (by first | assumption | ((try simp only [LN]) <;> omega) | (simp only [LN] <;> assumption)))] (fun f10 => ⟨[(1, .one (.c (.v (.int .i64 (laws_heldLinkWordS p0.Radio (laws_heldLinkCraftS p0.Crafts (laws_heldLinkGround p0.Ground p1)))))))], [], 24⟩) (fun f => by kernel_rfl) (fun f => by kernel_rfl) fun f10 => ?_
  refine w_seq ?_
  refine xr hT [] (fun f11 => ⟨[(1, .one (.c (.v (.int .i64 (laws_heldLinkWordS p0.Radio (laws_heldLinkCraftS p0.Crafts (laws_heldLinkGround p0.Ground p1))))))), (22, .one (.c (.v (.bool (decide ((laws_heldLinkWordS p0.Radio (laws_heldLinkCraftS p0.Crafts (laws_heldLinkGround p0.Ground p1))) < 0))))))], [], 24⟩) (fun f => by kernel_rfl) (fun f => by kernel_rfl) fun f11 => ?_
  refine w_cond rfl (fun h12 => ?_) fun h12 => ?_
  · rw [if_pos h12] at hR
    have gh12 := of_decide_eq_true h12
    refine xr hT [] (fun f13 => ⟨[(4, .one (.c (.v (.int .i64 (-1)))))], [], 24⟩) (fun f => by kernel_rfl) (fun f => by kernel_rfl) fun f13 => ?_
    refine w_ret ?_
    subst hR
    exact x_ret (by kernel_rfl)
  rw [if_neg (nt h12)] at hR
  have gh12 := of_decide_eq_false h12
  refine w_skip ?_
  refine xr hT [] (fun f14 => ⟨[(4, .one (.c (.v (.int .i64 (laws_heldLinkWordS p0.Radio (laws_heldLinkCraftS p0.Crafts (laws_heldLinkGround p0.Ground p1)))))))], [], 24⟩) (fun f => by kernel_rfl) (fun f => by kernel_rfl) fun f14 => ?_
  refine w_ret ?_
  subst hR
  exact x_ret (by kernel_rfl)

def laws_FnExactLinkNew_v1 : Int := (laws_heldLinkWorld (⟨(impl_LinkNew).Now, ⟨(impl_LinkNew).Ground.Up, ⟨(impl_LinkNew).Ground.Mind.Last, ((laws_markLinkWorld (impl_LinkNew) 1).2).Ground.Mind.Held⟩, ⟨(impl_LinkNew).Ground.Disk.Last, ((laws_markLinkWorld (impl_LinkNew) 1).2).Ground.Disk.Held⟩, ((laws_markLinkWorld (impl_LinkNew) 1).2).Ground.Out⟩, ((laws_markLinkWorld (impl_LinkNew) 1).2).Crafts, ((laws_markLinkWorld (impl_LinkNew) 1).2).Radio⟩ : LinkWorld) 1)
/-- laws.FnExactLinkNew -/
def laws_FnExactLinkNew : Bool := (if !(laws_eqLinkWorld (impl_LinkNew) (spec_LinkNew)) then false else (if decide ((laws_FnExactLinkNew_v1) < 0) then false else (if !decide ((laws_FnExactLinkNew_v1) = ((laws_markLinkWorld (impl_LinkNew) 1).1)) then false else (if !(laws_eqLinkWorld (impl_LinkNew) (spec_LinkNew)) then false else (if decide ((laws_FnExactLinkNew_v1) < 0) then false else (if !decide ((laws_FnExactLinkNew_v1) = ((laws_markLinkWorld (impl_LinkNew) 1).1)) then false else true))))))
set_option maxHeartbeats 1600000 in
theorem c9 : Fn Proofs.Try.prog 9 [] [.c (.v (.bool (laws_FnExactLinkNew)))] [] := by
  obtain ⟨R, hR⟩ : ∃ R, R = laws_FnExactLinkNew := ⟨_, rfl⟩
  rw [← hR]
  rw [laws_FnExactLinkNew] at hR
  refine ⟨fn_intro hT Proofs.Try.func9 rfl rfl fun fs => ?_, _, Proofs.Try.func9, rfl, rfl⟩
  refine xr hT [] (fun f1 => ⟨[], [], 36⟩) (fun f => by kernel_rfl) (fun f => by kernel_rfl) fun f1 => ?_
  have w3 := f_spec_LinkNew 
  have w3' := w3; try simp only [LN, f_laws_markLinkWorld, impl_LinkNew, spec_LinkNew, laws_FnExactLinkNew_v1] at w3'
  refine xr hT [ca (c63)] (fun f2 => ⟨[(1, .one (.pt 1 (f2 1 0) 0))], [(1, some (f2 1 0, .box [.v (.int .i64 ((spec_LinkNew).Now)), .v (.bool ((spec_LinkNew).Ground.Up)), .v (.int .i64 ((spec_LinkNew).Ground.Mind.Last)), .mu 700003 (gk (f2 0) 0 3) 13 0 (((spec_LinkNew).Ground.Mind.Held).map LinkHeld.row).length, .v (.int .i64 ((spec_LinkNew).Ground.Disk.Last)), .mu 700005 (gk (f2 0) 0 5) 13 0 (((spec_LinkNew).Ground.Disk.Held).map LinkHeld.row).length, .mu 700006 (gk (f2 0) 0 6) 8 0 (((spec_LinkNew).Ground.Out).map LinkWord.row).length, .mu 700007 (gk (f2 0) 0 7) 9 0 (((spec_LinkNew).Crafts).map LinkCraft.row).length, .mu 700008 (gk (f2 0) 0 8) 8 0 (((spec_LinkNew).Radio).map LinkWord.row).length])), (700003, some (gk (f2 0) 0 3, .arr 13 (((spec_LinkNew).Ground.Mind.Held).map LinkHeld.row))), (700005, some (gk (f2 0) 0 5, .arr 13 (((spec_LinkNew).Ground.Disk.Held).map LinkHeld.row))), (700006, some (gk (f2 0) 0 6, .arr 8 (((spec_LinkNew).Ground.Out).map LinkWord.row))), (700007, some (gk (f2 0) 0 7, .arr 9 (((spec_LinkNew).Crafts).map LinkCraft.row))), (700008, some (gk (f2 0) 0 8, .arr 8 (((spec_LinkNew).Radio).map LinkWord.row)))], 36⟩) (fun f => by kernel_rfl) (fun f => by kernel_rfl) fun f2 => ?_
  have w5 := f_impl_LinkNew 
  have w5' := w5; try simp only [LN, f_laws_markLinkWorld, impl_LinkNew, spec_LinkNew, laws_FnExactLinkNew_v1] at w5'
  refine xr hT [ca (c64)] (fun f4 => ⟨[(1, .one (.pt 1 (f2 1 0) 0)), (2, .one (.pt 2 (f4 1 0) 0))], [(1, some (f2 1 0, .box [.v (.int .i64 ((spec_LinkNew).Now)), .v (.bool ((spec_LinkNew).Ground.Up)), .v (.int .i64 ((spec_LinkNew).Ground.Mind.Last)), .mu 700003 (gk (f2 0) 0 3) 13 0 (((spec_LinkNew).Ground.Mind.Held).map LinkHeld.row).length, .v (.int .i64 ((spec_LinkNew).Ground.Disk.Last)), .mu 700005 (gk (f2 0) 0 5) 13 0 (((spec_LinkNew).Ground.Disk.Held).map LinkHeld.row).length, .mu 700006 (gk (f2 0) 0 6) 8 0 (((spec_LinkNew).Ground.Out).map LinkWord.row).length, .mu 700007 (gk (f2 0) 0 7) 9 0 (((spec_LinkNew).Crafts).map LinkCraft.row).length, .mu 700008 (gk (f2 0) 0 8) 8 0 (((spec_LinkNew).Radio).map LinkWord.row).length])), (2, some (f4 1 0, .box [.v (.int .i64 ((impl_LinkNew).Now)), .v (.bool ((impl_LinkNew).Ground.Up)), .v (.int .i64 ((impl_LinkNew).Ground.Mind.Last)), .mu 800003 (gk (f4 0) 0 3) 13 0 (((impl_LinkNew).Ground.Mind.Held).map LinkHeld.row).length, .v (.int .i64 ((impl_LinkNew).Ground.Disk.Last)), .mu 800005 (gk (f4 0) 0 5) 13 0 (((impl_LinkNew).Ground.Disk.Held).map LinkHeld.row).length, .mu 800006 (gk (f4 0) 0 6) 8 0 (((impl_LinkNew).Ground.Out).map LinkWord.row).length, .mu 800007 (gk (f4 0) 0 7) 9 0 (((impl_LinkNew).Crafts).map LinkCraft.row).length, .mu 800008 (gk (f4 0) 0 8) 8 0 (((impl_LinkNew).Radio).map LinkWord.row).length])), (700003, some (gk (f2 0) 0 3, .arr 13 (((spec_LinkNew).Ground.Mind.Held).map LinkHeld.row))), (700005, some (gk (f2 0) 0 5, .arr 13 (((spec_LinkNew).Ground.Disk.Held).map LinkHeld.row))), (700006, some (gk (f2 0) 0 6, .arr 8 (((spec_LinkNew).Ground.Out).map LinkWord.row))), (700007, some (gk (f2 0) 0 7, .arr 9 (((spec_LinkNew).Crafts).map LinkCraft.row))), (700008, some (gk (f2 0) 0 8, .arr 8 (((spec_LinkNew).Radio).map LinkWord.row))), (800003, some (gk (f4 0) 0 3, .arr 13 (((impl_LinkNew).Ground.Mind.Held).map LinkHeld.row))), (800005, some (gk (f4 0) 0 5, .arr 13 (((impl_LinkNew).Ground.Disk.Held).map LinkHeld.row))), (800006, some (gk (f4 0) 0 6, .arr 8 (((impl_LinkNew).Ground.Out).map LinkWord.row))), (800007, some (gk (f4 0) 0 7, .arr 9 (((impl_LinkNew).Crafts).map LinkCraft.row))), (800008, some (gk (f4 0) 0 8, .arr 8 (((impl_LinkNew).Radio).map LinkWord.row)))], 36⟩) (fun f => by kernel_rfl) (fun f => by kernel_rfl) fun f4 => ?_
  refine w_seq ?_
  refine xr hT [ca (c65 (impl_LinkNew) (spec_LinkNew) (by first | assumption | ((try simp only [LN, f_laws_markLinkWorld, impl_LinkNew, spec_LinkNew, laws_FnExactLinkNew_v1, LinkWorld.ok, LinkWorld.ok]) <;> omega) | (simp only [LN, f_laws_markLinkWorld, impl_LinkNew, spec_LinkNew, laws_FnExactLinkNew_v1] <;> assumption)) (by first | assumption | ((try simp only [LN, f_laws_markLinkWorld, impl_LinkNew, spec_LinkNew, laws_FnExactLinkNew_v1, LinkWorld.ok, LinkWorld.ok]) <;> omega) | (simp only [LN, f_laws_markLinkWorld, impl_LinkNew, spec_LinkNew, laws_FnExactLinkNew_v1] <;> assumption)))] (fun f6 => ⟨[(1, .one (.pt 1 (f2 1 0) 0)), (2, .one (.pt 2 (f4 1 0) 0)), (11, .one (.c (.v (.bool (!(laws_eqLinkWorld (impl_LinkNew) (spec_LinkNew)))))))], [(1, some (f2 1 0, .box [.v (.int .i64 ((spec_LinkNew).Now)), .v (.bool ((spec_LinkNew).Ground.Up)), .v (.int .i64 ((spec_LinkNew).Ground.Mind.Last)), .mu 700003 (gk (f2 0) 0 3) 13 0 (((spec_LinkNew).Ground.Mind.Held).map LinkHeld.row).length, .v (.int .i64 ((spec_LinkNew).Ground.Disk.Last)), .mu 700005 (gk (f2 0) 0 5) 13 0 (((spec_LinkNew).Ground.Disk.Held).map LinkHeld.row).length, .mu 700006 (gk (f2 0) 0 6) 8 0 (((spec_LinkNew).Ground.Out).map LinkWord.row).length, .mu 700007 (gk (f2 0) 0 7) 9 0 (((spec_LinkNew).Crafts).map LinkCraft.row).length, .mu 700008 (gk (f2 0) 0 8) 8 0 (((spec_LinkNew).Radio).map LinkWord.row).length])), (2, some (f4 1 0, .box [.v (.int .i64 ((impl_LinkNew).Now)), .v (.bool ((impl_LinkNew).Ground.Up)), .v (.int .i64 ((impl_LinkNew).Ground.Mind.Last)), .mu 800003 (gk (f4 0) 0 3) 13 0 (((impl_LinkNew).Ground.Mind.Held).map LinkHeld.row).length, .v (.int .i64 ((impl_LinkNew).Ground.Disk.Last)), .mu 800005 (gk (f4 0) 0 5) 13 0 (((impl_LinkNew).Ground.Disk.Held).map LinkHeld.row).length, .mu 800006 (gk (f4 0) 0 6) 8 0 (((impl_LinkNew).Ground.Out).map LinkWord.row).length, .mu 800007 (gk (f4 0) 0 7) 9 0 (((impl_LinkNew).Crafts).map LinkCraft.row).length, .mu 800008 (gk (f4 0) 0 8) 8 0 (((impl_LinkNew).Radio).map LinkWord.row).length])), (700003, some (gk (f2 0) 0 3, .arr 13 (((spec_LinkNew).Ground.Mind.Held).map LinkHeld.row))), (700005, some (gk (f2 0) 0 5, .arr 13 (((spec_LinkNew).Ground.Disk.Held).map LinkHeld.row))), (700006, some (gk (f2 0) 0 6, .arr 8 (((spec_LinkNew).Ground.Out).map LinkWord.row))), (700007, some (gk (f2 0) 0 7, .arr 9 (((spec_LinkNew).Crafts).map LinkCraft.row))), (700008, some (gk (f2 0) 0 8, .arr 8 (((spec_LinkNew).Radio).map LinkWord.row))), (800003, some (gk (f4 0) 0 3, .arr 13 (((impl_LinkNew).Ground.Mind.Held).map LinkHeld.row))), (800005, some (gk (f4 0) 0 5, .arr 13 (((impl_LinkNew).Ground.Disk.Held).map LinkHeld.row))), (800006, some (gk (f4 0) 0 6, .arr 8 (((impl_LinkNew).Ground.Out).map LinkWord.row))), (800007, some (gk (f4 0) 0 7, .arr 9 (((impl_LinkNew).Crafts).map LinkCraft.row))), (800008, some (gk (f4 0) 0 8, .arr 8 (((impl_LinkNew).Radio).map LinkWord.row)))], 36⟩) (fun f => by kernel_rfl) (fun f => by kernel_rfl) fun f6 => ?_
  refine w_cond rfl (fun h7 => ?_) fun h7 => ?_
  · rw [if_pos h7] at hR
    refine xr hT [] (fun f8 => ⟨[(0, .one (.c (.v (.bool false))))], [], 36⟩) (fun f => by kernel_rfl) (fun f => by kernel_rfl) fun f8 => ?_
    refine w_ret ?_
    subst hR
    exact x_ret (by kernel_rfl)
  rw [if_neg (nt h7)] at hR
  refine w_skip ?_
  refine xr hT [] (fun f9 => ⟨[(1, .one (.pt 1 (f2 1 0) 0)), (2, .one (.pt 2 (f4 1 0) 0)), (3, .one (.c (.v (.int .i64 1))))], [(1, some (f2 1 0, .box [.v (.int .i64 ((spec_LinkNew).Now)), .v (.bool ((spec_LinkNew).Ground.Up)), .v (.int .i64 ((spec_LinkNew).Ground.Mind.Last)), .mu 700003 (gk (f2 0) 0 3) 13 0 (((spec_LinkNew).Ground.Mind.Held).map LinkHeld.row).length, .v (.int .i64 ((spec_LinkNew).Ground.Disk.Last)), .mu 700005 (gk (f2 0) 0 5) 13 0 (((spec_LinkNew).Ground.Disk.Held).map LinkHeld.row).length, .mu 700006 (gk (f2 0) 0 6) 8 0 (((spec_LinkNew).Ground.Out).map LinkWord.row).length, .mu 700007 (gk (f2 0) 0 7) 9 0 (((spec_LinkNew).Crafts).map LinkCraft.row).length, .mu 700008 (gk (f2 0) 0 8) 8 0 (((spec_LinkNew).Radio).map LinkWord.row).length])), (2, some (f4 1 0, .box [.v (.int .i64 ((impl_LinkNew).Now)), .v (.bool ((impl_LinkNew).Ground.Up)), .v (.int .i64 ((impl_LinkNew).Ground.Mind.Last)), .mu 800003 (gk (f4 0) 0 3) 13 0 (((impl_LinkNew).Ground.Mind.Held).map LinkHeld.row).length, .v (.int .i64 ((impl_LinkNew).Ground.Disk.Last)), .mu 800005 (gk (f4 0) 0 5) 13 0 (((impl_LinkNew).Ground.Disk.Held).map LinkHeld.row).length, .mu 800006 (gk (f4 0) 0 6) 8 0 (((impl_LinkNew).Ground.Out).map LinkWord.row).length, .mu 800007 (gk (f4 0) 0 7) 9 0 (((impl_LinkNew).Crafts).map LinkCraft.row).length, .mu 800008 (gk (f4 0) 0 8) 8 0 (((impl_LinkNew).Radio).map LinkWord.row).length])), (700003, some (gk (f2 0) 0 3, .arr 13 (((spec_LinkNew).Ground.Mind.Held).map LinkHeld.row))), (700005, some (gk (f2 0) 0 5, .arr 13 (((spec_LinkNew).Ground.Disk.Held).map LinkHeld.row))), (700006, some (gk (f2 0) 0 6, .arr 8 (((spec_LinkNew).Ground.Out).map LinkWord.row))), (700007, some (gk (f2 0) 0 7, .arr 9 (((spec_LinkNew).Crafts).map LinkCraft.row))), (700008, some (gk (f2 0) 0 8, .arr 8 (((spec_LinkNew).Radio).map LinkWord.row))), (800003, some (gk (f4 0) 0 3, .arr 13 (((impl_LinkNew).Ground.Mind.Held).map LinkHeld.row))), (800005, some (gk (f4 0) 0 5, .arr 13 (((impl_LinkNew).Ground.Disk.Held).map LinkHeld.row))), (800006, some (gk (f4 0) 0 6, .arr 8 (((impl_LinkNew).Ground.Out).map LinkWord.row))), (800007, some (gk (f4 0) 0 7, .arr 9 (((impl_LinkNew).Crafts).map LinkCraft.row))), (800008, some (gk (f4 0) 0 8, .arr 8 (((impl_LinkNew).Radio).map LinkWord.row)))], 36⟩) (fun f => by kernel_rfl) (fun f => by kernel_rfl) fun f9 => ?_
  refine xr hT [ca (c66 (impl_LinkNew) 1 (by first | assumption | ((try simp only [LN, f_laws_markLinkWorld, impl_LinkNew, spec_LinkNew, laws_FnExactLinkNew_v1, LinkWorld.ok]) <;> omega) | (simp only [LN, f_laws_markLinkWorld, impl_LinkNew, spec_LinkNew, laws_FnExactLinkNew_v1] <;> assumption)) (by first | assumption | ((try simp only [LN, f_laws_markLinkWorld, impl_LinkNew, spec_LinkNew, laws_FnExactLinkNew_v1, LinkWorld.ok]) <;> omega) | (simp only [LN, f_laws_markLinkWorld, impl_LinkNew, spec_LinkNew, laws_FnExactLinkNew_v1] <;> assumption)) (by first | assumption | ((try simp only [LN, f_laws_markLinkWorld, impl_LinkNew, spec_LinkNew, laws_FnExactLinkNew_v1, LinkWorld.ok]) <;> omega) | (simp only [LN, f_laws_markLinkWorld, impl_LinkNew, spec_LinkNew, laws_FnExactLinkNew_v1] <;> assumption)) (by first | assumption | ((try simp only [LN, f_laws_markLinkWorld, impl_LinkNew, spec_LinkNew, laws_FnExactLinkNew_v1, LinkWorld.ok]) <;> omega) | (simp only [LN, f_laws_markLinkWorld, impl_LinkNew, spec_LinkNew, laws_FnExactLinkNew_v1] <;> assumption)) (by first | assumption | ((try simp only [LN, f_laws_markLinkWorld, impl_LinkNew, spec_LinkNew, laws_FnExactLinkNew_v1, LinkWorld.ok]) <;> omega) | (simp only [LN, f_laws_markLinkWorld, impl_LinkNew, spec_LinkNew, laws_FnExactLinkNew_v1] <;> assumption)) (by first | assumption | ((try simp only [LN, f_laws_markLinkWorld, impl_LinkNew, spec_LinkNew, laws_FnExactLinkNew_v1, LinkWorld.ok]) <;> omega) | (simp only [LN, f_laws_markLinkWorld, impl_LinkNew, spec_LinkNew, laws_FnExactLinkNew_v1] <;> assumption)))] (fun f10 => ⟨[(1, .one (.pt 1 (f2 1 0) 0)), (2, .one (.pt 2 (f4 1 0) 0)), (3, .one (.c (.v (.int .i64 ((laws_markLinkWorld (impl_LinkNew) 1).1)))))], [(1, some (f2 1 0, .box [.v (.int .i64 ((spec_LinkNew).Now)), .v (.bool ((spec_LinkNew).Ground.Up)), .v (.int .i64 ((spec_LinkNew).Ground.Mind.Last)), .mu 700003 (gk (f2 0) 0 3) 13 0 (((spec_LinkNew).Ground.Mind.Held).map LinkHeld.row).length, .v (.int .i64 ((spec_LinkNew).Ground.Disk.Last)), .mu 700005 (gk (f2 0) 0 5) 13 0 (((spec_LinkNew).Ground.Disk.Held).map LinkHeld.row).length, .mu 700006 (gk (f2 0) 0 6) 8 0 (((spec_LinkNew).Ground.Out).map LinkWord.row).length, .mu 700007 (gk (f2 0) 0 7) 9 0 (((spec_LinkNew).Crafts).map LinkCraft.row).length, .mu 700008 (gk (f2 0) 0 8) 8 0 (((spec_LinkNew).Radio).map LinkWord.row).length])), (2, some (f4 1 0, .box [.v (.int .i64 ((impl_LinkNew).Now)), .v (.bool ((impl_LinkNew).Ground.Up)), .v (.int .i64 ((impl_LinkNew).Ground.Mind.Last)), .mu 800003 (gk (f4 0) 0 3) 13 0 (((impl_LinkNew).Ground.Mind.Held).map LinkHeld.row).length, .v (.int .i64 ((impl_LinkNew).Ground.Disk.Last)), .mu 800005 (gk (f4 0) 0 5) 13 0 (((impl_LinkNew).Ground.Disk.Held).map LinkHeld.row).length, .mu 800006 (gk (f4 0) 0 6) 8 0 (((impl_LinkNew).Ground.Out).map LinkWord.row).length, .mu 800007 (gk (f4 0) 0 7) 9 0 (((impl_LinkNew).Crafts).map LinkCraft.row).length, .mu 800008 (gk (f4 0) 0 8) 8 0 (((impl_LinkNew).Radio).map LinkWord.row).length])), (700003, some (gk (f2 0) 0 3, .arr 13 (((spec_LinkNew).Ground.Mind.Held).map LinkHeld.row))), (700005, some (gk (f2 0) 0 5, .arr 13 (((spec_LinkNew).Ground.Disk.Held).map LinkHeld.row))), (700006, some (gk (f2 0) 0 6, .arr 8 (((spec_LinkNew).Ground.Out).map LinkWord.row))), (700007, some (gk (f2 0) 0 7, .arr 9 (((spec_LinkNew).Crafts).map LinkCraft.row))), (700008, some (gk (f2 0) 0 8, .arr 8 (((spec_LinkNew).Radio).map LinkWord.row))), (800003, some (gk (f4 0) 0 3, .arr 13 ((((laws_markLinkWorld (impl_LinkNew) 1).2).Ground.Mind.Held).map LinkHeld.row))), (800005, some (gk (f4 0) 0 5, .arr 13 ((((laws_markLinkWorld (impl_LinkNew) 1).2).Ground.Disk.Held).map LinkHeld.row))), (800006, some (gk (f4 0) 0 6, .arr 8 ((((laws_markLinkWorld (impl_LinkNew) 1).2).Ground.Out).map LinkWord.row))), (800007, some (gk (f4 0) 0 7, .arr 9 ((((laws_markLinkWorld (impl_LinkNew) 1).2).Crafts).map LinkCraft.row))), (800008, some (gk (f4 0) 0 8, .arr 8 ((((laws_markLinkWorld (impl_LinkNew) 1).2).Radio).map LinkWord.row)))], 36⟩) (fun f => by kernel_rfl) (fun f => by kernel_rfl) fun f10 => ?_
  refine w_sub (s := ⟨[(1, .one (.pt 1 (f2 1 0) 0)), (2, .one (.pt 2 (f4 1 0) 0)), (3, .one (.c (.v (.int .i64 ((laws_markLinkWorld (impl_LinkNew) 1).1)))))], [(1, some (f2 1 0, .box [.v (.int .i64 ((spec_LinkNew).Now)), .v (.bool ((spec_LinkNew).Ground.Up)), .v (.int .i64 ((spec_LinkNew).Ground.Mind.Last)), .mu 700003 (gk (f2 0) 0 3) 13 0 (((spec_LinkNew).Ground.Mind.Held).map LinkHeld.row).length, .v (.int .i64 ((spec_LinkNew).Ground.Disk.Last)), .mu 700005 (gk (f2 0) 0 5) 13 0 (((spec_LinkNew).Ground.Disk.Held).map LinkHeld.row).length, .mu 700006 (gk (f2 0) 0 6) 8 0 (((spec_LinkNew).Ground.Out).map LinkWord.row).length, .mu 700007 (gk (f2 0) 0 7) 9 0 (((spec_LinkNew).Crafts).map LinkCraft.row).length, .mu 700008 (gk (f2 0) 0 8) 8 0 (((spec_LinkNew).Radio).map LinkWord.row).length])), (2, some (f4 1 0, .box [.v (.int .i64 ((impl_LinkNew).Now)), .v (.bool ((impl_LinkNew).Ground.Up)), .v (.int .i64 ((impl_LinkNew).Ground.Mind.Last)), .mu 800003 (gk (f4 0) 0 3) 13 0 ((((laws_markLinkWorld (impl_LinkNew) 1).2).Ground.Mind.Held).map LinkHeld.row).length, .v (.int .i64 ((impl_LinkNew).Ground.Disk.Last)), .mu 800005 (gk (f4 0) 0 5) 13 0 ((((laws_markLinkWorld (impl_LinkNew) 1).2).Ground.Disk.Held).map LinkHeld.row).length, .mu 800006 (gk (f4 0) 0 6) 8 0 ((((laws_markLinkWorld (impl_LinkNew) 1).2).Ground.Out).map LinkWord.row).length, .mu 800007 (gk (f4 0) 0 7) 9 0 ((((laws_markLinkWorld (impl_LinkNew) 1).2).Crafts).map LinkCraft.row).length, .mu 800008 (gk (f4 0) 0 8) 8 0 ((((laws_markLinkWorld (impl_LinkNew) 1).2).Radio).map LinkWord.row).length])), (700003, some (gk (f2 0) 0 3, .arr 13 (((spec_LinkNew).Ground.Mind.Held).map LinkHeld.row))), (700005, some (gk (f2 0) 0 5, .arr 13 (((spec_LinkNew).Ground.Disk.Held).map LinkHeld.row))), (700006, some (gk (f2 0) 0 6, .arr 8 (((spec_LinkNew).Ground.Out).map LinkWord.row))), (700007, some (gk (f2 0) 0 7, .arr 9 (((spec_LinkNew).Crafts).map LinkCraft.row))), (700008, some (gk (f2 0) 0 8, .arr 8 (((spec_LinkNew).Radio).map LinkWord.row))), (800003, some (gk (f4 0) 0 3, .arr 13 ((((laws_markLinkWorld (impl_LinkNew) 1).2).Ground.Mind.Held).map LinkHeld.row))), (800005, some (gk (f4 0) 0 5, .arr 13 ((((laws_markLinkWorld (impl_LinkNew) 1).2).Ground.Disk.Held).map LinkHeld.row))), (800006, some (gk (f4 0) 0 6, .arr 8 ((((laws_markLinkWorld (impl_LinkNew) 1).2).Ground.Out).map LinkWord.row))), (800007, some (gk (f4 0) 0 7, .arr 9 ((((laws_markLinkWorld (impl_LinkNew) 1).2).Crafts).map LinkCraft.row))), (800008, some (gk (f4 0) 0 8, .arr 8 ((((laws_markLinkWorld (impl_LinkNew) 1).2).Radio).map LinkWord.row)))], 36⟩) (cst (by simp only [LN, f_laws_markLinkWorld, impl_LinkNew, spec_LinkNew, laws_FnExactLinkNew_v1]) (sb (s := ⟨[(1, .one (.pt 1 (f2 1 0) 0)), (2, .one (.pt 2 (f4 1 0) 0)), (3, .one (.c (.v (.int .i64 ((laws_markLinkWorld (impl_LinkNew) 1).1)))))], [(1, some (f2 1 0, .box [.v (.int .i64 ((spec_LinkNew).Now)), .v (.bool ((spec_LinkNew).Ground.Up)), .v (.int .i64 ((spec_LinkNew).Ground.Mind.Last)), .mu 700003 (gk (f2 0) 0 3) 13 0 (((spec_LinkNew).Ground.Mind.Held).map LinkHeld.row).length, .v (.int .i64 ((spec_LinkNew).Ground.Disk.Last)), .mu 700005 (gk (f2 0) 0 5) 13 0 (((spec_LinkNew).Ground.Disk.Held).map LinkHeld.row).length, .mu 700006 (gk (f2 0) 0 6) 8 0 (((spec_LinkNew).Ground.Out).map LinkWord.row).length, .mu 700007 (gk (f2 0) 0 7) 9 0 (((spec_LinkNew).Crafts).map LinkCraft.row).length, .mu 700008 (gk (f2 0) 0 8) 8 0 (((spec_LinkNew).Radio).map LinkWord.row).length])), (2, some (f4 1 0, .box [.v (.int .i64 ((impl_LinkNew).Now)), .v (.bool ((impl_LinkNew).Ground.Up)), .v (.int .i64 ((impl_LinkNew).Ground.Mind.Last)), .mu 800003 (gk (f4 0) 0 3) 13 0 (((impl_LinkNew).Ground.Mind.Held).map LinkHeld.row).length, .v (.int .i64 ((impl_LinkNew).Ground.Disk.Last)), .mu 800005 (gk (f4 0) 0 5) 13 0 (((impl_LinkNew).Ground.Disk.Held).map LinkHeld.row).length, .mu 800006 (gk (f4 0) 0 6) 8 0 (((impl_LinkNew).Ground.Out).map LinkWord.row).length, .mu 800007 (gk (f4 0) 0 7) 9 0 (((impl_LinkNew).Crafts).map LinkCraft.row).length, .mu 800008 (gk (f4 0) 0 8) 8 0 (((impl_LinkNew).Radio).map LinkWord.row).length])), (700003, some (gk (f2 0) 0 3, .arr 13 (((spec_LinkNew).Ground.Mind.Held).map LinkHeld.row))), (700005, some (gk (f2 0) 0 5, .arr 13 (((spec_LinkNew).Ground.Disk.Held).map LinkHeld.row))), (700006, some (gk (f2 0) 0 6, .arr 8 (((spec_LinkNew).Ground.Out).map LinkWord.row))), (700007, some (gk (f2 0) 0 7, .arr 9 (((spec_LinkNew).Crafts).map LinkCraft.row))), (700008, some (gk (f2 0) 0 8, .arr 8 (((spec_LinkNew).Radio).map LinkWord.row))), (800003, some (gk (f4 0) 0 3, .arr 13 ((((laws_markLinkWorld (impl_LinkNew) 1).2).Ground.Mind.Held).map LinkHeld.row))), (800005, some (gk (f4 0) 0 5, .arr 13 ((((laws_markLinkWorld (impl_LinkNew) 1).2).Ground.Disk.Held).map LinkHeld.row))), (800006, some (gk (f4 0) 0 6, .arr 8 ((((laws_markLinkWorld (impl_LinkNew) 1).2).Ground.Out).map LinkWord.row))), (800007, some (gk (f4 0) 0 7, .arr 9 ((((laws_markLinkWorld (impl_LinkNew) 1).2).Crafts).map LinkCraft.row))), (800008, some (gk (f4 0) 0 8, .arr 8 ((((laws_markLinkWorld (impl_LinkNew) 1).2).Radio).map LinkWord.row)))], 36⟩) (by kernel_rfl))) ?_
  refine xr hT [] (fun f11 => ⟨[(1, .one (.pt 1 (f2 1 0) 0)), (2, .one (.pt 2 (f4 1 0) 0)), (3, .one (.c (.v (.int .i64 ((laws_markLinkWorld (impl_LinkNew) 1).1))))), (4, .one (.c (.v (.int .i64 1))))], [(1, some (f2 1 0, .box [.v (.int .i64 ((spec_LinkNew).Now)), .v (.bool ((spec_LinkNew).Ground.Up)), .v (.int .i64 ((spec_LinkNew).Ground.Mind.Last)), .mu 700003 (gk (f2 0) 0 3) 13 0 (((spec_LinkNew).Ground.Mind.Held).map LinkHeld.row).length, .v (.int .i64 ((spec_LinkNew).Ground.Disk.Last)), .mu 700005 (gk (f2 0) 0 5) 13 0 (((spec_LinkNew).Ground.Disk.Held).map LinkHeld.row).length, .mu 700006 (gk (f2 0) 0 6) 8 0 (((spec_LinkNew).Ground.Out).map LinkWord.row).length, .mu 700007 (gk (f2 0) 0 7) 9 0 (((spec_LinkNew).Crafts).map LinkCraft.row).length, .mu 700008 (gk (f2 0) 0 8) 8 0 (((spec_LinkNew).Radio).map LinkWord.row).length])), (2, some (f4 1 0, .box [.v (.int .i64 ((impl_LinkNew).Now)), .v (.bool ((impl_LinkNew).Ground.Up)), .v (.int .i64 ((impl_LinkNew).Ground.Mind.Last)), .mu 800003 (gk (f4 0) 0 3) 13 0 ((((laws_markLinkWorld (impl_LinkNew) 1).2).Ground.Mind.Held).map LinkHeld.row).length, .v (.int .i64 ((impl_LinkNew).Ground.Disk.Last)), .mu 800005 (gk (f4 0) 0 5) 13 0 ((((laws_markLinkWorld (impl_LinkNew) 1).2).Ground.Disk.Held).map LinkHeld.row).length, .mu 800006 (gk (f4 0) 0 6) 8 0 ((((laws_markLinkWorld (impl_LinkNew) 1).2).Ground.Out).map LinkWord.row).length, .mu 800007 (gk (f4 0) 0 7) 9 0 ((((laws_markLinkWorld (impl_LinkNew) 1).2).Crafts).map LinkCraft.row).length, .mu 800008 (gk (f4 0) 0 8) 8 0 ((((laws_markLinkWorld (impl_LinkNew) 1).2).Radio).map LinkWord.row).length])), (700003, some (gk (f2 0) 0 3, .arr 13 (((spec_LinkNew).Ground.Mind.Held).map LinkHeld.row))), (700005, some (gk (f2 0) 0 5, .arr 13 (((spec_LinkNew).Ground.Disk.Held).map LinkHeld.row))), (700006, some (gk (f2 0) 0 6, .arr 8 (((spec_LinkNew).Ground.Out).map LinkWord.row))), (700007, some (gk (f2 0) 0 7, .arr 9 (((spec_LinkNew).Crafts).map LinkCraft.row))), (700008, some (gk (f2 0) 0 8, .arr 8 (((spec_LinkNew).Radio).map LinkWord.row))), (800003, some (gk (f4 0) 0 3, .arr 13 ((((laws_markLinkWorld (impl_LinkNew) 1).2).Ground.Mind.Held).map LinkHeld.row))), (800005, some (gk (f4 0) 0 5, .arr 13 ((((laws_markLinkWorld (impl_LinkNew) 1).2).Ground.Disk.Held).map LinkHeld.row))), (800006, some (gk (f4 0) 0 6, .arr 8 ((((laws_markLinkWorld (impl_LinkNew) 1).2).Ground.Out).map LinkWord.row))), (800007, some (gk (f4 0) 0 7, .arr 9 ((((laws_markLinkWorld (impl_LinkNew) 1).2).Crafts).map LinkCraft.row))), (800008, some (gk (f4 0) 0 8, .arr 8 ((((laws_markLinkWorld (impl_LinkNew) 1).2).Radio).map LinkWord.row)))], 36⟩) (fun f => by kernel_rfl) (fun f => by kernel_rfl) fun f11 => ?_
  refine xr hT [ca (c67 (⟨(impl_LinkNew).Now, ⟨(impl_LinkNew).Ground.Up, ⟨(impl_LinkNew).Ground.Mind.Last, ((laws_markLinkWorld (impl_LinkNew) 1).2).Ground.Mind.Held⟩, ⟨(impl_LinkNew).Ground.Disk.Last, ((laws_markLinkWorld (impl_LinkNew) 1).2).Ground.Disk.Held⟩, ((laws_markLinkWorld (impl_LinkNew) 1).2).Ground.Out⟩, ((laws_markLinkWorld (impl_LinkNew) 1).2).Crafts, ((laws_markLinkWorld (impl_LinkNew) 1).2).Radio⟩ : LinkWorld) 1 (by first | assumption | ((try simp only [LN, f_laws_markLinkWorld, impl_LinkNew, spec_LinkNew, laws_FnExactLinkNew_v1, LinkWorld.ok]) <;> omega) | (simp only [LN, f_laws_markLinkWorld, impl_LinkNew, spec_LinkNew, laws_FnExactLinkNew_v1] <;> assumption)) (by first | assumption | ((try simp only [LN, f_laws_markLinkWorld, impl_LinkNew, spec_LinkNew, laws_FnExactLinkNew_v1, LinkWorld.ok]) <;> omega) | (simp only [LN, f_laws_markLinkWorld, impl_LinkNew, spec_LinkNew, laws_FnExactLinkNew_v1] <;> assumption)) (by first | assumption | ((try simp only [LN, f_laws_markLinkWorld, impl_LinkNew, spec_LinkNew, laws_FnExactLinkNew_v1, LinkWorld.ok]) <;> omega) | (simp only [LN, f_laws_markLinkWorld, impl_LinkNew, spec_LinkNew, laws_FnExactLinkNew_v1] <;> assumption)) (by first | assumption | ((try simp only [LN, f_laws_markLinkWorld, impl_LinkNew, spec_LinkNew, laws_FnExactLinkNew_v1, LinkWorld.ok]) <;> omega) | (simp only [LN, f_laws_markLinkWorld, impl_LinkNew, spec_LinkNew, laws_FnExactLinkNew_v1] <;> assumption)) (by first | assumption | ((try simp only [LN, f_laws_markLinkWorld, impl_LinkNew, spec_LinkNew, laws_FnExactLinkNew_v1, LinkWorld.ok]) <;> omega) | (simp only [LN, f_laws_markLinkWorld, impl_LinkNew, spec_LinkNew, laws_FnExactLinkNew_v1] <;> assumption)) (by first | assumption | ((try simp only [LN, f_laws_markLinkWorld, impl_LinkNew, spec_LinkNew, laws_FnExactLinkNew_v1, LinkWorld.ok]) <;> omega) | (simp only [LN, f_laws_markLinkWorld, impl_LinkNew, spec_LinkNew, laws_FnExactLinkNew_v1] <;> assumption)))] (fun f12 => ⟨[(1, .one (.pt 1 (f2 1 0) 0)), (2, .one (.pt 2 (f4 1 0) 0)), (3, .one (.c (.v (.int .i64 ((laws_markLinkWorld (impl_LinkNew) 1).1))))), (4, .one (.c (.v (.int .i64 (laws_FnExactLinkNew_v1)))))], [(1, some (f2 1 0, .box [.v (.int .i64 ((spec_LinkNew).Now)), .v (.bool ((spec_LinkNew).Ground.Up)), .v (.int .i64 ((spec_LinkNew).Ground.Mind.Last)), .mu 700003 (gk (f2 0) 0 3) 13 0 (((spec_LinkNew).Ground.Mind.Held).map LinkHeld.row).length, .v (.int .i64 ((spec_LinkNew).Ground.Disk.Last)), .mu 700005 (gk (f2 0) 0 5) 13 0 (((spec_LinkNew).Ground.Disk.Held).map LinkHeld.row).length, .mu 700006 (gk (f2 0) 0 6) 8 0 (((spec_LinkNew).Ground.Out).map LinkWord.row).length, .mu 700007 (gk (f2 0) 0 7) 9 0 (((spec_LinkNew).Crafts).map LinkCraft.row).length, .mu 700008 (gk (f2 0) 0 8) 8 0 (((spec_LinkNew).Radio).map LinkWord.row).length])), (2, some (f4 1 0, .box [.v (.int .i64 ((impl_LinkNew).Now)), .v (.bool ((impl_LinkNew).Ground.Up)), .v (.int .i64 ((impl_LinkNew).Ground.Mind.Last)), .mu 800003 (gk (f4 0) 0 3) 13 0 ((((laws_markLinkWorld (impl_LinkNew) 1).2).Ground.Mind.Held).map LinkHeld.row).length, .v (.int .i64 ((impl_LinkNew).Ground.Disk.Last)), .mu 800005 (gk (f4 0) 0 5) 13 0 ((((laws_markLinkWorld (impl_LinkNew) 1).2).Ground.Disk.Held).map LinkHeld.row).length, .mu 800006 (gk (f4 0) 0 6) 8 0 ((((laws_markLinkWorld (impl_LinkNew) 1).2).Ground.Out).map LinkWord.row).length, .mu 800007 (gk (f4 0) 0 7) 9 0 ((((laws_markLinkWorld (impl_LinkNew) 1).2).Crafts).map LinkCraft.row).length, .mu 800008 (gk (f4 0) 0 8) 8 0 ((((laws_markLinkWorld (impl_LinkNew) 1).2).Radio).map LinkWord.row).length])), (700003, some (gk (f2 0) 0 3, .arr 13 (((spec_LinkNew).Ground.Mind.Held).map LinkHeld.row))), (700005, some (gk (f2 0) 0 5, .arr 13 (((spec_LinkNew).Ground.Disk.Held).map LinkHeld.row))), (700006, some (gk (f2 0) 0 6, .arr 8 (((spec_LinkNew).Ground.Out).map LinkWord.row))), (700007, some (gk (f2 0) 0 7, .arr 9 (((spec_LinkNew).Crafts).map LinkCraft.row))), (700008, some (gk (f2 0) 0 8, .arr 8 (((spec_LinkNew).Radio).map LinkWord.row))), (800003, some (gk (f4 0) 0 3, .arr 13 ((((laws_markLinkWorld (impl_LinkNew) 1).2).Ground.Mind.Held).map LinkHeld.row))), (800005, some (gk (f4 0) 0 5, .arr 13 ((((laws_markLinkWorld (impl_LinkNew) 1).2).Ground.Disk.Held).map LinkHeld.row))), (800006, some (gk (f4 0) 0 6, .arr 8 ((((laws_markLinkWorld (impl_LinkNew) 1).2).Ground.Out).map LinkWord.row))), (800007, some (gk (f4 0) 0 7, .arr 9 ((((laws_markLinkWorld (impl_LinkNew) 1).2).Crafts).map LinkCraft.row))), (800008, some (gk (f4 0) 0 8, .arr 8 ((((laws_markLinkWorld (impl_LinkNew) 1).2).Radio).map LinkWord.row)))], 36⟩) (fun f => by kernel_rfl) (fun f => by kernel_rfl) fun f12 => ?_
  refine w_seq ?_
  refine xr hT [] (fun f13 => ⟨[(1, .one (.pt 1 (f2 1 0) 0)), (2, .one (.pt 2 (f4 1 0) 0)), (3, .one (.c (.v (.int .i64 ((laws_markLinkWorld (impl_LinkNew) 1).1))))), (4, .one (.c (.v (.int .i64 (laws_FnExactLinkNew_v1))))), (19, .one (.c (.v (.bool (decide ((laws_FnExactLinkNew_v1) < 0))))))], [(1, some (f2 1 0, .box [.v (.int .i64 ((spec_LinkNew).Now)), .v (.bool ((spec_LinkNew).Ground.Up)), .v (.int .i64 ((spec_LinkNew).Ground.Mind.Last)), .mu 700003 (gk (f2 0) 0 3) 13 0 (((spec_LinkNew).Ground.Mind.Held).map LinkHeld.row).length, .v (.int .i64 ((spec_LinkNew).Ground.Disk.Last)), .mu 700005 (gk (f2 0) 0 5) 13 0 (((spec_LinkNew).Ground.Disk.Held).map LinkHeld.row).length, .mu 700006 (gk (f2 0) 0 6) 8 0 (((spec_LinkNew).Ground.Out).map LinkWord.row).length, .mu 700007 (gk (f2 0) 0 7) 9 0 (((spec_LinkNew).Crafts).map LinkCraft.row).length, .mu 700008 (gk (f2 0) 0 8) 8 0 (((spec_LinkNew).Radio).map LinkWord.row).length])), (2, some (f4 1 0, .box [.v (.int .i64 ((impl_LinkNew).Now)), .v (.bool ((impl_LinkNew).Ground.Up)), .v (.int .i64 ((impl_LinkNew).Ground.Mind.Last)), .mu 800003 (gk (f4 0) 0 3) 13 0 ((((laws_markLinkWorld (impl_LinkNew) 1).2).Ground.Mind.Held).map LinkHeld.row).length, .v (.int .i64 ((impl_LinkNew).Ground.Disk.Last)), .mu 800005 (gk (f4 0) 0 5) 13 0 ((((laws_markLinkWorld (impl_LinkNew) 1).2).Ground.Disk.Held).map LinkHeld.row).length, .mu 800006 (gk (f4 0) 0 6) 8 0 ((((laws_markLinkWorld (impl_LinkNew) 1).2).Ground.Out).map LinkWord.row).length, .mu 800007 (gk (f4 0) 0 7) 9 0 ((((laws_markLinkWorld (impl_LinkNew) 1).2).Crafts).map LinkCraft.row).length, .mu 800008 (gk (f4 0) 0 8) 8 0 ((((laws_markLinkWorld (impl_LinkNew) 1).2).Radio).map LinkWord.row).length])), (700003, some (gk (f2 0) 0 3, .arr 13 (((spec_LinkNew).Ground.Mind.Held).map LinkHeld.row))), (700005, some (gk (f2 0) 0 5, .arr 13 (((spec_LinkNew).Ground.Disk.Held).map LinkHeld.row))), (700006, some (gk (f2 0) 0 6, .arr 8 (((spec_LinkNew).Ground.Out).map LinkWord.row))), (700007, some (gk (f2 0) 0 7, .arr 9 (((spec_LinkNew).Crafts).map LinkCraft.row))), (700008, some (gk (f2 0) 0 8, .arr 8 (((spec_LinkNew).Radio).map LinkWord.row))), (800003, some (gk (f4 0) 0 3, .arr 13 ((((laws_markLinkWorld (impl_LinkNew) 1).2).Ground.Mind.Held).map LinkHeld.row))), (800005, some (gk (f4 0) 0 5, .arr 13 ((((laws_markLinkWorld (impl_LinkNew) 1).2).Ground.Disk.Held).map LinkHeld.row))), (800006, some (gk (f4 0) 0 6, .arr 8 ((((laws_markLinkWorld (impl_LinkNew) 1).2).Ground.Out).map LinkWord.row))), (800007, some (gk (f4 0) 0 7, .arr 9 ((((laws_markLinkWorld (impl_LinkNew) 1).2).Crafts).map LinkCraft.row))), (800008, some (gk (f4 0) 0 8, .arr 8 ((((laws_markLinkWorld (impl_LinkNew) 1).2).Radio).map LinkWord.row)))], 36⟩) (fun f => by kernel_rfl) (fun f => by kernel_rfl) fun f13 => ?_
  refine w_cond rfl (fun h14 => ?_) fun h14 => ?_
  · rw [if_pos h14] at hR
    have gh14 := of_decide_eq_true h14
    refine xr hT [] (fun f15 => ⟨[(0, .one (.c (.v (.bool false))))], [], 36⟩) (fun f => by kernel_rfl) (fun f => by kernel_rfl) fun f15 => ?_
    refine w_ret ?_
    subst hR
    exact x_ret (by kernel_rfl)
  rw [if_neg (nt h14)] at hR
  have gh14 := of_decide_eq_false h14
  refine w_skip ?_
  refine w_seq ?_
  refine xr hT [] (fun f16 => ⟨[(1, .one (.pt 1 (f2 1 0) 0)), (2, .one (.pt 2 (f4 1 0) 0)), (3, .one (.c (.v (.int .i64 ((laws_markLinkWorld (impl_LinkNew) 1).1))))), (22, .one (.c (.v (.bool (!decide ((laws_FnExactLinkNew_v1) = ((laws_markLinkWorld (impl_LinkNew) 1).1)))))))], [(1, some (f2 1 0, .box [.v (.int .i64 ((spec_LinkNew).Now)), .v (.bool ((spec_LinkNew).Ground.Up)), .v (.int .i64 ((spec_LinkNew).Ground.Mind.Last)), .mu 700003 (gk (f2 0) 0 3) 13 0 (((spec_LinkNew).Ground.Mind.Held).map LinkHeld.row).length, .v (.int .i64 ((spec_LinkNew).Ground.Disk.Last)), .mu 700005 (gk (f2 0) 0 5) 13 0 (((spec_LinkNew).Ground.Disk.Held).map LinkHeld.row).length, .mu 700006 (gk (f2 0) 0 6) 8 0 (((spec_LinkNew).Ground.Out).map LinkWord.row).length, .mu 700007 (gk (f2 0) 0 7) 9 0 (((spec_LinkNew).Crafts).map LinkCraft.row).length, .mu 700008 (gk (f2 0) 0 8) 8 0 (((spec_LinkNew).Radio).map LinkWord.row).length])), (2, some (f4 1 0, .box [.v (.int .i64 ((impl_LinkNew).Now)), .v (.bool ((impl_LinkNew).Ground.Up)), .v (.int .i64 ((impl_LinkNew).Ground.Mind.Last)), .mu 800003 (gk (f4 0) 0 3) 13 0 ((((laws_markLinkWorld (impl_LinkNew) 1).2).Ground.Mind.Held).map LinkHeld.row).length, .v (.int .i64 ((impl_LinkNew).Ground.Disk.Last)), .mu 800005 (gk (f4 0) 0 5) 13 0 ((((laws_markLinkWorld (impl_LinkNew) 1).2).Ground.Disk.Held).map LinkHeld.row).length, .mu 800006 (gk (f4 0) 0 6) 8 0 ((((laws_markLinkWorld (impl_LinkNew) 1).2).Ground.Out).map LinkWord.row).length, .mu 800007 (gk (f4 0) 0 7) 9 0 ((((laws_markLinkWorld (impl_LinkNew) 1).2).Crafts).map LinkCraft.row).length, .mu 800008 (gk (f4 0) 0 8) 8 0 ((((laws_markLinkWorld (impl_LinkNew) 1).2).Radio).map LinkWord.row).length])), (700003, some (gk (f2 0) 0 3, .arr 13 (((spec_LinkNew).Ground.Mind.Held).map LinkHeld.row))), (700005, some (gk (f2 0) 0 5, .arr 13 (((spec_LinkNew).Ground.Disk.Held).map LinkHeld.row))), (700006, some (gk (f2 0) 0 6, .arr 8 (((spec_LinkNew).Ground.Out).map LinkWord.row))), (700007, some (gk (f2 0) 0 7, .arr 9 (((spec_LinkNew).Crafts).map LinkCraft.row))), (700008, some (gk (f2 0) 0 8, .arr 8 (((spec_LinkNew).Radio).map LinkWord.row))), (800003, some (gk (f4 0) 0 3, .arr 13 ((((laws_markLinkWorld (impl_LinkNew) 1).2).Ground.Mind.Held).map LinkHeld.row))), (800005, some (gk (f4 0) 0 5, .arr 13 ((((laws_markLinkWorld (impl_LinkNew) 1).2).Ground.Disk.Held).map LinkHeld.row))), (800006, some (gk (f4 0) 0 6, .arr 8 ((((laws_markLinkWorld (impl_LinkNew) 1).2).Ground.Out).map LinkWord.row))), (800007, some (gk (f4 0) 0 7, .arr 9 ((((laws_markLinkWorld (impl_LinkNew) 1).2).Crafts).map LinkCraft.row))), (800008, some (gk (f4 0) 0 8, .arr 8 ((((laws_markLinkWorld (impl_LinkNew) 1).2).Radio).map LinkWord.row)))], 36⟩) (fun f => by kernel_rfl) (fun f => by kernel_rfl) fun f16 => ?_
  refine w_cond rfl (fun h17 => ?_) fun h17 => ?_
  · rw [if_pos h17] at hR
    have gh17 := nd1 h17
    refine xr hT [] (fun f18 => ⟨[(0, .one (.c (.v (.bool false))))], [], 36⟩) (fun f => by kernel_rfl) (fun f => by kernel_rfl) fun f18 => ?_
    refine w_ret ?_
    subst hR
    exact x_ret (by kernel_rfl)
  rw [if_neg (nt h17)] at hR
  have gh17 := nd0 h17
  refine w_skip ?_
  have w20 := f_impl_LinkNew 
  have w20' := w20; try simp only [LN, f_laws_markLinkWorld, impl_LinkNew, spec_LinkNew, laws_FnExactLinkNew_v1] at w20'
  refine xr hT [ca (c64)] (fun f19 => ⟨[(1, .one (.pt 1 (f2 1 0) 0)), (2, .one (.pt 2 (f4 1 0) 0)), (3, .one (.c (.v (.int .i64 ((laws_markLinkWorld (impl_LinkNew) 1).1))))), (5, .one (.pt 5 (f19 1 0) 0))], [(1, some (f2 1 0, .box [.v (.int .i64 ((spec_LinkNew).Now)), .v (.bool ((spec_LinkNew).Ground.Up)), .v (.int .i64 ((spec_LinkNew).Ground.Mind.Last)), .mu 700003 (gk (f2 0) 0 3) 13 0 (((spec_LinkNew).Ground.Mind.Held).map LinkHeld.row).length, .v (.int .i64 ((spec_LinkNew).Ground.Disk.Last)), .mu 700005 (gk (f2 0) 0 5) 13 0 (((spec_LinkNew).Ground.Disk.Held).map LinkHeld.row).length, .mu 700006 (gk (f2 0) 0 6) 8 0 (((spec_LinkNew).Ground.Out).map LinkWord.row).length, .mu 700007 (gk (f2 0) 0 7) 9 0 (((spec_LinkNew).Crafts).map LinkCraft.row).length, .mu 700008 (gk (f2 0) 0 8) 8 0 (((spec_LinkNew).Radio).map LinkWord.row).length])), (2, some (f4 1 0, .box [.v (.int .i64 ((impl_LinkNew).Now)), .v (.bool ((impl_LinkNew).Ground.Up)), .v (.int .i64 ((impl_LinkNew).Ground.Mind.Last)), .mu 800003 (gk (f4 0) 0 3) 13 0 ((((laws_markLinkWorld (impl_LinkNew) 1).2).Ground.Mind.Held).map LinkHeld.row).length, .v (.int .i64 ((impl_LinkNew).Ground.Disk.Last)), .mu 800005 (gk (f4 0) 0 5) 13 0 ((((laws_markLinkWorld (impl_LinkNew) 1).2).Ground.Disk.Held).map LinkHeld.row).length, .mu 800006 (gk (f4 0) 0 6) 8 0 ((((laws_markLinkWorld (impl_LinkNew) 1).2).Ground.Out).map LinkWord.row).length, .mu 800007 (gk (f4 0) 0 7) 9 0 ((((laws_markLinkWorld (impl_LinkNew) 1).2).Crafts).map LinkCraft.row).length, .mu 800008 (gk (f4 0) 0 8) 8 0 ((((laws_markLinkWorld (impl_LinkNew) 1).2).Radio).map LinkWord.row).length])), (5, some (f19 1 0, .box [.v (.int .i64 ((impl_LinkNew).Now)), .v (.bool ((impl_LinkNew).Ground.Up)), .v (.int .i64 ((impl_LinkNew).Ground.Mind.Last)), .mu 2400003 (gk (f19 0) 0 3) 13 0 (((impl_LinkNew).Ground.Mind.Held).map LinkHeld.row).length, .v (.int .i64 ((impl_LinkNew).Ground.Disk.Last)), .mu 2400005 (gk (f19 0) 0 5) 13 0 (((impl_LinkNew).Ground.Disk.Held).map LinkHeld.row).length, .mu 2400006 (gk (f19 0) 0 6) 8 0 (((impl_LinkNew).Ground.Out).map LinkWord.row).length, .mu 2400007 (gk (f19 0) 0 7) 9 0 (((impl_LinkNew).Crafts).map LinkCraft.row).length, .mu 2400008 (gk (f19 0) 0 8) 8 0 (((impl_LinkNew).Radio).map LinkWord.row).length])), (700003, some (gk (f2 0) 0 3, .arr 13 (((spec_LinkNew).Ground.Mind.Held).map LinkHeld.row))), (700005, some (gk (f2 0) 0 5, .arr 13 (((spec_LinkNew).Ground.Disk.Held).map LinkHeld.row))), (700006, some (gk (f2 0) 0 6, .arr 8 (((spec_LinkNew).Ground.Out).map LinkWord.row))), (700007, some (gk (f2 0) 0 7, .arr 9 (((spec_LinkNew).Crafts).map LinkCraft.row))), (700008, some (gk (f2 0) 0 8, .arr 8 (((spec_LinkNew).Radio).map LinkWord.row))), (800003, some (gk (f4 0) 0 3, .arr 13 ((((laws_markLinkWorld (impl_LinkNew) 1).2).Ground.Mind.Held).map LinkHeld.row))), (800005, some (gk (f4 0) 0 5, .arr 13 ((((laws_markLinkWorld (impl_LinkNew) 1).2).Ground.Disk.Held).map LinkHeld.row))), (800006, some (gk (f4 0) 0 6, .arr 8 ((((laws_markLinkWorld (impl_LinkNew) 1).2).Ground.Out).map LinkWord.row))), (800007, some (gk (f4 0) 0 7, .arr 9 ((((laws_markLinkWorld (impl_LinkNew) 1).2).Crafts).map LinkCraft.row))), (800008, some (gk (f4 0) 0 8, .arr 8 ((((laws_markLinkWorld (impl_LinkNew) 1).2).Radio).map LinkWord.row))), (2400003, some (gk (f19 0) 0 3, .arr 13 (((impl_LinkNew).Ground.Mind.Held).map LinkHeld.row))), (2400005, some (gk (f19 0) 0 5, .arr 13 (((impl_LinkNew).Ground.Disk.Held).map LinkHeld.row))), (2400006, some (gk (f19 0) 0 6, .arr 8 (((impl_LinkNew).Ground.Out).map LinkWord.row))), (2400007, some (gk (f19 0) 0 7, .arr 9 (((impl_LinkNew).Crafts).map LinkCraft.row))), (2400008, some (gk (f19 0) 0 8, .arr 8 (((impl_LinkNew).Radio).map LinkWord.row)))], 36⟩) (fun f => by kernel_rfl) (fun f => by kernel_rfl) fun f19 => ?_
  refine w_seq ?_
  refine xr hT [ca (c65 (impl_LinkNew) (spec_LinkNew) (by first | assumption | ((try simp only [LN, f_laws_markLinkWorld, impl_LinkNew, spec_LinkNew, laws_FnExactLinkNew_v1, LinkWorld.ok, LinkWorld.ok]) <;> omega) | (simp only [LN, f_laws_markLinkWorld, impl_LinkNew, spec_LinkNew, laws_FnExactLinkNew_v1] <;> assumption)) (by first | assumption | ((try simp only [LN, f_laws_markLinkWorld, impl_LinkNew, spec_LinkNew, laws_FnExactLinkNew_v1, LinkWorld.ok, LinkWorld.ok]) <;> omega) | (simp only [LN, f_laws_markLinkWorld, impl_LinkNew, spec_LinkNew, laws_FnExactLinkNew_v1] <;> assumption)))] (fun f21 => ⟨[(2, .one (.pt 2 (f4 1 0) 0)), (3, .one (.c (.v (.int .i64 ((laws_markLinkWorld (impl_LinkNew) 1).1))))), (27, .one (.c (.v (.bool (!(laws_eqLinkWorld (impl_LinkNew) (spec_LinkNew)))))))], [(2, some (f4 1 0, .box [.v (.int .i64 ((impl_LinkNew).Now)), .v (.bool ((impl_LinkNew).Ground.Up)), .v (.int .i64 ((impl_LinkNew).Ground.Mind.Last)), .mu 800003 (gk (f4 0) 0 3) 13 0 ((((laws_markLinkWorld (impl_LinkNew) 1).2).Ground.Mind.Held).map LinkHeld.row).length, .v (.int .i64 ((impl_LinkNew).Ground.Disk.Last)), .mu 800005 (gk (f4 0) 0 5) 13 0 ((((laws_markLinkWorld (impl_LinkNew) 1).2).Ground.Disk.Held).map LinkHeld.row).length, .mu 800006 (gk (f4 0) 0 6) 8 0 ((((laws_markLinkWorld (impl_LinkNew) 1).2).Ground.Out).map LinkWord.row).length, .mu 800007 (gk (f4 0) 0 7) 9 0 ((((laws_markLinkWorld (impl_LinkNew) 1).2).Crafts).map LinkCraft.row).length, .mu 800008 (gk (f4 0) 0 8) 8 0 ((((laws_markLinkWorld (impl_LinkNew) 1).2).Radio).map LinkWord.row).length])), (800003, some (gk (f4 0) 0 3, .arr 13 ((((laws_markLinkWorld (impl_LinkNew) 1).2).Ground.Mind.Held).map LinkHeld.row))), (800005, some (gk (f4 0) 0 5, .arr 13 ((((laws_markLinkWorld (impl_LinkNew) 1).2).Ground.Disk.Held).map LinkHeld.row))), (800006, some (gk (f4 0) 0 6, .arr 8 ((((laws_markLinkWorld (impl_LinkNew) 1).2).Ground.Out).map LinkWord.row))), (800007, some (gk (f4 0) 0 7, .arr 9 ((((laws_markLinkWorld (impl_LinkNew) 1).2).Crafts).map LinkCraft.row))), (800008, some (gk (f4 0) 0 8, .arr 8 ((((laws_markLinkWorld (impl_LinkNew) 1).2).Radio).map LinkWord.row)))], 36⟩) (fun f => by kernel_rfl) (fun f => by kernel_rfl) fun f21 => ?_
  refine w_cond rfl (fun h22 => ?_) fun h22 => ?_
  · rw [if_pos h22] at hR
    refine xr hT [] (fun f23 => ⟨[(0, .one (.c (.v (.bool false))))], [], 36⟩) (fun f => by kernel_rfl) (fun f => by kernel_rfl) fun f23 => ?_
    refine w_ret ?_
    subst hR
    exact x_ret (by kernel_rfl)
  rw [if_neg (nt h22)] at hR
  refine w_skip ?_
  refine xr hT [] (fun f24 => ⟨[(2, .one (.pt 2 (f4 1 0) 0)), (3, .one (.c (.v (.int .i64 ((laws_markLinkWorld (impl_LinkNew) 1).1))))), (4, .one (.c (.v (.int .i64 1))))], [(2, some (f4 1 0, .box [.v (.int .i64 ((impl_LinkNew).Now)), .v (.bool ((impl_LinkNew).Ground.Up)), .v (.int .i64 ((impl_LinkNew).Ground.Mind.Last)), .mu 800003 (gk (f4 0) 0 3) 13 0 ((((laws_markLinkWorld (impl_LinkNew) 1).2).Ground.Mind.Held).map LinkHeld.row).length, .v (.int .i64 ((impl_LinkNew).Ground.Disk.Last)), .mu 800005 (gk (f4 0) 0 5) 13 0 ((((laws_markLinkWorld (impl_LinkNew) 1).2).Ground.Disk.Held).map LinkHeld.row).length, .mu 800006 (gk (f4 0) 0 6) 8 0 ((((laws_markLinkWorld (impl_LinkNew) 1).2).Ground.Out).map LinkWord.row).length, .mu 800007 (gk (f4 0) 0 7) 9 0 ((((laws_markLinkWorld (impl_LinkNew) 1).2).Crafts).map LinkCraft.row).length, .mu 800008 (gk (f4 0) 0 8) 8 0 ((((laws_markLinkWorld (impl_LinkNew) 1).2).Radio).map LinkWord.row).length])), (800003, some (gk (f4 0) 0 3, .arr 13 ((((laws_markLinkWorld (impl_LinkNew) 1).2).Ground.Mind.Held).map LinkHeld.row))), (800005, some (gk (f4 0) 0 5, .arr 13 ((((laws_markLinkWorld (impl_LinkNew) 1).2).Ground.Disk.Held).map LinkHeld.row))), (800006, some (gk (f4 0) 0 6, .arr 8 ((((laws_markLinkWorld (impl_LinkNew) 1).2).Ground.Out).map LinkWord.row))), (800007, some (gk (f4 0) 0 7, .arr 9 ((((laws_markLinkWorld (impl_LinkNew) 1).2).Crafts).map LinkCraft.row))), (800008, some (gk (f4 0) 0 8, .arr 8 ((((laws_markLinkWorld (impl_LinkNew) 1).2).Radio).map LinkWord.row)))], 36⟩) (fun f => by kernel_rfl) (fun f => by kernel_rfl) fun f24 => ?_
  refine xr hT [ca (c67 (⟨(impl_LinkNew).Now, ⟨(impl_LinkNew).Ground.Up, ⟨(impl_LinkNew).Ground.Mind.Last, ((laws_markLinkWorld (impl_LinkNew) 1).2).Ground.Mind.Held⟩, ⟨(impl_LinkNew).Ground.Disk.Last, ((laws_markLinkWorld (impl_LinkNew) 1).2).Ground.Disk.Held⟩, ((laws_markLinkWorld (impl_LinkNew) 1).2).Ground.Out⟩, ((laws_markLinkWorld (impl_LinkNew) 1).2).Crafts, ((laws_markLinkWorld (impl_LinkNew) 1).2).Radio⟩ : LinkWorld) 1 (by first | assumption | ((try simp only [LN, f_laws_markLinkWorld, impl_LinkNew, spec_LinkNew, laws_FnExactLinkNew_v1, LinkWorld.ok]) <;> omega) | (simp only [LN, f_laws_markLinkWorld, impl_LinkNew, spec_LinkNew, laws_FnExactLinkNew_v1] <;> assumption)) (by first | assumption | ((try simp only [LN, f_laws_markLinkWorld, impl_LinkNew, spec_LinkNew, laws_FnExactLinkNew_v1, LinkWorld.ok]) <;> omega) | (simp only [LN, f_laws_markLinkWorld, impl_LinkNew, spec_LinkNew, laws_FnExactLinkNew_v1] <;> assumption)) (by first | assumption | ((try simp only [LN, f_laws_markLinkWorld, impl_LinkNew, spec_LinkNew, laws_FnExactLinkNew_v1, LinkWorld.ok]) <;> omega) | (simp only [LN, f_laws_markLinkWorld, impl_LinkNew, spec_LinkNew, laws_FnExactLinkNew_v1] <;> assumption)) (by first | assumption | ((try simp only [LN, f_laws_markLinkWorld, impl_LinkNew, spec_LinkNew, laws_FnExactLinkNew_v1, LinkWorld.ok]) <;> omega) | (simp only [LN, f_laws_markLinkWorld, impl_LinkNew, spec_LinkNew, laws_FnExactLinkNew_v1] <;> assumption)) (by first | assumption | ((try simp only [LN, f_laws_markLinkWorld, impl_LinkNew, spec_LinkNew, laws_FnExactLinkNew_v1, LinkWorld.ok]) <;> omega) | (simp only [LN, f_laws_markLinkWorld, impl_LinkNew, spec_LinkNew, laws_FnExactLinkNew_v1] <;> assumption)) (by first | assumption | ((try simp only [LN, f_laws_markLinkWorld, impl_LinkNew, spec_LinkNew, laws_FnExactLinkNew_v1, LinkWorld.ok]) <;> omega) | (simp only [LN, f_laws_markLinkWorld, impl_LinkNew, spec_LinkNew, laws_FnExactLinkNew_v1] <;> assumption)))] (fun f25 => ⟨[(3, .one (.c (.v (.int .i64 ((laws_markLinkWorld (impl_LinkNew) 1).1))))), (4, .one (.c (.v (.int .i64 (laws_FnExactLinkNew_v1)))))], [], 36⟩) (fun f => by kernel_rfl) (fun f => by kernel_rfl) fun f25 => ?_
  refine w_seq ?_
  refine xr hT [] (fun f26 => ⟨[(3, .one (.c (.v (.int .i64 ((laws_markLinkWorld (impl_LinkNew) 1).1))))), (4, .one (.c (.v (.int .i64 (laws_FnExactLinkNew_v1))))), (32, .one (.c (.v (.bool (decide ((laws_FnExactLinkNew_v1) < 0))))))], [], 36⟩) (fun f => by kernel_rfl) (fun f => by kernel_rfl) fun f26 => ?_
  refine w_cond rfl (fun h27 => ?_) fun h27 => ?_
  · rw [if_pos h27] at hR
    have gh27 := of_decide_eq_true h27
    refine xr hT [] (fun f28 => ⟨[(0, .one (.c (.v (.bool false))))], [], 36⟩) (fun f => by kernel_rfl) (fun f => by kernel_rfl) fun f28 => ?_
    refine w_ret ?_
    subst hR
    exact x_ret (by kernel_rfl)
  rw [if_neg (nt h27)] at hR
  have gh27 := of_decide_eq_false h27
  refine w_skip ?_
  refine w_seq ?_
  refine xr hT [] (fun f29 => ⟨[(35, .one (.c (.v (.bool (!decide ((laws_FnExactLinkNew_v1) = ((laws_markLinkWorld (impl_LinkNew) 1).1)))))))], [], 36⟩) (fun f => by kernel_rfl) (fun f => by kernel_rfl) fun f29 => ?_
  refine w_cond rfl (fun h30 => ?_) fun h30 => ?_
  · rw [if_pos h30] at hR
    have gh30 := nd1 h30
    refine xr hT [] (fun f31 => ⟨[(0, .one (.c (.v (.bool false))))], [], 36⟩) (fun f => by kernel_rfl) (fun f => by kernel_rfl) fun f31 => ?_
    refine w_ret ?_
    subst hR
    exact x_ret (by kernel_rfl)
  rw [if_neg (nt h30)] at hR
  have gh30 := nd0 h30
  refine w_skip ?_
  refine xr hT [] (fun f32 => ⟨[(0, .one (.c (.v (.bool true))))], [], 36⟩) (fun f => by kernel_rfl) (fun f => by kernel_rfl) fun f32 => ?_
  refine w_ret ?_
  subst hR
  exact x_ret (by kernel_rfl)
end Go.Lap
