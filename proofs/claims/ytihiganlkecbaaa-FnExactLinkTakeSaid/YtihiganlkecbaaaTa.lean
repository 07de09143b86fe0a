/- Walks: models of the functions, and that the code computes them. -/
import Derived.Test.YtihiganlkecbaaaFe
set_option linter.unusedVariables false
set_option linter.unusedSimpArgs false
namespace Go.Lap
open Go.RowKit

/-- laws.szFlyStepS -/
def laws_szFlyStepS (p0 : (List FlyStep)) (p1 : Int) : Int := (if decide ((wr (p1 - (p0.length : Int))) < 0) then (-1) else wr (p1 - (p0.length : Int)))
theorem c37 (p0 : (List FlyStep)) (p1 : Int) (k0_0 : p0.length ≤ 9223372036854775807) : Fn Proofs.Try.prog 37 [⟨.val, false, [.sl .bor 7 (p0.map FlyStep.row)]⟩, ⟨.val, false, [.v (.int .i64 p1)]⟩] [.c (.v (.int .i64 (laws_szFlyStepS p0 p1)))] [] := by
  obtain ⟨R, hR⟩ : ∃ R, R = laws_szFlyStepS p0 p1 := ⟨_, rfl⟩
  rw [← hR]
  rw [laws_szFlyStepS] at hR
  refine ⟨fn_intro hT Proofs.Try.func37 rfl rfl fun fs => ?_, _, Proofs.Try.func37, rfl, rfl⟩
  refine xr hT [] (fun f1 => ⟨[(0, .one (.c (.sl .bor 7 (p0.map FlyStep.row)))), (1, .one (.c (.v (.int .i64 p1))))], [], 12⟩) (fun f => by kernel_rfl) (fun f => by kernel_rfl) fun f1 => ?_
  refine xr hT [.ln FlyStep.row p0, .wr] (fun f2 => ⟨[(1, .one (.c (.v (.int .i64 (wr (p1 - (p0.length : Int)))))))], [], 12⟩) (fun f => by kernel_rfl) (fun f => by kernel_rfl) fun f2 => ?_
  refine w_seq ?_
  refine xr hT [] (fun f3 => ⟨[(1, .one (.c (.v (.int .i64 (wr (p1 - (p0.length : Int))))))), (10, .one (.c (.v (.bool (decide ((wr (p1 - (p0.length : Int))) < 0))))))], [], 12⟩) (fun f => by kernel_rfl) (fun f => by kernel_rfl) fun f3 => ?_
  refine w_cond rfl (fun h4 => ?_) fun h4 => ?_
  · rw [if_pos h4] at hR
    have gh4 := of_decide_eq_true h4
    refine xr hT [] (fun f5 => ⟨[(4, .one (.c (.v (.int .i64 (-1)))))], [], 12⟩) (fun f => by kernel_rfl) (fun f => by kernel_rfl) fun f5 => ?_
    refine w_ret ?_
    subst hR
    exact x_ret (by kernel_rfl)
  rw [if_neg (nt h4)] at hR
  have gh4 := of_decide_eq_false h4
  refine w_skip ?_
  refine xr hT [] (fun f6 => ⟨[(4, .one (.c (.v (.int .i64 (wr (p1 - (p0.length : Int)))))))], [], 12⟩) (fun f => by kernel_rfl) (fun f => by kernel_rfl) fun f6 => ?_
  refine w_ret ?_
  subst hR
  exact x_ret (by kernel_rfl)
theorem f_laws_szFlyStepS (p0 : List FlyStep) (p1 : Int) (hb : p0.length ≤ 9223372036854775807) (h1 : 0 ≤ p1) (h2 : p1 ≤ 1048576) (h : 0 ≤ laws_szFlyStepS p0 p1) : p0.length ≤ 1048576 ∧ laws_szFlyStepS p0 p1 ≤ p1 := by
  have e : wr (p1 - (p0.length : Int)) = p1 - (p0.length : Int) := wr_eq (by omega) (by omega)
  unfold laws_szFlyStepS at h ⊢
  rw [e] at h ⊢
  by_cases q : p1 - (p0.length : Int) < 0
  · simp only [q, decide_true, if_true] at h; omega
  · simp only [q, decide_false, Bool.false_eq_true, if_false] at h ⊢; omega

/-- laws.szFlyPath -/
def laws_szFlyPath (p0 : FlyPath) (p1 : Int) : Int := (if decide ((laws_szFlyStepS p0.Steps p1) < 0) then (-1) else (laws_szFlyStepS p0.Steps p1))
theorem c16 (p0 : FlyPath) (p1 : Int) (k0_0 : FlyPath.big p0) : Fn Proofs.Try.prog 16 [⟨.val, true, FlyPath.cs .bor p0⟩, ⟨.val, false, [.v (.int .i64 p1)]⟩] [.c (.v (.int .i64 (laws_szFlyPath p0 p1)))] [] := by
  obtain ⟨R, hR⟩ : ∃ R, R = laws_szFlyPath p0 p1 := ⟨_, rfl⟩
  rw [← hR]
  rw [laws_szFlyPath] at hR
  refine ⟨fn_intro hT Proofs.Try.func16 rfl rfl fun fs => ?_, _, Proofs.Try.func16, rfl, rfl⟩
  have q0 := k0_0; simp only [FlyPath.big] at q0
  refine xr hT [] (fun f1 => ⟨[(1, .one (.c (.v (.int .i64 p1)))), (2, .one (.pt 2 (f1 0 0) 0))], [(2, some (f1 0 0, .box (FlyPath.cs .bor p0)))], 12⟩) (fun f => by kernel_rfl) (fun f => by kernel_rfl) fun f1 => ?_
  refine xr hT [ca (c37 p0.Steps p1 (by omega))] (fun f2 => ⟨[(1, .one (.c (.v (.int .i64 (laws_szFlyStepS p0.Steps p1)))))], [], 12⟩) (fun f => by kernel_rfl) (fun f => by kernel_rfl) fun f2 => ?_
  refine w_seq ?_
  refine xr hT [] (fun f3 => ⟨[(1, .one (.c (.v (.int .i64 (laws_szFlyStepS p0.Steps p1))))), (10, .one (.c (.v (.bool (decide ((laws_szFlyStepS p0.Steps p1) < 0))))))], [], 12⟩) (fun f => by kernel_rfl) (fun f => by kernel_rfl) fun f3 => ?_
  refine w_cond rfl (fun h4 => ?_) fun h4 => ?_
  · rw [if_pos h4] at hR
    have gh4 := of_decide_eq_true h4
    refine xr hT [] (fun f5 => ⟨[(4, .one (.c (.v (.int .i64 (-1)))))], [], 12⟩) (fun f => by kernel_rfl) (fun f => by kernel_rfl) fun f5 => ?_
    refine w_ret ?_
    subst hR
    exact x_ret (by kernel_rfl)
  rw [if_neg (nt h4)] at hR
  have gh4 := of_decide_eq_false h4
  refine w_skip ?_
  refine xr hT [] (fun f6 => ⟨[(4, .one (.c (.v (.int .i64 (laws_szFlyStepS p0.Steps p1)))))], [], 12⟩) (fun f => by kernel_rfl) (fun f => by kernel_rfl) fun f6 => ?_
  refine w_ret ?_
  subst hR
  exact x_ret (by kernel_rfl)
theorem f_laws_szFlyPath (p0 : FlyPath) (p1 : Int) (hb : FlyPath.big p0) (h1 : 0 ≤ p1) (h2 : p1 ≤ 1048576) (h : 0 ≤ laws_szFlyPath p0 p1) : FlyPath.ok p0 ∧ laws_szFlyPath p0 p1 ≤ p1 := by
  unfold laws_szFlyPath at h ⊢
  by_cases q : laws_szFlyStepS p0.Steps p1 < 0
  · simp only [q, decide_true, if_true] at h; omega
  · simp only [q, decide_false, Bool.false_eq_true, if_false] at h ⊢
    exact f_laws_szFlyStepS p0.Steps p1 hb h1 h2 h

/-- laws.szIntS -/
def laws_szIntS (p0 : (List Int)) (p1 : Int) : Int := (if decide ((wr (p1 - (p0.length : Int))) < 0) then (-1) else wr (p1 - (p0.length : Int)))
theorem c17 (p0 : (List Int)) (p1 : Int) (k0_0 : p0.length ≤ 9223372036854775807) : Fn Proofs.Try.prog 17 [⟨.val, false, [.sl .bor 1 (p0.map Int.row)]⟩, ⟨.val, false, [.v (.int .i64 p1)]⟩] [.c (.v (.int .i64 (laws_szIntS p0 p1)))] [] := by
  obtain ⟨R, hR⟩ : ∃ R, R = laws_szIntS p0 p1 := ⟨_, rfl⟩
  rw [← hR]
  rw [laws_szIntS] at hR
  refine ⟨fn_intro hT Proofs.Try.func17 rfl rfl fun fs => ?_, _, Proofs.Try.func17, rfl, rfl⟩
  refine xr hT [] (fun f1 => ⟨[(0, .one (.c (.sl .bor 1 (p0.map Int.row)))), (1, .one (.c (.v (.int .i64 p1))))], [], 12⟩) (fun f => by kernel_rfl) (fun f => by kernel_rfl) fun f1 => ?_
  refine xr hT [.ln Int.row p0, .wr] (fun f2 => ⟨[(1, .one (.c (.v (.int .i64 (wr (p1 - (p0.length : Int)))))))], [], 12⟩) (fun f => by kernel_rfl) (fun f => by kernel_rfl) fun f2 => ?_
  refine w_seq ?_
  refine xr hT [] (fun f3 => ⟨[(1, .one (.c (.v (.int .i64 (wr (p1 - (p0.length : Int))))))), (10, .one (.c (.v (.bool (decide ((wr (p1 - (p0.length : Int))) < 0))))))], [], 12⟩) (fun f => by kernel_rfl) (fun f => by kernel_rfl) fun f3 => ?_
  refine w_cond rfl (fun h4 => ?_) fun h4 => ?_
  · rw [if_pos h4] at hR
    have gh4 := of_decide_eq_true h4
    refine xr hT [] (fun f5 => ⟨[(4, .one (.c (.v (.int .i64 (-1)))))], [], 12⟩) (fun f => by kernel_rfl) (fun f => by kernel_rfl) fun f5 => ?_
    refine w_ret ?_
    subst hR
    exact x_ret (by kernel_rfl)
  rw [if_neg (nt h4)] at hR
  have gh4 := of_decide_eq_false h4
  refine w_skip ?_
  refine xr hT [] (fun f6 => ⟨[(4, .one (.c (.v (.int .i64 (wr (p1 - (p0.length : Int)))))))], [], 12⟩) (fun f => by kernel_rfl) (fun f => by kernel_rfl) fun f6 => ?_
  refine w_ret ?_
  subst hR
  exact x_ret (by kernel_rfl)
theorem f_laws_szIntS (p0 : List Int) (p1 : Int) (hb : p0.length ≤ 9223372036854775807) (h1 : 0 ≤ p1) (h2 : p1 ≤ 1048576) (h : 0 ≤ laws_szIntS p0 p1) : p0.length ≤ 1048576 ∧ laws_szIntS p0 p1 ≤ p1 := by
  have e : wr (p1 - (p0.length : Int)) = p1 - (p0.length : Int) := wr_eq (by omega) (by omega)
  unfold laws_szIntS at h ⊢
  rw [e] at h ⊢
  by_cases q : p1 - (p0.length : Int) < 0
  · simp only [q, decide_true, if_true] at h; omega
  · simp only [q, decide_false, Bool.false_eq_true, if_false] at h ⊢; omega

/-- laws.szLinkCraft -/
def laws_szLinkCraft (p0 : LinkCraft) (p1 : Int) : Int := (if decide ((wr (p1 - (p0.Name.size : Int))) < 0) then (-1) else (if decide ((laws_szFlyPath p0.Path (wr (p1 - (p0.Name.size : Int)))) < 0) then (-1) else (if decide ((laws_szIntS p0.Flown (laws_szFlyPath p0.Path (wr (p1 - (p0.Name.size : Int))))) < 0) then (-1) else (laws_szIntS p0.Flown (laws_szFlyPath p0.Path (wr (p1 - (p0.Name.size : Int))))))))
theorem c4 (p0 : LinkCraft) (p1 : Int) (k0_0 : LinkCraft.big p0) : Fn Proofs.Try.prog 4 [⟨.val, true, LinkCraft.cs .bor p0⟩, ⟨.val, false, [.v (.int .i64 p1)]⟩] [.c (.v (.int .i64 (laws_szLinkCraft p0 p1)))] [] := by
  obtain ⟨R, hR⟩ : ∃ R, R = laws_szLinkCraft p0 p1 := ⟨_, rfl⟩
  rw [← hR]
  rw [laws_szLinkCraft] at hR
  refine ⟨fn_intro hT Proofs.Try.func4 rfl rfl fun fs => ?_, _, Proofs.Try.func4, rfl, rfl⟩
  have q0 := k0_0; simp only [LinkCraft.big] at q0
  refine xr hT [] (fun f1 => ⟨[(1, .one (.c (.v (.int .i64 p1)))), (2, .one (.pt 2 (f1 0 0) 0))], [(2, some (f1 0 0, .box (LinkCraft.cs .bor p0)))], 25⟩) (fun f => by kernel_rfl) (fun f => by kernel_rfl) fun f1 => ?_
  refine xr hT [.und Proofs.Try.underlying9, .wr] (fun f2 => ⟨[(1, .one (.c (.v (.int .i64 (wr (p1 - (p0.Name.size : Int))))))), (2, .one (.pt 2 (f1 0 0) 0))], [(2, some (f1 0 0, .box (LinkCraft.cs .bor p0)))], 25⟩) (fun f => by kernel_rfl) (fun f => by kernel_rfl) fun f2 => ?_
  refine w_seq ?_
  refine xr hT [] (fun f3 => ⟨[(1, .one (.c (.v (.int .i64 (wr (p1 - (p0.Name.size : Int))))))), (2, .one (.pt 2 (f1 0 0) 0)), (11, .one (.c (.v (.bool (decide ((wr (p1 - (p0.Name.size : Int))) < 0))))))], [(2, some (f1 0 0, .box (LinkCraft.cs .bor p0)))], 25⟩) (fun f => by kernel_rfl) (fun f => by kernel_rfl) fun f3 => ?_
  refine w_cond rfl (fun h4 => ?_) fun h4 => ?_
  · rw [if_pos h4] at hR
    have gh4 := of_decide_eq_true h4
    refine xr hT [] (fun f5 => ⟨[(4, .one (.c (.v (.int .i64 (-1)))))], [], 25⟩) (fun f => by kernel_rfl) (fun f => by kernel_rfl) fun f5 => ?_
    refine w_ret ?_
    subst hR
    exact x_ret (by kernel_rfl)
  rw [if_neg (nt h4)] at hR
  have gh4 := of_decide_eq_false h4
  refine w_skip ?_
  refine xr hT [ca (c16 p0.Path (wr (p1 - (p0.Name.size : Int))) (by first | assumption | exact (by omega : p0.Path.Steps.length ≤ 9223372036854775807)))] (fun f6 => ⟨[(1, .one (.c (.v (.int .i64 (laws_szFlyPath p0.Path (wr (p1 - (p0.Name.size : Int)))))))), (2, .one (.pt 2 (f1 0 0) 0))], [(2, some (f1 0 0, .box (LinkCraft.cs .bor p0)))], 25⟩) (fun f => by kernel_rfl) (fun f => by kernel_rfl) fun f6 => ?_
  refine w_seq ?_
  refine xr hT [] (fun f7 => ⟨[(1, .one (.c (.v (.int .i64 (laws_szFlyPath p0.Path (wr (p1 - (p0.Name.size : Int)))))))), (2, .one (.pt 2 (f1 0 0) 0)), (17, .one (.c (.v (.bool (decide ((laws_szFlyPath p0.Path (wr (p1 - (p0.Name.size : Int)))) < 0))))))], [(2, some (f1 0 0, .box (LinkCraft.cs .bor p0)))], 25⟩) (fun f => by kernel_rfl) (fun f => by kernel_rfl) fun f7 => ?_
  refine w_cond rfl (fun h8 => ?_) fun h8 => ?_
  · rw [if_pos h8] at hR
    have gh8 := of_decide_eq_true h8
    refine xr hT [] (fun f9 => ⟨[(4, .one (.c (.v (.int .i64 (-1)))))], [], 25⟩) (fun f => by kernel_rfl) (fun f => by kernel_rfl) fun f9 => ?_
    refine w_ret ?_
    subst hR
    exact x_ret (by kernel_rfl)
  rw [if_neg (nt h8)] at hR
  have gh8 := of_decide_eq_false h8
  refine w_skip ?_
  refine xr hT [ca (c17 p0.Flown (laws_szFlyPath p0.Path (wr (p1 - (p0.Name.size : Int)))) (by omega))] (fun f10 => ⟨[(1, .one (.c (.v (.int .i64 (laws_szIntS p0.Flown (laws_szFlyPath p0.Path (wr (p1 - (p0.Name.size : Int)))))))))], [], 25⟩) (fun f => by kernel_rfl) (fun f => by kernel_rfl) fun f10 => ?_
  refine w_seq ?_
  refine xr hT [] (fun f11 => ⟨[(1, .one (.c (.v (.int .i64 (laws_szIntS p0.Flown (laws_szFlyPath p0.Path (wr (p1 - (p0.Name.size : Int))))))))), (23, .one (.c (.v (.bool (decide ((laws_szIntS p0.Flown (laws_szFlyPath p0.Path (wr (p1 - (p0.Name.size : Int))))) < 0))))))], [], 25⟩) (fun f => by kernel_rfl) (fun f => by kernel_rfl) fun f11 => ?_
  refine w_cond rfl (fun h12 => ?_) fun h12 => ?_
  · rw [if_pos h12] at hR
    have gh12 := of_decide_eq_true h12
    refine xr hT [] (fun f13 => ⟨[(4, .one (.c (.v (.int .i64 (-1)))))], [], 25⟩) (fun f => by kernel_rfl) (fun f => by kernel_rfl) fun f13 => ?_
    refine w_ret ?_
    subst hR
    exact x_ret (by kernel_rfl)
  rw [if_neg (nt h12)] at hR
  have gh12 := of_decide_eq_false h12
  refine w_skip ?_
  refine xr hT [] (fun f14 => ⟨[(4, .one (.c (.v (.int .i64 (laws_szIntS p0.Flown (laws_szFlyPath p0.Path (wr (p1 - (p0.Name.size : Int)))))))))], [], 25⟩) (fun f => by kernel_rfl) (fun f => by kernel_rfl) fun f14 => ?_
  refine w_ret ?_
  subst hR
  exact x_ret (by kernel_rfl)
theorem f_laws_szLinkCraft (p0 : LinkCraft) (p1 : Int) (hb : LinkCraft.big p0) (h1 : 0 ≤ p1) (h2 : p1 ≤ 1048576) (h : 0 ≤ laws_szLinkCraft p0 p1) : LinkCraft.ok p0 ∧ laws_szLinkCraft p0 p1 ≤ p1 := by
  obtain ⟨b1, b2, b3⟩ := hb
  have e : wr (p1 - (p0.Name.size : Int)) = p1 - (p0.Name.size : Int) := wr_eq (by omega) (by omega)
  unfold laws_szLinkCraft at h ⊢
  rw [e] at h ⊢
  by_cases q : p1 - (p0.Name.size : Int) < 0
  · simp only [q, decide_true, if_true] at h; omega
  simp only [q, decide_false, Bool.false_eq_true, if_false] at h ⊢
  by_cases q2 : laws_szFlyPath p0.Path (p1 - (p0.Name.size : Int)) < 0
  · simp only [q2, decide_true, if_true] at h; omega
  simp only [q2, decide_false, Bool.false_eq_true, if_false] at h ⊢
  have w1 := f_laws_szFlyPath p0.Path _ b2 (by omega) (by omega) (by omega : 0 ≤ laws_szFlyPath p0.Path (p1 - (p0.Name.size : Int)))
  by_cases q3 : laws_szIntS p0.Flown (laws_szFlyPath p0.Path (p1 - (p0.Name.size : Int))) < 0
  · simp only [q3, decide_true, if_true] at h; omega
  simp only [q3, decide_false, Bool.false_eq_true, if_false] at h ⊢
  have w2 := f_laws_szIntS p0.Flown _ b3 (by omega) (by omega) h
  exact ⟨⟨w1.1, w2.1⟩, by omega⟩

/-- laws.szLinkWord -/
def laws_szLinkWord (p0 : LinkWord) (p1 : Int) : Int := (if decide ((wr (p1 - (p0.Name.size : Int))) < 0) then (-1) else (if decide ((laws_szFlyPath p0.Path (wr (p1 - (p0.Name.size : Int)))) < 0) then (-1) else (laws_szFlyPath p0.Path (wr (p1 - (p0.Name.size : Int))))))
theorem c5 (p0 : LinkWord) (p1 : Int) (k0_0 : LinkWord.big p0) : Fn Proofs.Try.prog 5 [⟨.val, true, LinkWord.cs .bor p0⟩, ⟨.val, false, [.v (.int .i64 p1)]⟩] [.c (.v (.int .i64 (laws_szLinkWord p0 p1)))] [] := by
  obtain ⟨R, hR⟩ : ∃ R, R = laws_szLinkWord p0 p1 := ⟨_, rfl⟩
  rw [← hR]
  rw [laws_szLinkWord] at hR
  refine ⟨fn_intro hT Proofs.Try.func5 rfl rfl fun fs => ?_, _, Proofs.Try.func5, rfl, rfl⟩
  have q0 := k0_0; simp only [LinkWord.big] at q0
  refine xr hT [] (fun f1 => ⟨[(1, .one (.c (.v (.int .i64 p1)))), (2, .one (.pt 2 (f1 0 0) 0))], [(2, some (f1 0 0, .box (LinkWord.cs .bor p0)))], 19⟩) (fun f => by kernel_rfl) (fun f => by kernel_rfl) fun f1 => ?_
  refine xr hT [.und Proofs.Try.underlying9, .wr] (fun f2 => ⟨[(1, .one (.c (.v (.int .i64 (wr (p1 - (p0.Name.size : Int))))))), (2, .one (.pt 2 (f1 0 0) 0))], [(2, some (f1 0 0, .box (LinkWord.cs .bor p0)))], 19⟩) (fun f => by kernel_rfl) (fun f => by kernel_rfl) fun f2 => ?_
  refine w_seq ?_
  refine xr hT [] (fun f3 => ⟨[(1, .one (.c (.v (.int .i64 (wr (p1 - (p0.Name.size : Int))))))), (2, .one (.pt 2 (f1 0 0) 0)), (11, .one (.c (.v (.bool (decide ((wr (p1 - (p0.Name.size : Int))) < 0))))))], [(2, some (f1 0 0, .box (LinkWord.cs .bor p0)))], 19⟩) (fun f => by kernel_rfl) (fun f => by kernel_rfl) fun f3 => ?_
  refine w_cond rfl (fun h4 => ?_) fun h4 => ?_
  · rw [if_pos h4] at hR
    have gh4 := of_decide_eq_true h4
    refine xr hT [] (fun f5 => ⟨[(4, .one (.c (.v (.int .i64 (-1)))))], [], 19⟩) (fun f => by kernel_rfl) (fun f => by kernel_rfl) fun f5 => ?_
    refine w_ret ?_
    subst hR
    exact x_ret (by kernel_rfl)
  rw [if_neg (nt h4)] at hR
  have gh4 := of_decide_eq_false h4
  refine w_skip ?_
  refine xr hT [ca (c16 p0.Path (wr (p1 - (p0.Name.size : Int))) (by first | assumption | exact (by omega : p0.Path.Steps.length ≤ 9223372036854775807)))] (fun f6 => ⟨[(1, .one (.c (.v (.int .i64 (laws_szFlyPath p0.Path (wr (p1 - (p0.Name.size : Int))))))))], [], 19⟩) (fun f => by kernel_rfl) (fun f => by kernel_rfl) fun f6 => ?_
  refine w_seq ?_
  refine xr hT [] (fun f7 => ⟨[(1, .one (.c (.v (.int .i64 (laws_szFlyPath p0.Path (wr (p1 - (p0.Name.size : Int)))))))), (17, .one (.c (.v (.bool (decide ((laws_szFlyPath p0.Path (wr (p1 - (p0.Name.size : Int)))) < 0))))))], [], 19⟩) (fun f => by kernel_rfl) (fun f => by kernel_rfl) fun f7 => ?_
  refine w_cond rfl (fun h8 => ?_) fun h8 => ?_
  · rw [if_pos h8] at hR
    have gh8 := of_decide_eq_true h8
    refine xr hT [] (fun f9 => ⟨[(4, .one (.c (.v (.int .i64 (-1)))))], [], 19⟩) (fun f => by kernel_rfl) (fun f => by kernel_rfl) fun f9 => ?_
    refine w_ret ?_
    subst hR
    exact x_ret (by kernel_rfl)
  rw [if_neg (nt h8)] at hR
  have gh8 := of_decide_eq_false h8
  refine w_skip ?_
  refine xr hT [] (fun f10 => ⟨[(4, .one (.c (.v (.int .i64 (laws_szFlyPath p0.Path (wr (p1 - (p0.Name.size : Int))))))))], [], 19⟩) (fun f => by kernel_rfl) (fun f => by kernel_rfl) fun f10 => ?_
  refine w_ret ?_
  subst hR
  exact x_ret (by kernel_rfl)
theorem f_laws_szLinkWord (p0 : LinkWord) (p1 : Int) (hb : LinkWord.big p0) (h1 : 0 ≤ p1) (h2 : p1 ≤ 1048576) (h : 0 ≤ laws_szLinkWord p0 p1) : LinkWord.ok p0 ∧ laws_szLinkWord p0 p1 ≤ p1 := by
  obtain ⟨b1, b2⟩ := hb
  have e : wr (p1 - (p0.Name.size : Int)) = p1 - (p0.Name.size : Int) := wr_eq (by omega) (by omega)
  unfold laws_szLinkWord at h ⊢
  rw [e] at h ⊢
  by_cases q : p1 - (p0.Name.size : Int) < 0
  · simp only [q, decide_true, if_true] at h; omega
  simp only [q, decide_false, Bool.false_eq_true, if_false] at h ⊢
  by_cases q2 : laws_szFlyPath p0.Path (p1 - (p0.Name.size : Int)) < 0
  · simp only [q2, decide_true, if_true] at h; omega
  simp only [q2, decide_false, Bool.false_eq_true, if_false] at h ⊢
  have w1 := f_laws_szFlyPath p0.Path _ b2 (by omega) (by omega) h
  exact ⟨w1.1, by omega⟩

/-- spec.l2Copy -/
def spec_l2Copy (p0 : FlyPath) : FlyPath := p0
theorem c22 (p0 : FlyPath) (k0_0 : FlyPath.ok p0) : Fn Proofs.Try.prog 22 [⟨.val, true, FlyPath.cs .bor p0⟩] [.ag (FlyPath.cs .own (spec_l2Copy p0))] [] := by
  obtain ⟨R, hR⟩ : ∃ R, R = spec_l2Copy p0 := ⟨_, rfl⟩
  rw [← hR]
  rw [spec_l2Copy] at hR
  refine ⟨fn_intro hT Proofs.Try.func22 rfl rfl fun fs => ?_, _, Proofs.Try.func22, rfl, rfl⟩
  have q0 := k0_0; simp only [FlyPath.ok] at q0
  refine xr hT [] (fun f1 => ⟨[(1, .one (.pt 1 (f1 0 0) 0)), (2, .one (.pt 2 (f1 1 0) 0))], [(1, some (f1 0 0, .box (FlyPath.cs .bor p0))), (2, some (f1 1 0, .box [.v (.int .i64 0), .v (.int .i64 0), .nl, .v (.int .i64 0), .v (.int .i64 0)]))], 9⟩) (fun f => by kernel_rfl) (fun f => by kernel_rfl) fun f1 => ?_
  refine xr hT [.app true FlyStep.row ([] : List FlyStep) p0.Steps 56 (fun h => by (try simp only [LN]); omega), .pl (FlyStep.rv p0.Steps)] (fun f2 => ⟨[(1, .one (.pt 1 (f1 0 0) 0)), (2, .one (.pt 2 (f1 1 0) 0))], [(1, some (f1 0 0, .box [.v (.int .i64 p0.Kind.Quick), .v (.int .i64 p0.Kind.Slow), .mu 3 (f2 3 0) 7 0 (p0.Steps.map FlyStep.row).length, .v (.int .i64 p0.From), .v (.int .i64 p0.By)])), (2, some (f1 1 0, .box [.v (.int .i64 0), .v (.int .i64 0), .nl, .v (.int .i64 0), .v (.int .i64 0)])), (3, some (f2 3 0, .arr 7 (p0.Steps.map FlyStep.row)))], 9⟩) (fun f => by kernel_rfl) (fun f => by kernel_rfl) fun f2 => ?_
  refine xr hT [] (fun f3 => ⟨[(2, .one (.pt 2 (f1 1 0) 0))], [(2, some (f1 1 0, .box [.v (.int .i64 p0.Kind.Quick), .v (.int .i64 p0.Kind.Slow), .mu 3 (f2 3 0) 7 0 (p0.Steps.map FlyStep.row).length, .v (.int .i64 p0.From), .v (.int .i64 p0.By)])), (3, some (f2 3 0, .arr 7 (p0.Steps.map FlyStep.row)))], 9⟩) (fun f => by kernel_rfl) (fun f => by kernel_rfl) fun f3 => ?_
  refine w_ret ?_
  subst hR
  exact x_ret (by kernel_rfl)

/-- spec.l22Craft -/
def spec_l22Craft (p0 : LinkCraft) : LinkCraft := (⟨p0.Name, p0.Number, p0.No, (spec_l2Copy p0.Path), p0.Flown⟩ : LinkCraft)
theorem c18 (p0 : LinkCraft) (k0_0 : LinkCraft.ok p0) : Fn Proofs.Try.prog 18 [⟨.val, true, LinkCraft.cs .bor p0⟩] [.ag (LinkCraft.cs .own (spec_l22Craft p0))] [] := by
  obtain ⟨R, hR⟩ : ∃ R, R = spec_l22Craft p0 := ⟨_, rfl⟩
  rw [← hR]
  rw [spec_l22Craft] at hR
  refine ⟨fn_intro hT Proofs.Try.func18 rfl rfl fun fs => ?_, _, Proofs.Try.func18, rfl, rfl⟩
  have q0 := k0_0; simp only [LinkCraft.ok] at q0
  refine xr hT [] (fun f1 => ⟨[(1, .one (.pt 1 (f1 0 0) 0)), (2, .one (.pt 2 (f1 1 0) 0))], [(1, some (f1 0 0, .box (LinkCraft.cs .bor p0))), (2, some (f1 1 0, .box [.v (.string ⟨#[]⟩), .v (.int .i64 0), .v (.int .i64 0), .v (.int .i64 0), .v (.int .i64 0), .nl, .v (.int .i64 0), .v (.int .i64 0), .nl]))], 17⟩) (fun f => by kernel_rfl) (fun f => by kernel_rfl) fun f1 => ?_
  refine xd hT hM [ca (c22 p0.Path (by first | assumption | exact (by omega : p0.Path.Steps.length ≤ 1048576))), .app true Int.row ([] : List Int) p0.Flown 8 (fun h => by (try simp only [LN, spec_l2Copy]); omega), .pl (Int.rv p0.Flown)] (fun f2 => ⟨[(2, .one (.pt 2 (f1 1 0) 0))], [(2, some (f1 1 0, .box [.v (.string p0.Name), .v (.int .i64 p0.Number), .v (.int .i64 p0.No), .v (.int .i64 ((spec_l2Copy p0.Path).Kind.Quick)), .v (.int .i64 ((spec_l2Copy p0.Path).Kind.Slow)), .mu 1200002 (gk (f2 8) 0 2) 7 0 (((spec_l2Copy p0.Path).Steps).map FlyStep.row).length, .v (.int .i64 ((spec_l2Copy p0.Path).From)), .v (.int .i64 ((spec_l2Copy p0.Path).By)), .mu 12 (f2 12 0) 1 0 (p0.Flown.map Int.row).length])), (12, some (f2 12 0, .arr 1 (p0.Flown.map Int.row))), (1200002, some (gk (f2 8) 0 2, .arr 7 (((spec_l2Copy p0.Path).Steps).map FlyStep.row)))], 17⟩) (fun f => by kernel_rfl) (fun f => by kernel_rfl) (fun f => by kernel_rfl) fun f2 => ?_
  refine w_ret ?_
  subst hR
  exact x_ret (by kernel_rfl)

/-- spec.l11In -/
def spec_l11In (p0 : Int) (p1 : Int) (p2 : Int) : Bool := (decide (p1 ≤ p0)) && (decide (p0 ≤ p2))
theorem c59 (p0 : Int) (p1 : Int) (p2 : Int) : Fn Proofs.Try.prog 59 [⟨.val, false, [.v (.int .i64 p0)]⟩, ⟨.val, false, [.v (.int .i64 p1)]⟩, ⟨.val, false, [.v (.int .i64 p2)]⟩] [.c (.v (.bool (spec_l11In p0 p1 p2)))] [] := by
  obtain ⟨R, hR⟩ : ∃ R, R = spec_l11In p0 p1 p2 := ⟨_, rfl⟩
  rw [← hR]
  rw [spec_l11In] at hR
  refine ⟨fn_intro hT Proofs.Try.func59 rfl rfl fun fs => ?_, _, Proofs.Try.func59, rfl, rfl⟩
  refine xr hT [] (fun f1 => ⟨[(0, .one (.c (.v (.int .i64 p0)))), (1, .one (.c (.v (.int .i64 p1)))), (2, .one (.c (.v (.int .i64 p2))))], [], 15⟩) (fun f => by kernel_rfl) (fun f => by kernel_rfl) fun f1 => ?_
  refine xr hT [] (fun f2 => ⟨[(6, .one (.c (.v (.bool ((decide (p1 ≤ p0)) && (decide (p0 ≤ p2)))))))], [], 15⟩) (fun f => by kernel_rfl) (fun f => by kernel_rfl) fun f2 => ?_
  refine w_ret ?_
  subst hR
  exact x_ret (by kernel_rfl)

def spec_l12NameOk_I1 (p0 : ByteArray) (fs : Nat → Nat → Nat) (i1 : Nat) (s1 : Unit) (x1 : Nat → Nat) : St := ⟨[(0, .one (.c (.v (.string p0)))), (3, .one (.c (.v (.int .i64 ((i1 : Nat) : Int)))))], [], 37⟩
def spec_l12NameOk_J1 (p0 : ByteArray) (fs : Nat → Nat → Nat) (s1 : Unit) (x1 : Nat → Nat) : St := ⟨[], [], 37⟩
def spec_l12NameOk_v1 (p0 : ByteArray) (i1 : Nat) : Bool := !((((decide (97 ≤ ((bget p0 i1).toNat : Int))) && (decide (((bget p0 i1).toNat : Int) ≤ 122))) || ((decide (48 ≤ ((bget p0 i1).toNat : Int))) && (decide (((bget p0 i1).toNat : Int) ≤ 57)))) || (decide (((bget p0 i1).toNat : Int) = 45)))
def spec_l12NameOk_b1 (p0 : ByteArray) (i1 : Nat) (s1 : Unit) : Res (Unit) Bool := (if (spec_l12NameOk_v1 p0 i1) then (.ret false) else (.next ()))
def spec_l12NameOk_r1 (p0 : ByteArray) (s1 : Unit) : Bool := true
/-- spec.l12NameOk -/
def spec_l12NameOk (p0 : ByteArray) : Bool := (if !(spec_l11In (p0.size : Int) 1 8) then false else (Res.fin (spec_l12NameOk_r1 p0) (forN (spec_l12NameOk_b1 p0) (p0.size - 0) 0 ())))
theorem c38 (p0 : ByteArray) : Fn Proofs.Try.prog 38 [⟨.val, false, [.v (.string p0)]⟩] [.c (.v (.bool (spec_l12NameOk p0)))] [] := by
  obtain ⟨R, hR⟩ : ∃ R, R = spec_l12NameOk p0 := ⟨_, rfl⟩
  rw [← hR]
  rw [spec_l12NameOk] at hR
  refine ⟨fn_intro hT Proofs.Try.func38 rfl rfl fun fs => ?_, _, Proofs.Try.func38, rfl, rfl⟩
  refine xr hT [] (fun f1 => ⟨[(0, .one (.c (.v (.string p0))))], [], 37⟩) (fun f => by kernel_rfl) (fun f => by kernel_rfl) fun f1 => ?_
  refine w_seq ?_
  refine xr hT [.und Proofs.Try.underlying9, ca (c59 (p0.size : Int) 1 8)] (fun f2 => ⟨[(0, .one (.c (.v (.string p0)))), (8, .one (.c (.v (.bool (!(spec_l11In (p0.size : Int) 1 8))))))], [], 37⟩) (fun f => by kernel_rfl) (fun f => by kernel_rfl) fun f2 => ?_
  refine w_cond rfl (fun h3 => ?_) fun h3 => ?_
  · rw [if_pos h3] at hR
    have gh3 := h3; try simp only [spec_l11In, Bool.not_eq_true', Bool.not_eq_false', decide_eq_true_eq, decide_eq_false_iff_not, Bool.and_eq_true, Bool.or_eq_true, Bool.and_eq_false_iff, Bool.or_eq_false_iff] at gh3
    refine xr hT [] (fun f4 => ⟨[(2, .one (.c (.v (.bool false))))], [], 37⟩) (fun f => by kernel_rfl) (fun f => by kernel_rfl) fun f4 => ?_
    refine w_ret ?_
    subst hR
    exact x_ret (by kernel_rfl)
  rw [if_neg (nt h3)] at hR
  have gh3 := h3; try simp only [spec_l11In, Bool.not_eq_true', Bool.not_eq_false', decide_eq_true_eq, decide_eq_false_iff_not, Bool.and_eq_true, Bool.or_eq_true, Bool.and_eq_false_iff, Bool.or_eq_false_iff] at gh3
  refine w_skip ?_
  refine w_seq ?_
  refine xr hT [] (fun f5 => ⟨[(0, .one (.c (.v (.string p0)))), (3, .one (.c (.v (.int .i64 0))))], [], 37⟩) (fun f => by kernel_rfl) (fun f => by kernel_rfl) fun f5 => ?_
  refine w_forT (fun _ => rfl) (spec_l12NameOk_I1 p0 fs) (spec_l12NameOk_J1 p0 fs) (fun i1 s1 => True) (fun s1 => True) (p0.size) 0 (spec_l12NameOk_b1 p0) (spec_l12NameOk_r1 p0) 0 (()) (lst []) (sb (by kernel_rfl)) trivial hR ?_ ?_
  · skip
    intro i1 s1 x1 hI1 hX1
    refine w_seq ?_
    refine xr hT [.und Proofs.Try.underlying9] (fun f6 => ⟨[(0, .one (.c (.v (.string p0)))), (3, .one (.c (.v (.int .i64 ((i1 : Nat) : Int))))), (12, .one (.c (.v (.bool (decide (((i1 : Nat) : Int) < (p0.size : Int)))))))], [], 37⟩) (fun f => by kernel_rfl) (fun f => by kernel_rfl) fun f6 => ?_
    refine w_cond rfl (fun h7 => ?_) fun h7 => ?_
    · skip
      have hl1 : i1 < p0.size := by have hq := of_decide_eq_true h7; first | omega | ((try simp only [LN, spec_l12NameOk_v1] at *); omega)
      obtain ⟨B1, hB1⟩ : ∃ B, B = spec_l12NameOk_b1 p0 i1 s1 := ⟨_, rfl⟩
      have hE1 := hB1
      rw [spec_l12NameOk_b1] at hE1
      refine w_skip ?_
      refine w_seq ?_
      refine w_block ?_
      refine xr hT [.und Proofs.Try.underlying9, .bg true p0 (((i1 : Nat) : Int)) i1 (fun h => ⟨rfl, by omega⟩)] (fun f8 => ⟨[(0, .one (.c (.v (.string p0)))), (3, .one (.c (.v (.int .i64 ((i1 : Nat) : Int))))), (4, .one (.c (.v (.int .u8 ((bget p0 i1).toNat : Int)))))], [], 37⟩) (fun f => by kernel_rfl) (fun f => by kernel_rfl) fun f8 => ?_
      refine xr hT [] (fun f9 => ⟨[(0, .one (.c (.v (.string p0)))), (3, .one (.c (.v (.int .i64 ((i1 : Nat) : Int))))), (36, .one (.c (.v (.bool (spec_l12NameOk_v1 p0 i1)))))], [], 37⟩) (fun f => by kernel_rfl) (fun f => by kernel_rfl) fun f9 => ?_
      refine w_cond rfl (fun h10 => ?_) fun h10 => ?_
      · rw [if_pos h10] at hE1
        have gh10 := h10; try simp only [spec_l12NameOk_v1, Bool.not_eq_true', Bool.not_eq_false', decide_eq_true_eq, decide_eq_false_iff_not, Bool.and_eq_true, Bool.or_eq_true, Bool.and_eq_false_iff, Bool.or_eq_false_iff] at gh10
        refine xr hT [] (fun f11 => ⟨[(2, .one (.c (.v (.bool false))))], [], 37⟩) (fun f => by kernel_rfl) (fun f => by kernel_rfl) fun f11 => ?_
        refine w_ret ?_
        have hR := hX1.trans (forN_ret hl1 (hB1.symm.trans hE1))
        subst hR
        exact x_ret (by kernel_rfl)
      rw [if_neg (nt h10)] at hE1
      have gh10 := h10; try simp only [spec_l12NameOk_v1, Bool.not_eq_true', Bool.not_eq_false', decide_eq_true_eq, decide_eq_false_iff_not, Bool.and_eq_true, Bool.or_eq_true, Bool.and_eq_false_iff, Bool.or_eq_false_iff] at gh10
      refine w_skip ?_
      refine x_reg hT [.ex true (((i1 : Nat) : Int) + ((1 : Nat) : Int)) ((((i1 + 1) : Nat) : Int)) (fun _ => wr_nat (n := i1) (c := 1) (by omega))] (fun f12 => spec_l12NameOk_I1 p0 fs (i1 + 1) () (lst [])) (fun f => by kernel_rfl) (fun f => by kernel_rfl) fun f12 s' hs' => ?_
      exact ⟨(), (lst []), hl1, trivial, hX1.trans (forN_next hl1 (hB1.symm.trans hE1)), hs'⟩
    have hq := of_decide_eq_false h7
    refine w_exit ?_
    exact ⟨s1, (lst []), trivial, hX1.trans (forN_end (by first | omega | ((try simp only [LN, spec_l12NameOk_v1] at *); omega))), sb (by kernel_rfl)⟩
  intro s1 x1 hF15 hR13
  rw [spec_l12NameOk_r1] at hR13
  refine xr hT [] (fun f14 => ⟨[(2, .one (.c (.v (.bool true))))], [], 37⟩) (fun f => by kernel_rfl) (fun f => by kernel_rfl) fun f14 => ?_
  refine w_ret ?_
  subst hR13
  exact x_ret (by kernel_rfl)

/-- spec.l1In -/
def spec_l1In (p0 : Int) (p1 : Int) (p2 : Int) : Bool := (decide (p1 ≤ p0)) && (decide (p0 ≤ p2))
theorem c39 (p0 : Int) (p1 : Int) (p2 : Int) : Fn Proofs.Try.prog 39 [⟨.val, false, [.v (.int .i64 p0)]⟩, ⟨.val, false, [.v (.int .i64 p1)]⟩, ⟨.val, false, [.v (.int .i64 p2)]⟩] [.c (.v (.bool (spec_l1In p0 p1 p2)))] [] := by
  obtain ⟨R, hR⟩ : ∃ R, R = spec_l1In p0 p1 p2 := ⟨_, rfl⟩
  rw [← hR]
  rw [spec_l1In] at hR
  refine ⟨fn_intro hT Proofs.Try.func39 rfl rfl fun fs => ?_, _, Proofs.Try.func39, rfl, rfl⟩
  refine xr hT [] (fun f1 => ⟨[(0, .one (.c (.v (.int .i64 p0)))), (1, .one (.c (.v (.int .i64 p1)))), (2, .one (.c (.v (.int .i64 p2))))], [], 15⟩) (fun f => by kernel_rfl) (fun f => by kernel_rfl) fun f1 => ?_
  refine xr hT [] (fun f2 => ⟨[(6, .one (.c (.v (.bool ((decide (p1 ≤ p0)) && (decide (p0 ≤ p2)))))))], [], 15⟩) (fun f => by kernel_rfl) (fun f => by kernel_rfl) fun f2 => ?_
  refine w_ret ?_
  subst hR
  exact x_ret (by kernel_rfl)

/-- spec.l1Max -/
def spec_l1Max (p0 : Int) (p1 : Int) : Int := (if decide (p1 < p0) then p0 else p1)
theorem c65 (p0 : Int) (p1 : Int) : Fn Proofs.Try.prog 65 [⟨.val, false, [.v (.int .i64 p0)]⟩, ⟨.val, false, [.v (.int .i64 p1)]⟩] [.c (.v (.int .i64 (spec_l1Max p0 p1)))] [] := by
  obtain ⟨R, hR⟩ : ∃ R, R = spec_l1Max p0 p1 := ⟨_, rfl⟩
  rw [← hR]
  rw [spec_l1Max] at hR
  refine ⟨fn_intro hT Proofs.Try.func65 rfl rfl fun fs => ?_, _, Proofs.Try.func65, rfl, rfl⟩
  refine xr hT [] (fun f1 => ⟨[(0, .one (.c (.v (.int .i64 p0)))), (1, .one (.c (.v (.int .i64 p1))))], [], 10⟩) (fun f => by kernel_rfl) (fun f => by kernel_rfl) fun f1 => ?_
  refine w_seq ?_
  refine xr hT [] (fun f2 => ⟨[(0, .one (.c (.v (.int .i64 p0)))), (1, .one (.c (.v (.int .i64 p1)))), (7, .one (.c (.v (.bool (decide (p1 < p0))))))], [], 10⟩) (fun f => by kernel_rfl) (fun f => by kernel_rfl) fun f2 => ?_
  refine w_cond rfl (fun h3 => ?_) fun h3 => ?_
  · rw [if_pos h3] at hR
    have gh3 := of_decide_eq_true h3
    refine xr hT [] (fun f4 => ⟨[(4, .one (.c (.v (.int .i64 p0))))], [], 10⟩) (fun f => by kernel_rfl) (fun f => by kernel_rfl) fun f4 => ?_
    refine w_ret ?_
    subst hR
    exact x_ret (by kernel_rfl)
  rw [if_neg (nt h3)] at hR
  have gh3 := of_decide_eq_false h3
  refine w_skip ?_
  refine xr hT [] (fun f5 => ⟨[(4, .one (.c (.v (.int .i64 p1))))], [], 10⟩) (fun f => by kernel_rfl) (fun f => by kernel_rfl) fun f5 => ?_
  refine w_ret ?_
  subst hR
  exact x_ret (by kernel_rfl)

/-- spec.l1Min -/
def spec_l1Min (p0 : Int) (p1 : Int) : Int := (if decide (p0 < p1) then p0 else p1)
theorem c73 (p0 : Int) (p1 : Int) : Fn Proofs.Try.prog 73 [⟨.val, false, [.v (.int .i64 p0)]⟩, ⟨.val, false, [.v (.int .i64 p1)]⟩] [.c (.v (.int .i64 (spec_l1Min p0 p1)))] [] := by
  obtain ⟨R, hR⟩ : ∃ R, R = spec_l1Min p0 p1 := ⟨_, rfl⟩
  rw [← hR]
  rw [spec_l1Min] at hR
  refine ⟨fn_intro hT Proofs.Try.func73 rfl rfl fun fs => ?_, _, Proofs.Try.func73, rfl, rfl⟩
  refine xr hT [] (fun f1 => ⟨[(0, .one (.c (.v (.int .i64 p0)))), (1, .one (.c (.v (.int .i64 p1))))], [], 10⟩) (fun f => by kernel_rfl) (fun f => by kernel_rfl) fun f1 => ?_
  refine w_seq ?_
  refine xr hT [] (fun f2 => ⟨[(0, .one (.c (.v (.int .i64 p0)))), (1, .one (.c (.v (.int .i64 p1)))), (7, .one (.c (.v (.bool (decide (p0 < p1))))))], [], 10⟩) (fun f => by kernel_rfl) (fun f => by kernel_rfl) fun f2 => ?_
  refine w_cond rfl (fun h3 => ?_) fun h3 => ?_
  · rw [if_pos h3] at hR
    have gh3 := of_decide_eq_true h3
    refine xr hT [] (fun f4 => ⟨[(4, .one (.c (.v (.int .i64 p0))))], [], 10⟩) (fun f => by kernel_rfl) (fun f => by kernel_rfl) fun f4 => ?_
    refine w_ret ?_
    subst hR
    exact x_ret (by kernel_rfl)
  rw [if_neg (nt h3)] at hR
  have gh3 := of_decide_eq_false h3
  refine w_skip ?_
  refine xr hT [] (fun f5 => ⟨[(4, .one (.c (.v (.int .i64 p1))))], [], 10⟩) (fun f => by kernel_rfl) (fun f => by kernel_rfl) fun f5 => ?_
  refine w_ret ?_
  subst hR
  exact x_ret (by kernel_rfl)

def spec_l6Held_I1 (p0 : FlyPath) (p1 : (List Int)) (fs : Nat → Nat → Nat) (i1 : Nat) (s1 : List FlyStep × Int × Int) (x1 : Nat → Nat) : St := ⟨[(1, .one (.c (.sl .bor 1 (p1.map Int.row)))), (4, .one (.pt 4 (x1 0) 0)), (5, .one (.pt 5 (x1 1) 0)), (6, .one (.c (.v (.int .i64 ((i1 : Nat) : Int)))))], [(4, some (x1 0, .box [.v (.int .i64 0), .v (.int .i64 0), .nl, .v (.int .i64 0), .v (.int .i64 0)])), (5, some (x1 1, .box [.v (.int .i64 ((spec_l2Copy p0).Kind.Quick)), .v (.int .i64 ((spec_l2Copy p0).Kind.Slow)), .mu 900002 (x1 2) 7 0 (s1.1.map FlyStep.row).length, .v (.int .i64 s1.2.1), .v (.int .i64 s1.2.2)])), (900002, some (x1 2, .arr 7 (s1.1.map FlyStep.row)))], 69⟩
def spec_l6Held_J1 (p0 : FlyPath) (p1 : (List Int)) (fs : Nat → Nat → Nat) (s1 : List FlyStep × Int × Int) (x1 : Nat → Nat) : St := ⟨[(4, .one (.pt 4 (x1 0) 0)), (5, .one (.pt 5 (x1 1) 0))], [(4, some (x1 0, .box [.v (.int .i64 0), .v (.int .i64 0), .nl, .v (.int .i64 0), .v (.int .i64 0)])), (5, some (x1 1, .box [.v (.int .i64 ((spec_l2Copy p0).Kind.Quick)), .v (.int .i64 ((spec_l2Copy p0).Kind.Slow)), .mu 900002 (x1 2) 7 0 (s1.1.map FlyStep.row).length, .v (.int .i64 s1.2.1), .v (.int .i64 s1.2.2)])), (900002, some (x1 2, .arr 7 (s1.1.map FlyStep.row)))], 69⟩
def spec_l6Held_v1 (p1 : (List Int)) (i1 : Nat) (s1 : List FlyStep × Int × Int) : List FlyStep := (s1.1.set i1 ({ s1.1.getD i1 default with From := (spec_l1Max ((s1.1.getD i1 default).From) (p1.getD i1 default)) } : FlyStep)).set i1 ({ (s1.1.set i1 ({ s1.1.getD i1 default with From := (spec_l1Max ((s1.1.getD i1 default).From) (p1.getD i1 default)) } : FlyStep)).getD i1 default with By := (spec_l1Min (((s1.1.set i1 ({ s1.1.getD i1 default with From := (spec_l1Max ((s1.1.getD i1 default).From) (p1.getD i1 default)) } : FlyStep)).getD i1 default).By) (p1.getD i1 default)) } : FlyStep)
def spec_l6Held_b1 (p0 : FlyPath) (p1 : (List Int)) (i1 : Nat) (s1 : List FlyStep × Int × Int) : Res (List FlyStep × Int × Int) FlyPath := (if decide (((i1 : Nat) : Int) < (s1.1.length : Int)) then (.next ((spec_l6Held_v1 p1 i1 s1), s1.2.1, s1.2.2)) else (.next (s1.1, (spec_l1Max s1.2.1 (p1.getD i1 default)), (spec_l1Min s1.2.2 (p1.getD i1 default)))))
def spec_l6Held_r1 (p0 : FlyPath) (p1 : (List Int)) (s1 : List FlyStep × Int × Int) : FlyPath := (⟨(spec_l2Copy p0).Kind, s1.1, s1.2.1, s1.2.2⟩ : FlyPath)
/-- spec.l6Held -/
def spec_l6Held (p0 : FlyPath) (p1 : (List Int)) : FlyPath := (Res.fin (spec_l6Held_r1 p0 p1) (forN (spec_l6Held_b1 p0 p1) (p1.length - 0) 0 ((spec_l2Copy p0).Steps, (spec_l2Copy p0).From, (spec_l2Copy p0).By)))
theorem c60 (p0 : FlyPath) (p1 : (List Int)) (k0_0 : FlyPath.ok p0) (k1_0 : p1.length ≤ 1048576) : Fn Proofs.Try.prog 60 [⟨.val, true, FlyPath.cs .bor p0⟩, ⟨.val, false, [.sl .bor 1 (p1.map Int.row)]⟩] [.ag (FlyPath.cs .own (spec_l6Held p0 p1))] [] := by
  obtain ⟨R, hR⟩ : ∃ R, R = spec_l6Held p0 p1 := ⟨_, rfl⟩
  rw [← hR]
  rw [spec_l6Held] at hR
  refine ⟨fn_intro hT Proofs.Try.func60 rfl rfl fun fs => ?_, _, Proofs.Try.func60, rfl, rfl⟩
  have q0 := k0_0; simp only [FlyPath.ok] at q0
  refine xr hT [] (fun f1 => ⟨[(1, .one (.c (.sl .bor 1 (p1.map Int.row)))), (2, .one (.pt 2 (f1 0 0) 0)), (4, .one (.pt 4 (f1 1 0) 0))], [(2, some (f1 0 0, .box (FlyPath.cs .bor p0))), (4, some (f1 1 0, .box [.v (.int .i64 0), .v (.int .i64 0), .nl, .v (.int .i64 0), .v (.int .i64 0)]))], 69⟩) (fun f => by kernel_rfl) (fun f => by kernel_rfl) fun f1 => ?_
  refine xr hT [ca (c22 p0 (by first | assumption | exact (by omega : p0.Steps.length ≤ 1048576)))] (fun f2 => ⟨[(1, .one (.c (.sl .bor 1 (p1.map Int.row)))), (4, .one (.pt 4 (f1 1 0) 0)), (5, .one (.pt 5 (f2 2 0) 0))], [(4, some (f1 1 0, .box [.v (.int .i64 0), .v (.int .i64 0), .nl, .v (.int .i64 0), .v (.int .i64 0)])), (5, some (f2 2 0, .box [.v (.int .i64 ((spec_l2Copy p0).Kind.Quick)), .v (.int .i64 ((spec_l2Copy p0).Kind.Slow)), .mu 900002 (gk (f2 1) 0 2) 7 0 (((spec_l2Copy p0).Steps).map FlyStep.row).length, .v (.int .i64 ((spec_l2Copy p0).From)), .v (.int .i64 ((spec_l2Copy p0).By))])), (900002, some (gk (f2 1) 0 2, .arr 7 (((spec_l2Copy p0).Steps).map FlyStep.row)))], 69⟩) (fun f => by kernel_rfl) (fun f => by kernel_rfl) fun f2 => ?_
  refine w_seq ?_
  refine xr hT [] (fun f3 => ⟨[(1, .one (.c (.sl .bor 1 (p1.map Int.row)))), (4, .one (.pt 4 (f1 1 0) 0)), (5, .one (.pt 5 (f2 2 0) 0)), (6, .one (.c (.v (.int .i64 0))))], [(4, some (f1 1 0, .box [.v (.int .i64 0), .v (.int .i64 0), .nl, .v (.int .i64 0), .v (.int .i64 0)])), (5, some (f2 2 0, .box [.v (.int .i64 ((spec_l2Copy p0).Kind.Quick)), .v (.int .i64 ((spec_l2Copy p0).Kind.Slow)), .mu 900002 (gk (f2 1) 0 2) 7 0 (((spec_l2Copy p0).Steps).map FlyStep.row).length, .v (.int .i64 ((spec_l2Copy p0).From)), .v (.int .i64 ((spec_l2Copy p0).By))])), (900002, some (gk (f2 1) 0 2, .arr 7 (((spec_l2Copy p0).Steps).map FlyStep.row)))], 69⟩) (fun f => by kernel_rfl) (fun f => by kernel_rfl) fun f3 => ?_
  refine w_forT (fun _ => rfl) (spec_l6Held_I1 p0 p1 fs) (spec_l6Held_J1 p0 p1 fs) (fun i1 s1 => s1.1.length = ((spec_l2Copy p0).Steps).length) (fun s1 => s1.1.length = ((spec_l2Copy p0).Steps).length) (p1.length) 0 (spec_l6Held_b1 p0 p1) (spec_l6Held_r1 p0 p1) 0 (((spec_l2Copy p0).Steps, (spec_l2Copy p0).From, (spec_l2Copy p0).By)) (lst [f1 1 0, f2 2 0, gk (f2 1) 0 2]) (sb (by kernel_rfl)) (by first | rfl | ((try simp only [LN, spec_l2Copy, spec_l6Held_v1]); omega) | (simp; done) | (simp; omega)) hR ?_ ?_
  · skip
    intro i1 s1 x1 hI1 hX1
    try simp only [LN, spec_l2Copy, spec_l6Held_v1] at hI1
    refine w_seq ?_
    refine xr hT [.ln Int.row p1] (fun f4 => ⟨[(1, .one (.c (.sl .bor 1 (p1.map Int.row)))), (4, .one (.pt 4 (x1 0) 0)), (5, .one (.pt 5 (x1 1) 0)), (6, .one (.c (.v (.int .i64 ((i1 : Nat) : Int))))), (12, .one (.c (.v (.bool (decide (((i1 : Nat) : Int) < (p1.length : Int)))))))], [(4, some (x1 0, .box [.v (.int .i64 0), .v (.int .i64 0), .nl, .v (.int .i64 0), .v (.int .i64 0)])), (5, some (x1 1, .box [.v (.int .i64 ((spec_l2Copy p0).Kind.Quick)), .v (.int .i64 ((spec_l2Copy p0).Kind.Slow)), .mu 900002 (x1 2) 7 0 (s1.1.map FlyStep.row).length, .v (.int .i64 s1.2.1), .v (.int .i64 s1.2.2)])), (900002, some (x1 2, .arr 7 (s1.1.map FlyStep.row)))], 69⟩) (fun f => by kernel_rfl) (fun f => by kernel_rfl) fun f4 => ?_
    refine w_cond rfl (fun h5 => ?_) fun h5 => ?_
    · skip
      have hl1 : i1 < p1.length := by have hq := of_decide_eq_true h5; first | omega | ((try simp only [LN, spec_l2Copy, spec_l6Held_v1] at *); omega)
      have hl1x := hl1; try simp only [LN, spec_l2Copy, spec_l6Held_v1] at hl1x
      obtain ⟨B1, hB1⟩ : ∃ B, B = spec_l6Held_b1 p0 p1 i1 s1 := ⟨_, rfl⟩
      have hE1 := hB1
      rw [spec_l6Held_b1] at hE1
      refine w_skip ?_
      refine w_seq ?_
      refine w_block ?_
      refine w_seq ?_
      refine xr hT [.ln FlyStep.row s1.1] (fun f6 => ⟨[(1, .one (.c (.sl .bor 1 (p1.map Int.row)))), (4, .one (.pt 4 (x1 0) 0)), (5, .one (.pt 5 (x1 1) 0)), (6, .one (.c (.v (.int .i64 ((i1 : Nat) : Int))))), (19, .one (.c (.v (.bool (decide (((i1 : Nat) : Int) < (s1.1.length : Int)))))))], [(4, some (x1 0, .box [.v (.int .i64 0), .v (.int .i64 0), .nl, .v (.int .i64 0), .v (.int .i64 0)])), (5, some (x1 1, .box [.v (.int .i64 ((spec_l2Copy p0).Kind.Quick)), .v (.int .i64 ((spec_l2Copy p0).Kind.Slow)), .mu 900002 (x1 2) 7 0 (s1.1.map FlyStep.row).length, .v (.int .i64 s1.2.1), .v (.int .i64 s1.2.2)])), (900002, some (x1 2, .arr 7 (s1.1.map FlyStep.row)))], 69⟩) (fun f => by kernel_rfl) (fun f => by kernel_rfl) fun f6 => ?_
      refine w_cond rfl (fun h7 => ?_) fun h7 => ?_
      · rw [if_pos h7] at hE1
        have gh7 := of_decide_eq_true h7
        refine xd hT hM [ix FlyStep.row s1.1 i1 (by omega), ix FlyStep.row s1.1 i1 (by omega), ix Int.row p1 i1 (by omega), ca (c65 ((s1.1.getD i1 default).From) (p1.getD i1 default)), ix FlyStep.row s1.1 i1 (by omega), .st inferInstance true FlyStep.row s1.1 i1 ({ s1.1.getD i1 default with From := (spec_l1Max ((s1.1.getD i1 default).From) (p1.getD i1 default)) } : FlyStep) (fun h => by omega)] (fun f8 => ⟨[(1, .one (.c (.sl .bor 1 (p1.map Int.row)))), (4, .one (.pt 4 (x1 0) 0)), (5, .one (.pt 5 (x1 1) 0)), (6, .one (.c (.v (.int .i64 ((i1 : Nat) : Int)))))], [(4, some (x1 0, .box [.v (.int .i64 0), .v (.int .i64 0), .nl, .v (.int .i64 0), .v (.int .i64 0)])), (5, some (x1 1, .box [.v (.int .i64 ((spec_l2Copy p0).Kind.Quick)), .v (.int .i64 ((spec_l2Copy p0).Kind.Slow)), .mu 900002 (x1 2) 7 0 (s1.1.map FlyStep.row).length, .v (.int .i64 s1.2.1), .v (.int .i64 s1.2.2)])), (900002, some (x1 2, .arr 7 ((s1.1.set i1 ({ s1.1.getD i1 default with From := (spec_l1Max ((s1.1.getD i1 default).From) (p1.getD i1 default)) } : FlyStep)).map FlyStep.row)))], 69⟩) (fun f => by kernel_rfl) (fun f => by kernel_rfl) (fun f => by kernel_rfl) fun f8 => ?_
        refine w_sub (s := ⟨[(1, .one (.c (.sl .bor 1 (p1.map Int.row)))), (4, .one (.pt 4 (x1 0) 0)), (5, .one (.pt 5 (x1 1) 0)), (6, .one (.c (.v (.int .i64 ((i1 : Nat) : Int)))))], [(4, some (x1 0, .box [.v (.int .i64 0), .v (.int .i64 0), .nl, .v (.int .i64 0), .v (.int .i64 0)])), (5, some (x1 1, .box [.v (.int .i64 ((spec_l2Copy p0).Kind.Quick)), .v (.int .i64 ((spec_l2Copy p0).Kind.Slow)), .mu 900002 (x1 2) 7 0 ((s1.1.set i1 ({ s1.1.getD i1 default with From := (spec_l1Max ((s1.1.getD i1 default).From) (p1.getD i1 default)) } : FlyStep)).map FlyStep.row).length, .v (.int .i64 s1.2.1), .v (.int .i64 s1.2.2)])), (900002, some (x1 2, .arr 7 ((s1.1.set i1 ({ s1.1.getD i1 default with From := (spec_l1Max ((s1.1.getD i1 default).From) (p1.getD i1 default)) } : FlyStep)).map FlyStep.row)))], 69⟩) (cst (by simp only [LN, spec_l2Copy, spec_l6Held_v1]) (sb (s := ⟨[(1, .one (.c (.sl .bor 1 (p1.map Int.row)))), (4, .one (.pt 4 (x1 0) 0)), (5, .one (.pt 5 (x1 1) 0)), (6, .one (.c (.v (.int .i64 ((i1 : Nat) : Int)))))], [(4, some (x1 0, .box [.v (.int .i64 0), .v (.int .i64 0), .nl, .v (.int .i64 0), .v (.int .i64 0)])), (5, some (x1 1, .box [.v (.int .i64 ((spec_l2Copy p0).Kind.Quick)), .v (.int .i64 ((spec_l2Copy p0).Kind.Slow)), .mu 900002 (x1 2) 7 0 (s1.1.map FlyStep.row).length, .v (.int .i64 s1.2.1), .v (.int .i64 s1.2.2)])), (900002, some (x1 2, .arr 7 ((s1.1.set i1 ({ s1.1.getD i1 default with From := (spec_l1Max ((s1.1.getD i1 default).From) (p1.getD i1 default)) } : FlyStep)).map FlyStep.row)))], 69⟩) (by kernel_rfl))) ?_
        refine xd hT hM [ix FlyStep.row (s1.1.set i1 ({ s1.1.getD i1 default with From := (spec_l1Max ((s1.1.getD i1 default).From) (p1.getD i1 default)) } : FlyStep)) i1 (by (first | omega | ((try simp only [LN, spec_l2Copy, spec_l6Held_v1]); omega) | ((try simp only [wr, IntKind.wrap_i64, LN, spec_l2Copy, spec_l6Held_v1] at *); omega) | (simp_all <;> omega))), ix FlyStep.row (s1.1.set i1 ({ s1.1.getD i1 default with From := (spec_l1Max ((s1.1.getD i1 default).From) (p1.getD i1 default)) } : FlyStep)) i1 (by (first | omega | ((try simp only [LN, spec_l2Copy, spec_l6Held_v1]); omega) | ((try simp only [wr, IntKind.wrap_i64, LN, spec_l2Copy, spec_l6Held_v1] at *); omega) | (simp_all <;> omega))), ix Int.row p1 i1 (by omega), ca (c73 (((s1.1.set i1 ({ s1.1.getD i1 default with From := (spec_l1Max ((s1.1.getD i1 default).From) (p1.getD i1 default)) } : FlyStep)).getD i1 default).By) (p1.getD i1 default)), ix FlyStep.row (s1.1.set i1 ({ s1.1.getD i1 default with From := (spec_l1Max ((s1.1.getD i1 default).From) (p1.getD i1 default)) } : FlyStep)) i1 (by (first | omega | ((try simp only [LN, spec_l2Copy, spec_l6Held_v1]); omega) | ((try simp only [wr, IntKind.wrap_i64, LN, spec_l2Copy, spec_l6Held_v1] at *); omega) | (simp_all <;> omega))), .st inferInstance true FlyStep.row (s1.1.set i1 ({ s1.1.getD i1 default with From := (spec_l1Max ((s1.1.getD i1 default).From) (p1.getD i1 default)) } : FlyStep)) i1 ({ (s1.1.set i1 ({ s1.1.getD i1 default with From := (spec_l1Max ((s1.1.getD i1 default).From) (p1.getD i1 default)) } : FlyStep)).getD i1 default with By := (spec_l1Min (((s1.1.set i1 ({ s1.1.getD i1 default with From := (spec_l1Max ((s1.1.getD i1 default).From) (p1.getD i1 default)) } : FlyStep)).getD i1 default).By) (p1.getD i1 default)) } : FlyStep) (fun h => by (first | omega | ((try simp only [LN, spec_l2Copy, spec_l6Held_v1]); omega) | ((try simp only [wr, IntKind.wrap_i64, LN, spec_l2Copy, spec_l6Held_v1] at *); omega) | (simp_all <;> omega)))] (fun f9 => ⟨[(1, .one (.c (.sl .bor 1 (p1.map Int.row)))), (4, .one (.pt 4 (x1 0) 0)), (5, .one (.pt 5 (x1 1) 0)), (6, .one (.c (.v (.int .i64 ((i1 : Nat) : Int)))))], [(4, some (x1 0, .box [.v (.int .i64 0), .v (.int .i64 0), .nl, .v (.int .i64 0), .v (.int .i64 0)])), (5, some (x1 1, .box [.v (.int .i64 ((spec_l2Copy p0).Kind.Quick)), .v (.int .i64 ((spec_l2Copy p0).Kind.Slow)), .mu 900002 (x1 2) 7 0 ((s1.1.set i1 ({ s1.1.getD i1 default with From := (spec_l1Max ((s1.1.getD i1 default).From) (p1.getD i1 default)) } : FlyStep)).map FlyStep.row).length, .v (.int .i64 s1.2.1), .v (.int .i64 s1.2.2)])), (900002, some (x1 2, .arr 7 ((spec_l6Held_v1 p1 i1 s1).map FlyStep.row)))], 69⟩) (fun f => by kernel_rfl) (fun f => by kernel_rfl) (fun f => by kernel_rfl) fun f9 => ?_
        refine w_sub (s := ⟨[(1, .one (.c (.sl .bor 1 (p1.map Int.row)))), (4, .one (.pt 4 (x1 0) 0)), (5, .one (.pt 5 (x1 1) 0)), (6, .one (.c (.v (.int .i64 ((i1 : Nat) : Int)))))], [(4, some (x1 0, .box [.v (.int .i64 0), .v (.int .i64 0), .nl, .v (.int .i64 0), .v (.int .i64 0)])), (5, some (x1 1, .box [.v (.int .i64 ((spec_l2Copy p0).Kind.Quick)), .v (.int .i64 ((spec_l2Copy p0).Kind.Slow)), .mu 900002 (x1 2) 7 0 ((spec_l6Held_v1 p1 i1 s1).map FlyStep.row).length, .v (.int .i64 s1.2.1), .v (.int .i64 s1.2.2)])), (900002, some (x1 2, .arr 7 ((spec_l6Held_v1 p1 i1 s1).map FlyStep.row)))], 69⟩) (cst (by simp only [LN, spec_l2Copy, spec_l6Held_v1]) (sb (s := ⟨[(1, .one (.c (.sl .bor 1 (p1.map Int.row)))), (4, .one (.pt 4 (x1 0) 0)), (5, .one (.pt 5 (x1 1) 0)), (6, .one (.c (.v (.int .i64 ((i1 : Nat) : Int)))))], [(4, some (x1 0, .box [.v (.int .i64 0), .v (.int .i64 0), .nl, .v (.int .i64 0), .v (.int .i64 0)])), (5, some (x1 1, .box [.v (.int .i64 ((spec_l2Copy p0).Kind.Quick)), .v (.int .i64 ((spec_l2Copy p0).Kind.Slow)), .mu 900002 (x1 2) 7 0 ((s1.1.set i1 ({ s1.1.getD i1 default with From := (spec_l1Max ((s1.1.getD i1 default).From) (p1.getD i1 default)) } : FlyStep)).map FlyStep.row).length, .v (.int .i64 s1.2.1), .v (.int .i64 s1.2.2)])), (900002, some (x1 2, .arr 7 ((spec_l6Held_v1 p1 i1 s1).map FlyStep.row)))], 69⟩) (by kernel_rfl))) ?_
        refine w_exit ?_
        refine x_reg hT [.ex true (((i1 : Nat) : Int) + ((1 : Nat) : Int)) ((((i1 + 1) : Nat) : Int)) (fun _ => wr_nat (n := i1) (c := 1) (by omega))] (fun f10 => spec_l6Held_I1 p0 p1 fs (i1 + 1) ((spec_l6Held_v1 p1 i1 s1), s1.2.1, s1.2.2) (lst [x1 0, x1 1, x1 2])) (fun f => by kernel_rfl) (fun f => by kernel_rfl) fun f10 s' hs' => ?_
        exact ⟨((spec_l6Held_v1 p1 i1 s1), s1.2.1, s1.2.2), (lst [x1 0, x1 1, x1 2]), hl1, (by (try simp only [LN, spec_l2Copy, spec_l6Held_v1] at *); omega), hX1.trans (forN_next hl1 (hB1.symm.trans hE1)), hs'⟩
      rw [if_neg (nt h7)] at hE1
      have gh7 := of_decide_eq_false h7
      refine w_skip ?_
      refine xd hT hM [ix Int.row p1 i1 (by omega), ca (c65 s1.2.1 (p1.getD i1 default))] (fun f11 => ⟨[(1, .one (.c (.sl .bor 1 (p1.map Int.row)))), (4, .one (.pt 4 (x1 0) 0)), (5, .one (.pt 5 (x1 1) 0)), (6, .one (.c (.v (.int .i64 ((i1 : Nat) : Int)))))], [(4, some (x1 0, .box [.v (.int .i64 0), .v (.int .i64 0), .nl, .v (.int .i64 0), .v (.int .i64 0)])), (5, some (x1 1, .box [.v (.int .i64 ((spec_l2Copy p0).Kind.Quick)), .v (.int .i64 ((spec_l2Copy p0).Kind.Slow)), .mu 900002 (x1 2) 7 0 (s1.1.map FlyStep.row).length, .v (.int .i64 (spec_l1Max s1.2.1 (p1.getD i1 default))), .v (.int .i64 s1.2.2)])), (900002, some (x1 2, .arr 7 (s1.1.map FlyStep.row)))], 69⟩) (fun f => by kernel_rfl) (fun f => by kernel_rfl) (fun f => by kernel_rfl) fun f11 => ?_
      refine xd1 (fun _ => rfl) hT hM [ix Int.row p1 i1 (by omega), ca (c73 s1.2.2 (p1.getD i1 default))] (fun f12 => ⟨[(1, .one (.c (.sl .bor 1 (p1.map Int.row)))), (4, .one (.pt 4 (x1 0) 0)), (5, .one (.pt 5 (x1 1) 0)), (6, .one (.c (.v (.int .i64 ((i1 : Nat) : Int)))))], [(4, some (x1 0, .box [.v (.int .i64 0), .v (.int .i64 0), .nl, .v (.int .i64 0), .v (.int .i64 0)])), (5, some (x1 1, .box [.v (.int .i64 ((spec_l2Copy p0).Kind.Quick)), .v (.int .i64 ((spec_l2Copy p0).Kind.Slow)), .mu 900002 (x1 2) 7 0 (s1.1.map FlyStep.row).length, .v (.int .i64 (spec_l1Max s1.2.1 (p1.getD i1 default))), .v (.int .i64 (spec_l1Min s1.2.2 (p1.getD i1 default)))])), (900002, some (x1 2, .arr 7 (s1.1.map FlyStep.row)))], 69⟩) (fun f => by kernel_rfl) (fun f => by kernel_rfl) (fun f => by kernel_rfl) fun f12 => ?_
      refine x_reg hT [.ex true (((i1 : Nat) : Int) + ((1 : Nat) : Int)) ((((i1 + 1) : Nat) : Int)) (fun _ => wr_nat (n := i1) (c := 1) (by omega))] (fun f13 => spec_l6Held_I1 p0 p1 fs (i1 + 1) (s1.1, (spec_l1Max s1.2.1 (p1.getD i1 default)), (spec_l1Min s1.2.2 (p1.getD i1 default))) (lst [x1 0, x1 1, x1 2])) (fun f => by kernel_rfl) (fun f => by kernel_rfl) fun f13 s' hs' => ?_
      exact ⟨(s1.1, (spec_l1Max s1.2.1 (p1.getD i1 default)), (spec_l1Min s1.2.2 (p1.getD i1 default))), (lst [x1 0, x1 1, x1 2]), hl1, (by (try simp only [LN, spec_l2Copy, spec_l6Held_v1] at *); omega), hX1.trans (forN_next hl1 (hB1.symm.trans hE1)), hs'⟩
    have hq := of_decide_eq_false h5
    refine w_exit ?_
    exact ⟨s1, (lst [x1 0, x1 1, x1 2]), (by (try simp only [LN, spec_l2Copy, spec_l6Held_v1] at *); omega), hX1.trans (forN_end (by first | omega | ((try simp only [LN, spec_l2Copy, spec_l6Held_v1] at *); omega))), sb (by kernel_rfl)⟩
  intro s1 x1 hF16 hR14
  try simp only [LN, spec_l2Copy, spec_l6Held_v1] at hF16
  rw [spec_l6Held_r1] at hR14
  refine xr hT [] (fun f15 => ⟨[(4, .one (.pt 4 (x1 0) 0))], [(4, some (x1 0, .box [.v (.int .i64 ((spec_l2Copy p0).Kind.Quick)), .v (.int .i64 ((spec_l2Copy p0).Kind.Slow)), .mu 900002 (x1 2) 7 0 (s1.1.map FlyStep.row).length, .v (.int .i64 s1.2.1), .v (.int .i64 s1.2.2)])), (900002, some (x1 2, .arr 7 (s1.1.map FlyStep.row)))], 69⟩) (fun f => by kernel_rfl) (fun f => by kernel_rfl) fun f15 => ?_
  refine w_ret ?_
  subst hR14
  exact x_ret (by kernel_rfl)
theorem f_spec_l6Held (p0 : FlyPath) (p1 : List Int) (_ : FlyPath.ok p0) (_ : p1.length ≤ 1048576) : (spec_l6Held p0 p1).Steps.length = p0.Steps.length := by
  unfold spec_l6Held
  refine forN_inv (fun (i : Nat) (s : List FlyStep × Int × Int) => s.1.length = p0.Steps.length) (fun (r : FlyPath) => r.Steps.length = p0.Steps.length) p1.length (fun j s hj h => ?_) (fun s h => h) _ 0 _ rfl (Nat.zero_le _) rfl
  unfold spec_l6Held_b1
  simp only [all_ite, all_next, all_brk, all_ret]
  (try simp only [LN, spec_l2Copy, spec_l6Held_v1])
  simp [h]

/-- spec.FlyKindOk -/
def spec_FlyKindOk (p0 : FlyKind) : Bool := (spec_l1In p0.Quick 1 p0.Slow) && (decide (p0.Slow ≤ 50))
theorem c74 (p0 : FlyKind) : Fn Proofs.Try.prog 74 [⟨.val, true, FlyKind.cs .bor p0⟩] [.c (.v (.bool (spec_FlyKindOk p0)))] [] := by
  obtain ⟨R, hR⟩ : ∃ R, R = spec_FlyKindOk p0 := ⟨_, rfl⟩
  rw [← hR]
  rw [spec_FlyKindOk] at hR
  refine ⟨fn_intro hT Proofs.Try.func74 rfl rfl fun fs => ?_, _, Proofs.Try.func74, rfl, rfl⟩
  refine xr hT [] (fun f1 => ⟨[(1, .one (.pt 1 (f1 0 0) 0))], [(1, some (f1 0 0, .box (FlyKind.cs .bor p0)))], 13⟩) (fun f => by kernel_rfl) (fun f => by kernel_rfl) fun f1 => ?_
  refine xr hT [ca (c39 p0.Quick 1 p0.Slow)] (fun f2 => ⟨[(2, .one (.c (.v (.bool ((spec_l1In p0.Quick 1 p0.Slow) && (decide (p0.Slow ≤ 50)))))))], [], 13⟩) (fun f => by kernel_rfl) (fun f => by kernel_rfl) fun f2 => ?_
  refine w_ret ?_
  subst hR
  exact x_ret (by kernel_rfl)

def spec_l2StepOk_v1 (p0 : FlyStep) : Bool := (((((spec_l1In p0.X 0 15) && (spec_l1In p0.Y 0 15)) && (spec_l1In p0.Low 0 p0.High)) && (decide (p0.High ≤ 6))) && (spec_l1In p0.From 0 p0.By)) && (decide (p0.By ≤ 10000))
/-- spec.l2StepOk -/
def spec_l2StepOk (p0 : FlyStep) : Bool := (spec_l2StepOk_v1 p0)
theorem c75 (p0 : FlyStep) : Fn Proofs.Try.prog 75 [⟨.val, true, FlyStep.cs .bor p0⟩] [.c (.v (.bool (spec_l2StepOk p0)))] [] := by
  obtain ⟨R, hR⟩ : ∃ R, R = spec_l2StepOk p0 := ⟨_, rfl⟩
  rw [← hR]
  rw [spec_l2StepOk] at hR
  refine ⟨fn_intro hT Proofs.Try.func75 rfl rfl fun fs => ?_, _, Proofs.Try.func75, rfl, rfl⟩
  refine xr hT [] (fun f1 => ⟨[(1, .one (.pt 1 (f1 0 0) 0))], [(1, some (f1 0 0, .box (FlyStep.cs .bor p0)))], 35⟩) (fun f => by kernel_rfl) (fun f => by kernel_rfl) fun f1 => ?_
  refine xr hT [ca (c39 p0.X 0 15), cg (spec_l1In p0.X 0 15) (fun _ => c39 p0.Y 0 15), cg ((spec_l1In p0.X 0 15) && (spec_l1In p0.Y 0 15)) (fun _ => c39 p0.Low 0 p0.High), cg ((((spec_l1In p0.X 0 15) && (spec_l1In p0.Y 0 15)) && (spec_l1In p0.Low 0 p0.High)) && (decide (p0.High ≤ 6))) (fun _ => c39 p0.From 0 p0.By)] (fun f2 => ⟨[(2, .one (.c (.v (.bool (spec_l2StepOk_v1 p0)))))], [], 35⟩) (fun f => by kernel_rfl) (fun f => by kernel_rfl) fun f2 => ?_
  refine w_ret ?_
  subst hR
  exact x_ret (by kernel_rfl)

def spec_l2Next_v1 (p0 : FlyStep) (p1 : FlyStep) : Bool := ((((spec_l1In (wr (p0.X - p1.X)) (-1) 1) && (spec_l1In (wr (p0.Y - p1.Y)) (-1) 1)) && ((!decide (p0.X = p1.X)) || (!decide (p0.Y = p1.Y)))) && (decide (p0.Low ≤ p1.High))) && (decide (p1.Low ≤ p0.High))
/-- spec.l2Next -/
def spec_l2Next (p0 : FlyStep) (p1 : FlyStep) : Bool := (spec_l2Next_v1 p0 p1)
theorem c76 (p0 : FlyStep) (p1 : FlyStep) : Fn Proofs.Try.prog 76 [⟨.val, true, FlyStep.cs .bor p0⟩, ⟨.val, true, FlyStep.cs .bor p1⟩] [.c (.v (.bool (spec_l2Next p0 p1)))] [] := by
  obtain ⟨R, hR⟩ : ∃ R, R = spec_l2Next p0 p1 := ⟨_, rfl⟩
  rw [← hR]
  rw [spec_l2Next] at hR
  refine ⟨fn_intro hT Proofs.Try.func76 rfl rfl fun fs => ?_, _, Proofs.Try.func76, rfl, rfl⟩
  refine xr hT [] (fun f1 => ⟨[(2, .one (.pt 2 (f1 0 0) 0)), (3, .one (.pt 3 (f1 1 0) 0))], [(2, some (f1 0 0, .box (FlyStep.cs .bor p0))), (3, some (f1 1 0, .box (FlyStep.cs .bor p1)))], 47⟩) (fun f => by kernel_rfl) (fun f => by kernel_rfl) fun f1 => ?_
  refine xr hT [.wr, ca (c39 (wr (p0.X - p1.X)) (-1) 1), .wr, cg (spec_l1In (wr (p0.X - p1.X)) (-1) 1) (fun _ => c39 (wr (p0.Y - p1.Y)) (-1) 1)] (fun f2 => ⟨[(4, .one (.c (.v (.bool (spec_l2Next_v1 p0 p1)))))], [], 47⟩) (fun f => by kernel_rfl) (fun f => by kernel_rfl) fun f2 => ?_
  refine w_ret ?_
  subst hR
  exact x_ret (by kernel_rfl)

def spec_FlyPathOk_I1 (p0 : FlyPath) (fs : Nat → Nat → Nat) (i1 : Nat) (s1 : Unit) (x1 : Nat → Nat) : St := ⟨[(1, .one (.pt 1 (x1 0) 0)), (3, .one (.c (.v (.int .i64 ((i1 : Nat) : Int)))))], [(1, some (x1 0, .box (FlyPath.cs .bor p0)))], 61⟩
def spec_FlyPathOk_J1 (p0 : FlyPath) (fs : Nat → Nat → Nat) (s1 : Unit) (x1 : Nat → Nat) : St := ⟨[], [], 61⟩
def spec_FlyPathOk_v1 (p0 : FlyPath) (i1 : Nat) : Bool := (!(spec_l2StepOk (p0.Steps.getD i1 default))) || ((decide (0 < ((i1 : Nat) : Int))) && (!(spec_l2Next (p0.Steps.getD ((((i1 : Nat) : Int) - 1).toNat) default) (p0.Steps.getD i1 default))))
def spec_FlyPathOk_b1 (p0 : FlyPath) (i1 : Nat) (s1 : Unit) : Res (Unit) Bool := (if (spec_FlyPathOk_v1 p0 i1) then (.ret false) else (.next ()))
def spec_FlyPathOk_r1 (p0 : FlyPath) (s1 : Unit) : Bool := true
/-- spec.FlyPathOk -/
def spec_FlyPathOk (p0 : FlyPath) : Bool := (if (((!(spec_FlyKindOk p0.Kind)) || (!(spec_l1In (p0.Steps.length : Int) 1 40))) || (!(spec_l1In p0.From 0 p0.By))) || (decide (10000 < p0.By)) then false else (Res.fin (spec_FlyPathOk_r1 p0) (forN (spec_FlyPathOk_b1 p0) (p0.Steps.length - 0) 0 ())))
theorem c61 (p0 : FlyPath) (k0_0 : FlyPath.ok p0) : Fn Proofs.Try.prog 61 [⟨.val, true, FlyPath.cs .bor p0⟩] [.c (.v (.bool (spec_FlyPathOk p0)))] [] := by
  obtain ⟨R, hR⟩ : ∃ R, R = spec_FlyPathOk p0 := ⟨_, rfl⟩
  rw [← hR]
  rw [spec_FlyPathOk] at hR
  refine ⟨fn_intro hT Proofs.Try.func61 rfl rfl fun fs => ?_, _, Proofs.Try.func61, rfl, rfl⟩
  have q0 := k0_0; simp only [FlyPath.ok] at q0
  refine xr hT [] (fun f1 => ⟨[(1, .one (.pt 1 (f1 0 0) 0))], [(1, some (f1 0 0, .box (FlyPath.cs .bor p0)))], 61⟩) (fun f => by kernel_rfl) (fun f => by kernel_rfl) fun f1 => ?_
  refine w_seq ?_
  refine xr hT [ca (c74 p0.Kind), .ln FlyStep.row p0.Steps, cg (!(!(spec_FlyKindOk p0.Kind))) (fun _ => c39 (p0.Steps.length : Int) 1 40), cg (!((!(spec_FlyKindOk p0.Kind)) || (!(spec_l1In (p0.Steps.length : Int) 1 40)))) (fun _ => c39 p0.From 0 p0.By)] (fun f2 => ⟨[(1, .one (.pt 1 (f1 0 0) 0)), (27, .one (.c (.v (.bool ((((!(spec_FlyKindOk p0.Kind)) || (!(spec_l1In (p0.Steps.length : Int) 1 40))) || (!(spec_l1In p0.From 0 p0.By))) || (decide (10000 < p0.By)))))))], [(1, some (f1 0 0, .box (FlyPath.cs .bor p0)))], 61⟩) (fun f => by kernel_rfl) (fun f => by kernel_rfl) fun f2 => ?_
  refine w_cond rfl (fun h3 => ?_) fun h3 => ?_
  · rw [if_pos h3] at hR
    have gh3 := h3; try simp only [spec_l1In, Bool.not_eq_true', Bool.not_eq_false', decide_eq_true_eq, decide_eq_false_iff_not, Bool.and_eq_true, Bool.or_eq_true, Bool.and_eq_false_iff, Bool.or_eq_false_iff] at gh3
    refine xr hT [] (fun f4 => ⟨[(2, .one (.c (.v (.bool false))))], [], 61⟩) (fun f => by kernel_rfl) (fun f => by kernel_rfl) fun f4 => ?_
    refine w_ret ?_
    subst hR
    exact x_ret (by kernel_rfl)
  rw [if_neg (nt h3)] at hR
  have gh3 := h3; try simp only [spec_l1In, Bool.not_eq_true', Bool.not_eq_false', decide_eq_true_eq, decide_eq_false_iff_not, Bool.and_eq_true, Bool.or_eq_true, Bool.and_eq_false_iff, Bool.or_eq_false_iff] at gh3
  refine w_skip ?_
  refine w_seq ?_
  refine xr hT [] (fun f5 => ⟨[(1, .one (.pt 1 (f1 0 0) 0)), (3, .one (.c (.v (.int .i64 0))))], [(1, some (f1 0 0, .box (FlyPath.cs .bor p0)))], 61⟩) (fun f => by kernel_rfl) (fun f => by kernel_rfl) fun f5 => ?_
  refine w_forT (fun _ => rfl) (spec_FlyPathOk_I1 p0 fs) (spec_FlyPathOk_J1 p0 fs) (fun i1 s1 => True) (fun s1 => True) (p0.Steps.length) 0 (spec_FlyPathOk_b1 p0) (spec_FlyPathOk_r1 p0) 0 (()) (lst [f1 0 0]) (sb (by kernel_rfl)) trivial hR ?_ ?_
  · skip
    intro i1 s1 x1 hI1 hX1
    refine w_seq ?_
    refine xr hT [.ln FlyStep.row p0.Steps] (fun f6 => ⟨[(1, .one (.pt 1 (x1 0) 0)), (3, .one (.c (.v (.int .i64 ((i1 : Nat) : Int))))), (32, .one (.c (.v (.bool (decide (((i1 : Nat) : Int) < (p0.Steps.length : Int)))))))], [(1, some (x1 0, .box (FlyPath.cs .bor p0)))], 61⟩) (fun f => by kernel_rfl) (fun f => by kernel_rfl) fun f6 => ?_
    refine w_cond rfl (fun h7 => ?_) fun h7 => ?_
    · skip
      have hl1 : i1 < p0.Steps.length := by have hq := of_decide_eq_true h7; first | omega | ((try simp only [LN, spec_FlyKindOk, spec_FlyPathOk_v1] at *); omega)
      obtain ⟨B1, hB1⟩ : ∃ B, B = spec_FlyPathOk_b1 p0 i1 s1 := ⟨_, rfl⟩
      have hE1 := hB1
      rw [spec_FlyPathOk_b1] at hE1
      refine w_skip ?_
      refine w_seq ?_
      refine w_block ?_
      refine xd hT hM [ix FlyStep.row p0.Steps i1 (by omega), ca (c75 (p0.Steps.getD i1 default)), .ex (decide (0 < ((i1 : Nat) : Int)) && !(!(spec_l2StepOk (p0.Steps.getD i1 default)))) (((i1 : Nat) : Int) - 1) (((i1 : Nat) : Int) - 1) (fun h => by (try simp only [Bool.and_eq_true, Bool.or_eq_true, decide_eq_true_eq, Bool.not_eq_true', decide_eq_false_iff_not] at h); exact wr_eq (by omega) (by omega)), izg (decide (0 < ((i1 : Nat) : Int)) && !(!(spec_l2StepOk (p0.Steps.getD i1 default)))) FlyStep.row p0.Steps (((i1 : Nat) : Int) - 1) (fun h => by (try simp only [Bool.and_eq_true, Bool.or_eq_true, decide_eq_true_eq, Bool.not_eq_true', decide_eq_false_iff_not] at h); omega), ig (decide (0 < ((i1 : Nat) : Int)) && !(!(spec_l2StepOk (p0.Steps.getD i1 default)))) FlyStep.row p0.Steps i1 (fun h => by (try simp only [Bool.and_eq_true, Bool.or_eq_true, decide_eq_true_eq, Bool.not_eq_true', decide_eq_false_iff_not] at h); omega), cg (decide (0 < ((i1 : Nat) : Int)) && !(!(spec_l2StepOk (p0.Steps.getD i1 default)))) (fun _ => c76 (p0.Steps.getD ((((i1 : Nat) : Int) - 1).toNat) default) (p0.Steps.getD i1 default))] (fun f8 => ⟨[(1, .one (.pt 1 (x1 0) 0)), (3, .one (.c (.v (.int .i64 ((i1 : Nat) : Int))))), (60, .one (.c (.v (.bool (spec_FlyPathOk_v1 p0 i1)))))], [(1, some (x1 0, .box (FlyPath.cs .bor p0)))], 61⟩) (fun f => by kernel_rfl) (fun f => by kernel_rfl) (fun f => by kernel_rfl) fun f8 => ?_
      refine w_cond rfl (fun h9 => ?_) fun h9 => ?_
      · rw [if_pos h9] at hE1
        have gh9 := h9; try simp only [spec_FlyPathOk_v1, Bool.not_eq_true', Bool.not_eq_false', decide_eq_true_eq, decide_eq_false_iff_not, Bool.and_eq_true, Bool.or_eq_true, Bool.and_eq_false_iff, Bool.or_eq_false_iff] at gh9
        refine xr hT [] (fun f10 => ⟨[(2, .one (.c (.v (.bool false))))], [], 61⟩) (fun f => by kernel_rfl) (fun f => by kernel_rfl) fun f10 => ?_
        refine w_ret ?_
        have hR := hX1.trans (forN_ret hl1 (hB1.symm.trans hE1))
        subst hR
        exact x_ret (by kernel_rfl)
      rw [if_neg (nt h9)] at hE1
      have gh9 := h9; try simp only [spec_FlyPathOk_v1, Bool.not_eq_true', Bool.not_eq_false', decide_eq_true_eq, decide_eq_false_iff_not, Bool.and_eq_true, Bool.or_eq_true, Bool.and_eq_false_iff, Bool.or_eq_false_iff] at gh9
      refine w_skip ?_
      refine x_reg hT [.ex true (((i1 : Nat) : Int) + ((1 : Nat) : Int)) ((((i1 + 1) : Nat) : Int)) (fun _ => wr_nat (n := i1) (c := 1) (by omega))] (fun f11 => spec_FlyPathOk_I1 p0 fs (i1 + 1) () (lst [x1 0])) (fun f => by kernel_rfl) (fun f => by kernel_rfl) fun f11 s' hs' => ?_
      exact ⟨(), (lst [x1 0]), hl1, trivial, hX1.trans (forN_next hl1 (hB1.symm.trans hE1)), hs'⟩
    have hq := of_decide_eq_false h7
    refine w_exit ?_
    exact ⟨s1, (lst [x1 0]), trivial, hX1.trans (forN_end (by first | omega | ((try simp only [LN, spec_FlyKindOk, spec_FlyPathOk_v1] at *); omega))), sb (by kernel_rfl)⟩
  intro s1 x1 hF14 hR12
  rw [spec_FlyPathOk_r1] at hR12
  refine xr hT [] (fun f13 => ⟨[(2, .one (.c (.v (.bool true))))], [], 61⟩) (fun f => by kernel_rfl) (fun f => by kernel_rfl) fun f13 => ?_
  refine w_ret ?_
  subst hR12
  exact x_ret (by kernel_rfl)

/-- spec.l3Low -/
def spec_l3Low (p0 : FlyPath) (p1 : Int) : Int := (if decide (p1 < (p0.Steps.length : Int)) then (p0.Steps.getD ((p1).toNat) default).From else p0.From)
theorem c84 (p0 : FlyPath) (p1 : Int) (k0_0 : FlyPath.ok p0) (h0 : 0 ≤ p1) (h1 : p1 ≤ (p0.Steps.length : Int)) : Fn Proofs.Try.prog 84 [⟨.val, true, FlyPath.cs .bor p0⟩, ⟨.val, false, [.v (.int .i64 p1)]⟩] [.c (.v (.int .i64 (spec_l3Low p0 p1)))] [] := by
  obtain ⟨R, hR⟩ : ∃ R, R = spec_l3Low p0 p1 := ⟨_, rfl⟩
  rw [← hR]
  rw [spec_l3Low] at hR
  refine ⟨fn_intro hT Proofs.Try.func84 rfl rfl fun fs => ?_, _, Proofs.Try.func84, rfl, rfl⟩
  have q0 := k0_0; simp only [FlyPath.ok] at q0
  refine xr hT [] (fun f1 => ⟨[(1, .one (.c (.v (.int .i64 p1)))), (2, .one (.pt 2 (f1 0 0) 0))], [(2, some (f1 0 0, .box (FlyPath.cs .bor p0)))], 18⟩) (fun f => by kernel_rfl) (fun f => by kernel_rfl) fun f1 => ?_
  refine w_seq ?_
  refine xr hT [.ln FlyStep.row p0.Steps] (fun f2 => ⟨[(1, .one (.c (.v (.int .i64 p1)))), (2, .one (.pt 2 (f1 0 0) 0)), (9, .one (.c (.v (.bool (decide (p1 < (p0.Steps.length : Int)))))))], [(2, some (f1 0 0, .box (FlyPath.cs .bor p0)))], 18⟩) (fun f => by kernel_rfl) (fun f => by kernel_rfl) fun f2 => ?_
  refine w_cond rfl (fun h3 => ?_) fun h3 => ?_
  · rw [if_pos h3] at hR
    have gh3 := of_decide_eq_true h3
    refine xr hT [iz FlyStep.row p0.Steps (p1) (by omega)] (fun f4 => ⟨[(4, .one (.c (.v (.int .i64 ((p0.Steps.getD ((p1).toNat) default).From)))))], [], 18⟩) (fun f => by kernel_rfl) (fun f => by kernel_rfl) fun f4 => ?_
    refine w_ret ?_
    subst hR
    exact x_ret (by kernel_rfl)
  rw [if_neg (nt h3)] at hR
  have gh3 := of_decide_eq_false h3
  refine w_skip ?_
  refine xr hT [] (fun f5 => ⟨[(4, .one (.c (.v (.int .i64 p0.From))))], [], 18⟩) (fun f => by kernel_rfl) (fun f => by kernel_rfl) fun f5 => ?_
  refine w_ret ?_
  subst hR
  exact x_ret (by kernel_rfl)

/-- spec.l3High -/
def spec_l3High (p0 : FlyPath) (p1 : Int) : Int := (if decide (p1 < (p0.Steps.length : Int)) then (p0.Steps.getD ((p1).toNat) default).By else p0.By)
theorem c85 (p0 : FlyPath) (p1 : Int) (k0_0 : FlyPath.ok p0) (h0 : 0 ≤ p1) (h1 : p1 ≤ (p0.Steps.length : Int)) : Fn Proofs.Try.prog 85 [⟨.val, true, FlyPath.cs .bor p0⟩, ⟨.val, false, [.v (.int .i64 p1)]⟩] [.c (.v (.int .i64 (spec_l3High p0 p1)))] [] := by
  obtain ⟨R, hR⟩ : ∃ R, R = spec_l3High p0 p1 := ⟨_, rfl⟩
  rw [← hR]
  rw [spec_l3High] at hR
  refine ⟨fn_intro hT Proofs.Try.func85 rfl rfl fun fs => ?_, _, Proofs.Try.func85, rfl, rfl⟩
  have q0 := k0_0; simp only [FlyPath.ok] at q0
  refine xr hT [] (fun f1 => ⟨[(1, .one (.c (.v (.int .i64 p1)))), (2, .one (.pt 2 (f1 0 0) 0))], [(2, some (f1 0 0, .box (FlyPath.cs .bor p0)))], 18⟩) (fun f => by kernel_rfl) (fun f => by kernel_rfl) fun f1 => ?_
  refine w_seq ?_
  refine xr hT [.ln FlyStep.row p0.Steps] (fun f2 => ⟨[(1, .one (.c (.v (.int .i64 p1)))), (2, .one (.pt 2 (f1 0 0) 0)), (9, .one (.c (.v (.bool (decide (p1 < (p0.Steps.length : Int)))))))], [(2, some (f1 0 0, .box (FlyPath.cs .bor p0)))], 18⟩) (fun f => by kernel_rfl) (fun f => by kernel_rfl) fun f2 => ?_
  refine w_cond rfl (fun h3 => ?_) fun h3 => ?_
  · rw [if_pos h3] at hR
    have gh3 := of_decide_eq_true h3
    refine xr hT [iz FlyStep.row p0.Steps (p1) (by omega)] (fun f4 => ⟨[(4, .one (.c (.v (.int .i64 ((p0.Steps.getD ((p1).toNat) default).By)))))], [], 18⟩) (fun f => by kernel_rfl) (fun f => by kernel_rfl) fun f4 => ?_
    refine w_ret ?_
    subst hR
    exact x_ret (by kernel_rfl)
  rw [if_neg (nt h3)] at hR
  have gh3 := of_decide_eq_false h3
  refine w_skip ?_
  refine xr hT [] (fun f5 => ⟨[(4, .one (.c (.v (.int .i64 p0.By))))], [], 18⟩) (fun f => by kernel_rfl) (fun f => by kernel_rfl) fun f5 => ?_
  refine w_ret ?_
  subst hR
  exact x_ret (by kernel_rfl)

/-- spec.l3Most -/
def spec_l3Most (p0 : FlyPath) (p1 : Int) : Int := (if (p0.Steps.getD ((p1).toNat) default).Hold then 10000 else p0.Kind.Slow)
theorem c86 (p0 : FlyPath) (p1 : Int) (k0_0 : FlyPath.ok p0) (h0 : 0 ≤ p1) (h1 : p1 < (p0.Steps.length : Int)) : Fn Proofs.Try.prog 86 [⟨.val, true, FlyPath.cs .bor p0⟩, ⟨.val, false, [.v (.int .i64 p1)]⟩] [.c (.v (.int .i64 (spec_l3Most p0 p1)))] [] := by
  obtain ⟨R, hR⟩ : ∃ R, R = spec_l3Most p0 p1 := ⟨_, rfl⟩
  rw [← hR]
  rw [spec_l3Most] at hR
  refine ⟨fn_intro hT Proofs.Try.func86 rfl rfl fun fs => ?_, _, Proofs.Try.func86, rfl, rfl⟩
  have q0 := k0_0; simp only [FlyPath.ok] at q0
  refine xr hT [] (fun f1 => ⟨[(1, .one (.c (.v (.int .i64 p1)))), (2, .one (.pt 2 (f1 0 0) 0))], [(2, some (f1 0 0, .box (FlyPath.cs .bor p0)))], 14⟩) (fun f => by kernel_rfl) (fun f => by kernel_rfl) fun f1 => ?_
  refine w_seq ?_
  refine xr hT [iz FlyStep.row p0.Steps (p1) (by omega)] (fun f2 => ⟨[(2, .one (.pt 2 (f1 0 0) 0)), (10, .one (.c (.v (.bool ((p0.Steps.getD ((p1).toNat) default).Hold)))))], [(2, some (f1 0 0, .box (FlyPath.cs .bor p0)))], 14⟩) (fun f => by kernel_rfl) (fun f => by kernel_rfl) fun f2 => ?_
  refine w_cond rfl (fun h3 => ?_) fun h3 => ?_
  · rw [if_pos h3] at hR
    refine xr hT [] (fun f4 => ⟨[(4, .one (.c (.v (.int .i64 10000))))], [], 14⟩) (fun f => by kernel_rfl) (fun f => by kernel_rfl) fun f4 => ?_
    refine w_ret ?_
    subst hR
    exact x_ret (by kernel_rfl)
  rw [if_neg (nt h3)] at hR
  refine w_skip ?_
  refine xr hT [] (fun f5 => ⟨[(4, .one (.c (.v (.int .i64 p0.Kind.Slow))))], [], 14⟩) (fun f => by kernel_rfl) (fun f => by kernel_rfl) fun f5 => ?_
  refine w_ret ?_
  subst hR
  exact x_ret (by kernel_rfl)

def spec_l4Spans_I1 (p0 : FlyPath) (fs : Nat → Nat → Nat) (i1 : Nat) (s1 : List FlySpan) (x1 : Nat → Nat) : St := ⟨[(1, .one (.pt 1 (x1 0) 0)), (4, .one (.c (.mu 9 (x1 1) 2 0 (s1.map FlySpan.row).length))), (5, .one (.c (.v (.int .i64 (p0.Steps.length : Int))))), (6, .one (.c (.v (.int .i64 ((i1 : Nat) : Int)))))], [(1, some (x1 0, .box (FlyPath.cs .bor p0))), (9, some (x1 1, .arr 2 (s1.map FlySpan.row)))], 125⟩
def spec_l4Spans_J1 (p0 : FlyPath) (fs : Nat → Nat → Nat) (s1 : List FlySpan) (x1 : Nat → Nat) : St := ⟨[(1, .one (.pt 1 (x1 0) 0)), (4, .one (.c (.mu 9 (x1 1) 2 0 (s1.map FlySpan.row).length))), (5, .one (.c (.v (.int .i64 (p0.Steps.length : Int)))))], [(1, some (x1 0, .box (FlyPath.cs .bor p0))), (9, some (x1 1, .arr 2 (s1.map FlySpan.row)))], 125⟩
def spec_l4Spans_v1 (p0 : FlyPath) (i1 : Nat) (s1 : List FlySpan) : Int := (spec_l1Min (spec_l3High p0 ((i1 : Nat) : Int)) (wr (((s1.getD ((((i1 : Nat) : Int) - 1).toNat) default).High) + (spec_l3Most p0 (((i1 : Nat) : Int) - 1)))))
def spec_l4Spans_v2 (p0 : FlyPath) (i1 : Nat) (s1 : List FlySpan) : Bool := decide ((spec_l4Spans_v1 p0 i1 s1) < (spec_l1Max (spec_l3Low p0 ((i1 : Nat) : Int)) (wr (((s1.getD ((((i1 : Nat) : Int) - 1).toNat) default).Low) + p0.Kind.Quick))))
def spec_l4Spans_v3 (p0 : FlyPath) (i1 : Nat) (s1 : List FlySpan) : List FlySpan := s1 ++ [(⟨(spec_l1Max (spec_l3Low p0 ((i1 : Nat) : Int)) (wr (((s1.getD ((((i1 : Nat) : Int) - 1).toNat) default).Low) + p0.Kind.Quick))), (spec_l4Spans_v1 p0 i1 s1)⟩ : FlySpan)]
def spec_l4Spans_b1 (p0 : FlyPath) (i1 : Nat) (s1 : List FlySpan) : Res (List FlySpan) ((List FlySpan) × Bool) := (if decide (0 < ((i1 : Nat) : Int)) then (if (spec_l4Spans_v2 p0 i1 s1) then (.ret (([] : List FlySpan), false)) else (.next (spec_l4Spans_v3 p0 i1 s1))) else (if decide ((spec_l3High p0 ((i1 : Nat) : Int)) < (spec_l3Low p0 ((i1 : Nat) : Int))) then (.ret (([] : List FlySpan), false)) else (.next (s1 ++ [(⟨(spec_l3Low p0 ((i1 : Nat) : Int)), (spec_l3High p0 ((i1 : Nat) : Int))⟩ : FlySpan)]))))
def spec_l4Spans_I2 (p0 : FlyPath) (s1 : List FlySpan) (fs : Nat → Nat → Nat) (s2 : Int × List FlySpan) (x2 : Nat → Nat) : St := ⟨[(1, .one (.pt 1 (x2 0) 0)), (4, .one (.c (.mu 9 (x2 1) 2 0 (s2.2.map FlySpan.row).length))), (8, .one (.c (.v (.int .i64 s2.1))))], [(1, some (x2 0, .box (FlyPath.cs .bor p0))), (9, some (x2 1, .arr 2 (s2.2.map FlySpan.row)))], 125⟩
def spec_l4Spans_J2 (p0 : FlyPath) (s1 : List FlySpan) (fs : Nat → Nat → Nat) (s2 : Int × List FlySpan) (x2 : Nat → Nat) : St := ⟨[(4, .one (.c (.mu 9 (x2 1) 2 0 (s2.2.map FlySpan.row).length)))], [(9, some (x2 1, .arr 2 (s2.2.map FlySpan.row)))], 125⟩
def spec_l4Spans_v4 (p0 : FlyPath) (s2 : Int × List FlySpan) : List FlySpan := s2.2.set ((s2.1).toNat) ({ s2.2.getD ((s2.1).toNat) default with Low := (spec_l1Max ((s2.2.getD ((s2.1).toNat) default).Low) (wr (((s2.2.getD ((s2.1 + 1).toNat) default).Low) - (spec_l3Most p0 s2.1)))) } : FlySpan)
def spec_l4Spans_v5 (p0 : FlyPath) (s2 : Int × List FlySpan) : List FlySpan := (spec_l4Spans_v4 p0 s2).set ((s2.1).toNat) ({ (spec_l4Spans_v4 p0 s2).getD ((s2.1).toNat) default with High := (spec_l1Min (((spec_l4Spans_v4 p0 s2).getD ((s2.1).toNat) default).High) (wr ((((spec_l4Spans_v4 p0 s2).getD ((s2.1 + 1).toNat) default).High) - p0.Kind.Quick))) } : FlySpan)
def spec_l4Spans_b2 (p0 : FlyPath) (s1 : List FlySpan) (s2 : Int × List FlySpan) : Res (Int × List FlySpan) ((List FlySpan) × Bool) := (if decide (0 ≤ s2.1) then (if decide ((((spec_l4Spans_v5 p0 s2).getD ((s2.1).toNat) default).High) < (((spec_l4Spans_v5 p0 s2).getD ((s2.1).toNat) default).Low)) then (.ret (([] : List FlySpan), false)) else (.next (s2.1 - 1, (spec_l4Spans_v5 p0 s2)))) else (.brk (s2.1, s2.2)))
def spec_l4Spans_u2 (p0 : FlyPath) (s1 : List FlySpan) (s2 : Int × List FlySpan) : Nat :=  (s2.1 - 0 + 1).toNat
def spec_l4Spans_r2 (p0 : FlyPath) (s1 : List FlySpan) (s2 : Int × List FlySpan) : ((List FlySpan) × Bool) := (s2.2, true)
def spec_l4Spans_r1 (p0 : FlyPath) (s1 : List FlySpan) : ((List FlySpan) × Bool) := (Res.fin (spec_l4Spans_r2 p0 s1) (itr (spec_l4Spans_b2 p0 s1) (spec_l4Spans_u2 p0 s1 ((p0.Steps.length : Int) - 1, s1) + 1) ((p0.Steps.length : Int) - 1, s1)))
/-- spec.l4Spans -/
def spec_l4Spans (p0 : FlyPath) : (List FlySpan) × Bool := (Res.fin (spec_l4Spans_r1 p0) (forN (spec_l4Spans_b1 p0) ((p0.Steps.length + 1) - 0) 0 ([] : List FlySpan)))
theorem c77 (p0 : FlyPath) (k0_0 : FlyPath.ok p0) : Fn Proofs.Try.prog 77 [⟨.val, true, FlyPath.cs .bor p0⟩] [.c (.sl .own 2 ((spec_l4Spans p0).1.map FlySpan.row)), .c (.v (.bool (spec_l4Spans p0).2))] [] := by
  obtain ⟨R, hR⟩ : ∃ R, R = spec_l4Spans p0 := ⟨_, rfl⟩
  rw [← hR]
  rw [spec_l4Spans] at hR
  refine ⟨fn_intro hT Proofs.Try.func77 rfl rfl fun fs => ?_, _, Proofs.Try.func77, rfl, rfl⟩
  have q0 := k0_0; simp only [FlyPath.ok] at q0
  refine xr hT [] (fun f1 => ⟨[(1, .one (.pt 1 (f1 0 0) 0))], [(1, some (f1 0 0, .box (FlyPath.cs .bor p0)))], 125⟩) (fun f => by kernel_rfl) (fun f => by kernel_rfl) fun f1 => ?_
  refine xr hT [] (fun f2 => ⟨[(1, .one (.pt 1 (f1 0 0) 0)), (4, .one (.c (.mu 9 (f2 0 0) 2 0 (([] : List FlySpan).map FlySpan.row).length)))], [(1, some (f1 0 0, .box (FlyPath.cs .bor p0))), (9, some (f2 0 0, .arr 2 (([] : List FlySpan).map FlySpan.row)))], 125⟩) (fun f => by kernel_rfl) (fun f => by kernel_rfl) fun f2 => ?_
  refine xr hT [.ln FlyStep.row p0.Steps] (fun f3 => ⟨[(1, .one (.pt 1 (f1 0 0) 0)), (4, .one (.c (.mu 9 (f2 0 0) 2 0 (([] : List FlySpan).map FlySpan.row).length))), (5, .one (.c (.v (.int .i64 (p0.Steps.length : Int)))))], [(1, some (f1 0 0, .box (FlyPath.cs .bor p0))), (9, some (f2 0 0, .arr 2 (([] : List FlySpan).map FlySpan.row)))], 125⟩) (fun f => by kernel_rfl) (fun f => by kernel_rfl) fun f3 => ?_
  refine w_seq ?_
  refine xr hT [] (fun f4 => ⟨[(1, .one (.pt 1 (f1 0 0) 0)), (4, .one (.c (.mu 9 (f2 0 0) 2 0 (([] : List FlySpan).map FlySpan.row).length))), (5, .one (.c (.v (.int .i64 (p0.Steps.length : Int))))), (6, .one (.c (.v (.int .i64 0))))], [(1, some (f1 0 0, .box (FlyPath.cs .bor p0))), (9, some (f2 0 0, .arr 2 (([] : List FlySpan).map FlySpan.row)))], 125⟩) (fun f => by kernel_rfl) (fun f => by kernel_rfl) fun f4 => ?_
  refine w_forT (fun _ => rfl) (spec_l4Spans_I1 p0 fs) (spec_l4Spans_J1 p0 fs) (fun i1 s1 => i1 ≤ (p0.Steps.length + 1) ∧ s1.length ≤ (([] : List FlySpan)).length + i1 ∧ s1.length = i1) (fun s1 => s1.length ≤ (([] : List FlySpan)).length + (p0.Steps.length + 1) ∧ s1.length = p0.Steps.length + 1) ((p0.Steps.length + 1)) 0 (spec_l4Spans_b1 p0) (spec_l4Spans_r1 p0) 0 (([] : List FlySpan)) (lst [f1 0 0, f2 0 0]) (sb (by kernel_rfl)) (by first | rfl | ((try simp only [LN, spec_l4Spans_v1, spec_l4Spans_v2, spec_l4Spans_v3, spec_l4Spans_v4, spec_l4Spans_v5]); omega) | (simp; done) | (simp; omega)) hR ?_ ?_
  · skip
    intro i1 s1 x1 hI1 hX1
    try simp only [LN, spec_l4Spans_v1, spec_l4Spans_v2, spec_l4Spans_v3, spec_l4Spans_v4, spec_l4Spans_v5] at hI1
    refine w_seq ?_
    refine xr hT [] (fun f5 => ⟨[(1, .one (.pt 1 (x1 0) 0)), (4, .one (.c (.mu 9 (x1 1) 2 0 (s1.map FlySpan.row).length))), (5, .one (.c (.v (.int .i64 (p0.Steps.length : Int))))), (6, .one (.c (.v (.int .i64 ((i1 : Nat) : Int))))), (15, .one (.c (.v (.bool (decide (((i1 : Nat) : Int) ≤ (p0.Steps.length : Int)))))))], [(1, some (x1 0, .box (FlyPath.cs .bor p0))), (9, some (x1 1, .arr 2 (s1.map FlySpan.row)))], 125⟩) (fun f => by kernel_rfl) (fun f => by kernel_rfl) fun f5 => ?_
    refine w_cond rfl (fun h6 => ?_) fun h6 => ?_
    · skip
      have hl1 : i1 < (p0.Steps.length + 1) := by have hq := of_decide_eq_true h6; first | omega | ((try simp only [LN, spec_l4Spans_v1, spec_l4Spans_v2, spec_l4Spans_v3, spec_l4Spans_v4, spec_l4Spans_v5] at *); omega)
      have hl1x := hl1; try simp only [LN, spec_l4Spans_v1, spec_l4Spans_v2, spec_l4Spans_v3, spec_l4Spans_v4, spec_l4Spans_v5] at hl1x
      obtain ⟨B1, hB1⟩ : ∃ B, B = spec_l4Spans_b1 p0 i1 s1 := ⟨_, rfl⟩
      have hE1 := hB1
      rw [spec_l4Spans_b1] at hE1
      refine w_skip ?_
      refine w_seq ?_
      refine w_block ?_
      refine xd hT hM [ca (c84 p0 ((i1 : Nat) : Int) (by first | assumption | exact (by omega : p0.Steps.length ≤ 1048576)) (by first | assumption | ((try simp only [LN, spec_l4Spans_v1, spec_l4Spans_v2, spec_l4Spans_v3, spec_l4Spans_v4, spec_l4Spans_v5, FlyPath.ok]) <;> omega) | (simp only [LN, spec_l4Spans_v1, spec_l4Spans_v2, spec_l4Spans_v3, spec_l4Spans_v4, spec_l4Spans_v5] <;> assumption)) (by first | assumption | ((try simp only [LN, spec_l4Spans_v1, spec_l4Spans_v2, spec_l4Spans_v3, spec_l4Spans_v4, spec_l4Spans_v5, FlyPath.ok]) <;> omega) | (simp only [LN, spec_l4Spans_v1, spec_l4Spans_v2, spec_l4Spans_v3, spec_l4Spans_v4, spec_l4Spans_v5] <;> assumption))), ca (c85 p0 ((i1 : Nat) : Int) (by first | assumption | exact (by omega : p0.Steps.length ≤ 1048576)) (by first | assumption | ((try simp only [LN, spec_l4Spans_v1, spec_l4Spans_v2, spec_l4Spans_v3, spec_l4Spans_v4, spec_l4Spans_v5, FlyPath.ok]) <;> omega) | (simp only [LN, spec_l4Spans_v1, spec_l4Spans_v2, spec_l4Spans_v3, spec_l4Spans_v4, spec_l4Spans_v5] <;> assumption)) (by first | assumption | ((try simp only [LN, spec_l4Spans_v1, spec_l4Spans_v2, spec_l4Spans_v3, spec_l4Spans_v4, spec_l4Spans_v5, FlyPath.ok]) <;> omega) | (simp only [LN, spec_l4Spans_v1, spec_l4Spans_v2, spec_l4Spans_v3, spec_l4Spans_v4, spec_l4Spans_v5] <;> assumption)))] (fun f7 => ⟨[(1, .one (.pt 1 (x1 0) 0)), (4, .one (.c (.mu 9 (x1 1) 2 0 (s1.map FlySpan.row).length))), (5, .one (.c (.v (.int .i64 (p0.Steps.length : Int))))), (6, .one (.c (.v (.int .i64 ((i1 : Nat) : Int))))), (7, .one (.pt 7 (f7 7 0) 0))], [(1, some (x1 0, .box (FlyPath.cs .bor p0))), (7, some (f7 7 0, .box [.v (.int .i64 (spec_l3Low p0 ((i1 : Nat) : Int))), .v (.int .i64 (spec_l3High p0 ((i1 : Nat) : Int)))])), (9, some (x1 1, .arr 2 (s1.map FlySpan.row)))], 125⟩) (fun f => by kernel_rfl) (fun f => by kernel_rfl) (fun f => by kernel_rfl) fun f7 => ?_
      refine w_seq ?_
      refine xr hT [] (fun f8 => ⟨[(1, .one (.pt 1 (x1 0) 0)), (4, .one (.c (.mu 9 (x1 1) 2 0 (s1.map FlySpan.row).length))), (5, .one (.c (.v (.int .i64 (p0.Steps.length : Int))))), (6, .one (.c (.v (.int .i64 ((i1 : Nat) : Int))))), (7, .one (.pt 7 (f7 7 0) 0)), (26, .one (.c (.v (.bool (decide (0 < ((i1 : Nat) : Int)))))))], [(1, some (x1 0, .box (FlyPath.cs .bor p0))), (7, some (f7 7 0, .box [.v (.int .i64 (spec_l3Low p0 ((i1 : Nat) : Int))), .v (.int .i64 (spec_l3High p0 ((i1 : Nat) : Int)))])), (9, some (x1 1, .arr 2 (s1.map FlySpan.row)))], 125⟩) (fun f => by kernel_rfl) (fun f => by kernel_rfl) fun f8 => ?_
      refine w_cond rfl (fun h9 => ?_) fun h9 => ?_
      · rw [if_pos h9] at hE1
        have gh9 := of_decide_eq_true h9
        refine xd hT hM [.ex true (((i1 : Nat) : Int) - 1) (((i1 : Nat) : Int) - 1) (fun _ => wr_eq (by omega) (by omega)), iz FlySpan.row s1 (((i1 : Nat) : Int) - 1) (by omega), ix FlySpan.row s1 ((((i1 : Nat) : Int) - 1).toNat) (by omega), .wr, ca (c65 (spec_l3Low p0 ((i1 : Nat) : Int)) (wr (((s1.getD ((((i1 : Nat) : Int) - 1).toNat) default).Low) + p0.Kind.Quick)))] (fun f10 => ⟨[(1, .one (.pt 1 (x1 0) 0)), (4, .one (.c (.mu 9 (x1 1) 2 0 (s1.map FlySpan.row).length))), (5, .one (.c (.v (.int .i64 (p0.Steps.length : Int))))), (6, .one (.c (.v (.int .i64 ((i1 : Nat) : Int))))), (7, .one (.pt 7 (f7 7 0) 0))], [(1, some (x1 0, .box (FlyPath.cs .bor p0))), (7, some (f7 7 0, .box [.v (.int .i64 (spec_l1Max (spec_l3Low p0 ((i1 : Nat) : Int)) (wr (((s1.getD ((((i1 : Nat) : Int) - 1).toNat) default).Low) + p0.Kind.Quick)))), .v (.int .i64 (spec_l3High p0 ((i1 : Nat) : Int)))])), (9, some (x1 1, .arr 2 (s1.map FlySpan.row)))], 125⟩) (fun f => by kernel_rfl) (fun f => by kernel_rfl) (fun f => by kernel_rfl) fun f10 => ?_
        refine xd1 (fun _ => rfl) hT hM [.ex true (((i1 : Nat) : Int) - 1) (((i1 : Nat) : Int) - 1) (fun _ => wr_eq (by omega) (by omega)), iz FlySpan.row s1 (((i1 : Nat) : Int) - 1) (by omega), ix FlySpan.row s1 ((((i1 : Nat) : Int) - 1).toNat) (by omega), .ex true (((i1 : Nat) : Int) - 1) (((i1 : Nat) : Int) - 1) (fun _ => wr_eq (by omega) (by omega)), ca (c86 p0 (((i1 : Nat) : Int) - 1) (by first | assumption | exact (by omega : p0.Steps.length ≤ 1048576)) (by first | assumption | ((try simp only [LN, spec_l4Spans_v1, spec_l4Spans_v2, spec_l4Spans_v3, spec_l4Spans_v4, spec_l4Spans_v5, FlyPath.ok]) <;> omega) | (simp only [LN, spec_l4Spans_v1, spec_l4Spans_v2, spec_l4Spans_v3, spec_l4Spans_v4, spec_l4Spans_v5] <;> assumption)) (by first | assumption | ((try simp only [LN, spec_l4Spans_v1, spec_l4Spans_v2, spec_l4Spans_v3, spec_l4Spans_v4, spec_l4Spans_v5, FlyPath.ok]) <;> omega) | (simp only [LN, spec_l4Spans_v1, spec_l4Spans_v2, spec_l4Spans_v3, spec_l4Spans_v4, spec_l4Spans_v5] <;> assumption))), .wr, ca (c73 (spec_l3High p0 ((i1 : Nat) : Int)) (wr (((s1.getD ((((i1 : Nat) : Int) - 1).toNat) default).High) + (spec_l3Most p0 (((i1 : Nat) : Int) - 1)))))] (fun f11 => ⟨[(1, .one (.pt 1 (x1 0) 0)), (4, .one (.c (.mu 9 (x1 1) 2 0 (s1.map FlySpan.row).length))), (5, .one (.c (.v (.int .i64 (p0.Steps.length : Int))))), (6, .one (.c (.v (.int .i64 ((i1 : Nat) : Int))))), (7, .one (.pt 7 (f7 7 0) 0))], [(1, some (x1 0, .box (FlyPath.cs .bor p0))), (7, some (f7 7 0, .box [.v (.int .i64 (spec_l1Max (spec_l3Low p0 ((i1 : Nat) : Int)) (wr (((s1.getD ((((i1 : Nat) : Int) - 1).toNat) default).Low) + p0.Kind.Quick)))), .v (.int .i64 (spec_l4Spans_v1 p0 i1 s1))])), (9, some (x1 1, .arr 2 (s1.map FlySpan.row)))], 125⟩) (fun f => by kernel_rfl) (fun f => by kernel_rfl) (fun f => by kernel_rfl) fun f11 => ?_
        refine w_seq ?_
        refine xr hT [] (fun f12 => ⟨[(1, .one (.pt 1 (x1 0) 0)), (4, .one (.c (.mu 9 (x1 1) 2 0 (s1.map FlySpan.row).length))), (5, .one (.c (.v (.int .i64 (p0.Steps.length : Int))))), (6, .one (.c (.v (.int .i64 ((i1 : Nat) : Int))))), (7, .one (.pt 7 (f7 7 0) 0)), (60, .one (.c (.v (.bool (spec_l4Spans_v2 p0 i1 s1)))))], [(1, some (x1 0, .box (FlyPath.cs .bor p0))), (7, some (f7 7 0, .box [.v (.int .i64 (spec_l1Max (spec_l3Low p0 ((i1 : Nat) : Int)) (wr (((s1.getD ((((i1 : Nat) : Int) - 1).toNat) default).Low) + p0.Kind.Quick)))), .v (.int .i64 (spec_l4Spans_v1 p0 i1 s1))])), (9, some (x1 1, .arr 2 (s1.map FlySpan.row)))], 125⟩) (fun f => by kernel_rfl) (fun f => by kernel_rfl) fun f12 => ?_
        refine w_cond rfl (fun h13 => ?_) fun h13 => ?_
        · rw [if_pos h13] at hE1
          have gh13 := h13; try simp only [spec_l4Spans_v1, spec_l4Spans_v2, Bool.not_eq_true', Bool.not_eq_false', decide_eq_true_eq, decide_eq_false_iff_not, Bool.and_eq_true, Bool.or_eq_true, Bool.and_eq_false_iff, Bool.or_eq_false_iff] at gh13
          refine xr hT [] (fun f14 => ⟨[(2, .one (.c (.mu 61 (f14 0 0) 2 0 (([] : List FlySpan).map FlySpan.row).length))), (3, .one (.c (.v (.bool false))))], [(61, some (f14 0 0, .arr 2 (([] : List FlySpan).map FlySpan.row)))], 125⟩) (fun f => by kernel_rfl) (fun f => by kernel_rfl) fun f14 => ?_
          refine w_ret ?_
          have hR := hX1.trans (forN_ret hl1 (hB1.symm.trans hE1))
          subst hR
          exact x_ret (by kernel_rfl)
        rw [if_neg (nt h13)] at hE1
        have gh13 := h13; try simp only [spec_l4Spans_v1, spec_l4Spans_v2, Bool.not_eq_true', Bool.not_eq_false', decide_eq_true_eq, decide_eq_false_iff_not, Bool.and_eq_true, Bool.or_eq_true, Bool.and_eq_false_iff, Bool.or_eq_false_iff] at gh13
        refine w_skip ?_
        refine xr1 (fun _ => rfl) hT [.rows FlySpan.row [(⟨(spec_l1Max (spec_l3Low p0 ((i1 : Nat) : Int)) (wr (((s1.getD ((((i1 : Nat) : Int) - 1).toNat) default).Low) + p0.Kind.Quick))), (spec_l4Spans_v1 p0 i1 s1)⟩ : FlySpan)], .app true FlySpan.row s1 [(⟨(spec_l1Max (spec_l3Low p0 ((i1 : Nat) : Int)) (wr (((s1.getD ((((i1 : Nat) : Int) - 1).toNat) default).Low) + p0.Kind.Quick))), (spec_l4Spans_v1 p0 i1 s1)⟩ : FlySpan)] 16 (fun h => by (try simp only [LN, spec_l4Spans_v1, spec_l4Spans_v2, spec_l4Spans_v3, spec_l4Spans_v4, spec_l4Spans_v5]); omega)] (fun f15 => ⟨[(1, .one (.pt 1 (x1 0) 0)), (4, .one (.c (.mu 9 (f15 3 0) 2 0 ((spec_l4Spans_v3 p0 i1 s1).map FlySpan.row).length))), (5, .one (.c (.v (.int .i64 (p0.Steps.length : Int))))), (6, .one (.c (.v (.int .i64 ((i1 : Nat) : Int)))))], [(1, some (x1 0, .box (FlyPath.cs .bor p0))), (9, some (f15 3 0, .arr 2 ((spec_l4Spans_v3 p0 i1 s1).map FlySpan.row)))], 125⟩) (fun f => by kernel_rfl) (fun f => by kernel_rfl) fun f15 => ?_
        refine x_reg hT [.ex true (((i1 : Nat) : Int) + ((1 : Nat) : Int)) ((((i1 + 1) : Nat) : Int)) (fun _ => wr_nat (n := i1) (c := 1) (by omega))] (fun f16 => spec_l4Spans_I1 p0 fs (i1 + 1) (spec_l4Spans_v3 p0 i1 s1) (lst [x1 0, f15 3 0])) (fun f => by kernel_rfl) (fun f => by kernel_rfl) fun f16 s' hs' => ?_
        exact ⟨(spec_l4Spans_v3 p0 i1 s1), (lst [x1 0, f15 3 0]), hl1, (by (try simp only [LN, spec_l4Spans_v1, spec_l4Spans_v2, spec_l4Spans_v3, spec_l4Spans_v4, spec_l4Spans_v5] at *); omega), hX1.trans (forN_next hl1 (hB1.symm.trans hE1)), hs'⟩
      rw [if_neg (nt h9)] at hE1
      have gh9 := of_decide_eq_false h9
      refine w_skip ?_
      refine w_seq ?_
      refine xr hT [] (fun f17 => ⟨[(1, .one (.pt 1 (x1 0) 0)), (4, .one (.c (.mu 9 (x1 1) 2 0 (s1.map FlySpan.row).length))), (5, .one (.c (.v (.int .i64 (p0.Steps.length : Int))))), (6, .one (.c (.v (.int .i64 ((i1 : Nat) : Int))))), (7, .one (.pt 7 (f7 7 0) 0)), (60, .one (.c (.v (.bool (decide ((spec_l3High p0 ((i1 : Nat) : Int)) < (spec_l3Low p0 ((i1 : Nat) : Int))))))))], [(1, some (x1 0, .box (FlyPath.cs .bor p0))), (7, some (f7 7 0, .box [.v (.int .i64 (spec_l3Low p0 ((i1 : Nat) : Int))), .v (.int .i64 (spec_l3High p0 ((i1 : Nat) : Int)))])), (9, some (x1 1, .arr 2 (s1.map FlySpan.row)))], 125⟩) (fun f => by kernel_rfl) (fun f => by kernel_rfl) fun f17 => ?_
      refine w_cond rfl (fun h18 => ?_) fun h18 => ?_
      · rw [if_pos h18] at hE1
        have gh18 := of_decide_eq_true h18
        refine xr hT [] (fun f19 => ⟨[(2, .one (.c (.mu 61 (f19 0 0) 2 0 (([] : List FlySpan).map FlySpan.row).length))), (3, .one (.c (.v (.bool false))))], [(61, some (f19 0 0, .arr 2 (([] : List FlySpan).map FlySpan.row)))], 125⟩) (fun f => by kernel_rfl) (fun f => by kernel_rfl) fun f19 => ?_
        refine w_ret ?_
        have hR := hX1.trans (forN_ret hl1 (hB1.symm.trans hE1))
        subst hR
        exact x_ret (by kernel_rfl)
      rw [if_neg (nt h18)] at hE1
      have gh18 := of_decide_eq_false h18
      refine w_skip ?_
      refine xr1 (fun _ => rfl) hT [.rows FlySpan.row [(⟨(spec_l3Low p0 ((i1 : Nat) : Int)), (spec_l3High p0 ((i1 : Nat) : Int))⟩ : FlySpan)], .app true FlySpan.row s1 [(⟨(spec_l3Low p0 ((i1 : Nat) : Int)), (spec_l3High p0 ((i1 : Nat) : Int))⟩ : FlySpan)] 16 (fun h => by (try simp only [LN, spec_l4Spans_v1, spec_l4Spans_v2, spec_l4Spans_v3, spec_l4Spans_v4, spec_l4Spans_v5]); omega)] (fun f20 => ⟨[(1, .one (.pt 1 (x1 0) 0)), (4, .one (.c (.mu 9 (f20 3 0) 2 0 ((s1 ++ [(⟨(spec_l3Low p0 ((i1 : Nat) : Int)), (spec_l3High p0 ((i1 : Nat) : Int))⟩ : FlySpan)]).map FlySpan.row).length))), (5, .one (.c (.v (.int .i64 (p0.Steps.length : Int))))), (6, .one (.c (.v (.int .i64 ((i1 : Nat) : Int)))))], [(1, some (x1 0, .box (FlyPath.cs .bor p0))), (9, some (f20 3 0, .arr 2 ((s1 ++ [(⟨(spec_l3Low p0 ((i1 : Nat) : Int)), (spec_l3High p0 ((i1 : Nat) : Int))⟩ : FlySpan)]).map FlySpan.row)))], 125⟩) (fun f => by kernel_rfl) (fun f => by kernel_rfl) fun f20 => ?_
      refine x_reg hT [.ex true (((i1 : Nat) : Int) + ((1 : Nat) : Int)) ((((i1 + 1) : Nat) : Int)) (fun _ => wr_nat (n := i1) (c := 1) (by omega))] (fun f21 => spec_l4Spans_I1 p0 fs (i1 + 1) (s1 ++ [(⟨(spec_l3Low p0 ((i1 : Nat) : Int)), (spec_l3High p0 ((i1 : Nat) : Int))⟩ : FlySpan)]) (lst [x1 0, f20 3 0])) (fun f => by kernel_rfl) (fun f => by kernel_rfl) fun f21 s' hs' => ?_
      exact ⟨s1 ++ [(⟨(spec_l3Low p0 ((i1 : Nat) : Int)), (spec_l3High p0 ((i1 : Nat) : Int))⟩ : FlySpan)], (lst [x1 0, f20 3 0]), hl1, (by (try simp only [LN, spec_l4Spans_v1, spec_l4Spans_v2, spec_l4Spans_v3, spec_l4Spans_v4, spec_l4Spans_v5] at *); omega), hX1.trans (forN_next hl1 (hB1.symm.trans hE1)), hs'⟩
    have hq := of_decide_eq_false h6
    refine w_exit ?_
    exact ⟨s1, (lst [x1 0, x1 1]), (by (try simp only [LN, spec_l4Spans_v1, spec_l4Spans_v2, spec_l4Spans_v3, spec_l4Spans_v4, spec_l4Spans_v5] at *); omega), hX1.trans (forN_end (by first | omega | ((try simp only [LN, spec_l4Spans_v1, spec_l4Spans_v2, spec_l4Spans_v3, spec_l4Spans_v4, spec_l4Spans_v5] at *); omega))), sb (by kernel_rfl)⟩
  intro s1 x1 hF35 hR22
  try simp only [LN, spec_l4Spans_v1, spec_l4Spans_v2, spec_l4Spans_v3, spec_l4Spans_v4, spec_l4Spans_v5] at hF35
  rw [spec_l4Spans_r1] at hR22
  refine w_seq ?_
  refine xr hT [.ex true ((p0.Steps.length : Int) - 1) ((p0.Steps.length : Int) - 1) (fun _ => wr_eq (by omega) (by omega))] (fun f23 => ⟨[(1, .one (.pt 1 (x1 0) 0)), (4, .one (.c (.mu 9 (x1 1) 2 0 (s1.map FlySpan.row).length))), (8, .one (.c (.v (.int .i64 ((p0.Steps.length : Int) - 1)))))], [(1, some (x1 0, .box (FlyPath.cs .bor p0))), (9, some (x1 1, .arr 2 (s1.map FlySpan.row)))], 125⟩) (fun f => by kernel_rfl) (fun f => by kernel_rfl) fun f23 => ?_
  refine w_itrT (fun _ => rfl) (spec_l4Spans_I2 p0 s1 fs) (spec_l4Spans_J2 p0 s1 fs) (fun s2 => s2.2.length = (s1).length ∧ s2.2.length = p0.Steps.length + 1 ∧ -1 ≤ s2.1 ∧ s2.1 < p0.Steps.length) (fun s2 => s2.2.length = (s1).length) (spec_l4Spans_u2 p0 s1) 2 (spec_l4Spans_b2 p0 s1) (spec_l4Spans_r2 p0 s1) (((p0.Steps.length : Int) - 1, s1)) (lst [x1 0, x1 1]) (sb (by kernel_rfl)) (by first | rfl | ((try simp only [LN, spec_l4Spans_v1, spec_l4Spans_v2, spec_l4Spans_v3, spec_l4Spans_v4, spec_l4Spans_v5]); omega) | (simp; done) | (simp; omega)) hR22 ?_ ?_
  · skip
    intro s2 x2 k2 hI2 hl2 hX2
    try simp only [LN, spec_l4Spans_v1, spec_l4Spans_v2, spec_l4Spans_v3, spec_l4Spans_v4, spec_l4Spans_v5] at hI2
    refine w_seq ?_
    refine xr hT [] (fun f24 => ⟨[(1, .one (.pt 1 (x2 0) 0)), (4, .one (.c (.mu 9 (x2 1) 2 0 (s2.2.map FlySpan.row).length))), (8, .one (.c (.v (.int .i64 s2.1)))), (69, .one (.c (.v (.bool (decide (0 ≤ s2.1))))))], [(1, some (x2 0, .box (FlyPath.cs .bor p0))), (9, some (x2 1, .arr 2 (s2.2.map FlySpan.row)))], 125⟩) (fun f => by kernel_rfl) (fun f => by kernel_rfl) fun f24 => ?_
    obtain ⟨B2, hB2⟩ : ∃ B, B = spec_l4Spans_b2 p0 s1 s2 := ⟨_, rfl⟩
    have hE2 := hB2
    rw [spec_l4Spans_b2] at hE2
    refine w_cond rfl (fun h25 => ?_) fun h25 => ?_
    · rw [if_pos h25] at hE2
      have gh25 := of_decide_eq_true h25
      refine w_skip ?_
      refine w_seq ?_
      refine w_block ?_
      refine xd hT hM [iz FlySpan.row s2.2 (s2.1) (by omega), ix FlySpan.row s2.2 ((s2.1).toNat) (by omega), .ex true (s2.1 + 1) (s2.1 + 1) (fun _ => wr_eq (by omega) (by omega)), iz FlySpan.row s2.2 (s2.1 + 1) (by omega), ix FlySpan.row s2.2 ((s2.1 + 1).toNat) (by omega), ca (c86 p0 s2.1 (by first | assumption | exact (by omega : p0.Steps.length ≤ 1048576)) (by first | assumption | ((try simp only [LN, spec_l4Spans_v1, spec_l4Spans_v2, spec_l4Spans_v3, spec_l4Spans_v4, spec_l4Spans_v5, FlyPath.ok]) <;> omega) | (simp only [LN, spec_l4Spans_v1, spec_l4Spans_v2, spec_l4Spans_v3, spec_l4Spans_v4, spec_l4Spans_v5] <;> assumption)) (by first | assumption | ((try simp only [LN, spec_l4Spans_v1, spec_l4Spans_v2, spec_l4Spans_v3, spec_l4Spans_v4, spec_l4Spans_v5, FlyPath.ok]) <;> omega) | (simp only [LN, spec_l4Spans_v1, spec_l4Spans_v2, spec_l4Spans_v3, spec_l4Spans_v4, spec_l4Spans_v5] <;> assumption))), .wr, ca (c65 ((s2.2.getD ((s2.1).toNat) default).Low) (wr (((s2.2.getD ((s2.1 + 1).toNat) default).Low) - (spec_l3Most p0 s2.1)))), iz FlySpan.row s2.2 (s2.1) (by omega), .st inferInstance true FlySpan.row s2.2 ((s2.1).toNat) ({ s2.2.getD ((s2.1).toNat) default with Low := (spec_l1Max ((s2.2.getD ((s2.1).toNat) default).Low) (wr (((s2.2.getD ((s2.1 + 1).toNat) default).Low) - (spec_l3Most p0 s2.1)))) } : FlySpan) (fun h => by omega)] (fun f26 => ⟨[(1, .one (.pt 1 (x2 0) 0)), (4, .one (.c (.mu 9 (x2 1) 2 0 (s2.2.map FlySpan.row).length))), (8, .one (.c (.v (.int .i64 s2.1))))], [(1, some (x2 0, .box (FlyPath.cs .bor p0))), (9, some (x2 1, .arr 2 ((spec_l4Spans_v4 p0 s2).map FlySpan.row)))], 125⟩) (fun f => by kernel_rfl) (fun f => by kernel_rfl) (fun f => by kernel_rfl) fun f26 => ?_
      refine w_sub (s := ⟨[(1, .one (.pt 1 (x2 0) 0)), (4, .one (.c (.mu 9 (x2 1) 2 0 ((spec_l4Spans_v4 p0 s2).map FlySpan.row).length))), (8, .one (.c (.v (.int .i64 s2.1))))], [(1, some (x2 0, .box (FlyPath.cs .bor p0))), (9, some (x2 1, .arr 2 ((spec_l4Spans_v4 p0 s2).map FlySpan.row)))], 125⟩) (cst (by simp only [LN, spec_l4Spans_v1, spec_l4Spans_v2, spec_l4Spans_v3, spec_l4Spans_v4, spec_l4Spans_v5]) (sb (s := ⟨[(1, .one (.pt 1 (x2 0) 0)), (4, .one (.c (.mu 9 (x2 1) 2 0 (s2.2.map FlySpan.row).length))), (8, .one (.c (.v (.int .i64 s2.1))))], [(1, some (x2 0, .box (FlyPath.cs .bor p0))), (9, some (x2 1, .arr 2 ((spec_l4Spans_v4 p0 s2).map FlySpan.row)))], 125⟩) (by kernel_rfl))) ?_
      refine xd hT hM [iz FlySpan.row (spec_l4Spans_v4 p0 s2) (s2.1) (by (first | omega | ((try simp only [LN, spec_l4Spans_v1, spec_l4Spans_v2, spec_l4Spans_v3, spec_l4Spans_v4, spec_l4Spans_v5]); omega) | ((try simp only [wr, IntKind.wrap_i64, LN, spec_l4Spans_v1, spec_l4Spans_v2, spec_l4Spans_v3, spec_l4Spans_v4, spec_l4Spans_v5] at *); omega) | (simp_all <;> omega))), ix FlySpan.row (spec_l4Spans_v4 p0 s2) ((s2.1).toNat) (by (first | omega | ((try simp only [LN, spec_l4Spans_v1, spec_l4Spans_v2, spec_l4Spans_v3, spec_l4Spans_v4, spec_l4Spans_v5]); omega) | ((try simp only [wr, IntKind.wrap_i64, LN, spec_l4Spans_v1, spec_l4Spans_v2, spec_l4Spans_v3, spec_l4Spans_v4, spec_l4Spans_v5] at *); omega) | (simp_all <;> omega))), .ex true (s2.1 + 1) (s2.1 + 1) (fun _ => wr_eq (by omega) (by omega)), iz FlySpan.row (spec_l4Spans_v4 p0 s2) (s2.1 + 1) (by (first | omega | ((try simp only [LN, spec_l4Spans_v1, spec_l4Spans_v2, spec_l4Spans_v3, spec_l4Spans_v4, spec_l4Spans_v5]); omega) | ((try simp only [wr, IntKind.wrap_i64, LN, spec_l4Spans_v1, spec_l4Spans_v2, spec_l4Spans_v3, spec_l4Spans_v4, spec_l4Spans_v5] at *); omega) | (simp_all <;> omega))), ix FlySpan.row (spec_l4Spans_v4 p0 s2) ((s2.1 + 1).toNat) (by (first | omega | ((try simp only [LN, spec_l4Spans_v1, spec_l4Spans_v2, spec_l4Spans_v3, spec_l4Spans_v4, spec_l4Spans_v5]); omega) | ((try simp only [wr, IntKind.wrap_i64, LN, spec_l4Spans_v1, spec_l4Spans_v2, spec_l4Spans_v3, spec_l4Spans_v4, spec_l4Spans_v5] at *); omega) | (simp_all <;> omega))), .wr, ca (c73 (((spec_l4Spans_v4 p0 s2).getD ((s2.1).toNat) default).High) (wr ((((spec_l4Spans_v4 p0 s2).getD ((s2.1 + 1).toNat) default).High) - p0.Kind.Quick))), iz FlySpan.row (spec_l4Spans_v4 p0 s2) (s2.1) (by (first | omega | ((try simp only [LN, spec_l4Spans_v1, spec_l4Spans_v2, spec_l4Spans_v3, spec_l4Spans_v4, spec_l4Spans_v5]); omega) | ((try simp only [wr, IntKind.wrap_i64, LN, spec_l4Spans_v1, spec_l4Spans_v2, spec_l4Spans_v3, spec_l4Spans_v4, spec_l4Spans_v5] at *); omega) | (simp_all <;> omega))), .st inferInstance true FlySpan.row (spec_l4Spans_v4 p0 s2) ((s2.1).toNat) ({ (spec_l4Spans_v4 p0 s2).getD ((s2.1).toNat) default with High := (spec_l1Min (((spec_l4Spans_v4 p0 s2).getD ((s2.1).toNat) default).High) (wr ((((spec_l4Spans_v4 p0 s2).getD ((s2.1 + 1).toNat) default).High) - p0.Kind.Quick))) } : FlySpan) (fun h => by (first | omega | ((try simp only [LN, spec_l4Spans_v1, spec_l4Spans_v2, spec_l4Spans_v3, spec_l4Spans_v4, spec_l4Spans_v5]); omega) | ((try simp only [wr, IntKind.wrap_i64, LN, spec_l4Spans_v1, spec_l4Spans_v2, spec_l4Spans_v3, spec_l4Spans_v4, spec_l4Spans_v5] at *); omega) | (simp_all <;> omega)))] (fun f27 => ⟨[(1, .one (.pt 1 (x2 0) 0)), (4, .one (.c (.mu 9 (x2 1) 2 0 ((spec_l4Spans_v4 p0 s2).map FlySpan.row).length))), (8, .one (.c (.v (.int .i64 s2.1))))], [(1, some (x2 0, .box (FlyPath.cs .bor p0))), (9, some (x2 1, .arr 2 ((spec_l4Spans_v5 p0 s2).map FlySpan.row)))], 125⟩) (fun f => by kernel_rfl) (fun f => by kernel_rfl) (fun f => by kernel_rfl) fun f27 => ?_
      refine w_sub (s := ⟨[(1, .one (.pt 1 (x2 0) 0)), (4, .one (.c (.mu 9 (x2 1) 2 0 ((spec_l4Spans_v5 p0 s2).map FlySpan.row).length))), (8, .one (.c (.v (.int .i64 s2.1))))], [(1, some (x2 0, .box (FlyPath.cs .bor p0))), (9, some (x2 1, .arr 2 ((spec_l4Spans_v5 p0 s2).map FlySpan.row)))], 125⟩) (cst (by simp only [LN, spec_l4Spans_v1, spec_l4Spans_v2, spec_l4Spans_v3, spec_l4Spans_v4, spec_l4Spans_v5]) (sb (s := ⟨[(1, .one (.pt 1 (x2 0) 0)), (4, .one (.c (.mu 9 (x2 1) 2 0 ((spec_l4Spans_v4 p0 s2).map FlySpan.row).length))), (8, .one (.c (.v (.int .i64 s2.1))))], [(1, some (x2 0, .box (FlyPath.cs .bor p0))), (9, some (x2 1, .arr 2 ((spec_l4Spans_v5 p0 s2).map FlySpan.row)))], 125⟩) (by kernel_rfl))) ?_
      refine xd hT hM [iz FlySpan.row (spec_l4Spans_v5 p0 s2) (s2.1) (by (first | omega | ((try simp only [LN, spec_l4Spans_v1, spec_l4Spans_v2, spec_l4Spans_v3, spec_l4Spans_v4, spec_l4Spans_v5]); omega) | ((try simp only [wr, IntKind.wrap_i64, LN, spec_l4Spans_v1, spec_l4Spans_v2, spec_l4Spans_v3, spec_l4Spans_v4, spec_l4Spans_v5] at *); omega) | (simp_all <;> omega))), ix FlySpan.row (spec_l4Spans_v5 p0 s2) ((s2.1).toNat) (by (first | omega | ((try simp only [LN, spec_l4Spans_v1, spec_l4Spans_v2, spec_l4Spans_v3, spec_l4Spans_v4, spec_l4Spans_v5]); omega) | ((try simp only [wr, IntKind.wrap_i64, LN, spec_l4Spans_v1, spec_l4Spans_v2, spec_l4Spans_v3, spec_l4Spans_v4, spec_l4Spans_v5] at *); omega) | (simp_all <;> omega))), iz FlySpan.row (spec_l4Spans_v5 p0 s2) (s2.1) (by (first | omega | ((try simp only [LN, spec_l4Spans_v1, spec_l4Spans_v2, spec_l4Spans_v3, spec_l4Spans_v4, spec_l4Spans_v5]); omega) | ((try simp only [wr, IntKind.wrap_i64, LN, spec_l4Spans_v1, spec_l4Spans_v2, spec_l4Spans_v3, spec_l4Spans_v4, spec_l4Spans_v5] at *); omega) | (simp_all <;> omega))), ix FlySpan.row (spec_l4Spans_v5 p0 s2) ((s2.1).toNat) (by (first | omega | ((try simp only [LN, spec_l4Spans_v1, spec_l4Spans_v2, spec_l4Spans_v3, spec_l4Spans_v4, spec_l4Spans_v5]); omega) | ((try simp only [wr, IntKind.wrap_i64, LN, spec_l4Spans_v1, spec_l4Spans_v2, spec_l4Spans_v3, spec_l4Spans_v4, spec_l4Spans_v5] at *); omega) | (simp_all <;> omega)))] (fun f28 => ⟨[(1, .one (.pt 1 (x2 0) 0)), (4, .one (.c (.mu 9 (x2 1) 2 0 ((spec_l4Spans_v5 p0 s2).map FlySpan.row).length))), (8, .one (.c (.v (.int .i64 s2.1)))), (122, .one (.c (.v (.bool (decide ((((spec_l4Spans_v5 p0 s2).getD ((s2.1).toNat) default).High) < (((spec_l4Spans_v5 p0 s2).getD ((s2.1).toNat) default).Low)))))))], [(1, some (x2 0, .box (FlyPath.cs .bor p0))), (9, some (x2 1, .arr 2 ((spec_l4Spans_v5 p0 s2).map FlySpan.row)))], 125⟩) (fun f => by kernel_rfl) (fun f => by kernel_rfl) (fun f => by kernel_rfl) fun f28 => ?_
      refine w_cond rfl (fun h29 => ?_) fun h29 => ?_
      · rw [if_pos h29] at hE2
        have gh29 := of_decide_eq_true h29
        refine xr hT [] (fun f30 => ⟨[(2, .one (.c (.mu 123 (f30 0 0) 2 0 (([] : List FlySpan).map FlySpan.row).length))), (3, .one (.c (.v (.bool false))))], [(123, some (f30 0 0, .arr 2 (([] : List FlySpan).map FlySpan.row)))], 125⟩) (fun f => by kernel_rfl) (fun f => by kernel_rfl) fun f30 => ?_
        refine w_ret ?_
        have hR22 := hX2.trans (itr_ret hl2 (hB2.symm.trans hE2))
        subst hR22
        exact x_ret (by kernel_rfl)
      rw [if_neg (nt h29)] at hE2
      have gh29 := of_decide_eq_false h29
      refine w_skip ?_
      refine x_reg hT [.ex true (s2.1 - 1) (s2.1 - 1) (fun _ => wr_eq (by omega) (by omega))] (fun f31 => spec_l4Spans_I2 p0 s1 fs (s2.1 - 1, (spec_l4Spans_v5 p0 s2)) (lst [x2 0, x2 1])) (fun f => by kernel_rfl) (fun f => by kernel_rfl) fun f31 s' hs' => ?_
      exact ⟨(s2.1 - 1, (spec_l4Spans_v5 p0 s2)), (lst [x2 0, x2 1]), (by simp only [spec_l4Spans_u2]; (first | omega | ((try simp only [LN, spec_l4Spans_v1, spec_l4Spans_v2, spec_l4Spans_v3, spec_l4Spans_v4, spec_l4Spans_v5]); omega) | ((try simp only [wr, IntKind.wrap_i64, LN, spec_l4Spans_v1, spec_l4Spans_v2, spec_l4Spans_v3, spec_l4Spans_v4, spec_l4Spans_v5] at *); omega) | (simp_all <;> omega))), (by (try simp only [LN, spec_l4Spans_v1, spec_l4Spans_v2, spec_l4Spans_v3, spec_l4Spans_v4, spec_l4Spans_v5] at *); omega), hX2.trans (itr_next hl2 (hB2.symm.trans hE2)), hs'⟩
    rw [if_neg (nt h25)] at hE2
    have gh25 := of_decide_eq_false h25
    refine w_exit ?_
    exact ⟨(s2.1, s2.2), (lst [x2 0, x2 1]), (by (try simp only [LN, spec_l4Spans_v1, spec_l4Spans_v2, spec_l4Spans_v3, spec_l4Spans_v4, spec_l4Spans_v5] at *); omega), hX2.trans (itr_brk hl2 (hB2.symm.trans hE2)), (sb (by kernel_rfl))⟩
  intro s2 x2 hF34 hR32
  try simp only [LN, spec_l4Spans_v1, spec_l4Spans_v2, spec_l4Spans_v3, spec_l4Spans_v4, spec_l4Spans_v5] at hF34
  rw [spec_l4Spans_r2] at hR32
  refine xr hT [] (fun f33 => ⟨[(2, .one (.c (.mu 9 (x2 1) 2 0 (s2.2.map FlySpan.row).length))), (3, .one (.c (.v (.bool true))))], [(9, some (x2 1, .arr 2 (s2.2.map FlySpan.row)))], 125⟩) (fun f => by kernel_rfl) (fun f => by kernel_rfl) fun f33 => ?_
  refine w_ret ?_
  subst hR32
  exact x_ret (by kernel_rfl)
theorem f_spec_l4Spans (p0 : FlyPath) (_ : FlyPath.ok p0) : (spec_l4Spans p0).1.length ≤ p0.Steps.length + 1 ∧ ((spec_l4Spans p0).2 = true → (spec_l4Spans p0).1.length = p0.Steps.length + 1) := by
  unfold spec_l4Spans
  refine forN_inv (fun (i : Nat) (s : List FlySpan) => s.length = i) (fun (r : List FlySpan × Bool) => r.1.length ≤ p0.Steps.length + 1 ∧ (r.2 = true → r.1.length = p0.Steps.length + 1)) (p0.Steps.length + 1) (fun j s hj h => ?_) (fun s h => ?_) _ 0 _ rfl (Nat.zero_le _) rfl
  · unfold spec_l4Spans_b1
    simp only [all_ite, all_next, all_brk, all_ret]
    (try simp only [LN, spec_l4Spans_v1, spec_l4Spans_v2, spec_l4Spans_v3, spec_l4Spans_v4, spec_l4Spans_v5])
    simp [h]
  · unfold spec_l4Spans_r1
    refine itr_inv (fun (s2 : Int × List FlySpan) => s2.2.length = p0.Steps.length + 1) (spec_l4Spans_u2 p0 s) (fun (r : List FlySpan × Bool) => r.1.length ≤ p0.Steps.length + 1 ∧ (r.2 = true → r.1.length = p0.Steps.length + 1)) (fun s2 h2 => ?_) _ _ (Nat.lt_succ_self _) h
    unfold spec_l4Spans_b2
    simp only [all_ite, all_next, all_brk, all_ret]
    simp only [LN, spec_l4Spans_v1, spec_l4Spans_v2, spec_l4Spans_v3, spec_l4Spans_v4, spec_l4Spans_v5, spec_l4Spans_u2, spec_l4Spans_r2]
    simp only [decide_eq_true_eq]
    refine ⟨fun h0 => ⟨fun _ => by simp, fun _ => ⟨h2, by omega⟩⟩, fun _ => by simp [h2]⟩

/-- spec.l22Spans -/
def spec_l22Spans (p0 : FlyPath) : Bool := (spec_l4Spans p0).2
theorem c62 (p0 : FlyPath) (k0_0 : FlyPath.ok p0) : Fn Proofs.Try.prog 62 [⟨.val, true, FlyPath.cs .bor p0⟩] [.c (.v (.bool (spec_l22Spans p0)))] [] := by
  obtain ⟨R, hR⟩ : ∃ R, R = spec_l22Spans p0 := ⟨_, rfl⟩
  rw [← hR]
  rw [spec_l22Spans] at hR
  refine ⟨fn_intro hT Proofs.Try.func62 rfl rfl fun fs => ?_, _, Proofs.Try.func62, rfl, rfl⟩
  have q0 := k0_0; simp only [FlyPath.ok] at q0
  refine xr hT [] (fun f1 => ⟨[(1, .one (.pt 1 (f1 0 0) 0))], [(1, some (f1 0 0, .box (FlyPath.cs .bor p0)))], 11⟩) (fun f => by kernel_rfl) (fun f => by kernel_rfl) fun f1 => ?_
  have w3 := f_spec_l4Spans p0 (by first | assumption | exact (by omega : p0.Steps.length ≤ 1048576))
  have w3' := w3; try simp only [LN] at w3'
  refine xr hT [ca (c77 p0 (by first | assumption | exact (by omega : p0.Steps.length ≤ 1048576)))] (fun f2 => ⟨[(4, .one (.c (.v (.bool ((spec_l4Spans p0).2)))))], [], 11⟩) (fun f => by kernel_rfl) (fun f => by kernel_rfl) fun f2 => ?_
  refine xr hT [] (fun f4 => ⟨[(2, .one (.c (.v (.bool ((spec_l4Spans p0).2)))))], [], 11⟩) (fun f => by kernel_rfl) (fun f => by kernel_rfl) fun f4 => ?_
  refine w_ret ?_
  subst hR
  exact x_ret (by kernel_rfl)

/-- spec.l22Begun -/
def spec_l22Begun (p0 : FlyPath) (p1 : (List Int)) : Bool := ((spec_FlyPathOk p0) && (decide ((p1.length : Int) ≤ (p0.Steps.length : Int)))) && (spec_l22Spans (spec_l6Held p0 p1))
theorem c40 (p0 : FlyPath) (p1 : (List Int)) (k0_0 : FlyPath.ok p0) (k1_0 : p1.length ≤ 1048576) : Fn Proofs.Try.prog 40 [⟨.val, true, FlyPath.cs .bor p0⟩, ⟨.val, false, [.sl .bor 1 (p1.map Int.row)]⟩] [.c (.v (.bool (spec_l22Begun p0 p1)))] [] := by
  obtain ⟨R, hR⟩ : ∃ R, R = spec_l22Begun p0 p1 := ⟨_, rfl⟩
  rw [← hR]
  rw [spec_l22Begun] at hR
  refine ⟨fn_intro hT Proofs.Try.func40 rfl rfl fun fs => ?_, _, Proofs.Try.func40, rfl, rfl⟩
  have q0 := k0_0; simp only [FlyPath.ok] at q0
  refine xr hT [] (fun f1 => ⟨[(1, .one (.c (.sl .bor 1 (p1.map Int.row)))), (2, .one (.pt 2 (f1 0 0) 0))], [(2, some (f1 0 0, .box (FlyPath.cs .bor p0)))], 23⟩) (fun f => by kernel_rfl) (fun f => by kernel_rfl) fun f1 => ?_
  have w3 := f_spec_l6Held p0 p1 (by first | assumption | exact (by omega : p0.Steps.length ≤ 1048576)) (by omega)
  have w3' := w3; try simp only [LN, spec_l22Spans] at w3'
  refine xr hT [ca (c60 p0 p1 (by first | assumption | exact (by omega : p0.Steps.length ≤ 1048576)) (by omega))] (fun f2 => ⟨[(1, .one (.c (.sl .bor 1 (p1.map Int.row)))), (2, .one (.pt 2 (f1 0 0) 0)), (5, .one (.pt 5 (f2 3 0) 0))], [(2, some (f1 0 0, .box (FlyPath.cs .bor p0))), (5, some (f2 3 0, .box [.v (.int .i64 ((spec_l6Held p0 p1).Kind.Quick)), .v (.int .i64 ((spec_l6Held p0 p1).Kind.Slow)), .mu 900002 (gk (f2 2) 0 2) 7 0 (((spec_l6Held p0 p1).Steps).map FlyStep.row).length, .v (.int .i64 ((spec_l6Held p0 p1).From)), .v (.int .i64 ((spec_l6Held p0 p1).By))])), (900002, some (gk (f2 2) 0 2, .arr 7 (((spec_l6Held p0 p1).Steps).map FlyStep.row)))], 23⟩) (fun f => by kernel_rfl) (fun f => by kernel_rfl) fun f2 => ?_
  refine xr hT [ca (c61 p0 (by first | assumption | exact (by omega : p0.Steps.length ≤ 1048576))), .ln Int.row p1, .ln FlyStep.row p0.Steps, cg ((spec_FlyPathOk p0) && (decide ((p1.length : Int) ≤ (p0.Steps.length : Int)))) (fun h => by (try simp only [Bool.and_eq_true, Bool.or_eq_true, decide_eq_true_eq, Bool.not_eq_true', decide_eq_false_iff_not] at h); exact c62 (spec_l6Held p0 p1) (by first | assumption | exact (show ((spec_l6Held p0 p1).Steps).length ≤ 1048576 from by (try simp only [LN, spec_l22Spans]); omega)))] (fun f4 => ⟨[(4, .one (.c (.v (.bool (((spec_FlyPathOk p0) && (decide ((p1.length : Int) ≤ (p0.Steps.length : Int)))) && (spec_l22Spans (spec_l6Held p0 p1)))))))], [], 23⟩) (fun f => by kernel_rfl) (fun f => by kernel_rfl) fun f4 => ?_
  refine w_ret ?_
  subst hR
  exact x_ret (by kernel_rfl)

def spec_l22Waits_v1 (p0 : FlyPath) (p1 : Int) : List FlyStep := ((spec_l2Copy p0).Steps).set 0 ({ ((spec_l2Copy p0).Steps).getD 0 default with From := (spec_l1Max ((((spec_l2Copy p0).Steps).getD 0 default).From) (wr (p1 + 1))) } : FlyStep)
def spec_l22Waits_v2 (p0 : FlyPath) (p1 : Int) : Bool := (spec_FlyPathOk p0) && (spec_l22Spans (⟨(spec_l2Copy p0).Kind, (spec_l22Waits_v1 p0 p1), (spec_l2Copy p0).From, (spec_l2Copy p0).By⟩ : FlyPath))
/-- spec.l22Waits -/
def spec_l22Waits (p0 : FlyPath) (p1 : Int) : Bool := (if decide (0 < (((spec_l2Copy p0).Steps).length : Int)) then (spec_l22Waits_v2 p0 p1) else (spec_FlyPathOk p0) && (spec_l22Spans (spec_l2Copy p0)))
theorem c44 (p0 : FlyPath) (p1 : Int) (k0_0 : FlyPath.ok p0) : Fn Proofs.Try.prog 44 [⟨.val, true, FlyPath.cs .bor p0⟩, ⟨.val, false, [.v (.int .i64 p1)]⟩] [.c (.v (.bool (spec_l22Waits p0 p1)))] [] := by
  obtain ⟨R, hR⟩ : ∃ R, R = spec_l22Waits p0 p1 := ⟨_, rfl⟩
  rw [← hR]
  rw [spec_l22Waits] at hR
  refine ⟨fn_intro hT Proofs.Try.func44 rfl rfl fun fs => ?_, _, Proofs.Try.func44, rfl, rfl⟩
  have q0 := k0_0; simp only [FlyPath.ok] at q0
  refine xr hT [] (fun f1 => ⟨[(1, .one (.c (.v (.int .i64 p1)))), (2, .one (.pt 2 (f1 0 0) 0))], [(2, some (f1 0 0, .box (FlyPath.cs .bor p0)))], 30⟩) (fun f => by kernel_rfl) (fun f => by kernel_rfl) fun f1 => ?_
  refine xr hT [ca (c22 p0 (by first | assumption | exact (by omega : p0.Steps.length ≤ 1048576)))] (fun f2 => ⟨[(1, .one (.c (.v (.int .i64 p1)))), (2, .one (.pt 2 (f1 0 0) 0)), (5, .one (.pt 5 (f2 2 0) 0))], [(2, some (f1 0 0, .box (FlyPath.cs .bor p0))), (5, some (f2 2 0, .box [.v (.int .i64 ((spec_l2Copy p0).Kind.Quick)), .v (.int .i64 ((spec_l2Copy p0).Kind.Slow)), .mu 800002 (gk (f2 1) 0 2) 7 0 (((spec_l2Copy p0).Steps).map FlyStep.row).length, .v (.int .i64 ((spec_l2Copy p0).From)), .v (.int .i64 ((spec_l2Copy p0).By))])), (800002, some (gk (f2 1) 0 2, .arr 7 (((spec_l2Copy p0).Steps).map FlyStep.row)))], 30⟩) (fun f => by kernel_rfl) (fun f => by kernel_rfl) fun f2 => ?_
  refine w_seq ?_
  refine xr hT [.ln FlyStep.row ((spec_l2Copy p0).Steps)] (fun f3 => ⟨[(1, .one (.c (.v (.int .i64 p1)))), (2, .one (.pt 2 (f1 0 0) 0)), (5, .one (.pt 5 (f2 2 0) 0)), (11, .one (.c (.v (.bool (decide (0 < (((spec_l2Copy p0).Steps).length : Int)))))))], [(2, some (f1 0 0, .box (FlyPath.cs .bor p0))), (5, some (f2 2 0, .box [.v (.int .i64 ((spec_l2Copy p0).Kind.Quick)), .v (.int .i64 ((spec_l2Copy p0).Kind.Slow)), .mu 800002 (gk (f2 1) 0 2) 7 0 (((spec_l2Copy p0).Steps).map FlyStep.row).length, .v (.int .i64 ((spec_l2Copy p0).From)), .v (.int .i64 ((spec_l2Copy p0).By))])), (800002, some (gk (f2 1) 0 2, .arr 7 (((spec_l2Copy p0).Steps).map FlyStep.row)))], 30⟩) (fun f => by kernel_rfl) (fun f => by kernel_rfl) fun f3 => ?_
  refine w_cond rfl (fun h4 => ?_) fun h4 => ?_
  · rw [if_pos h4] at hR
    have gh4 := of_decide_eq_true h4
    refine xd1 (fun _ => rfl) hT hM [ix FlyStep.row ((spec_l2Copy p0).Steps) 0 (by (first | omega | ((try simp only [LN, spec_l22Spans, spec_l2Copy, spec_l22Waits_v1, spec_l22Waits_v2]); omega) | ((try simp only [wr, IntKind.wrap_i64, LN, spec_l22Spans, spec_l2Copy, spec_l22Waits_v1, spec_l22Waits_v2] at *); omega) | (simp_all <;> omega))), ix FlyStep.row ((spec_l2Copy p0).Steps) 0 (by (first | omega | ((try simp only [LN, spec_l22Spans, spec_l2Copy, spec_l22Waits_v1, spec_l22Waits_v2]); omega) | ((try simp only [wr, IntKind.wrap_i64, LN, spec_l22Spans, spec_l2Copy, spec_l22Waits_v1, spec_l22Waits_v2] at *); omega) | (simp_all <;> omega))), .wr, ca (c65 ((((spec_l2Copy p0).Steps).getD 0 default).From) (wr (p1 + 1))), ix FlyStep.row ((spec_l2Copy p0).Steps) 0 (by (first | omega | ((try simp only [LN, spec_l22Spans, spec_l2Copy, spec_l22Waits_v1, spec_l22Waits_v2]); omega) | ((try simp only [wr, IntKind.wrap_i64, LN, spec_l22Spans, spec_l2Copy, spec_l22Waits_v1, spec_l22Waits_v2] at *); omega) | (simp_all <;> omega))), .st inferInstance true FlyStep.row ((spec_l2Copy p0).Steps) 0 ({ ((spec_l2Copy p0).Steps).getD 0 default with From := (spec_l1Max ((((spec_l2Copy p0).Steps).getD 0 default).From) (wr (p1 + 1))) } : FlyStep) (fun h => by (first | omega | ((try simp only [LN, spec_l22Spans, spec_l2Copy, spec_l22Waits_v1, spec_l22Waits_v2]); omega) | ((try simp only [wr, IntKind.wrap_i64, LN, spec_l22Spans, spec_l2Copy, spec_l22Waits_v1, spec_l22Waits_v2] at *); omega) | (simp_all <;> omega)))] (fun f5 => ⟨[(2, .one (.pt 2 (f1 0 0) 0)), (5, .one (.pt 5 (f2 2 0) 0))], [(2, some (f1 0 0, .box (FlyPath.cs .bor p0))), (5, some (f2 2 0, .box [.v (.int .i64 ((spec_l2Copy p0).Kind.Quick)), .v (.int .i64 ((spec_l2Copy p0).Kind.Slow)), .mu 800002 (gk (f2 1) 0 2) 7 0 (((spec_l2Copy p0).Steps).map FlyStep.row).length, .v (.int .i64 ((spec_l2Copy p0).From)), .v (.int .i64 ((spec_l2Copy p0).By))])), (800002, some (gk (f2 1) 0 2, .arr 7 ((spec_l22Waits_v1 p0 p1).map FlyStep.row)))], 30⟩) (fun f => by kernel_rfl) (fun f => by kernel_rfl) (fun f => by kernel_rfl) fun f5 => ?_
    refine w_sub (s := ⟨[(2, .one (.pt 2 (f1 0 0) 0)), (5, .one (.pt 5 (f2 2 0) 0))], [(2, some (f1 0 0, .box (FlyPath.cs .bor p0))), (5, some (f2 2 0, .box [.v (.int .i64 ((spec_l2Copy p0).Kind.Quick)), .v (.int .i64 ((spec_l2Copy p0).Kind.Slow)), .mu 800002 (gk (f2 1) 0 2) 7 0 ((spec_l22Waits_v1 p0 p1).map FlyStep.row).length, .v (.int .i64 ((spec_l2Copy p0).From)), .v (.int .i64 ((spec_l2Copy p0).By))])), (800002, some (gk (f2 1) 0 2, .arr 7 ((spec_l22Waits_v1 p0 p1).map FlyStep.row)))], 30⟩) (cst (by simp only [LN, spec_l22Spans, spec_l2Copy, spec_l22Waits_v1, spec_l22Waits_v2]) (sb (s := ⟨[(2, .one (.pt 2 (f1 0 0) 0)), (5, .one (.pt 5 (f2 2 0) 0))], [(2, some (f1 0 0, .box (FlyPath.cs .bor p0))), (5, some (f2 2 0, .box [.v (.int .i64 ((spec_l2Copy p0).Kind.Quick)), .v (.int .i64 ((spec_l2Copy p0).Kind.Slow)), .mu 800002 (gk (f2 1) 0 2) 7 0 (((spec_l2Copy p0).Steps).map FlyStep.row).length, .v (.int .i64 ((spec_l2Copy p0).From)), .v (.int .i64 ((spec_l2Copy p0).By))])), (800002, some (gk (f2 1) 0 2, .arr 7 ((spec_l22Waits_v1 p0 p1).map FlyStep.row)))], 30⟩) (by kernel_rfl))) ?_
    refine xr hT [ca (c61 p0 (by first | assumption | exact (by omega : p0.Steps.length ≤ 1048576))), cg (spec_FlyPathOk p0) (fun h => by (try simp only [Bool.and_eq_true, Bool.or_eq_true, decide_eq_true_eq, Bool.not_eq_true', decide_eq_false_iff_not] at h); exact c62 (⟨(spec_l2Copy p0).Kind, (spec_l22Waits_v1 p0 p1), (spec_l2Copy p0).From, (spec_l2Copy p0).By⟩ : FlyPath) (by first | assumption | exact (show ((spec_l22Waits_v1 p0 p1)).length ≤ 1048576 from by (try simp only [LN, spec_l22Spans, spec_l2Copy, spec_l22Waits_v1, spec_l22Waits_v2]); omega)))] (fun f6 => ⟨[(4, .one (.c (.v (.bool (spec_l22Waits_v2 p0 p1)))))], [], 30⟩) (fun f => by kernel_rfl) (fun f => by kernel_rfl) fun f6 => ?_
    refine w_ret ?_
    subst hR
    exact x_ret (by kernel_rfl)
  rw [if_neg (nt h4)] at hR
  have gh4 := of_decide_eq_false h4
  refine w_skip ?_
  refine xr hT [ca (c61 p0 (by first | assumption | exact (by omega : p0.Steps.length ≤ 1048576))), cg (spec_FlyPathOk p0) (fun h => by (try simp only [Bool.and_eq_true, Bool.or_eq_true, decide_eq_true_eq, Bool.not_eq_true', decide_eq_false_iff_not] at h); exact c62 (spec_l2Copy p0) (by first | assumption | exact (show ((spec_l2Copy p0).Steps).length ≤ 1048576 from by (try simp only [LN, spec_l22Spans, spec_l2Copy, spec_l22Waits_v1, spec_l22Waits_v2]); omega)))] (fun f7 => ⟨[(4, .one (.c (.v (.bool ((spec_FlyPathOk p0) && (spec_l22Spans (spec_l2Copy p0)))))))], [], 30⟩) (fun f => by kernel_rfl) (fun f => by kernel_rfl) fun f7 => ?_
  refine w_ret ?_
  subst hR
  exact x_ret (by kernel_rfl)

/-- spec.l7Tail -/
def spec_l7Tail (p0 : FlyPath) (p1 : Int) : FlyPath := (⟨p0.Kind, (p0.Steps.drop ((p1).toNat)).take (p0.Steps.length - ((p1).toNat)), p0.From, p0.By⟩ : FlyPath)
theorem c78 (p0 : FlyPath) (p1 : Int) (k0_0 : FlyPath.ok p0) (h0 : 0 ≤ p1) (h1 : p1 ≤ (p0.Steps.length : Int)) : Fn Proofs.Try.prog 78 [⟨.val, true, FlyPath.cs .bor p0⟩, ⟨.val, false, [.v (.int .i64 p1)]⟩] [.ag (FlyPath.cs .own (spec_l7Tail p0 p1))] [] := by
  obtain ⟨R, hR⟩ : ∃ R, R = spec_l7Tail p0 p1 := ⟨_, rfl⟩
  rw [← hR]
  rw [spec_l7Tail] at hR
  refine ⟨fn_intro hT Proofs.Try.func78 rfl rfl fun fs => ?_, _, Proofs.Try.func78, rfl, rfl⟩
  have q0 := k0_0; simp only [FlyPath.ok] at q0
  refine xr hT [] (fun f1 => ⟨[(1, .one (.c (.v (.int .i64 p1)))), (2, .one (.pt 2 (f1 0 0) 0)), (4, .one (.pt 4 (f1 1 0) 0))], [(2, some (f1 0 0, .box (FlyPath.cs .bor p0))), (4, some (f1 1 0, .box [.v (.int .i64 0), .v (.int .i64 0), .nl, .v (.int .i64 0), .v (.int .i64 0)]))], 18⟩) (fun f => by kernel_rfl) (fun f => by kernel_rfl) fun f1 => ?_
  refine xd hT hM [.sl true FlyStep.row p0.Steps (p1) ((p0.Steps.length : Int)) ((p1).toNat) p0.Steps.length (fun h => ⟨by omega, by omega, by omega, by omega⟩), .app true FlyStep.row ([] : List FlyStep) ((p0.Steps.drop ((p1).toNat)).take (p0.Steps.length - ((p1).toNat))) 56 (fun h => by (try simp only [LN]); omega), .pl (FlyStep.rv ((p0.Steps.drop ((p1).toNat)).take (p0.Steps.length - ((p1).toNat))))] (fun f2 => ⟨[(4, .one (.pt 4 (f1 1 0) 0))], [(4, some (f1 1 0, .box [.v (.int .i64 p0.Kind.Quick), .v (.int .i64 p0.Kind.Slow), .mu 7 (f2 7 0) 7 0 (((p0.Steps.drop ((p1).toNat)).take (p0.Steps.length - ((p1).toNat))).map FlyStep.row).length, .v (.int .i64 p0.From), .v (.int .i64 p0.By)])), (7, some (f2 7 0, .arr 7 (((p0.Steps.drop ((p1).toNat)).take (p0.Steps.length - ((p1).toNat))).map FlyStep.row)))], 18⟩) (fun f => by kernel_rfl) (fun f => by kernel_rfl) (fun f => by kernel_rfl) fun f2 => ?_
  refine w_ret ?_
  subst hR
  exact x_ret (by kernel_rfl)

/-- spec.l7Can -/
def spec_l7Can (p0 : FlyPath) : FlyPath × Bool := (if !((spec_l4Spans p0).2) then ((⟨⟨0, 0⟩, [], 0, 0⟩ : FlyPath), false) else (p0, true))
theorem c79 (p0 : FlyPath) (k0_0 : FlyPath.ok p0) : Fn Proofs.Try.prog 79 [⟨.val, true, FlyPath.cs .own p0⟩] [.ag (FlyPath.cs .own (spec_l7Can p0).1), .c (.v (.bool (spec_l7Can p0).2))] [] := by
  obtain ⟨R, hR⟩ : ∃ R, R = spec_l7Can p0 := ⟨_, rfl⟩
  rw [← hR]
  rw [spec_l7Can] at hR
  refine ⟨fn_intro hT Proofs.Try.func79 rfl rfl fun fs => ?_, _, Proofs.Try.func79, rfl, rfl⟩
  have q0 := k0_0; simp only [FlyPath.ok] at q0
  refine xr hT [] (fun f1 => ⟨[(1, .one (.pt 1 (f1 0 0) 0)), (2, .one (.pt 2 (f1 1 0) 0))], [(1, some (f1 0 0, .box [.v (.int .i64 p0.Kind.Quick), .v (.int .i64 p0.Kind.Slow), .mu 1002 (fs 0 2) 7 0 (p0.Steps.map FlyStep.row).length, .v (.int .i64 p0.From), .v (.int .i64 p0.By)])), (2, some (f1 1 0, .box [.v (.int .i64 0), .v (.int .i64 0), .nl, .v (.int .i64 0), .v (.int .i64 0)])), (1002, some (fs 0 2, .arr 7 (p0.Steps.map FlyStep.row)))], 15⟩) (fun f => by kernel_rfl) (fun f => by kernel_rfl) fun f1 => ?_
  have w3 := f_spec_l4Spans p0 (by first | assumption | exact (by omega : p0.Steps.length ≤ 1048576))
  have w3' := w3; try simp only [LN] at w3'
  refine xr hT [ca (c77 p0 (by first | assumption | exact (by omega : p0.Steps.length ≤ 1048576)))] (fun f2 => ⟨[(1, .one (.pt 1 (f1 0 0) 0)), (2, .one (.pt 2 (f1 1 0) 0)), (5, .one (.c (.v (.bool ((spec_l4Spans p0).2)))))], [(1, some (f1 0 0, .box [.v (.int .i64 p0.Kind.Quick), .v (.int .i64 p0.Kind.Slow), .mu 1002 (fs 0 2) 7 0 (p0.Steps.map FlyStep.row).length, .v (.int .i64 p0.From), .v (.int .i64 p0.By)])), (2, some (f1 1 0, .box [.v (.int .i64 0), .v (.int .i64 0), .nl, .v (.int .i64 0), .v (.int .i64 0)])), (1002, some (fs 0 2, .arr 7 (p0.Steps.map FlyStep.row)))], 15⟩) (fun f => by kernel_rfl) (fun f => by kernel_rfl) fun f2 => ?_
  refine w_seq ?_
  refine xr hT [] (fun f4 => ⟨[(1, .one (.pt 1 (f1 0 0) 0)), (2, .one (.pt 2 (f1 1 0) 0)), (12, .one (.c (.v (.bool (!((spec_l4Spans p0).2))))))], [(1, some (f1 0 0, .box [.v (.int .i64 p0.Kind.Quick), .v (.int .i64 p0.Kind.Slow), .mu 1002 (fs 0 2) 7 0 (p0.Steps.map FlyStep.row).length, .v (.int .i64 p0.From), .v (.int .i64 p0.By)])), (2, some (f1 1 0, .box [.v (.int .i64 0), .v (.int .i64 0), .nl, .v (.int .i64 0), .v (.int .i64 0)])), (1002, some (fs 0 2, .arr 7 (p0.Steps.map FlyStep.row)))], 15⟩) (fun f => by kernel_rfl) (fun f => by kernel_rfl) fun f4 => ?_
  refine w_cond rfl (fun h5 => ?_) fun h5 => ?_
  · rw [if_pos h5] at hR
    refine xr hT [] (fun f6 => ⟨[(2, .one (.pt 2 (f1 1 0) 0)), (3, .one (.c (.v (.bool false))))], [(2, some (f1 1 0, .box [.v (.int .i64 0), .v (.int .i64 0), .nl, .v (.int .i64 0), .v (.int .i64 0)])), (1002, some (fs 0 2, .arr 7 (p0.Steps.map FlyStep.row)))], 15⟩) (fun f => by kernel_rfl) (fun f => by kernel_rfl) fun f6 => ?_
    refine w_ret ?_
    subst hR
    exact x_ret (by kernel_rfl)
  rw [if_neg (nt h5)] at hR
  refine w_skip ?_
  refine xr hT [] (fun f7 => ⟨[(2, .one (.pt 2 (f1 1 0) 0)), (3, .one (.c (.v (.bool true))))], [(2, some (f1 1 0, .box [.v (.int .i64 p0.Kind.Quick), .v (.int .i64 p0.Kind.Slow), .mu 1002 (fs 0 2) 7 0 (p0.Steps.map FlyStep.row).length, .v (.int .i64 p0.From), .v (.int .i64 p0.By)])), (1002, some (fs 0 2, .arr 7 (p0.Steps.map FlyStep.row)))], 15⟩) (fun f => by kernel_rfl) (fun f => by kernel_rfl) fun f7 => ?_
  refine w_ret ?_
  subst hR
  exact x_ret (by kernel_rfl)

/-- spec.l7After -/
def spec_l7After (p0 : FlyPath) (p1 : Int) : FlyPath := (if decide (1 < (p0.Steps.length : Int)) then (⟨p0.Kind, p0.Steps.set 1 ({ p0.Steps.getD 1 default with From := (spec_l1Max ((p0.Steps.getD 1 default).From) (wr (p1 + 1))) } : FlyStep), p0.From, p0.By⟩ : FlyPath) else (⟨p0.Kind, p0.Steps, (spec_l1Max p0.From (wr (p1 + 1))), p0.By⟩ : FlyPath))
theorem c80 (p0 : FlyPath) (p1 : Int) (k0_0 : FlyPath.ok p0) : Fn Proofs.Try.prog 80 [⟨.val, true, FlyPath.cs .own p0⟩, ⟨.val, false, [.v (.int .i64 p1)]⟩] [.ag (FlyPath.cs .own (spec_l7After p0 p1))] [] := by
  obtain ⟨R, hR⟩ : ∃ R, R = spec_l7After p0 p1 := ⟨_, rfl⟩
  rw [← hR]
  rw [spec_l7After] at hR
  refine ⟨fn_intro hT Proofs.Try.func80 rfl rfl fun fs => ?_, _, Proofs.Try.func80, rfl, rfl⟩
  have q0 := k0_0; simp only [FlyPath.ok] at q0
  refine xr hT [] (fun f1 => ⟨[(1, .one (.c (.v (.int .i64 p1)))), (2, .one (.pt 2 (f1 0 0) 0)), (4, .one (.pt 4 (f1 1 0) 0))], [(2, some (f1 0 0, .box [.v (.int .i64 p0.Kind.Quick), .v (.int .i64 p0.Kind.Slow), .mu 1002 (fs 0 2) 7 0 (p0.Steps.map FlyStep.row).length, .v (.int .i64 p0.From), .v (.int .i64 p0.By)])), (4, some (f1 1 0, .box [.v (.int .i64 0), .v (.int .i64 0), .nl, .v (.int .i64 0), .v (.int .i64 0)])), (1002, some (fs 0 2, .arr 7 (p0.Steps.map FlyStep.row)))], 28⟩) (fun f => by kernel_rfl) (fun f => by kernel_rfl) fun f1 => ?_
  refine w_seq ?_
  refine xr hT [.ln FlyStep.row p0.Steps] (fun f2 => ⟨[(1, .one (.c (.v (.int .i64 p1)))), (2, .one (.pt 2 (f1 0 0) 0)), (4, .one (.pt 4 (f1 1 0) 0)), (8, .one (.c (.v (.bool (decide (1 < (p0.Steps.length : Int)))))))], [(2, some (f1 0 0, .box [.v (.int .i64 p0.Kind.Quick), .v (.int .i64 p0.Kind.Slow), .mu 1002 (fs 0 2) 7 0 (p0.Steps.map FlyStep.row).length, .v (.int .i64 p0.From), .v (.int .i64 p0.By)])), (4, some (f1 1 0, .box [.v (.int .i64 0), .v (.int .i64 0), .nl, .v (.int .i64 0), .v (.int .i64 0)])), (1002, some (fs 0 2, .arr 7 (p0.Steps.map FlyStep.row)))], 28⟩) (fun f => by kernel_rfl) (fun f => by kernel_rfl) fun f2 => ?_
  refine w_cond rfl (fun h3 => ?_) fun h3 => ?_
  · rw [if_pos h3] at hR
    have gh3 := of_decide_eq_true h3
    refine xd1 (fun _ => rfl) hT hM [ix FlyStep.row p0.Steps 1 (by omega), ix FlyStep.row p0.Steps 1 (by omega), .wr, ca (c65 ((p0.Steps.getD 1 default).From) (wr (p1 + 1))), ix FlyStep.row p0.Steps 1 (by omega), .st inferInstance true FlyStep.row p0.Steps 1 ({ p0.Steps.getD 1 default with From := (spec_l1Max ((p0.Steps.getD 1 default).From) (wr (p1 + 1))) } : FlyStep) (fun h => by omega)] (fun f4 => ⟨[(2, .one (.pt 2 (f1 0 0) 0)), (4, .one (.pt 4 (f1 1 0) 0))], [(2, some (f1 0 0, .box [.v (.int .i64 p0.Kind.Quick), .v (.int .i64 p0.Kind.Slow), .mu 1002 (fs 0 2) 7 0 (p0.Steps.map FlyStep.row).length, .v (.int .i64 p0.From), .v (.int .i64 p0.By)])), (4, some (f1 1 0, .box [.v (.int .i64 0), .v (.int .i64 0), .nl, .v (.int .i64 0), .v (.int .i64 0)])), (1002, some (fs 0 2, .arr 7 ((p0.Steps.set 1 ({ p0.Steps.getD 1 default with From := (spec_l1Max ((p0.Steps.getD 1 default).From) (wr (p1 + 1))) } : FlyStep)).map FlyStep.row)))], 28⟩) (fun f => by kernel_rfl) (fun f => by kernel_rfl) (fun f => by kernel_rfl) fun f4 => ?_
    refine w_sub (s := ⟨[(2, .one (.pt 2 (f1 0 0) 0)), (4, .one (.pt 4 (f1 1 0) 0))], [(2, some (f1 0 0, .box [.v (.int .i64 p0.Kind.Quick), .v (.int .i64 p0.Kind.Slow), .mu 1002 (fs 0 2) 7 0 ((p0.Steps.set 1 ({ p0.Steps.getD 1 default with From := (spec_l1Max ((p0.Steps.getD 1 default).From) (wr (p1 + 1))) } : FlyStep)).map FlyStep.row).length, .v (.int .i64 p0.From), .v (.int .i64 p0.By)])), (4, some (f1 1 0, .box [.v (.int .i64 0), .v (.int .i64 0), .nl, .v (.int .i64 0), .v (.int .i64 0)])), (1002, some (fs 0 2, .arr 7 ((p0.Steps.set 1 ({ p0.Steps.getD 1 default with From := (spec_l1Max ((p0.Steps.getD 1 default).From) (wr (p1 + 1))) } : FlyStep)).map FlyStep.row)))], 28⟩) (cst (by simp only [LN]) (sb (s := ⟨[(2, .one (.pt 2 (f1 0 0) 0)), (4, .one (.pt 4 (f1 1 0) 0))], [(2, some (f1 0 0, .box [.v (.int .i64 p0.Kind.Quick), .v (.int .i64 p0.Kind.Slow), .mu 1002 (fs 0 2) 7 0 (p0.Steps.map FlyStep.row).length, .v (.int .i64 p0.From), .v (.int .i64 p0.By)])), (4, some (f1 1 0, .box [.v (.int .i64 0), .v (.int .i64 0), .nl, .v (.int .i64 0), .v (.int .i64 0)])), (1002, some (fs 0 2, .arr 7 ((p0.Steps.set 1 ({ p0.Steps.getD 1 default with From := (spec_l1Max ((p0.Steps.getD 1 default).From) (wr (p1 + 1))) } : FlyStep)).map FlyStep.row)))], 28⟩) (by kernel_rfl))) ?_
    refine xr hT [] (fun f5 => ⟨[(4, .one (.pt 4 (f1 1 0) 0))], [(4, some (f1 1 0, .box [.v (.int .i64 p0.Kind.Quick), .v (.int .i64 p0.Kind.Slow), .mu 1002 (fs 0 2) 7 0 ((p0.Steps.set 1 ({ p0.Steps.getD 1 default with From := (spec_l1Max ((p0.Steps.getD 1 default).From) (wr (p1 + 1))) } : FlyStep)).map FlyStep.row).length, .v (.int .i64 p0.From), .v (.int .i64 p0.By)])), (1002, some (fs 0 2, .arr 7 ((p0.Steps.set 1 ({ p0.Steps.getD 1 default with From := (spec_l1Max ((p0.Steps.getD 1 default).From) (wr (p1 + 1))) } : FlyStep)).map FlyStep.row)))], 28⟩) (fun f => by kernel_rfl) (fun f => by kernel_rfl) fun f5 => ?_
    refine w_ret ?_
    subst hR
    exact x_ret (by kernel_rfl)
  rw [if_neg (nt h3)] at hR
  have gh3 := of_decide_eq_false h3
  refine xr1 (fun _ => rfl) hT [.wr, ca (c65 p0.From (wr (p1 + 1)))] (fun f6 => ⟨[(2, .one (.pt 2 (f1 0 0) 0)), (4, .one (.pt 4 (f1 1 0) 0))], [(2, some (f1 0 0, .box [.v (.int .i64 p0.Kind.Quick), .v (.int .i64 p0.Kind.Slow), .mu 1002 (fs 0 2) 7 0 (p0.Steps.map FlyStep.row).length, .v (.int .i64 (spec_l1Max p0.From (wr (p1 + 1)))), .v (.int .i64 p0.By)])), (4, some (f1 1 0, .box [.v (.int .i64 0), .v (.int .i64 0), .nl, .v (.int .i64 0), .v (.int .i64 0)])), (1002, some (fs 0 2, .arr 7 (p0.Steps.map FlyStep.row)))], 28⟩) (fun f => by kernel_rfl) (fun f => by kernel_rfl) fun f6 => ?_
  refine xr hT [] (fun f7 => ⟨[(4, .one (.pt 4 (f1 1 0) 0))], [(4, some (f1 1 0, .box [.v (.int .i64 p0.Kind.Quick), .v (.int .i64 p0.Kind.Slow), .mu 1002 (fs 0 2) 7 0 (p0.Steps.map FlyStep.row).length, .v (.int .i64 (spec_l1Max p0.From (wr (p1 + 1)))), .v (.int .i64 p0.By)])), (1002, some (fs 0 2, .arr 7 (p0.Steps.map FlyStep.row)))], 28⟩) (fun f => by kernel_rfl) (fun f => by kernel_rfl) fun f7 => ?_
  refine w_ret ?_
  subst hR
  exact x_ret (by kernel_rfl)
theorem f_spec_l7After (p0 : FlyPath) (p1 : Int) (_ : FlyPath.ok p0) : (spec_l7After p0 p1).Steps.length = p0.Steps.length := by
  unfold spec_l7After
  (try simp only [LN])
  split <;> simp

def spec_FlyRest_v1 (p0 : FlyPath) (p1 : Int) (p2 : Int) : List FlyStep := ((spec_l7Tail (spec_l6Held p0 ([] : List Int)) p1).Steps).set 0 ({ ((spec_l7Tail (spec_l6Held p0 ([] : List Int)) p1).Steps).getD 0 default with From := (spec_l1Max ((((spec_l7Tail (spec_l6Held p0 ([] : List Int)) p1).Steps).getD 0 default).From) p2) } : FlyStep)
def spec_FlyRest_v2 (p0 : FlyPath) (p1 : Int) (p2 : Int) : List FlyStep := (spec_FlyRest_v1 p0 p1 p2).set 0 ({ (spec_FlyRest_v1 p0 p1 p2).getD 0 default with By := (spec_l1Min (((spec_FlyRest_v1 p0 p1 p2).getD 0 default).By) p2) } : FlyStep)
def spec_FlyRest_v3 (p0 : FlyPath) (p1 : Int) (p2 : Int) (p3 : Int) : Bool := (spec_l7Can (spec_l7After (⟨(spec_l7Tail (spec_l6Held p0 ([] : List Int)) p1).Kind, (spec_FlyRest_v2 p0 p1 p2), (spec_l7Tail (spec_l6Held p0 ([] : List Int)) p1).From, (spec_l7Tail (spec_l6Held p0 ([] : List Int)) p1).By⟩ : FlyPath) p3)).2
def spec_FlyRest_v4 (p0 : FlyPath) (p1 : Int) (p2 : Int) (p3 : Int) : Int := ((spec_l7Can (spec_l7After (⟨(spec_l7Tail (spec_l6Held p0 ([] : List Int)) p1).Kind, (spec_FlyRest_v2 p0 p1 p2), (spec_l7Tail (spec_l6Held p0 ([] : List Int)) p1).From, (spec_l7Tail (spec_l6Held p0 ([] : List Int)) p1).By⟩ : FlyPath) p3)).1).Kind.Quick
def spec_FlyRest_v5 (p0 : FlyPath) (p1 : Int) (p2 : Int) (p3 : Int) : Int := ((spec_l7Can (spec_l7After (⟨(spec_l7Tail (spec_l6Held p0 ([] : List Int)) p1).Kind, (spec_FlyRest_v2 p0 p1 p2), (spec_l7Tail (spec_l6Held p0 ([] : List Int)) p1).From, (spec_l7Tail (spec_l6Held p0 ([] : List Int)) p1).By⟩ : FlyPath) p3)).1).Kind.Slow
def spec_FlyRest_v6 (p0 : FlyPath) (p1 : Int) (p2 : Int) (p3 : Int) : List FlyStep := ((spec_l7Can (spec_l7After (⟨(spec_l7Tail (spec_l6Held p0 ([] : List Int)) p1).Kind, (spec_FlyRest_v2 p0 p1 p2), (spec_l7Tail (spec_l6Held p0 ([] : List Int)) p1).From, (spec_l7Tail (spec_l6Held p0 ([] : List Int)) p1).By⟩ : FlyPath) p3)).1).Steps
def spec_FlyRest_v7 (p0 : FlyPath) (p1 : Int) (p2 : Int) (p3 : Int) : Int := ((spec_l7Can (spec_l7After (⟨(spec_l7Tail (spec_l6Held p0 ([] : List Int)) p1).Kind, (spec_FlyRest_v2 p0 p1 p2), (spec_l7Tail (spec_l6Held p0 ([] : List Int)) p1).From, (spec_l7Tail (spec_l6Held p0 ([] : List Int)) p1).By⟩ : FlyPath) p3)).1).From
def spec_FlyRest_v8 (p0 : FlyPath) (p1 : Int) (p2 : Int) (p3 : Int) : Int := ((spec_l7Can (spec_l7After (⟨(spec_l7Tail (spec_l6Held p0 ([] : List Int)) p1).Kind, (spec_FlyRest_v2 p0 p1 p2), (spec_l7Tail (spec_l6Held p0 ([] : List Int)) p1).From, (spec_l7Tail (spec_l6Held p0 ([] : List Int)) p1).By⟩ : FlyPath) p3)).1).By
/-- spec.FlyRest -/
def spec_FlyRest (p0 : FlyPath) (p1 : Int) (p2 : Int) (p3 : Int) : FlyPath × Bool := (if (((!(spec_FlyPathOk p0)) || (!(spec_l1In p1 0 ((p0.Steps.length : Int) - 1)))) || (!(spec_l1In p3 p2 10000))) || (decide (p2 < 0)) then ((⟨⟨0, 0⟩, [], 0, 0⟩ : FlyPath), false) else ((⟨⟨(spec_FlyRest_v4 p0 p1 p2 p3), (spec_FlyRest_v5 p0 p1 p2 p3)⟩, (spec_FlyRest_v6 p0 p1 p2 p3), (spec_FlyRest_v7 p0 p1 p2 p3), (spec_FlyRest_v8 p0 p1 p2 p3)⟩ : FlyPath), (spec_FlyRest_v3 p0 p1 p2 p3)))
theorem c63 (p0 : FlyPath) (p1 : Int) (p2 : Int) (p3 : Int) (k0_0 : FlyPath.ok p0) : Fn Proofs.Try.prog 63 [⟨.val, true, FlyPath.cs .bor p0⟩, ⟨.val, false, [.v (.int .i64 p1)]⟩, ⟨.val, false, [.v (.int .i64 p2)]⟩, ⟨.val, false, [.v (.int .i64 p3)]⟩] [.ag (FlyPath.cs .own (spec_FlyRest p0 p1 p2 p3).1), .c (.v (.bool (spec_FlyRest p0 p1 p2 p3).2))] [] := by
  obtain ⟨R, hR⟩ : ∃ R, R = spec_FlyRest p0 p1 p2 p3 := ⟨_, rfl⟩
  rw [← hR]
  rw [spec_FlyRest] at hR
  refine ⟨fn_intro hT Proofs.Try.func63 rfl rfl fun fs => ?_, _, Proofs.Try.func63, rfl, rfl⟩
  have q0 := k0_0; simp only [FlyPath.ok] at q0
  refine xr hT [] (fun f1 => ⟨[(1, .one (.c (.v (.int .i64 p1)))), (2, .one (.c (.v (.int .i64 p2)))), (3, .one (.c (.v (.int .i64 p3)))), (4, .one (.pt 4 (f1 0 0) 0)), (8, .one (.pt 8 (f1 1 0) 0))], [(4, some (f1 0 0, .box (FlyPath.cs .bor p0))), (8, some (f1 1 0, .box [.v (.int .i64 0), .v (.int .i64 0), .nl, .v (.int .i64 0), .v (.int .i64 0)]))], 67⟩) (fun f => by kernel_rfl) (fun f => by kernel_rfl) fun f1 => ?_
  refine w_seq ?_
  refine xr hT [ca (c61 p0 (by first | assumption | exact (by omega : p0.Steps.length ≤ 1048576))), .ln FlyStep.row p0.Steps, .ex (!(!(spec_FlyPathOk p0))) ((p0.Steps.length : Int) - 1) ((p0.Steps.length : Int) - 1) (fun h => by (try simp only [Bool.and_eq_true, Bool.or_eq_true, decide_eq_true_eq, Bool.not_eq_true', decide_eq_false_iff_not] at h); exact wr_eq (by omega) (by omega)), cg (!(!(spec_FlyPathOk p0))) (fun _ => c39 p1 0 ((p0.Steps.length : Int) - 1)), cg (!((!(spec_FlyPathOk p0)) || (!(spec_l1In p1 0 ((p0.Steps.length : Int) - 1))))) (fun _ => c39 p3 p2 10000)] (fun f2 => ⟨[(1, .one (.c (.v (.int .i64 p1)))), (2, .one (.c (.v (.int .i64 p2)))), (3, .one (.c (.v (.int .i64 p3)))), (4, .one (.pt 4 (f1 0 0) 0)), (8, .one (.pt 8 (f1 1 0) 0)), (32, .one (.c (.v (.bool ((((!(spec_FlyPathOk p0)) || (!(spec_l1In p1 0 ((p0.Steps.length : Int) - 1)))) || (!(spec_l1In p3 p2 10000))) || (decide (p2 < 0)))))))], [(4, some (f1 0 0, .box (FlyPath.cs .bor p0))), (8, some (f1 1 0, .box [.v (.int .i64 0), .v (.int .i64 0), .nl, .v (.int .i64 0), .v (.int .i64 0)]))], 67⟩) (fun f => by kernel_rfl) (fun f => by kernel_rfl) fun f2 => ?_
  refine w_cond rfl (fun h3 => ?_) fun h3 => ?_
  · rw [if_pos h3] at hR
    have gh3 := h3; try simp only [spec_l1In, Bool.not_eq_true', Bool.not_eq_false', decide_eq_true_eq, decide_eq_false_iff_not, Bool.and_eq_true, Bool.or_eq_true, Bool.and_eq_false_iff, Bool.or_eq_false_iff] at gh3
    refine xr hT [] (fun f4 => ⟨[(8, .one (.pt 8 (f1 1 0) 0)), (9, .one (.c (.v (.bool false))))], [(8, some (f1 1 0, .box [.v (.int .i64 0), .v (.int .i64 0), .nl, .v (.int .i64 0), .v (.int .i64 0)]))], 67⟩) (fun f => by kernel_rfl) (fun f => by kernel_rfl) fun f4 => ?_
    refine w_ret ?_
    subst hR
    exact x_ret (by kernel_rfl)
  rw [if_neg (nt h3)] at hR
  have gh3 := h3; try simp only [spec_l1In, Bool.not_eq_true', Bool.not_eq_false', decide_eq_true_eq, decide_eq_false_iff_not, Bool.and_eq_true, Bool.or_eq_true, Bool.and_eq_false_iff, Bool.or_eq_false_iff] at gh3
  refine w_skip ?_
  have w6 := f_spec_l6Held p0 ([] : List Int) (by first | assumption | exact (by omega : p0.Steps.length ≤ 1048576)) (by first | assumption | ((try simp only [LN, spec_l7Tail, spec_FlyRest_v1, spec_FlyRest_v2, spec_FlyRest_v3, spec_FlyRest_v4, spec_FlyRest_v5, spec_FlyRest_v6, spec_FlyRest_v7, spec_FlyRest_v8, FlyPath.ok]) <;> omega) | (simp only [LN, spec_l7Tail, spec_FlyRest_v1, spec_FlyRest_v2, spec_FlyRest_v3, spec_FlyRest_v4, spec_FlyRest_v5, spec_FlyRest_v6, spec_FlyRest_v7, spec_FlyRest_v8] <;> assumption))
  have w6' := w6; try simp only [LN, spec_l7Tail, spec_FlyRest_v1, spec_FlyRest_v2, spec_FlyRest_v3, spec_FlyRest_v4, spec_FlyRest_v5, spec_FlyRest_v6, spec_FlyRest_v7, spec_FlyRest_v8] at w6'
  refine xr hT [ca (c60 p0 ([] : List Int) (by first | assumption | exact (by omega : p0.Steps.length ≤ 1048576)) (by first | assumption | ((try simp only [LN, spec_l7Tail, spec_FlyRest_v1, spec_FlyRest_v2, spec_FlyRest_v3, spec_FlyRest_v4, spec_FlyRest_v5, spec_FlyRest_v6, spec_FlyRest_v7, spec_FlyRest_v8, FlyPath.ok]) <;> omega) | (simp only [LN, spec_l7Tail, spec_FlyRest_v1, spec_FlyRest_v2, spec_FlyRest_v3, spec_FlyRest_v4, spec_FlyRest_v5, spec_FlyRest_v6, spec_FlyRest_v7, spec_FlyRest_v8] <;> assumption))), ca (c78 (spec_l6Held p0 ([] : List Int)) p1 (by first | assumption | exact (show ((spec_l6Held p0 ([] : List Int)).Steps).length ≤ 1048576 from by (try simp only [LN, spec_l7Tail, spec_FlyRest_v1, spec_FlyRest_v2, spec_FlyRest_v3, spec_FlyRest_v4, spec_FlyRest_v5, spec_FlyRest_v6, spec_FlyRest_v7, spec_FlyRest_v8]); omega)) (by first | assumption | ((try simp only [LN, spec_l7Tail, spec_FlyRest_v1, spec_FlyRest_v2, spec_FlyRest_v3, spec_FlyRest_v4, spec_FlyRest_v5, spec_FlyRest_v6, spec_FlyRest_v7, spec_FlyRest_v8, FlyPath.ok]) <;> omega) | (simp only [LN, spec_l7Tail, spec_FlyRest_v1, spec_FlyRest_v2, spec_FlyRest_v3, spec_FlyRest_v4, spec_FlyRest_v5, spec_FlyRest_v6, spec_FlyRest_v7, spec_FlyRest_v8] <;> assumption)) (by first | assumption | ((try simp only [LN, spec_l7Tail, spec_FlyRest_v1, spec_FlyRest_v2, spec_FlyRest_v3, spec_FlyRest_v4, spec_FlyRest_v5, spec_FlyRest_v6, spec_FlyRest_v7, spec_FlyRest_v8, FlyPath.ok]) <;> omega) | (simp only [LN, spec_l7Tail, spec_FlyRest_v1, spec_FlyRest_v2, spec_FlyRest_v3, spec_FlyRest_v4, spec_FlyRest_v5, spec_FlyRest_v6, spec_FlyRest_v7, spec_FlyRest_v8] <;> assumption)))] (fun f5 => ⟨[(2, .one (.c (.v (.int .i64 p2)))), (3, .one (.c (.v (.int .i64 p3)))), (8, .one (.pt 8 (f1 1 0) 0)), (10, .one (.pt 10 (f5 5 0) 0))], [(8, some (f1 1 0, .box [.v (.int .i64 0), .v (.int .i64 0), .nl, .v (.int .i64 0), .v (.int .i64 0)])), (10, some (f5 5 0, .box [.v (.int .i64 ((spec_l7Tail (spec_l6Held p0 ([] : List Int)) p1).Kind.Quick)), .v (.int .i64 ((spec_l7Tail (spec_l6Held p0 ([] : List Int)) p1).Kind.Slow)), .mu 3900002 (gk (f5 4) 0 2) 7 0 (((spec_l7Tail (spec_l6Held p0 ([] : List Int)) p1).Steps).map FlyStep.row).length, .v (.int .i64 ((spec_l7Tail (spec_l6Held p0 ([] : List Int)) p1).From)), .v (.int .i64 ((spec_l7Tail (spec_l6Held p0 ([] : List Int)) p1).By))])), (3900002, some (gk (f5 4) 0 2, .arr 7 (((spec_l7Tail (spec_l6Held p0 ([] : List Int)) p1).Steps).map FlyStep.row)))], 67⟩) (fun f => by kernel_rfl) (fun f => by kernel_rfl) fun f5 => ?_
  refine xd hT hM [ix FlyStep.row ((spec_l7Tail (spec_l6Held p0 ([] : List Int)) p1).Steps) 0 (by (first | omega | ((try simp only [LN, spec_l7Tail, spec_FlyRest_v1, spec_FlyRest_v2, spec_FlyRest_v3, spec_FlyRest_v4, spec_FlyRest_v5, spec_FlyRest_v6, spec_FlyRest_v7, spec_FlyRest_v8]); omega) | ((try simp only [wr, IntKind.wrap_i64, LN, spec_l7Tail, spec_FlyRest_v1, spec_FlyRest_v2, spec_FlyRest_v3, spec_FlyRest_v4, spec_FlyRest_v5, spec_FlyRest_v6, spec_FlyRest_v7, spec_FlyRest_v8] at *); omega) | (simp_all <;> omega))), ix FlyStep.row ((spec_l7Tail (spec_l6Held p0 ([] : List Int)) p1).Steps) 0 (by (first | omega | ((try simp only [LN, spec_l7Tail, spec_FlyRest_v1, spec_FlyRest_v2, spec_FlyRest_v3, spec_FlyRest_v4, spec_FlyRest_v5, spec_FlyRest_v6, spec_FlyRest_v7, spec_FlyRest_v8]); omega) | ((try simp only [wr, IntKind.wrap_i64, LN, spec_l7Tail, spec_FlyRest_v1, spec_FlyRest_v2, spec_FlyRest_v3, spec_FlyRest_v4, spec_FlyRest_v5, spec_FlyRest_v6, spec_FlyRest_v7, spec_FlyRest_v8] at *); omega) | (simp_all <;> omega))), ca (c65 ((((spec_l7Tail (spec_l6Held p0 ([] : List Int)) p1).Steps).getD 0 default).From) p2), ix FlyStep.row ((spec_l7Tail (spec_l6Held p0 ([] : List Int)) p1).Steps) 0 (by (first | omega | ((try simp only [LN, spec_l7Tail, spec_FlyRest_v1, spec_FlyRest_v2, spec_FlyRest_v3, spec_FlyRest_v4, spec_FlyRest_v5, spec_FlyRest_v6, spec_FlyRest_v7, spec_FlyRest_v8]); omega) | ((try simp only [wr, IntKind.wrap_i64, LN, spec_l7Tail, spec_FlyRest_v1, spec_FlyRest_v2, spec_FlyRest_v3, spec_FlyRest_v4, spec_FlyRest_v5, spec_FlyRest_v6, spec_FlyRest_v7, spec_FlyRest_v8] at *); omega) | (simp_all <;> omega))), .st inferInstance true FlyStep.row ((spec_l7Tail (spec_l6Held p0 ([] : List Int)) p1).Steps) 0 ({ ((spec_l7Tail (spec_l6Held p0 ([] : List Int)) p1).Steps).getD 0 default with From := (spec_l1Max ((((spec_l7Tail (spec_l6Held p0 ([] : List Int)) p1).Steps).getD 0 default).From) p2) } : FlyStep) (fun h => by (first | omega | ((try simp only [LN, spec_l7Tail, spec_FlyRest_v1, spec_FlyRest_v2, spec_FlyRest_v3, spec_FlyRest_v4, spec_FlyRest_v5, spec_FlyRest_v6, spec_FlyRest_v7, spec_FlyRest_v8]); omega) | ((try simp only [wr, IntKind.wrap_i64, LN, spec_l7Tail, spec_FlyRest_v1, spec_FlyRest_v2, spec_FlyRest_v3, spec_FlyRest_v4, spec_FlyRest_v5, spec_FlyRest_v6, spec_FlyRest_v7, spec_FlyRest_v8] at *); omega) | (simp_all <;> omega)))] (fun f7 => ⟨[(2, .one (.c (.v (.int .i64 p2)))), (3, .one (.c (.v (.int .i64 p3)))), (8, .one (.pt 8 (f1 1 0) 0)), (10, .one (.pt 10 (f5 5 0) 0))], [(8, some (f1 1 0, .box [.v (.int .i64 0), .v (.int .i64 0), .nl, .v (.int .i64 0), .v (.int .i64 0)])), (10, some (f5 5 0, .box [.v (.int .i64 ((spec_l7Tail (spec_l6Held p0 ([] : List Int)) p1).Kind.Quick)), .v (.int .i64 ((spec_l7Tail (spec_l6Held p0 ([] : List Int)) p1).Kind.Slow)), .mu 3900002 (gk (f5 4) 0 2) 7 0 (((spec_l7Tail (spec_l6Held p0 ([] : List Int)) p1).Steps).map FlyStep.row).length, .v (.int .i64 ((spec_l7Tail (spec_l6Held p0 ([] : List Int)) p1).From)), .v (.int .i64 ((spec_l7Tail (spec_l6Held p0 ([] : List Int)) p1).By))])), (3900002, some (gk (f5 4) 0 2, .arr 7 ((spec_FlyRest_v1 p0 p1 p2).map FlyStep.row)))], 67⟩) (fun f => by kernel_rfl) (fun f => by kernel_rfl) (fun f => by kernel_rfl) fun f7 => ?_
  refine w_sub (s := ⟨[(2, .one (.c (.v (.int .i64 p2)))), (3, .one (.c (.v (.int .i64 p3)))), (8, .one (.pt 8 (f1 1 0) 0)), (10, .one (.pt 10 (f5 5 0) 0))], [(8, some (f1 1 0, .box [.v (.int .i64 0), .v (.int .i64 0), .nl, .v (.int .i64 0), .v (.int .i64 0)])), (10, some (f5 5 0, .box [.v (.int .i64 ((spec_l7Tail (spec_l6Held p0 ([] : List Int)) p1).Kind.Quick)), .v (.int .i64 ((spec_l7Tail (spec_l6Held p0 ([] : List Int)) p1).Kind.Slow)), .mu 3900002 (gk (f5 4) 0 2) 7 0 ((spec_FlyRest_v1 p0 p1 p2).map FlyStep.row).length, .v (.int .i64 ((spec_l7Tail (spec_l6Held p0 ([] : List Int)) p1).From)), .v (.int .i64 ((spec_l7Tail (spec_l6Held p0 ([] : List Int)) p1).By))])), (3900002, some (gk (f5 4) 0 2, .arr 7 ((spec_FlyRest_v1 p0 p1 p2).map FlyStep.row)))], 67⟩) (cst (by simp only [LN, spec_l7Tail, spec_FlyRest_v1, spec_FlyRest_v2, spec_FlyRest_v3, spec_FlyRest_v4, spec_FlyRest_v5, spec_FlyRest_v6, spec_FlyRest_v7, spec_FlyRest_v8]) (sb (s := ⟨[(2, .one (.c (.v (.int .i64 p2)))), (3, .one (.c (.v (.int .i64 p3)))), (8, .one (.pt 8 (f1 1 0) 0)), (10, .one (.pt 10 (f5 5 0) 0))], [(8, some (f1 1 0, .box [.v (.int .i64 0), .v (.int .i64 0), .nl, .v (.int .i64 0), .v (.int .i64 0)])), (10, some (f5 5 0, .box [.v (.int .i64 ((spec_l7Tail (spec_l6Held p0 ([] : List Int)) p1).Kind.Quick)), .v (.int .i64 ((spec_l7Tail (spec_l6Held p0 ([] : List Int)) p1).Kind.Slow)), .mu 3900002 (gk (f5 4) 0 2) 7 0 (((spec_l7Tail (spec_l6Held p0 ([] : List Int)) p1).Steps).map FlyStep.row).length, .v (.int .i64 ((spec_l7Tail (spec_l6Held p0 ([] : List Int)) p1).From)), .v (.int .i64 ((spec_l7Tail (spec_l6Held p0 ([] : List Int)) p1).By))])), (3900002, some (gk (f5 4) 0 2, .arr 7 ((spec_FlyRest_v1 p0 p1 p2).map FlyStep.row)))], 67⟩) (by kernel_rfl))) ?_
  refine xd hT hM [ix FlyStep.row (spec_FlyRest_v1 p0 p1 p2) 0 (by (first | omega | ((try simp only [LN, spec_l7Tail, spec_FlyRest_v1, spec_FlyRest_v2, spec_FlyRest_v3, spec_FlyRest_v4, spec_FlyRest_v5, spec_FlyRest_v6, spec_FlyRest_v7, spec_FlyRest_v8]); omega) | ((try simp only [wr, IntKind.wrap_i64, LN, spec_l7Tail, spec_FlyRest_v1, spec_FlyRest_v2, spec_FlyRest_v3, spec_FlyRest_v4, spec_FlyRest_v5, spec_FlyRest_v6, spec_FlyRest_v7, spec_FlyRest_v8] at *); omega) | (simp_all <;> omega))), ix FlyStep.row (spec_FlyRest_v1 p0 p1 p2) 0 (by (first | omega | ((try simp only [LN, spec_l7Tail, spec_FlyRest_v1, spec_FlyRest_v2, spec_FlyRest_v3, spec_FlyRest_v4, spec_FlyRest_v5, spec_FlyRest_v6, spec_FlyRest_v7, spec_FlyRest_v8]); omega) | ((try simp only [wr, IntKind.wrap_i64, LN, spec_l7Tail, spec_FlyRest_v1, spec_FlyRest_v2, spec_FlyRest_v3, spec_FlyRest_v4, spec_FlyRest_v5, spec_FlyRest_v6, spec_FlyRest_v7, spec_FlyRest_v8] at *); omega) | (simp_all <;> omega))), ca (c73 (((spec_FlyRest_v1 p0 p1 p2).getD 0 default).By) p2), ix FlyStep.row (spec_FlyRest_v1 p0 p1 p2) 0 (by (first | omega | ((try simp only [LN, spec_l7Tail, spec_FlyRest_v1, spec_FlyRest_v2, spec_FlyRest_v3, spec_FlyRest_v4, spec_FlyRest_v5, spec_FlyRest_v6, spec_FlyRest_v7, spec_FlyRest_v8]); omega) | ((try simp only [wr, IntKind.wrap_i64, LN, spec_l7Tail, spec_FlyRest_v1, spec_FlyRest_v2, spec_FlyRest_v3, spec_FlyRest_v4, spec_FlyRest_v5, spec_FlyRest_v6, spec_FlyRest_v7, spec_FlyRest_v8] at *); omega) | (simp_all <;> omega))), .st inferInstance true FlyStep.row (spec_FlyRest_v1 p0 p1 p2) 0 ({ (spec_FlyRest_v1 p0 p1 p2).getD 0 default with By := (spec_l1Min (((spec_FlyRest_v1 p0 p1 p2).getD 0 default).By) p2) } : FlyStep) (fun h => by (first | omega | ((try simp only [LN, spec_l7Tail, spec_FlyRest_v1, spec_FlyRest_v2, spec_FlyRest_v3, spec_FlyRest_v4, spec_FlyRest_v5, spec_FlyRest_v6, spec_FlyRest_v7, spec_FlyRest_v8]); omega) | ((try simp only [wr, IntKind.wrap_i64, LN, spec_l7Tail, spec_FlyRest_v1, spec_FlyRest_v2, spec_FlyRest_v3, spec_FlyRest_v4, spec_FlyRest_v5, spec_FlyRest_v6, spec_FlyRest_v7, spec_FlyRest_v8] at *); omega) | (simp_all <;> omega)))] (fun f8 => ⟨[(3, .one (.c (.v (.int .i64 p3)))), (8, .one (.pt 8 (f1 1 0) 0)), (10, .one (.pt 10 (f5 5 0) 0))], [(8, some (f1 1 0, .box [.v (.int .i64 0), .v (.int .i64 0), .nl, .v (.int .i64 0), .v (.int .i64 0)])), (10, some (f5 5 0, .box [.v (.int .i64 ((spec_l7Tail (spec_l6Held p0 ([] : List Int)) p1).Kind.Quick)), .v (.int .i64 ((spec_l7Tail (spec_l6Held p0 ([] : List Int)) p1).Kind.Slow)), .mu 3900002 (gk (f5 4) 0 2) 7 0 ((spec_FlyRest_v1 p0 p1 p2).map FlyStep.row).length, .v (.int .i64 ((spec_l7Tail (spec_l6Held p0 ([] : List Int)) p1).From)), .v (.int .i64 ((spec_l7Tail (spec_l6Held p0 ([] : List Int)) p1).By))])), (3900002, some (gk (f5 4) 0 2, .arr 7 ((spec_FlyRest_v2 p0 p1 p2).map FlyStep.row)))], 67⟩) (fun f => by kernel_rfl) (fun f => by kernel_rfl) (fun f => by kernel_rfl) fun f8 => ?_
  refine w_sub (s := ⟨[(3, .one (.c (.v (.int .i64 p3)))), (8, .one (.pt 8 (f1 1 0) 0)), (10, .one (.pt 10 (f5 5 0) 0))], [(8, some (f1 1 0, .box [.v (.int .i64 0), .v (.int .i64 0), .nl, .v (.int .i64 0), .v (.int .i64 0)])), (10, some (f5 5 0, .box [.v (.int .i64 ((spec_l7Tail (spec_l6Held p0 ([] : List Int)) p1).Kind.Quick)), .v (.int .i64 ((spec_l7Tail (spec_l6Held p0 ([] : List Int)) p1).Kind.Slow)), .mu 3900002 (gk (f5 4) 0 2) 7 0 ((spec_FlyRest_v2 p0 p1 p2).map FlyStep.row).length, .v (.int .i64 ((spec_l7Tail (spec_l6Held p0 ([] : List Int)) p1).From)), .v (.int .i64 ((spec_l7Tail (spec_l6Held p0 ([] : List Int)) p1).By))])), (3900002, some (gk (f5 4) 0 2, .arr 7 ((spec_FlyRest_v2 p0 p1 p2).map FlyStep.row)))], 67⟩) (cst (by simp only [LN, spec_l7Tail, spec_FlyRest_v1, spec_FlyRest_v2, spec_FlyRest_v3, spec_FlyRest_v4, spec_FlyRest_v5, spec_FlyRest_v6, spec_FlyRest_v7, spec_FlyRest_v8]) (sb (s := ⟨[(3, .one (.c (.v (.int .i64 p3)))), (8, .one (.pt 8 (f1 1 0) 0)), (10, .one (.pt 10 (f5 5 0) 0))], [(8, some (f1 1 0, .box [.v (.int .i64 0), .v (.int .i64 0), .nl, .v (.int .i64 0), .v (.int .i64 0)])), (10, some (f5 5 0, .box [.v (.int .i64 ((spec_l7Tail (spec_l6Held p0 ([] : List Int)) p1).Kind.Quick)), .v (.int .i64 ((spec_l7Tail (spec_l6Held p0 ([] : List Int)) p1).Kind.Slow)), .mu 3900002 (gk (f5 4) 0 2) 7 0 ((spec_FlyRest_v1 p0 p1 p2).map FlyStep.row).length, .v (.int .i64 ((spec_l7Tail (spec_l6Held p0 ([] : List Int)) p1).From)), .v (.int .i64 ((spec_l7Tail (spec_l6Held p0 ([] : List Int)) p1).By))])), (3900002, some (gk (f5 4) 0 2, .arr 7 ((spec_FlyRest_v2 p0 p1 p2).map FlyStep.row)))], 67⟩) (by kernel_rfl))) ?_
  have w10 := f_spec_l7After (⟨(spec_l7Tail (spec_l6Held p0 ([] : List Int)) p1).Kind, (spec_FlyRest_v2 p0 p1 p2), (spec_l7Tail (spec_l6Held p0 ([] : List Int)) p1).From, (spec_l7Tail (spec_l6Held p0 ([] : List Int)) p1).By⟩ : FlyPath) p3 (by first | assumption | exact (show ((spec_FlyRest_v2 p0 p1 p2)).length ≤ 1048576 from by (try simp only [LN, spec_l7Tail, spec_FlyRest_v1, spec_FlyRest_v2, spec_FlyRest_v3, spec_FlyRest_v4, spec_FlyRest_v5, spec_FlyRest_v6, spec_FlyRest_v7, spec_FlyRest_v8]); omega))
  have w10' := w10; try simp only [LN, spec_l7Tail, spec_FlyRest_v1, spec_FlyRest_v2, spec_FlyRest_v3, spec_FlyRest_v4, spec_FlyRest_v5, spec_FlyRest_v6, spec_FlyRest_v7, spec_FlyRest_v8] at w10'
  refine xr hT [ca (c80 (⟨(spec_l7Tail (spec_l6Held p0 ([] : List Int)) p1).Kind, (spec_FlyRest_v2 p0 p1 p2), (spec_l7Tail (spec_l6Held p0 ([] : List Int)) p1).From, (spec_l7Tail (spec_l6Held p0 ([] : List Int)) p1).By⟩ : FlyPath) p3 (by first | assumption | exact (show ((spec_FlyRest_v2 p0 p1 p2)).length ≤ 1048576 from by (try simp only [LN, spec_l7Tail, spec_FlyRest_v1, spec_FlyRest_v2, spec_FlyRest_v3, spec_FlyRest_v4, spec_FlyRest_v5, spec_FlyRest_v6, spec_FlyRest_v7, spec_FlyRest_v8]); omega))), ca (c79 (spec_l7After (⟨(spec_l7Tail (spec_l6Held p0 ([] : List Int)) p1).Kind, (spec_FlyRest_v2 p0 p1 p2), (spec_l7Tail (spec_l6Held p0 ([] : List Int)) p1).From, (spec_l7Tail (spec_l6Held p0 ([] : List Int)) p1).By⟩ : FlyPath) p3) (by first | assumption | exact (show ((spec_l7After (⟨(spec_l7Tail (spec_l6Held p0 ([] : List Int)) p1).Kind, (spec_FlyRest_v2 p0 p1 p2), (spec_l7Tail (spec_l6Held p0 ([] : List Int)) p1).From, (spec_l7Tail (spec_l6Held p0 ([] : List Int)) p1).By⟩ : FlyPath) p3).Steps).length ≤ 1048576 from by (try simp only [LN, spec_l7Tail, spec_FlyRest_v1, spec_FlyRest_v2, spec_FlyRest_v3, spec_FlyRest_v4, spec_FlyRest_v5, spec_FlyRest_v6, spec_FlyRest_v7, spec_FlyRest_v8]); omega)))] (fun f9 => ⟨[(8, .one (.pt 8 (f1 1 0) 0)), (9, .one (.c (.v (.bool (spec_FlyRest_v3 p0 p1 p2 p3)))))], [(8, some (f1 1 0, .box [.v (.int .i64 (spec_FlyRest_v4 p0 p1 p2 p3)), .v (.int .i64 (spec_FlyRest_v5 p0 p1 p2 p3)), .mu 6500002 (gk (f9 3) 0 2) 7 0 ((spec_FlyRest_v6 p0 p1 p2 p3).map FlyStep.row).length, .v (.int .i64 (spec_FlyRest_v7 p0 p1 p2 p3)), .v (.int .i64 (spec_FlyRest_v8 p0 p1 p2 p3))])), (6500002, some (gk (f9 3) 0 2, .arr 7 ((spec_FlyRest_v6 p0 p1 p2 p3).map FlyStep.row)))], 67⟩) (fun f => by kernel_rfl) (fun f => by kernel_rfl) fun f9 => ?_
  refine w_ret ?_
  subst hR
  exact x_ret (by kernel_rfl)

/-- spec.l22Stays -/
def spec_l22Stays (p0 : FlyPath) (p1 : (List Int)) (p2 : Int) : Bool := (if decide ((p1.length : Int) = 0) then (spec_l22Waits p0 p2) else (spec_FlyRest p0 ((p1.length : Int) - 1) (p1.getD (((p1.length : Int) - 1).toNat) default) p2).2)
theorem c41 (p0 : FlyPath) (p1 : (List Int)) (p2 : Int) (k0_0 : FlyPath.ok p0) (k1_0 : p1.length ≤ 1048576) : Fn Proofs.Try.prog 41 [⟨.val, true, FlyPath.cs .bor p0⟩, ⟨.val, false, [.sl .bor 1 (p1.map Int.row)]⟩, ⟨.val, false, [.v (.int .i64 p2)]⟩] [.c (.v (.bool (spec_l22Stays p0 p1 p2)))] [] := by
  obtain ⟨R, hR⟩ : ∃ R, R = spec_l22Stays p0 p1 p2 := ⟨_, rfl⟩
  rw [← hR]
  rw [spec_l22Stays] at hR
  refine ⟨fn_intro hT Proofs.Try.func41 rfl rfl fun fs => ?_, _, Proofs.Try.func41, rfl, rfl⟩
  have q0 := k0_0; simp only [FlyPath.ok] at q0
  refine xr hT [] (fun f1 => ⟨[(1, .one (.c (.sl .bor 1 (p1.map Int.row)))), (2, .one (.c (.v (.int .i64 p2)))), (3, .one (.pt 3 (f1 0 0) 0))], [(3, some (f1 0 0, .box (FlyPath.cs .bor p0)))], 31⟩) (fun f => by kernel_rfl) (fun f => by kernel_rfl) fun f1 => ?_
  refine w_seq ?_
  refine xr hT [.ln Int.row p1] (fun f2 => ⟨[(1, .one (.c (.sl .bor 1 (p1.map Int.row)))), (2, .one (.c (.v (.int .i64 p2)))), (3, .one (.pt 3 (f1 0 0) 0)), (12, .one (.c (.v (.bool (decide ((p1.length : Int) = 0))))))], [(3, some (f1 0 0, .box (FlyPath.cs .bor p0)))], 31⟩) (fun f => by kernel_rfl) (fun f => by kernel_rfl) fun f2 => ?_
  refine w_cond rfl (fun h3 => ?_) fun h3 => ?_
  · rw [if_pos h3] at hR
    have gh3 := of_decide_eq_true h3
    refine xr hT [ca (c44 p0 p2 (by first | assumption | exact (by omega : p0.Steps.length ≤ 1048576)))] (fun f4 => ⟨[(6, .one (.c (.v (.bool (spec_l22Waits p0 p2)))))], [], 31⟩) (fun f => by kernel_rfl) (fun f => by kernel_rfl) fun f4 => ?_
    refine w_ret ?_
    subst hR
    exact x_ret (by kernel_rfl)
  rw [if_neg (nt h3)] at hR
  have gh3 := of_decide_eq_false h3
  refine w_skip ?_
  refine xr hT [.ln Int.row p1, .ex true ((p1.length : Int) - 1) ((p1.length : Int) - 1) (fun _ => wr_eq (by omega) (by omega))] (fun f5 => ⟨[(1, .one (.c (.sl .bor 1 (p1.map Int.row)))), (2, .one (.c (.v (.int .i64 p2)))), (3, .one (.pt 3 (f1 0 0) 0)), (7, .one (.c (.v (.int .i64 ((p1.length : Int) - 1)))))], [(3, some (f1 0 0, .box (FlyPath.cs .bor p0)))], 31⟩) (fun f => by kernel_rfl) (fun f => by kernel_rfl) fun f5 => ?_
  refine xd hT hM [iz Int.row p1 ((p1.length : Int) - 1) (by omega), ca (c63 p0 ((p1.length : Int) - 1) (p1.getD (((p1.length : Int) - 1).toNat) default) p2 (by first | assumption | exact (by omega : p0.Steps.length ≤ 1048576)))] (fun f6 => ⟨[(9, .one (.c (.v (.bool ((spec_FlyRest p0 ((p1.length : Int) - 1) (p1.getD (((p1.length : Int) - 1).toNat) default) p2).2)))))], [], 31⟩) (fun f => by kernel_rfl) (fun f => by kernel_rfl) (fun f => by kernel_rfl) fun f6 => ?_
  refine xr hT [] (fun f7 => ⟨[(6, .one (.c (.v (.bool ((spec_FlyRest p0 ((p1.length : Int) - 1) (p1.getD (((p1.length : Int) - 1).toNat) default) p2).2)))))], [], 31⟩) (fun f => by kernel_rfl) (fun f => by kernel_rfl) fun f7 => ?_
  refine w_ret ?_
  subst hR
  exact x_ret (by kernel_rfl)

def spec_LinkCraftOk_v1 (p0 : LinkCraft) (p1 : Int) : Bool := (((((!(spec_l12NameOk p0.Name)) || (!(spec_l1In p0.Number 1 1000000))) || (!(spec_l1In p0.No 0 1000000))) || (decide (p0.No = p0.Number))) || (!(spec_l1In p1 0 10000))) || (!(spec_l22Begun p0.Path p0.Flown))
def spec_LinkCraftOk_v2 (p0 : LinkCraft) (p1 : Int) : Bool := ((decide ((p0.Flown.length : Int) = 0)) || (decide ((p0.Flown.getD (((p0.Flown.length : Int) - 1).toNat) default) ≤ p1))) && (spec_l22Stays p0.Path p0.Flown p1)
/-- spec.LinkCraftOk -/
def spec_LinkCraftOk (p0 : LinkCraft) (p1 : Int) : Bool := (if (spec_LinkCraftOk_v1 p0 p1) then false else (spec_LinkCraftOk_v2 p0 p1))
theorem c19 (p0 : LinkCraft) (p1 : Int) (k0_0 : LinkCraft.ok p0) : Fn Proofs.Try.prog 19 [⟨.val, true, LinkCraft.cs .bor p0⟩, ⟨.val, false, [.v (.int .i64 p1)]⟩] [.c (.v (.bool (spec_LinkCraftOk p0 p1)))] [] := by
  obtain ⟨R, hR⟩ : ∃ R, R = spec_LinkCraftOk p0 p1 := ⟨_, rfl⟩
  rw [← hR]
  rw [spec_LinkCraftOk] at hR
  refine ⟨fn_intro hT Proofs.Try.func19 rfl rfl fun fs => ?_, _, Proofs.Try.func19, rfl, rfl⟩
  have q0 := k0_0; simp only [LinkCraft.ok] at q0
  refine xr hT [] (fun f1 => ⟨[(1, .one (.c (.v (.int .i64 p1)))), (2, .one (.pt 2 (f1 0 0) 0))], [(2, some (f1 0 0, .box (LinkCraft.cs .bor p0)))], 65⟩) (fun f => by kernel_rfl) (fun f => by kernel_rfl) fun f1 => ?_
  refine w_seq ?_
  refine xr hT [ca (c38 p0.Name), cg (!(!(spec_l12NameOk p0.Name))) (fun _ => c39 p0.Number 1 1000000), cg (!((!(spec_l12NameOk p0.Name)) || (!(spec_l1In p0.Number 1 1000000)))) (fun _ => c39 p0.No 0 1000000), cg (!((((!(spec_l12NameOk p0.Name)) || (!(spec_l1In p0.Number 1 1000000))) || (!(spec_l1In p0.No 0 1000000))) || (decide (p0.No = p0.Number)))) (fun _ => c39 p1 0 10000), cg (!(((((!(spec_l12NameOk p0.Name)) || (!(spec_l1In p0.Number 1 1000000))) || (!(spec_l1In p0.No 0 1000000))) || (decide (p0.No = p0.Number))) || (!(spec_l1In p1 0 10000)))) (fun h => by (try simp only [Bool.and_eq_true, Bool.or_eq_true, decide_eq_true_eq, Bool.not_eq_true', decide_eq_false_iff_not] at h); exact c40 p0.Path p0.Flown (by first | assumption | exact (by omega : p0.Path.Steps.length ≤ 1048576)) (by omega))] (fun f2 => ⟨[(1, .one (.c (.v (.int .i64 p1)))), (2, .one (.pt 2 (f1 0 0) 0)), (40, .one (.c (.v (.bool (spec_LinkCraftOk_v1 p0 p1)))))], [(2, some (f1 0 0, .box (LinkCraft.cs .bor p0)))], 65⟩) (fun f => by kernel_rfl) (fun f => by kernel_rfl) fun f2 => ?_
  refine w_cond rfl (fun h3 => ?_) fun h3 => ?_
  · rw [if_pos h3] at hR
    have gh3 := h3; try simp only [spec_l1In, spec_LinkCraftOk_v1, Bool.not_eq_true', Bool.not_eq_false', decide_eq_true_eq, decide_eq_false_iff_not, Bool.and_eq_true, Bool.or_eq_true, Bool.and_eq_false_iff, Bool.or_eq_false_iff] at gh3
    refine xr hT [] (fun f4 => ⟨[(4, .one (.c (.v (.bool false))))], [], 65⟩) (fun f => by kernel_rfl) (fun f => by kernel_rfl) fun f4 => ?_
    refine w_ret ?_
    subst hR
    exact x_ret (by kernel_rfl)
  rw [if_neg (nt h3)] at hR
  have gh3 := h3; try simp only [spec_l1In, spec_LinkCraftOk_v1, Bool.not_eq_true', Bool.not_eq_false', decide_eq_true_eq, decide_eq_false_iff_not, Bool.and_eq_true, Bool.or_eq_true, Bool.and_eq_false_iff, Bool.or_eq_false_iff] at gh3
  refine w_skip ?_
  refine xr hT [.ln Int.row p0.Flown, .ln Int.row p0.Flown, .ex (!(decide ((p0.Flown.length : Int) = 0))) ((p0.Flown.length : Int) - 1) ((p0.Flown.length : Int) - 1) (fun h => by (try simp only [Bool.and_eq_true, Bool.or_eq_true, decide_eq_true_eq, Bool.not_eq_true', decide_eq_false_iff_not] at h); exact wr_eq (by omega) (by omega)), izg (!(decide ((p0.Flown.length : Int) = 0))) Int.row p0.Flown ((p0.Flown.length : Int) - 1) (fun h => by (try simp only [Bool.and_eq_true, Bool.or_eq_true, decide_eq_true_eq, Bool.not_eq_true', decide_eq_false_iff_not] at h); omega), cg ((decide ((p0.Flown.length : Int) = 0)) || (decide ((p0.Flown.getD (((p0.Flown.length : Int) - 1).toNat) default) ≤ p1))) (fun h => by (try simp only [Bool.and_eq_true, Bool.or_eq_true, decide_eq_true_eq, Bool.not_eq_true', decide_eq_false_iff_not] at h); exact c41 p0.Path p0.Flown p1 (by first | assumption | exact (by omega : p0.Path.Steps.length ≤ 1048576)) (by omega))] (fun f5 => ⟨[(4, .one (.c (.v (.bool (spec_LinkCraftOk_v2 p0 p1)))))], [], 65⟩) (fun f => by kernel_rfl) (fun f => by kernel_rfl) fun f5 => ?_
  refine w_ret ?_
  subst hR
  exact x_ret (by kernel_rfl)

/-- spec.FlySpans -/
def spec_FlySpans (p0 : FlyPath) : (List FlySpan) × Bool := (if !(spec_FlyPathOk p0) then (([] : List FlySpan), false) else ((spec_l4Spans p0).1, (spec_l4Spans p0).2))
theorem c64 (p0 : FlyPath) (k0_0 : FlyPath.ok p0) : Fn Proofs.Try.prog 64 [⟨.val, true, FlyPath.cs .bor p0⟩] [.c (.sl .own 2 ((spec_FlySpans p0).1.map FlySpan.row)), .c (.v (.bool (spec_FlySpans p0).2))] [] := by
  obtain ⟨R, hR⟩ : ∃ R, R = spec_FlySpans p0 := ⟨_, rfl⟩
  rw [← hR]
  rw [spec_FlySpans] at hR
  refine ⟨fn_intro hT Proofs.Try.func64 rfl rfl fun fs => ?_, _, Proofs.Try.func64, rfl, rfl⟩
  have q0 := k0_0; simp only [FlyPath.ok] at q0
  refine xr hT [] (fun f1 => ⟨[(1, .one (.pt 1 (f1 0 0) 0))], [(1, some (f1 0 0, .box (FlyPath.cs .bor p0)))], 12⟩) (fun f => by kernel_rfl) (fun f => by kernel_rfl) fun f1 => ?_
  refine w_seq ?_
  refine xr hT [ca (c61 p0 (by first | assumption | exact (by omega : p0.Steps.length ≤ 1048576)))] (fun f2 => ⟨[(1, .one (.pt 1 (f1 0 0) 0)), (6, .one (.c (.v (.bool (!(spec_FlyPathOk p0))))))], [(1, some (f1 0 0, .box (FlyPath.cs .bor p0)))], 12⟩) (fun f => by kernel_rfl) (fun f => by kernel_rfl) fun f2 => ?_
  refine w_cond rfl (fun h3 => ?_) fun h3 => ?_
  · rw [if_pos h3] at hR
    refine xr hT [] (fun f4 => ⟨[(2, .one (.c (.mu 7 (f4 0 0) 2 0 (([] : List FlySpan).map FlySpan.row).length))), (3, .one (.c (.v (.bool false))))], [(7, some (f4 0 0, .arr 2 (([] : List FlySpan).map FlySpan.row)))], 12⟩) (fun f => by kernel_rfl) (fun f => by kernel_rfl) fun f4 => ?_
    refine w_ret ?_
    subst hR
    exact x_ret (by kernel_rfl)
  rw [if_neg (nt h3)] at hR
  refine w_skip ?_
  have w6 := f_spec_l4Spans p0 (by first | assumption | exact (by omega : p0.Steps.length ≤ 1048576))
  have w6' := w6; try simp only [LN] at w6'
  refine xr hT [ca (c77 p0 (by first | assumption | exact (by omega : p0.Steps.length ≤ 1048576)))] (fun f5 => ⟨[(2, .one (.c (.mu 1000000 (gk (f5 1) 0 0) 2 0 (((spec_l4Spans p0).1).map FlySpan.row).length))), (3, .one (.c (.v (.bool ((spec_l4Spans p0).2)))))], [(1000000, some (gk (f5 1) 0 0, .arr 2 (((spec_l4Spans p0).1).map FlySpan.row)))], 12⟩) (fun f => by kernel_rfl) (fun f => by kernel_rfl) fun f5 => ?_
  refine w_ret ?_
  subst hR
  exact x_ret (by kernel_rfl)
theorem f_spec_FlySpans (p0 : FlyPath) (h0 : FlyPath.ok p0) : (spec_FlySpans p0).1.length ≤ p0.Steps.length + 1 ∧ ((spec_FlySpans p0).2 = true → (spec_FlySpans p0).1.length = p0.Steps.length + 1) := by
  unfold spec_FlySpans
  split
  · simp
  · exact f_spec_l4Spans p0 h0

/-- spec.l21Can -/
def spec_l21Can (p0 : FlyPath) : Bool := (spec_FlySpans p0).2
theorem c42 (p0 : FlyPath) (k0_0 : FlyPath.ok p0) : Fn Proofs.Try.prog 42 [⟨.val, true, FlyPath.cs .bor p0⟩] [.c (.v (.bool (spec_l21Can p0)))] [] := by
  obtain ⟨R, hR⟩ : ∃ R, R = spec_l21Can p0 := ⟨_, rfl⟩
  rw [← hR]
  rw [spec_l21Can] at hR
  refine ⟨fn_intro hT Proofs.Try.func42 rfl rfl fun fs => ?_, _, Proofs.Try.func42, rfl, rfl⟩
  have q0 := k0_0; simp only [FlyPath.ok] at q0
  refine xr hT [] (fun f1 => ⟨[(1, .one (.pt 1 (f1 0 0) 0))], [(1, some (f1 0 0, .box (FlyPath.cs .bor p0)))], 11⟩) (fun f => by kernel_rfl) (fun f => by kernel_rfl) fun f1 => ?_
  have w3 := f_spec_FlySpans p0 (by first | assumption | exact (by omega : p0.Steps.length ≤ 1048576))
  have w3' := w3; try simp only [LN] at w3'
  refine xr hT [ca (c64 p0 (by first | assumption | exact (by omega : p0.Steps.length ≤ 1048576)))] (fun f2 => ⟨[(4, .one (.c (.v (.bool ((spec_FlySpans p0).2)))))], [], 11⟩) (fun f => by kernel_rfl) (fun f => by kernel_rfl) fun f2 => ?_
  refine xr hT [] (fun f4 => ⟨[(2, .one (.c (.v (.bool ((spec_FlySpans p0).2)))))], [], 11⟩) (fun f => by kernel_rfl) (fun f => by kernel_rfl) fun f4 => ?_
  refine w_ret ?_
  subst hR
  exact x_ret (by kernel_rfl)

/-- spec.l21None -/
def spec_l21None (p0 : FlyPath) : Bool := (((FlyKind.beq p0.Kind (⟨0, 0⟩ : FlyKind)) && (decide ((p0.Steps.length : Int) = 0))) && (decide (p0.From = 0))) && (decide (p0.By = 0))
theorem c43 (p0 : FlyPath) (k0_0 : FlyPath.ok p0) : Fn Proofs.Try.prog 43 [⟨.val, true, FlyPath.cs .bor p0⟩] [.c (.v (.bool (spec_l21None p0)))] [] := by
  obtain ⟨R, hR⟩ : ∃ R, R = spec_l21None p0 := ⟨_, rfl⟩
  rw [← hR]
  rw [spec_l21None] at hR
  refine ⟨fn_intro hT Proofs.Try.func43 rfl rfl fun fs => ?_, _, Proofs.Try.func43, rfl, rfl⟩
  have q0 := k0_0; simp only [FlyPath.ok] at q0
  refine xr hT [] (fun f1 => ⟨[(1, .one (.pt 1 (f1 0 0) 0))], [(1, some (f1 0 0, .box (FlyPath.cs .bor p0)))], 23⟩) (fun f => by kernel_rfl) (fun f => by kernel_rfl) fun f1 => ?_
  refine xr hT [.eqs (eqS34 p0.Kind (⟨0, 0⟩ : FlyKind)), .ln FlyStep.row p0.Steps] (fun f2 => ⟨[(2, .one (.c (.v (.bool ((((FlyKind.beq p0.Kind (⟨0, 0⟩ : FlyKind)) && (decide ((p0.Steps.length : Int) = 0))) && (decide (p0.From = 0))) && (decide (p0.By = 0)))))))], [], 23⟩) (fun f => by kernel_rfl) (fun f => by kernel_rfl) fun f2 => ?_
  refine w_ret ?_
  subst hR
  exact x_ret (by kernel_rfl)

/-- spec.LinkWordOk -/
def spec_LinkWordOk (p0 : LinkWord) : Bool := (if ((!(spec_l1In p0.Kind 1 6)) || (!(spec_l12NameOk p0.Name))) || (!(spec_l1In p0.Number 1 1000000)) then false else (if decide (p0.Kind ≤ 2) then (spec_l21Can p0.Path) else (spec_l21None p0.Path)))
theorem c20 (p0 : LinkWord) (k0_0 : LinkWord.ok p0) : Fn Proofs.Try.prog 20 [⟨.val, true, LinkWord.cs .bor p0⟩] [.c (.v (.bool (spec_LinkWordOk p0)))] [] := by
  obtain ⟨R, hR⟩ : ∃ R, R = spec_LinkWordOk p0 := ⟨_, rfl⟩
  rw [← hR]
  rw [spec_LinkWordOk] at hR
  refine ⟨fn_intro hT Proofs.Try.func20 rfl rfl fun fs => ?_, _, Proofs.Try.func20, rfl, rfl⟩
  have q0 := k0_0; simp only [LinkWord.ok] at q0
  refine xr hT [] (fun f1 => ⟨[(1, .one (.pt 1 (f1 0 0) 0))], [(1, some (f1 0 0, .box (LinkWord.cs .bor p0)))], 28⟩) (fun f => by kernel_rfl) (fun f => by kernel_rfl) fun f1 => ?_
  refine w_seq ?_
  refine xr hT [ca (c39 p0.Kind 1 6), cg (!(!(spec_l1In p0.Kind 1 6))) (fun _ => c38 p0.Name), cg (!((!(spec_l1In p0.Kind 1 6)) || (!(spec_l12NameOk p0.Name)))) (fun _ => c39 p0.Number 1 1000000)] (fun f2 => ⟨[(1, .one (.pt 1 (f1 0 0) 0)), (18, .one (.c (.v (.bool (((!(spec_l1In p0.Kind 1 6)) || (!(spec_l12NameOk p0.Name))) || (!(spec_l1In p0.Number 1 1000000)))))))], [(1, some (f1 0 0, .box (LinkWord.cs .bor p0)))], 28⟩) (fun f => by kernel_rfl) (fun f => by kernel_rfl) fun f2 => ?_
  refine w_cond rfl (fun h3 => ?_) fun h3 => ?_
  · rw [if_pos h3] at hR
    have gh3 := h3; try simp only [spec_l1In, Bool.not_eq_true', Bool.not_eq_false', decide_eq_true_eq, decide_eq_false_iff_not, Bool.and_eq_true, Bool.or_eq_true, Bool.and_eq_false_iff, Bool.or_eq_false_iff] at gh3
    refine xr hT [] (fun f4 => ⟨[(2, .one (.c (.v (.bool false))))], [], 28⟩) (fun f => by kernel_rfl) (fun f => by kernel_rfl) fun f4 => ?_
    refine w_ret ?_
    subst hR
    exact x_ret (by kernel_rfl)
  rw [if_neg (nt h3)] at hR
  have gh3 := h3; try simp only [spec_l1In, Bool.not_eq_true', Bool.not_eq_false', decide_eq_true_eq, decide_eq_false_iff_not, Bool.and_eq_true, Bool.or_eq_true, Bool.and_eq_false_iff, Bool.or_eq_false_iff] at gh3
  refine w_skip ?_
  refine w_seq ?_
  refine xr hT [] (fun f5 => ⟨[(1, .one (.pt 1 (f1 0 0) 0)), (21, .one (.c (.v (.bool (decide (p0.Kind ≤ 2))))))], [(1, some (f1 0 0, .box (LinkWord.cs .bor p0)))], 28⟩) (fun f => by kernel_rfl) (fun f => by kernel_rfl) fun f5 => ?_
  refine w_cond rfl (fun h6 => ?_) fun h6 => ?_
  · rw [if_pos h6] at hR
    have gh6 := of_decide_eq_true h6
    refine xr hT [ca (c42 p0.Path (by first | assumption | exact (by omega : p0.Path.Steps.length ≤ 1048576)))] (fun f7 => ⟨[(2, .one (.c (.v (.bool (spec_l21Can p0.Path)))))], [], 28⟩) (fun f => by kernel_rfl) (fun f => by kernel_rfl) fun f7 => ?_
    refine w_ret ?_
    subst hR
    exact x_ret (by kernel_rfl)
  rw [if_neg (nt h6)] at hR
  have gh6 := of_decide_eq_false h6
  refine w_skip ?_
  refine xr hT [ca (c43 p0.Path (by first | assumption | exact (by omega : p0.Path.Steps.length ≤ 1048576)))] (fun f8 => ⟨[(2, .one (.c (.v (.bool (spec_l21None p0.Path)))))], [], 28⟩) (fun f => by kernel_rfl) (fun f => by kernel_rfl) fun f8 => ?_
  refine w_ret ?_
  subst hR
  exact x_ret (by kernel_rfl)

def spec_FlyShared_I1 (p0 : FlyPath) (p1 : FlyPath) (fs : Nat → Nat → Nat) (s1 : Int) (x1 : Nat → Nat) : St := ⟨[(2, .one (.pt 2 (x1 0) 0)), (3, .one (.pt 3 (x1 1) 0)), (5, .one (.c (.v (.int .i64 s1))))], [(2, some (x1 0, .box (FlyPath.cs .bor p0))), (3, some (x1 1, .box (FlyPath.cs .bor p1)))], 41⟩
def spec_FlyShared_J1 (p0 : FlyPath) (p1 : FlyPath) (fs : Nat → Nat → Nat) (s1 : Int) (x1 : Nat → Nat) : St := ⟨[(5, .one (.c (.v (.int .i64 s1))))], [], 41⟩
def spec_FlyShared_v1 (p0 : FlyPath) (p1 : FlyPath) (s1 : Int) : Bool := (((decide (s1 < (p0.Steps.length : Int))) && (decide (s1 < (p1.Steps.length : Int)))) && (FlyStep.beq (p0.Steps.getD ((s1).toNat) default) (p1.Steps.getD ((s1).toNat) default))) && (FlyKind.beq p0.Kind p1.Kind)
def spec_FlyShared_b1 (p0 : FlyPath) (p1 : FlyPath) (s1 : Int) : Res (Int) Int := (if (spec_FlyShared_v1 p0 p1 s1) then (.next (s1 + 1)) else (.brk s1))
def spec_FlyShared_u1 (p0 : FlyPath) (p1 : FlyPath) (s1 : Int) : Nat :=  ((p0.Steps.length : Int) - s1).toNat
def spec_FlyShared_r1 (p0 : FlyPath) (p1 : FlyPath) (s1 : Int) : Int := s1
/-- spec.FlyShared -/
def spec_FlyShared (p0 : FlyPath) (p1 : FlyPath) : Int := (Res.fin (spec_FlyShared_r1 p0 p1) (itr (spec_FlyShared_b1 p0 p1) (spec_FlyShared_u1 p0 p1 0 + 1) 0))
theorem c45 (p0 : FlyPath) (p1 : FlyPath) (k0_0 : FlyPath.ok p0) (k1_0 : FlyPath.ok p1) : Fn Proofs.Try.prog 45 [⟨.val, true, FlyPath.cs .bor p0⟩, ⟨.val, true, FlyPath.cs .bor p1⟩] [.c (.v (.int .i64 (spec_FlyShared p0 p1)))] [] := by
  obtain ⟨R, hR⟩ : ∃ R, R = spec_FlyShared p0 p1 := ⟨_, rfl⟩
  rw [← hR]
  rw [spec_FlyShared] at hR
  refine ⟨fn_intro hT Proofs.Try.func45 rfl rfl fun fs => ?_, _, Proofs.Try.func45, rfl, rfl⟩
  have q0 := k0_0; simp only [FlyPath.ok] at q0
  have q1 := k1_0; simp only [FlyPath.ok] at q1
  refine xr hT [] (fun f1 => ⟨[(2, .one (.pt 2 (f1 0 0) 0)), (3, .one (.pt 3 (f1 1 0) 0))], [(2, some (f1 0 0, .box (FlyPath.cs .bor p0))), (3, some (f1 1 0, .box (FlyPath.cs .bor p1)))], 41⟩) (fun f => by kernel_rfl) (fun f => by kernel_rfl) fun f1 => ?_
  refine xr hT [] (fun f2 => ⟨[(2, .one (.pt 2 (f1 0 0) 0)), (3, .one (.pt 3 (f1 1 0) 0)), (5, .one (.c (.v (.int .i64 0))))], [(2, some (f1 0 0, .box (FlyPath.cs .bor p0))), (3, some (f1 1 0, .box (FlyPath.cs .bor p1)))], 41⟩) (fun f => by kernel_rfl) (fun f => by kernel_rfl) fun f2 => ?_
  refine w_itr (spec_FlyShared_I1 p0 p1 fs) (spec_FlyShared_J1 p0 p1 fs) (fun s1 => 0 ≤ s1 ∧ s1 ≤ p0.Steps.length ∧ s1 ≤ p1.Steps.length) (fun s1 => True) (spec_FlyShared_u1 p0 p1) 0 (spec_FlyShared_b1 p0 p1) (spec_FlyShared_r1 p0 p1) (0) (lst [f1 0 0, f1 1 0]) (sb (by kernel_rfl)) (by first | rfl | ((try simp only [LN, spec_FlyShared_v1]); omega) | (simp; done) | (simp; omega)) hR ?_ ?_
  · skip
    intro s1 x1 k1 hI1 hl1 hX1
    try simp only [LN, spec_FlyShared_v1] at hI1
    refine w_seq ?_
    refine xd hT hM [.ln FlyStep.row p0.Steps, .ln FlyStep.row p1.Steps, izg ((decide (s1 < (p0.Steps.length : Int))) && (decide (s1 < (p1.Steps.length : Int)))) FlyStep.row p0.Steps (s1) (fun h => by (try simp only [Bool.and_eq_true, Bool.or_eq_true, decide_eq_true_eq, Bool.not_eq_true', decide_eq_false_iff_not] at h); omega), izg ((decide (s1 < (p0.Steps.length : Int))) && (decide (s1 < (p1.Steps.length : Int)))) FlyStep.row p1.Steps (s1) (fun h => by (try simp only [Bool.and_eq_true, Bool.or_eq_true, decide_eq_true_eq, Bool.not_eq_true', decide_eq_false_iff_not] at h); omega), .eqs (eqS82 (p0.Steps.getD ((s1).toNat) default) (p1.Steps.getD ((s1).toNat) default)), .eqs (eqS34 p0.Kind p1.Kind)] (fun f3 => ⟨[(2, .one (.pt 2 (x1 0) 0)), (3, .one (.pt 3 (x1 1) 0)), (5, .one (.c (.v (.int .i64 s1)))), (37, .one (.c (.v (.bool (spec_FlyShared_v1 p0 p1 s1)))))], [(2, some (x1 0, .box (FlyPath.cs .bor p0))), (3, some (x1 1, .box (FlyPath.cs .bor p1)))], 41⟩) (fun f => by kernel_rfl) (fun f => by kernel_rfl) (fun f => by kernel_rfl) fun f3 => ?_
    obtain ⟨B1, hB1⟩ : ∃ B, B = spec_FlyShared_b1 p0 p1 s1 := ⟨_, rfl⟩
    have hE1 := hB1
    rw [spec_FlyShared_b1] at hE1
    refine w_cond rfl (fun h4 => ?_) fun h4 => ?_
    · rw [if_pos h4] at hE1
      have gh4 := h4; try simp only [spec_FlyShared_v1, Bool.not_eq_true', Bool.not_eq_false', decide_eq_true_eq, decide_eq_false_iff_not, Bool.and_eq_true, Bool.or_eq_true, Bool.and_eq_false_iff, Bool.or_eq_false_iff] at gh4
      refine w_skip ?_
      refine w_block ?_
      refine x_reg hT [.ex true (s1 + 1) (s1 + 1) (fun _ => wr_eq (by omega) (by omega))] (fun f5 => spec_FlyShared_I1 p0 p1 fs (s1 + 1) (lst [x1 0, x1 1])) (fun f => by kernel_rfl) (fun f => by kernel_rfl) fun f5 s' hs' => ?_
      exact ⟨s1 + 1, (lst [x1 0, x1 1]), (by simp only [spec_FlyShared_u1]; (first | omega | ((try simp only [LN, spec_FlyShared_v1]); omega) | ((try simp only [wr, IntKind.wrap_i64, LN, spec_FlyShared_v1] at *); omega) | (simp_all <;> omega))), (by (try simp only [LN, spec_FlyShared_v1] at *); omega), hX1.trans (itr_next hl1 (hB1.symm.trans hE1)), hs'⟩
    rw [if_neg (nt h4)] at hE1
    have gh4 := h4; try simp only [spec_FlyShared_v1, Bool.not_eq_true', Bool.not_eq_false', decide_eq_true_eq, decide_eq_false_iff_not, Bool.and_eq_true, Bool.or_eq_true, Bool.and_eq_false_iff, Bool.or_eq_false_iff] at gh4
    refine w_exit ?_
    exact ⟨s1, (lst [x1 0, x1 1]), trivial, hX1.trans (itr_brk hl1 (hB1.symm.trans hE1)), (sb (by kernel_rfl))⟩
  intro s1 x1 hF8 hR6
  rw [spec_FlyShared_r1] at hR6
  refine xr hT [] (fun f7 => ⟨[(4, .one (.c (.v (.int .i64 s1))))], [], 41⟩) (fun f => by kernel_rfl) (fun f => by kernel_rfl) fun f7 => ?_
  refine w_ret ?_
  subst hR6
  exact x_ret (by kernel_rfl)

/-- spec.l22Can -/
def spec_l22Can (p0 : LinkCraft) (p1 : FlyPath) (p2 : Int) : Bool := (if decide ((p0.Flown.length : Int) = 0) then (spec_l22Waits p1 p2) else (decide (((p0.Flown.length : Int) - 1) < (spec_FlyShared p0.Path p1))) && (spec_l22Stays p1 p0.Flown p2))
theorem c21 (p0 : LinkCraft) (p1 : FlyPath) (p2 : Int) (k0_0 : LinkCraft.ok p0) (k1_0 : FlyPath.ok p1) : Fn Proofs.Try.prog 21 [⟨.val, true, LinkCraft.cs .bor p0⟩, ⟨.val, true, FlyPath.cs .bor p1⟩, ⟨.val, false, [.v (.int .i64 p2)]⟩] [.c (.v (.bool (spec_l22Can p0 p1 p2)))] [] := by
  obtain ⟨R, hR⟩ : ∃ R, R = spec_l22Can p0 p1 p2 := ⟨_, rfl⟩
  rw [← hR]
  rw [spec_l22Can] at hR
  refine ⟨fn_intro hT Proofs.Try.func21 rfl rfl fun fs => ?_, _, Proofs.Try.func21, rfl, rfl⟩
  have q0 := k0_0; simp only [LinkCraft.ok] at q0
  have q1 := k1_0; simp only [FlyPath.ok] at q1
  refine xr hT [] (fun f1 => ⟨[(2, .one (.c (.v (.int .i64 p2)))), (3, .one (.pt 3 (f1 0 0) 0)), (4, .one (.pt 4 (f1 1 0) 0))], [(3, some (f1 0 0, .box (LinkCraft.cs .bor p0))), (4, some (f1 1 0, .box (FlyPath.cs .bor p1)))], 32⟩) (fun f => by kernel_rfl) (fun f => by kernel_rfl) fun f1 => ?_
  refine w_seq ?_
  refine xr hT [.ln Int.row p0.Flown] (fun f2 => ⟨[(2, .one (.c (.v (.int .i64 p2)))), (3, .one (.pt 3 (f1 0 0) 0)), (4, .one (.pt 4 (f1 1 0) 0)), (11, .one (.c (.v (.bool (decide ((p0.Flown.length : Int) = 0))))))], [(3, some (f1 0 0, .box (LinkCraft.cs .bor p0))), (4, some (f1 1 0, .box (FlyPath.cs .bor p1)))], 32⟩) (fun f => by kernel_rfl) (fun f => by kernel_rfl) fun f2 => ?_
  refine w_cond rfl (fun h3 => ?_) fun h3 => ?_
  · rw [if_pos h3] at hR
    have gh3 := of_decide_eq_true h3
    refine xr hT [ca (c44 p1 p2 (by first | assumption | exact (by omega : p1.Steps.length ≤ 1048576)))] (fun f4 => ⟨[(6, .one (.c (.v (.bool (spec_l22Waits p1 p2)))))], [], 32⟩) (fun f => by kernel_rfl) (fun f => by kernel_rfl) fun f4 => ?_
    refine w_ret ?_
    subst hR
    exact x_ret (by kernel_rfl)
  rw [if_neg (nt h3)] at hR
  have gh3 := of_decide_eq_false h3
  refine w_skip ?_
  refine xr hT [.ln Int.row p0.Flown, .ex true ((p0.Flown.length : Int) - 1) ((p0.Flown.length : Int) - 1) (fun _ => wr_eq (by omega) (by omega))] (fun f5 => ⟨[(2, .one (.c (.v (.int .i64 p2)))), (3, .one (.pt 3 (f1 0 0) 0)), (4, .one (.pt 4 (f1 1 0) 0)), (7, .one (.c (.v (.int .i64 ((p0.Flown.length : Int) - 1)))))], [(3, some (f1 0 0, .box (LinkCraft.cs .bor p0))), (4, some (f1 1 0, .box (FlyPath.cs .bor p1)))], 32⟩) (fun f => by kernel_rfl) (fun f => by kernel_rfl) fun f5 => ?_
  refine xr hT [ca (c45 p0.Path p1 (by first | assumption | exact (by omega : p0.Path.Steps.length ≤ 1048576)) (by first | assumption | exact (by omega : p1.Steps.length ≤ 1048576))), cg (decide (((p0.Flown.length : Int) - 1) < (spec_FlyShared p0.Path p1))) (fun h => by (try simp only [Bool.and_eq_true, Bool.or_eq_true, decide_eq_true_eq, Bool.not_eq_true', decide_eq_false_iff_not] at h); exact c41 p1 p0.Flown p2 (by first | assumption | exact (by omega : p1.Steps.length ≤ 1048576)) (by omega))] (fun f6 => ⟨[(6, .one (.c (.v (.bool ((decide (((p0.Flown.length : Int) - 1) < (spec_FlyShared p0.Path p1))) && (spec_l22Stays p1 p0.Flown p2))))))], [], 32⟩) (fun f => by kernel_rfl) (fun f => by kernel_rfl) fun f6 => ?_
  refine w_ret ?_
  subst hR
  exact x_ret (by kernel_rfl)

def spec_LinkTake_v1 (p0 : LinkCraft) (p1 : LinkWord) (p2 : Int) : Bool := ((((!(spec_LinkCraftOk p0 p2)) || (!(spec_LinkWordOk p1))) || (!decide (p1.Kind = 2))) || (!(p1.Name.toList == p0.Name.toList))) || (decide (p1.Number < p0.Number))
/-- spec.LinkTake -/
def spec_LinkTake (p0 : LinkCraft) (p1 : LinkWord) (p2 : Int) : LinkCraft × LinkWord × Bool := (if (spec_LinkTake_v1 p0 p1 p2) then ((spec_l22Craft p0), (⟨0, ⟨#[]⟩, 0, ⟨⟨0, 0⟩, [], 0, 0⟩⟩ : LinkWord), false) else (if decide (p1.Number = p0.Number) then ((spec_l22Craft p0), (⟨3, p0.Name, p1.Number, ⟨⟨0, 0⟩, [], 0, 0⟩⟩ : LinkWord), true) else (if (decide (p1.Number ≤ p0.No)) || (!(spec_l22Can p0 p1.Path p2)) then (if decide (((spec_l22Craft p0).No) < p1.Number) then ((⟨(spec_l22Craft p0).Name, (spec_l22Craft p0).Number, p1.Number, (spec_l22Craft p0).Path, (spec_l22Craft p0).Flown⟩ : LinkCraft), (⟨4, p0.Name, p1.Number, ⟨⟨0, 0⟩, [], 0, 0⟩⟩ : LinkWord), true) else ((spec_l22Craft p0), (⟨4, p0.Name, p1.Number, ⟨⟨0, 0⟩, [], 0, 0⟩⟩ : LinkWord), true)) else ((⟨(spec_l22Craft p0).Name, p1.Number, (spec_l22Craft p0).No, (spec_l2Copy p1.Path), (spec_l22Craft p0).Flown⟩ : LinkCraft), (⟨3, p0.Name, p1.Number, ⟨⟨0, 0⟩, [], 0, 0⟩⟩ : LinkWord), true))))
theorem c6 (p0 : LinkCraft) (p1 : LinkWord) (p2 : Int) (k0_0 : LinkCraft.ok p0) (k1_0 : LinkWord.ok p1) : Fn Proofs.Try.prog 6 [⟨.val, true, LinkCraft.cs .bor p0⟩, ⟨.val, true, LinkWord.cs .bor p1⟩, ⟨.val, false, [.v (.int .i64 p2)]⟩] [.ag (LinkCraft.cs .own (spec_LinkTake p0 p1 p2).1), .ag (LinkWord.cs .own (spec_LinkTake p0 p1 p2).2.1), .c (.v (.bool (spec_LinkTake p0 p1 p2).2.2))] [] := by
  obtain ⟨R, hR⟩ : ∃ R, R = spec_LinkTake p0 p1 p2 := ⟨_, rfl⟩
  rw [← hR]
  rw [spec_LinkTake] at hR
  refine ⟨fn_intro hT Proofs.Try.func6 rfl rfl fun fs => ?_, _, Proofs.Try.func6, rfl, rfl⟩
  have q0 := k0_0; simp only [LinkCraft.ok] at q0
  have q1 := k1_0; simp only [LinkWord.ok] at q1
  refine xr hT [] (fun f1 => ⟨[(2, .one (.c (.v (.int .i64 p2)))), (3, .one (.pt 3 (f1 0 0) 0)), (4, .one (.pt 4 (f1 1 0) 0)), (6, .one (.pt 6 (f1 2 0) 0)), (7, .one (.pt 7 (f1 3 0) 0))], [(3, some (f1 0 0, .box (LinkCraft.cs .bor p0))), (4, some (f1 1 0, .box (LinkWord.cs .bor p1))), (6, some (f1 2 0, .box [.v (.string ⟨#[]⟩), .v (.int .i64 0), .v (.int .i64 0), .v (.int .i64 0), .v (.int .i64 0), .nl, .v (.int .i64 0), .v (.int .i64 0), .nl])), (7, some (f1 3 0, .box [.v (.int .i64 0), .v (.string ⟨#[]⟩), .v (.int .i64 0), .v (.int .i64 0), .v (.int .i64 0), .nl, .v (.int .i64 0), .v (.int .i64 0)]))], 88⟩) (fun f => by kernel_rfl) (fun f => by kernel_rfl) fun f1 => ?_
  refine xr hT [ca (c18 p0 (by first | assumption | exact ⟨(by omega : p0.Path.Steps.length ≤ 1048576), (by omega : p0.Flown.length ≤ 1048576)⟩))] (fun f2 => ⟨[(2, .one (.c (.v (.int .i64 p2)))), (3, .one (.pt 3 (f1 0 0) 0)), (4, .one (.pt 4 (f1 1 0) 0)), (6, .one (.pt 6 (f1 2 0) 0)), (7, .one (.pt 7 (f1 3 0) 0)), (9, .one (.pt 9 (f2 2 0) 0))], [(3, some (f1 0 0, .box (LinkCraft.cs .bor p0))), (4, some (f1 1 0, .box (LinkWord.cs .bor p1))), (6, some (f1 2 0, .box [.v (.string ⟨#[]⟩), .v (.int .i64 0), .v (.int .i64 0), .v (.int .i64 0), .v (.int .i64 0), .nl, .v (.int .i64 0), .v (.int .i64 0), .nl])), (7, some (f1 3 0, .box [.v (.int .i64 0), .v (.string ⟨#[]⟩), .v (.int .i64 0), .v (.int .i64 0), .v (.int .i64 0), .nl, .v (.int .i64 0), .v (.int .i64 0)])), (9, some (f2 2 0, .box [.v (.string ((spec_l22Craft p0).Name)), .v (.int .i64 ((spec_l22Craft p0).Number)), .v (.int .i64 ((spec_l22Craft p0).No)), .v (.int .i64 ((spec_l22Craft p0).Path.Kind.Quick)), .v (.int .i64 ((spec_l22Craft p0).Path.Kind.Slow)), .mu 1300005 (gk (f2 1) 0 5) 7 0 (((spec_l22Craft p0).Path.Steps).map FlyStep.row).length, .v (.int .i64 ((spec_l22Craft p0).Path.From)), .v (.int .i64 ((spec_l22Craft p0).Path.By)), .mu 1300008 (gk (f2 1) 0 8) 1 0 (((spec_l22Craft p0).Flown).map Int.row).length])), (1300005, some (gk (f2 1) 0 5, .arr 7 (((spec_l22Craft p0).Path.Steps).map FlyStep.row))), (1300008, some (gk (f2 1) 0 8, .arr 1 (((spec_l22Craft p0).Flown).map Int.row)))], 88⟩) (fun f => by kernel_rfl) (fun f => by kernel_rfl) fun f2 => ?_
  refine w_seq ?_
  refine xr hT [ca (c19 p0 p2 (by first | assumption | exact ⟨(by omega : p0.Path.Steps.length ≤ 1048576), (by omega : p0.Flown.length ≤ 1048576)⟩)), cg (!(!(spec_LinkCraftOk p0 p2))) (fun h => by (try simp only [Bool.and_eq_true, Bool.or_eq_true, decide_eq_true_eq, Bool.not_eq_true', decide_eq_false_iff_not] at h); exact c20 p1 (by first | assumption | exact (by omega : p1.Path.Steps.length ≤ 1048576)))] (fun f3 => ⟨[(2, .one (.c (.v (.int .i64 p2)))), (3, .one (.pt 3 (f1 0 0) 0)), (4, .one (.pt 4 (f1 1 0) 0)), (6, .one (.pt 6 (f1 2 0) 0)), (7, .one (.pt 7 (f1 3 0) 0)), (9, .one (.pt 9 (f2 2 0) 0)), (40, .one (.c (.v (.bool (spec_LinkTake_v1 p0 p1 p2)))))], [(3, some (f1 0 0, .box (LinkCraft.cs .bor p0))), (4, some (f1 1 0, .box (LinkWord.cs .bor p1))), (6, some (f1 2 0, .box [.v (.string ⟨#[]⟩), .v (.int .i64 0), .v (.int .i64 0), .v (.int .i64 0), .v (.int .i64 0), .nl, .v (.int .i64 0), .v (.int .i64 0), .nl])), (7, some (f1 3 0, .box [.v (.int .i64 0), .v (.string ⟨#[]⟩), .v (.int .i64 0), .v (.int .i64 0), .v (.int .i64 0), .nl, .v (.int .i64 0), .v (.int .i64 0)])), (9, some (f2 2 0, .box [.v (.string ((spec_l22Craft p0).Name)), .v (.int .i64 ((spec_l22Craft p0).Number)), .v (.int .i64 ((spec_l22Craft p0).No)), .v (.int .i64 ((spec_l22Craft p0).Path.Kind.Quick)), .v (.int .i64 ((spec_l22Craft p0).Path.Kind.Slow)), .mu 1300005 (gk (f2 1) 0 5) 7 0 (((spec_l22Craft p0).Path.Steps).map FlyStep.row).length, .v (.int .i64 ((spec_l22Craft p0).Path.From)), .v (.int .i64 ((spec_l22Craft p0).Path.By)), .mu 1300008 (gk (f2 1) 0 8) 1 0 (((spec_l22Craft p0).Flown).map Int.row).length])), (1300005, some (gk (f2 1) 0 5, .arr 7 (((spec_l22Craft p0).Path.Steps).map FlyStep.row))), (1300008, some (gk (f2 1) 0 8, .arr 1 (((spec_l22Craft p0).Flown).map Int.row)))], 88⟩) (fun f => by kernel_rfl) (fun f => by kernel_rfl) fun f3 => ?_
  refine w_cond rfl (fun h4 => ?_) fun h4 => ?_
  · rw [if_pos h4] at hR
    have gh4 := h4; try simp only [spec_LinkTake_v1, Bool.not_eq_true', Bool.not_eq_false', decide_eq_true_eq, decide_eq_false_iff_not, Bool.and_eq_true, Bool.or_eq_true, Bool.and_eq_false_iff, Bool.or_eq_false_iff] at gh4
    refine xr hT [] (fun f5 => ⟨[(6, .one (.pt 6 (f1 2 0) 0)), (7, .one (.pt 7 (f1 3 0) 0)), (8, .one (.c (.v (.bool false))))], [(6, some (f1 2 0, .box [.v (.string ((spec_l22Craft p0).Name)), .v (.int .i64 ((spec_l22Craft p0).Number)), .v (.int .i64 ((spec_l22Craft p0).No)), .v (.int .i64 ((spec_l22Craft p0).Path.Kind.Quick)), .v (.int .i64 ((spec_l22Craft p0).Path.Kind.Slow)), .mu 1300005 (gk (f2 1) 0 5) 7 0 (((spec_l22Craft p0).Path.Steps).map FlyStep.row).length, .v (.int .i64 ((spec_l22Craft p0).Path.From)), .v (.int .i64 ((spec_l22Craft p0).Path.By)), .mu 1300008 (gk (f2 1) 0 8) 1 0 (((spec_l22Craft p0).Flown).map Int.row).length])), (7, some (f1 3 0, .box [.v (.int .i64 0), .v (.string ⟨#[]⟩), .v (.int .i64 0), .v (.int .i64 0), .v (.int .i64 0), .nl, .v (.int .i64 0), .v (.int .i64 0)])), (1300005, some (gk (f2 1) 0 5, .arr 7 (((spec_l22Craft p0).Path.Steps).map FlyStep.row))), (1300008, some (gk (f2 1) 0 8, .arr 1 (((spec_l22Craft p0).Flown).map Int.row)))], 88⟩) (fun f => by kernel_rfl) (fun f => by kernel_rfl) fun f5 => ?_
    refine w_ret ?_
    subst hR
    exact x_ret (by kernel_rfl)
  rw [if_neg (nt h4)] at hR
  have gh4 := h4; try simp only [spec_LinkTake_v1, Bool.not_eq_true', Bool.not_eq_false', decide_eq_true_eq, decide_eq_false_iff_not, Bool.and_eq_true, Bool.or_eq_true, Bool.and_eq_false_iff, Bool.or_eq_false_iff] at gh4
  refine w_skip ?_
  refine xr hT [] (fun f6 => ⟨[(2, .one (.c (.v (.int .i64 p2)))), (3, .one (.pt 3 (f1 0 0) 0)), (4, .one (.pt 4 (f1 1 0) 0)), (6, .one (.pt 6 (f1 2 0) 0)), (7, .one (.pt 7 (f1 3 0) 0)), (9, .one (.pt 9 (f2 2 0) 0)), (10, .one (.pt 10 (f6 5 0) 0))], [(3, some (f1 0 0, .box (LinkCraft.cs .bor p0))), (4, some (f1 1 0, .box (LinkWord.cs .bor p1))), (6, some (f1 2 0, .box [.v (.string ⟨#[]⟩), .v (.int .i64 0), .v (.int .i64 0), .v (.int .i64 0), .v (.int .i64 0), .nl, .v (.int .i64 0), .v (.int .i64 0), .nl])), (7, some (f1 3 0, .box [.v (.int .i64 0), .v (.string ⟨#[]⟩), .v (.int .i64 0), .v (.int .i64 0), .v (.int .i64 0), .nl, .v (.int .i64 0), .v (.int .i64 0)])), (9, some (f2 2 0, .box [.v (.string ((spec_l22Craft p0).Name)), .v (.int .i64 ((spec_l22Craft p0).Number)), .v (.int .i64 ((spec_l22Craft p0).No)), .v (.int .i64 ((spec_l22Craft p0).Path.Kind.Quick)), .v (.int .i64 ((spec_l22Craft p0).Path.Kind.Slow)), .mu 1300005 (gk (f2 1) 0 5) 7 0 (((spec_l22Craft p0).Path.Steps).map FlyStep.row).length, .v (.int .i64 ((spec_l22Craft p0).Path.From)), .v (.int .i64 ((spec_l22Craft p0).Path.By)), .mu 1300008 (gk (f2 1) 0 8) 1 0 (((spec_l22Craft p0).Flown).map Int.row).length])), (10, some (f6 5 0, .box [.v (.int .i64 3), .v (.string p0.Name), .v (.int .i64 p1.Number), .v (.int .i64 0), .v (.int .i64 0), .nl, .v (.int .i64 0), .v (.int .i64 0)])), (1300005, some (gk (f2 1) 0 5, .arr 7 (((spec_l22Craft p0).Path.Steps).map FlyStep.row))), (1300008, some (gk (f2 1) 0 8, .arr 1 (((spec_l22Craft p0).Flown).map Int.row)))], 88⟩) (fun f => by kernel_rfl) (fun f => by kernel_rfl) fun f6 => ?_
  refine w_seq ?_
  refine xr hT [] (fun f7 => ⟨[(2, .one (.c (.v (.int .i64 p2)))), (3, .one (.pt 3 (f1 0 0) 0)), (4, .one (.pt 4 (f1 1 0) 0)), (6, .one (.pt 6 (f1 2 0) 0)), (7, .one (.pt 7 (f1 3 0) 0)), (9, .one (.pt 9 (f2 2 0) 0)), (10, .one (.pt 10 (f6 5 0) 0)), (52, .one (.c (.v (.bool (decide (p1.Number = p0.Number))))))], [(3, some (f1 0 0, .box (LinkCraft.cs .bor p0))), (4, some (f1 1 0, .box (LinkWord.cs .bor p1))), (6, some (f1 2 0, .box [.v (.string ⟨#[]⟩), .v (.int .i64 0), .v (.int .i64 0), .v (.int .i64 0), .v (.int .i64 0), .nl, .v (.int .i64 0), .v (.int .i64 0), .nl])), (7, some (f1 3 0, .box [.v (.int .i64 0), .v (.string ⟨#[]⟩), .v (.int .i64 0), .v (.int .i64 0), .v (.int .i64 0), .nl, .v (.int .i64 0), .v (.int .i64 0)])), (9, some (f2 2 0, .box [.v (.string ((spec_l22Craft p0).Name)), .v (.int .i64 ((spec_l22Craft p0).Number)), .v (.int .i64 ((spec_l22Craft p0).No)), .v (.int .i64 ((spec_l22Craft p0).Path.Kind.Quick)), .v (.int .i64 ((spec_l22Craft p0).Path.Kind.Slow)), .mu 1300005 (gk (f2 1) 0 5) 7 0 (((spec_l22Craft p0).Path.Steps).map FlyStep.row).length, .v (.int .i64 ((spec_l22Craft p0).Path.From)), .v (.int .i64 ((spec_l22Craft p0).Path.By)), .mu 1300008 (gk (f2 1) 0 8) 1 0 (((spec_l22Craft p0).Flown).map Int.row).length])), (10, some (f6 5 0, .box [.v (.int .i64 3), .v (.string p0.Name), .v (.int .i64 p1.Number), .v (.int .i64 0), .v (.int .i64 0), .nl, .v (.int .i64 0), .v (.int .i64 0)])), (1300005, some (gk (f2 1) 0 5, .arr 7 (((spec_l22Craft p0).Path.Steps).map FlyStep.row))), (1300008, some (gk (f2 1) 0 8, .arr 1 (((spec_l22Craft p0).Flown).map Int.row)))], 88⟩) (fun f => by kernel_rfl) (fun f => by kernel_rfl) fun f7 => ?_
  refine w_cond rfl (fun h8 => ?_) fun h8 => ?_
  · rw [if_pos h8] at hR
    have gh8 := of_decide_eq_true h8
    refine xd hT hM [] (fun f9 => ⟨[(6, .one (.pt 6 (f1 2 0) 0)), (7, .one (.pt 7 (f1 3 0) 0)), (8, .one (.c (.v (.bool true))))], [(6, some (f1 2 0, .box [.v (.string ((spec_l22Craft p0).Name)), .v (.int .i64 ((spec_l22Craft p0).Number)), .v (.int .i64 ((spec_l22Craft p0).No)), .v (.int .i64 ((spec_l22Craft p0).Path.Kind.Quick)), .v (.int .i64 ((spec_l22Craft p0).Path.Kind.Slow)), .mu 1300005 (gk (f2 1) 0 5) 7 0 (((spec_l22Craft p0).Path.Steps).map FlyStep.row).length, .v (.int .i64 ((spec_l22Craft p0).Path.From)), .v (.int .i64 ((spec_l22Craft p0).Path.By)), .mu 1300008 (gk (f2 1) 0 8) 1 0 (((spec_l22Craft p0).Flown).map Int.row).length])), (7, some (f1 3 0, .box [.v (.int .i64 3), .v (.string p0.Name), .v (.int .i64 p1.Number), .v (.int .i64 0), .v (.int .i64 0), .nl, .v (.int .i64 0), .v (.int .i64 0)])), (1300005, some (gk (f2 1) 0 5, .arr 7 (((spec_l22Craft p0).Path.Steps).map FlyStep.row))), (1300008, some (gk (f2 1) 0 8, .arr 1 (((spec_l22Craft p0).Flown).map Int.row)))], 88⟩) (fun f => by kernel_rfl) (fun f => by kernel_rfl) (fun f => by kernel_rfl) fun f9 => ?_
    refine w_ret ?_
    subst hR
    exact x_ret (by kernel_rfl)
  rw [if_neg (nt h8)] at hR
  have gh8 := of_decide_eq_false h8
  refine w_skip ?_
  refine w_seq ?_
  refine xr hT [cg (!(decide (p1.Number ≤ p0.No))) (fun h => by (try simp only [Bool.and_eq_true, Bool.or_eq_true, decide_eq_true_eq, Bool.not_eq_true', decide_eq_false_iff_not] at h); exact c21 p0 p1.Path p2 (by first | assumption | exact ⟨(by omega : p0.Path.Steps.length ≤ 1048576), (by omega : p0.Flown.length ≤ 1048576)⟩) (by first | assumption | exact (by omega : p1.Path.Steps.length ≤ 1048576)))] (fun f10 => ⟨[(4, .one (.pt 4 (f1 1 0) 0)), (6, .one (.pt 6 (f1 2 0) 0)), (7, .one (.pt 7 (f1 3 0) 0)), (9, .one (.pt 9 (f2 2 0) 0)), (10, .one (.pt 10 (f6 5 0) 0)), (67, .one (.c (.v (.bool ((decide (p1.Number ≤ p0.No)) || (!(spec_l22Can p0 p1.Path p2)))))))], [(4, some (f1 1 0, .box (LinkWord.cs .bor p1))), (6, some (f1 2 0, .box [.v (.string ⟨#[]⟩), .v (.int .i64 0), .v (.int .i64 0), .v (.int .i64 0), .v (.int .i64 0), .nl, .v (.int .i64 0), .v (.int .i64 0), .nl])), (7, some (f1 3 0, .box [.v (.int .i64 0), .v (.string ⟨#[]⟩), .v (.int .i64 0), .v (.int .i64 0), .v (.int .i64 0), .nl, .v (.int .i64 0), .v (.int .i64 0)])), (9, some (f2 2 0, .box [.v (.string ((spec_l22Craft p0).Name)), .v (.int .i64 ((spec_l22Craft p0).Number)), .v (.int .i64 ((spec_l22Craft p0).No)), .v (.int .i64 ((spec_l22Craft p0).Path.Kind.Quick)), .v (.int .i64 ((spec_l22Craft p0).Path.Kind.Slow)), .mu 1300005 (gk (f2 1) 0 5) 7 0 (((spec_l22Craft p0).Path.Steps).map FlyStep.row).length, .v (.int .i64 ((spec_l22Craft p0).Path.From)), .v (.int .i64 ((spec_l22Craft p0).Path.By)), .mu 1300008 (gk (f2 1) 0 8) 1 0 (((spec_l22Craft p0).Flown).map Int.row).length])), (10, some (f6 5 0, .box [.v (.int .i64 3), .v (.string p0.Name), .v (.int .i64 p1.Number), .v (.int .i64 0), .v (.int .i64 0), .nl, .v (.int .i64 0), .v (.int .i64 0)])), (1300005, some (gk (f2 1) 0 5, .arr 7 (((spec_l22Craft p0).Path.Steps).map FlyStep.row))), (1300008, some (gk (f2 1) 0 8, .arr 1 (((spec_l22Craft p0).Flown).map Int.row)))], 88⟩) (fun f => by kernel_rfl) (fun f => by kernel_rfl) fun f10 => ?_
  refine w_cond rfl (fun h11 => ?_) fun h11 => ?_
  · rw [if_pos h11] at hR
    have gh11 := h11; try simp only [Bool.not_eq_true', Bool.not_eq_false', decide_eq_true_eq, decide_eq_false_iff_not, Bool.and_eq_true, Bool.or_eq_true, Bool.and_eq_false_iff, Bool.or_eq_false_iff] at gh11
    refine xr hT [] (fun f12 => ⟨[(4, .one (.pt 4 (f1 1 0) 0)), (6, .one (.pt 6 (f1 2 0) 0)), (7, .one (.pt 7 (f1 3 0) 0)), (9, .one (.pt 9 (f2 2 0) 0)), (10, .one (.pt 10 (f6 5 0) 0))], [(4, some (f1 1 0, .box (LinkWord.cs .bor p1))), (6, some (f1 2 0, .box [.v (.string ⟨#[]⟩), .v (.int .i64 0), .v (.int .i64 0), .v (.int .i64 0), .v (.int .i64 0), .nl, .v (.int .i64 0), .v (.int .i64 0), .nl])), (7, some (f1 3 0, .box [.v (.int .i64 0), .v (.string ⟨#[]⟩), .v (.int .i64 0), .v (.int .i64 0), .v (.int .i64 0), .nl, .v (.int .i64 0), .v (.int .i64 0)])), (9, some (f2 2 0, .box [.v (.string ((spec_l22Craft p0).Name)), .v (.int .i64 ((spec_l22Craft p0).Number)), .v (.int .i64 ((spec_l22Craft p0).No)), .v (.int .i64 ((spec_l22Craft p0).Path.Kind.Quick)), .v (.int .i64 ((spec_l22Craft p0).Path.Kind.Slow)), .mu 1300005 (gk (f2 1) 0 5) 7 0 (((spec_l22Craft p0).Path.Steps).map FlyStep.row).length, .v (.int .i64 ((spec_l22Craft p0).Path.From)), .v (.int .i64 ((spec_l22Craft p0).Path.By)), .mu 1300008 (gk (f2 1) 0 8) 1 0 (((spec_l22Craft p0).Flown).map Int.row).length])), (10, some (f6 5 0, .box [.v (.int .i64 4), .v (.string p0.Name), .v (.int .i64 p1.Number), .v (.int .i64 0), .v (.int .i64 0), .nl, .v (.int .i64 0), .v (.int .i64 0)])), (1300005, some (gk (f2 1) 0 5, .arr 7 (((spec_l22Craft p0).Path.Steps).map FlyStep.row))), (1300008, some (gk (f2 1) 0 8, .arr 1 (((spec_l22Craft p0).Flown).map Int.row)))], 88⟩) (fun f => by kernel_rfl) (fun f => by kernel_rfl) fun f12 => ?_
    refine w_seq ?_
    refine xr hT [] (fun f13 => ⟨[(4, .one (.pt 4 (f1 1 0) 0)), (6, .one (.pt 6 (f1 2 0) 0)), (7, .one (.pt 7 (f1 3 0) 0)), (9, .one (.pt 9 (f2 2 0) 0)), (10, .one (.pt 10 (f6 5 0) 0)), (73, .one (.c (.v (.bool (decide (((spec_l22Craft p0).No) < p1.Number))))))], [(4, some (f1 1 0, .box (LinkWord.cs .bor p1))), (6, some (f1 2 0, .box [.v (.string ⟨#[]⟩), .v (.int .i64 0), .v (.int .i64 0), .v (.int .i64 0), .v (.int .i64 0), .nl, .v (.int .i64 0), .v (.int .i64 0), .nl])), (7, some (f1 3 0, .box [.v (.int .i64 0), .v (.string ⟨#[]⟩), .v (.int .i64 0), .v (.int .i64 0), .v (.int .i64 0), .nl, .v (.int .i64 0), .v (.int .i64 0)])), (9, some (f2 2 0, .box [.v (.string ((spec_l22Craft p0).Name)), .v (.int .i64 ((spec_l22Craft p0).Number)), .v (.int .i64 ((spec_l22Craft p0).No)), .v (.int .i64 ((spec_l22Craft p0).Path.Kind.Quick)), .v (.int .i64 ((spec_l22Craft p0).Path.Kind.Slow)), .mu 1300005 (gk (f2 1) 0 5) 7 0 (((spec_l22Craft p0).Path.Steps).map FlyStep.row).length, .v (.int .i64 ((spec_l22Craft p0).Path.From)), .v (.int .i64 ((spec_l22Craft p0).Path.By)), .mu 1300008 (gk (f2 1) 0 8) 1 0 (((spec_l22Craft p0).Flown).map Int.row).length])), (10, some (f6 5 0, .box [.v (.int .i64 4), .v (.string p0.Name), .v (.int .i64 p1.Number), .v (.int .i64 0), .v (.int .i64 0), .nl, .v (.int .i64 0), .v (.int .i64 0)])), (1300005, some (gk (f2 1) 0 5, .arr 7 (((spec_l22Craft p0).Path.Steps).map FlyStep.row))), (1300008, some (gk (f2 1) 0 8, .arr 1 (((spec_l22Craft p0).Flown).map Int.row)))], 88⟩) (fun f => by kernel_rfl) (fun f => by kernel_rfl) fun f13 => ?_
    refine w_cond rfl (fun h14 => ?_) fun h14 => ?_
    · rw [if_pos h14] at hR
      have gh14 := of_decide_eq_true h14
      refine xr1 (fun _ => rfl) hT [] (fun f15 => ⟨[(6, .one (.pt 6 (f1 2 0) 0)), (7, .one (.pt 7 (f1 3 0) 0)), (9, .one (.pt 9 (f2 2 0) 0)), (10, .one (.pt 10 (f6 5 0) 0))], [(6, some (f1 2 0, .box [.v (.string ⟨#[]⟩), .v (.int .i64 0), .v (.int .i64 0), .v (.int .i64 0), .v (.int .i64 0), .nl, .v (.int .i64 0), .v (.int .i64 0), .nl])), (7, some (f1 3 0, .box [.v (.int .i64 0), .v (.string ⟨#[]⟩), .v (.int .i64 0), .v (.int .i64 0), .v (.int .i64 0), .nl, .v (.int .i64 0), .v (.int .i64 0)])), (9, some (f2 2 0, .box [.v (.string ((spec_l22Craft p0).Name)), .v (.int .i64 ((spec_l22Craft p0).Number)), .v (.int .i64 p1.Number), .v (.int .i64 ((spec_l22Craft p0).Path.Kind.Quick)), .v (.int .i64 ((spec_l22Craft p0).Path.Kind.Slow)), .mu 1300005 (gk (f2 1) 0 5) 7 0 (((spec_l22Craft p0).Path.Steps).map FlyStep.row).length, .v (.int .i64 ((spec_l22Craft p0).Path.From)), .v (.int .i64 ((spec_l22Craft p0).Path.By)), .mu 1300008 (gk (f2 1) 0 8) 1 0 (((spec_l22Craft p0).Flown).map Int.row).length])), (10, some (f6 5 0, .box [.v (.int .i64 4), .v (.string p0.Name), .v (.int .i64 p1.Number), .v (.int .i64 0), .v (.int .i64 0), .nl, .v (.int .i64 0), .v (.int .i64 0)])), (1300005, some (gk (f2 1) 0 5, .arr 7 (((spec_l22Craft p0).Path.Steps).map FlyStep.row))), (1300008, some (gk (f2 1) 0 8, .arr 1 (((spec_l22Craft p0).Flown).map Int.row)))], 88⟩) (fun f => by kernel_rfl) (fun f => by kernel_rfl) fun f15 => ?_
      refine xd hT hM [] (fun f16 => ⟨[(6, .one (.pt 6 (f1 2 0) 0)), (7, .one (.pt 7 (f1 3 0) 0)), (8, .one (.c (.v (.bool true))))], [(6, some (f1 2 0, .box [.v (.string ((spec_l22Craft p0).Name)), .v (.int .i64 ((spec_l22Craft p0).Number)), .v (.int .i64 p1.Number), .v (.int .i64 ((spec_l22Craft p0).Path.Kind.Quick)), .v (.int .i64 ((spec_l22Craft p0).Path.Kind.Slow)), .mu 1300005 (gk (f2 1) 0 5) 7 0 (((spec_l22Craft p0).Path.Steps).map FlyStep.row).length, .v (.int .i64 ((spec_l22Craft p0).Path.From)), .v (.int .i64 ((spec_l22Craft p0).Path.By)), .mu 1300008 (gk (f2 1) 0 8) 1 0 (((spec_l22Craft p0).Flown).map Int.row).length])), (7, some (f1 3 0, .box [.v (.int .i64 4), .v (.string p0.Name), .v (.int .i64 p1.Number), .v (.int .i64 0), .v (.int .i64 0), .nl, .v (.int .i64 0), .v (.int .i64 0)])), (1300005, some (gk (f2 1) 0 5, .arr 7 (((spec_l22Craft p0).Path.Steps).map FlyStep.row))), (1300008, some (gk (f2 1) 0 8, .arr 1 (((spec_l22Craft p0).Flown).map Int.row)))], 88⟩) (fun f => by kernel_rfl) (fun f => by kernel_rfl) (fun f => by kernel_rfl) fun f16 => ?_
      refine w_ret ?_
      subst hR
      exact x_ret (by kernel_rfl)
    rw [if_neg (nt h14)] at hR
    have gh14 := of_decide_eq_false h14
    refine w_skip ?_
    refine xd hT hM [] (fun f17 => ⟨[(6, .one (.pt 6 (f1 2 0) 0)), (7, .one (.pt 7 (f1 3 0) 0)), (8, .one (.c (.v (.bool true))))], [(6, some (f1 2 0, .box [.v (.string ((spec_l22Craft p0).Name)), .v (.int .i64 ((spec_l22Craft p0).Number)), .v (.int .i64 ((spec_l22Craft p0).No)), .v (.int .i64 ((spec_l22Craft p0).Path.Kind.Quick)), .v (.int .i64 ((spec_l22Craft p0).Path.Kind.Slow)), .mu 1300005 (gk (f2 1) 0 5) 7 0 (((spec_l22Craft p0).Path.Steps).map FlyStep.row).length, .v (.int .i64 ((spec_l22Craft p0).Path.From)), .v (.int .i64 ((spec_l22Craft p0).Path.By)), .mu 1300008 (gk (f2 1) 0 8) 1 0 (((spec_l22Craft p0).Flown).map Int.row).length])), (7, some (f1 3 0, .box [.v (.int .i64 4), .v (.string p0.Name), .v (.int .i64 p1.Number), .v (.int .i64 0), .v (.int .i64 0), .nl, .v (.int .i64 0), .v (.int .i64 0)])), (1300005, some (gk (f2 1) 0 5, .arr 7 (((spec_l22Craft p0).Path.Steps).map FlyStep.row))), (1300008, some (gk (f2 1) 0 8, .arr 1 (((spec_l22Craft p0).Flown).map Int.row)))], 88⟩) (fun f => by kernel_rfl) (fun f => by kernel_rfl) (fun f => by kernel_rfl) fun f17 => ?_
    refine w_ret ?_
    subst hR
    exact x_ret (by kernel_rfl)
  rw [if_neg (nt h11)] at hR
  have gh11 := h11; try simp only [Bool.not_eq_true', Bool.not_eq_false', decide_eq_true_eq, decide_eq_false_iff_not, Bool.and_eq_true, Bool.or_eq_true, Bool.and_eq_false_iff, Bool.or_eq_false_iff] at gh11
  refine w_skip ?_
  refine xr hT [] (fun f18 => ⟨[(4, .one (.pt 4 (f1 1 0) 0)), (6, .one (.pt 6 (f1 2 0) 0)), (7, .one (.pt 7 (f1 3 0) 0)), (9, .one (.pt 9 (f2 2 0) 0)), (10, .one (.pt 10 (f6 5 0) 0))], [(4, some (f1 1 0, .box (LinkWord.cs .bor p1))), (6, some (f1 2 0, .box [.v (.string ⟨#[]⟩), .v (.int .i64 0), .v (.int .i64 0), .v (.int .i64 0), .v (.int .i64 0), .nl, .v (.int .i64 0), .v (.int .i64 0), .nl])), (7, some (f1 3 0, .box [.v (.int .i64 0), .v (.string ⟨#[]⟩), .v (.int .i64 0), .v (.int .i64 0), .v (.int .i64 0), .nl, .v (.int .i64 0), .v (.int .i64 0)])), (9, some (f2 2 0, .box [.v (.string ((spec_l22Craft p0).Name)), .v (.int .i64 p1.Number), .v (.int .i64 ((spec_l22Craft p0).No)), .v (.int .i64 ((spec_l22Craft p0).Path.Kind.Quick)), .v (.int .i64 ((spec_l22Craft p0).Path.Kind.Slow)), .mu 1300005 (gk (f2 1) 0 5) 7 0 (((spec_l22Craft p0).Path.Steps).map FlyStep.row).length, .v (.int .i64 ((spec_l22Craft p0).Path.From)), .v (.int .i64 ((spec_l22Craft p0).Path.By)), .mu 1300008 (gk (f2 1) 0 8) 1 0 (((spec_l22Craft p0).Flown).map Int.row).length])), (10, some (f6 5 0, .box [.v (.int .i64 3), .v (.string p0.Name), .v (.int .i64 p1.Number), .v (.int .i64 0), .v (.int .i64 0), .nl, .v (.int .i64 0), .v (.int .i64 0)])), (1300005, some (gk (f2 1) 0 5, .arr 7 (((spec_l22Craft p0).Path.Steps).map FlyStep.row))), (1300008, some (gk (f2 1) 0 8, .arr 1 (((spec_l22Craft p0).Flown).map Int.row)))], 88⟩) (fun f => by kernel_rfl) (fun f => by kernel_rfl) fun f18 => ?_
  refine xr hT [ca (c22 p1.Path (by first | assumption | exact (by omega : p1.Path.Steps.length ≤ 1048576)))] (fun f19 => ⟨[(6, .one (.pt 6 (f1 2 0) 0)), (7, .one (.pt 7 (f1 3 0) 0)), (9, .one (.pt 9 (f2 2 0) 0)), (10, .one (.pt 10 (f6 5 0) 0))], [(6, some (f1 2 0, .box [.v (.string ⟨#[]⟩), .v (.int .i64 0), .v (.int .i64 0), .v (.int .i64 0), .v (.int .i64 0), .nl, .v (.int .i64 0), .v (.int .i64 0), .nl])), (7, some (f1 3 0, .box [.v (.int .i64 0), .v (.string ⟨#[]⟩), .v (.int .i64 0), .v (.int .i64 0), .v (.int .i64 0), .nl, .v (.int .i64 0), .v (.int .i64 0)])), (9, some (f2 2 0, .box [.v (.string ((spec_l22Craft p0).Name)), .v (.int .i64 p1.Number), .v (.int .i64 ((spec_l22Craft p0).No)), .v (.int .i64 ((spec_l2Copy p1.Path).Kind.Quick)), .v (.int .i64 ((spec_l2Copy p1.Path).Kind.Slow)), .mu 8500002 (gk (f19 2) 0 2) 7 0 (((spec_l2Copy p1.Path).Steps).map FlyStep.row).length, .v (.int .i64 ((spec_l2Copy p1.Path).From)), .v (.int .i64 ((spec_l2Copy p1.Path).By)), .mu 1300008 (gk (f2 1) 0 8) 1 0 (((spec_l22Craft p0).Flown).map Int.row).length])), (10, some (f6 5 0, .box [.v (.int .i64 3), .v (.string p0.Name), .v (.int .i64 p1.Number), .v (.int .i64 0), .v (.int .i64 0), .nl, .v (.int .i64 0), .v (.int .i64 0)])), (1300008, some (gk (f2 1) 0 8, .arr 1 (((spec_l22Craft p0).Flown).map Int.row))), (8500002, some (gk (f19 2) 0 2, .arr 7 (((spec_l2Copy p1.Path).Steps).map FlyStep.row)))], 88⟩) (fun f => by kernel_rfl) (fun f => by kernel_rfl) fun f19 => ?_
  refine xd hT hM [] (fun f20 => ⟨[(6, .one (.pt 6 (f1 2 0) 0)), (7, .one (.pt 7 (f1 3 0) 0)), (8, .one (.c (.v (.bool true))))], [(6, some (f1 2 0, .box [.v (.string ((spec_l22Craft p0).Name)), .v (.int .i64 p1.Number), .v (.int .i64 ((spec_l22Craft p0).No)), .v (.int .i64 ((spec_l2Copy p1.Path).Kind.Quick)), .v (.int .i64 ((spec_l2Copy p1.Path).Kind.Slow)), .mu 8500002 (gk (f19 2) 0 2) 7 0 (((spec_l2Copy p1.Path).Steps).map FlyStep.row).length, .v (.int .i64 ((spec_l2Copy p1.Path).From)), .v (.int .i64 ((spec_l2Copy p1.Path).By)), .mu 1300008 (gk (f2 1) 0 8) 1 0 (((spec_l22Craft p0).Flown).map Int.row).length])), (7, some (f1 3 0, .box [.v (.int .i64 3), .v (.string p0.Name), .v (.int .i64 p1.Number), .v (.int .i64 0), .v (.int .i64 0), .nl, .v (.int .i64 0), .v (.int .i64 0)])), (1300008, some (gk (f2 1) 0 8, .arr 1 (((spec_l22Craft p0).Flown).map Int.row))), (8500002, some (gk (f19 2) 0 2, .arr 7 (((spec_l2Copy p1.Path).Steps).map FlyStep.row)))], 88⟩) (fun f => by kernel_rfl) (fun f => by kernel_rfl) (fun f => by kernel_rfl) fun f20 => ?_
  refine w_ret ?_
  subst hR
  exact x_ret (by kernel_rfl)
theorem f_spec_LinkTake (p0 : LinkCraft) (p1 : LinkWord) (p2 : Int) (h0 : LinkCraft.ok p0) (h1 : LinkWord.ok p1) : LinkCraft.ok (spec_LinkTake p0 p1 p2).1 := by
  simp only [LinkCraft.ok, LinkWord.ok] at *
  unfold spec_LinkTake
  (repeat' split) <;> (try simp only [LN, spec_l22Craft, spec_l2Copy, spec_LinkTake_v1]) <;> (try simp only [spec_l2Copy, impl_copyPath]) <;> (try simp) <;> omega
theorem g_spec_LinkTake (p0 : LinkCraft) (p1 : LinkWord) (p2 : Int) (h0 : LinkCraft.ok p0) (h1 : LinkWord.ok p1) : LinkWord.ok (spec_LinkTake p0 p1 p2).2.1 := by
  simp only [LinkCraft.ok, LinkWord.ok] at *
  unfold spec_LinkTake
  (repeat' split) <;> (try simp only [LN, spec_l22Craft, spec_l2Copy, spec_LinkTake_v1]) <;> (try simp only [spec_l2Copy, impl_copyPath]) <;> (try simp) <;> omega

/-- laws.toFlyKind -/
def laws_toFlyKind (p0 : FlyKind) : FlyKind := p0
theorem c46 (p0 : FlyKind) : Fn Proofs.Try.prog 46 [⟨.val, true, FlyKind.cs .bor p0⟩] [.ag (FlyKind.cs .own (laws_toFlyKind p0))] [] := by
  obtain ⟨R, hR⟩ : ∃ R, R = laws_toFlyKind p0 := ⟨_, rfl⟩
  rw [← hR]
  rw [laws_toFlyKind] at hR
  refine ⟨fn_intro hT Proofs.Try.func46 rfl rfl fun fs => ?_, _, Proofs.Try.func46, rfl, rfl⟩
  refine xr hT [] (fun f1 => ⟨[(1, .one (.pt 1 (f1 0 0) 0)), (2, .one (.pt 2 (f1 1 0) 0))], [(1, some (f1 0 0, .box (FlyKind.cs .bor p0))), (2, some (f1 1 0, .box [.v (.int .i64 0), .v (.int .i64 0)]))], 11⟩) (fun f => by kernel_rfl) (fun f => by kernel_rfl) fun f1 => ?_
  refine xr hT [] (fun f2 => ⟨[(1, .one (.pt 1 (f1 0 0) 0)), (2, .one (.pt 2 (f1 1 0) 0)), (3, .one (.pt 3 (f2 0 0) 0))], [(1, some (f1 0 0, .box (FlyKind.cs .bor p0))), (2, some (f1 1 0, .box [.v (.int .i64 0), .v (.int .i64 0)])), (3, some (f2 0 0, .box [.v (.int .i64 0), .v (.int .i64 0)]))], 11⟩) (fun f => by kernel_rfl) (fun f => by kernel_rfl) fun f2 => ?_
  refine xr hT [] (fun f3 => ⟨[(1, .one (.pt 1 (f1 0 0) 0)), (2, .one (.pt 2 (f1 1 0) 0)), (3, .one (.pt 3 (f2 0 0) 0))], [(1, some (f1 0 0, .box (FlyKind.cs .bor p0))), (2, some (f1 1 0, .box [.v (.int .i64 0), .v (.int .i64 0)])), (3, some (f2 0 0, .box [.v (.int .i64 p0.Quick), .v (.int .i64 0)]))], 11⟩) (fun f => by kernel_rfl) (fun f => by kernel_rfl) fun f3 => ?_
  refine xr hT [] (fun f4 => ⟨[(2, .one (.pt 2 (f1 1 0) 0)), (3, .one (.pt 3 (f2 0 0) 0))], [(2, some (f1 1 0, .box [.v (.int .i64 0), .v (.int .i64 0)])), (3, some (f2 0 0, .box [.v (.int .i64 p0.Quick), .v (.int .i64 p0.Slow)]))], 11⟩) (fun f => by kernel_rfl) (fun f => by kernel_rfl) fun f4 => ?_
  refine xr hT [] (fun f5 => ⟨[(2, .one (.pt 2 (f1 1 0) 0))], [(2, some (f1 1 0, .box [.v (.int .i64 p0.Quick), .v (.int .i64 p0.Slow)]))], 11⟩) (fun f => by kernel_rfl) (fun f => by kernel_rfl) fun f5 => ?_
  refine w_ret ?_
  subst hR
  exact x_ret (by kernel_rfl)
theorem f_laws_toFlyKind (p0 : FlyKind) : laws_toFlyKind p0 = p0 := by
  unfold laws_toFlyKind
  simp only [LN]

/-- laws.toFlyStep -/
def laws_toFlyStep (p0 : FlyStep) : FlyStep := p0
theorem c66 (p0 : FlyStep) : Fn Proofs.Try.prog 66 [⟨.val, true, FlyStep.cs .bor p0⟩] [.ag (FlyStep.cs .own (laws_toFlyStep p0))] [] := by
  obtain ⟨R, hR⟩ : ∃ R, R = laws_toFlyStep p0 := ⟨_, rfl⟩
  rw [← hR]
  rw [laws_toFlyStep] at hR
  refine ⟨fn_intro hT Proofs.Try.func66 rfl rfl fun fs => ?_, _, Proofs.Try.func66, rfl, rfl⟩
  refine xr hT [] (fun f1 => ⟨[(1, .one (.pt 1 (f1 0 0) 0)), (2, .one (.pt 2 (f1 1 0) 0))], [(1, some (f1 0 0, .box (FlyStep.cs .bor p0))), (2, some (f1 1 0, .box [.v (.int .i64 0), .v (.int .i64 0), .v (.int .i64 0), .v (.int .i64 0), .v (.int .i64 0), .v (.int .i64 0), .v (.bool false)]))], 26⟩) (fun f => by kernel_rfl) (fun f => by kernel_rfl) fun f1 => ?_
  refine xr hT [] (fun f2 => ⟨[(1, .one (.pt 1 (f1 0 0) 0)), (2, .one (.pt 2 (f1 1 0) 0)), (3, .one (.pt 3 (f2 0 0) 0))], [(1, some (f1 0 0, .box (FlyStep.cs .bor p0))), (2, some (f1 1 0, .box [.v (.int .i64 0), .v (.int .i64 0), .v (.int .i64 0), .v (.int .i64 0), .v (.int .i64 0), .v (.int .i64 0), .v (.bool false)])), (3, some (f2 0 0, .box [.v (.int .i64 0), .v (.int .i64 0), .v (.int .i64 0), .v (.int .i64 0), .v (.int .i64 0), .v (.int .i64 0), .v (.bool false)]))], 26⟩) (fun f => by kernel_rfl) (fun f => by kernel_rfl) fun f2 => ?_
  refine xr hT [] (fun f3 => ⟨[(1, .one (.pt 1 (f1 0 0) 0)), (2, .one (.pt 2 (f1 1 0) 0)), (3, .one (.pt 3 (f2 0 0) 0))], [(1, some (f1 0 0, .box (FlyStep.cs .bor p0))), (2, some (f1 1 0, .box [.v (.int .i64 0), .v (.int .i64 0), .v (.int .i64 0), .v (.int .i64 0), .v (.int .i64 0), .v (.int .i64 0), .v (.bool false)])), (3, some (f2 0 0, .box [.v (.int .i64 p0.X), .v (.int .i64 0), .v (.int .i64 0), .v (.int .i64 0), .v (.int .i64 0), .v (.int .i64 0), .v (.bool false)]))], 26⟩) (fun f => by kernel_rfl) (fun f => by kernel_rfl) fun f3 => ?_
  refine xr hT [] (fun f4 => ⟨[(1, .one (.pt 1 (f1 0 0) 0)), (2, .one (.pt 2 (f1 1 0) 0)), (3, .one (.pt 3 (f2 0 0) 0))], [(1, some (f1 0 0, .box (FlyStep.cs .bor p0))), (2, some (f1 1 0, .box [.v (.int .i64 0), .v (.int .i64 0), .v (.int .i64 0), .v (.int .i64 0), .v (.int .i64 0), .v (.int .i64 0), .v (.bool false)])), (3, some (f2 0 0, .box [.v (.int .i64 p0.X), .v (.int .i64 p0.Y), .v (.int .i64 0), .v (.int .i64 0), .v (.int .i64 0), .v (.int .i64 0), .v (.bool false)]))], 26⟩) (fun f => by kernel_rfl) (fun f => by kernel_rfl) fun f4 => ?_
  refine xr hT [] (fun f5 => ⟨[(1, .one (.pt 1 (f1 0 0) 0)), (2, .one (.pt 2 (f1 1 0) 0)), (3, .one (.pt 3 (f2 0 0) 0))], [(1, some (f1 0 0, .box (FlyStep.cs .bor p0))), (2, some (f1 1 0, .box [.v (.int .i64 0), .v (.int .i64 0), .v (.int .i64 0), .v (.int .i64 0), .v (.int .i64 0), .v (.int .i64 0), .v (.bool false)])), (3, some (f2 0 0, .box [.v (.int .i64 p0.X), .v (.int .i64 p0.Y), .v (.int .i64 p0.Low), .v (.int .i64 0), .v (.int .i64 0), .v (.int .i64 0), .v (.bool false)]))], 26⟩) (fun f => by kernel_rfl) (fun f => by kernel_rfl) fun f5 => ?_
  refine xr hT [] (fun f6 => ⟨[(1, .one (.pt 1 (f1 0 0) 0)), (2, .one (.pt 2 (f1 1 0) 0)), (3, .one (.pt 3 (f2 0 0) 0))], [(1, some (f1 0 0, .box (FlyStep.cs .bor p0))), (2, some (f1 1 0, .box [.v (.int .i64 0), .v (.int .i64 0), .v (.int .i64 0), .v (.int .i64 0), .v (.int .i64 0), .v (.int .i64 0), .v (.bool false)])), (3, some (f2 0 0, .box [.v (.int .i64 p0.X), .v (.int .i64 p0.Y), .v (.int .i64 p0.Low), .v (.int .i64 p0.High), .v (.int .i64 0), .v (.int .i64 0), .v (.bool false)]))], 26⟩) (fun f => by kernel_rfl) (fun f => by kernel_rfl) fun f6 => ?_
  refine xr hT [] (fun f7 => ⟨[(1, .one (.pt 1 (f1 0 0) 0)), (2, .one (.pt 2 (f1 1 0) 0)), (3, .one (.pt 3 (f2 0 0) 0))], [(1, some (f1 0 0, .box (FlyStep.cs .bor p0))), (2, some (f1 1 0, .box [.v (.int .i64 0), .v (.int .i64 0), .v (.int .i64 0), .v (.int .i64 0), .v (.int .i64 0), .v (.int .i64 0), .v (.bool false)])), (3, some (f2 0 0, .box [.v (.int .i64 p0.X), .v (.int .i64 p0.Y), .v (.int .i64 p0.Low), .v (.int .i64 p0.High), .v (.int .i64 p0.From), .v (.int .i64 0), .v (.bool false)]))], 26⟩) (fun f => by kernel_rfl) (fun f => by kernel_rfl) fun f7 => ?_
  refine xr hT [] (fun f8 => ⟨[(1, .one (.pt 1 (f1 0 0) 0)), (2, .one (.pt 2 (f1 1 0) 0)), (3, .one (.pt 3 (f2 0 0) 0))], [(1, some (f1 0 0, .box (FlyStep.cs .bor p0))), (2, some (f1 1 0, .box [.v (.int .i64 0), .v (.int .i64 0), .v (.int .i64 0), .v (.int .i64 0), .v (.int .i64 0), .v (.int .i64 0), .v (.bool false)])), (3, some (f2 0 0, .box [.v (.int .i64 p0.X), .v (.int .i64 p0.Y), .v (.int .i64 p0.Low), .v (.int .i64 p0.High), .v (.int .i64 p0.From), .v (.int .i64 p0.By), .v (.bool false)]))], 26⟩) (fun f => by kernel_rfl) (fun f => by kernel_rfl) fun f8 => ?_
  refine xr hT [] (fun f9 => ⟨[(2, .one (.pt 2 (f1 1 0) 0)), (3, .one (.pt 3 (f2 0 0) 0))], [(2, some (f1 1 0, .box [.v (.int .i64 0), .v (.int .i64 0), .v (.int .i64 0), .v (.int .i64 0), .v (.int .i64 0), .v (.int .i64 0), .v (.bool false)])), (3, some (f2 0 0, .box [.v (.int .i64 p0.X), .v (.int .i64 p0.Y), .v (.int .i64 p0.Low), .v (.int .i64 p0.High), .v (.int .i64 p0.From), .v (.int .i64 p0.By), .v (.bool p0.Hold)]))], 26⟩) (fun f => by kernel_rfl) (fun f => by kernel_rfl) fun f9 => ?_
  refine xr hT [] (fun f10 => ⟨[(2, .one (.pt 2 (f1 1 0) 0))], [(2, some (f1 1 0, .box [.v (.int .i64 p0.X), .v (.int .i64 p0.Y), .v (.int .i64 p0.Low), .v (.int .i64 p0.High), .v (.int .i64 p0.From), .v (.int .i64 p0.By), .v (.bool p0.Hold)]))], 26⟩) (fun f => by kernel_rfl) (fun f => by kernel_rfl) fun f10 => ?_
  refine w_ret ?_
  subst hR
  exact x_ret (by kernel_rfl)
theorem f_laws_toFlyStep (p0 : FlyStep) : laws_toFlyStep p0 = p0 := by
  unfold laws_toFlyStep
  simp only [LN]

def laws_toFlyStepS_I1 (p0 : (List FlyStep)) (fs : Nat → Nat → Nat) (i1 : Nat) (s1 : List FlyStep) (x1 : Nat → Nat) : St := ⟨[(0, .one (.c (.sl .bor 7 (p0.map FlyStep.row)))), (3, .one (.c (.mu 7 (x1 0) 7 0 (s1.map FlyStep.row).length))), (4, .one (.c (.v (.int .i64 ((i1 : Nat) : Int)))))], [(7, some (x1 0, .arr 7 (s1.map FlyStep.row)))], 23⟩
def laws_toFlyStepS_J1 (p0 : (List FlyStep)) (fs : Nat → Nat → Nat) (s1 : List FlyStep) (x1 : Nat → Nat) : St := ⟨[(3, .one (.c (.mu 7 (x1 0) 7 0 (s1.map FlyStep.row).length)))], [(7, some (x1 0, .arr 7 (s1.map FlyStep.row)))], 23⟩
def laws_toFlyStepS_b1 (p0 : (List FlyStep)) (i1 : Nat) (s1 : List FlyStep) : Res (List FlyStep) (List FlyStep) := (.next (s1.set i1 (laws_toFlyStep (p0.getD i1 default))))
def laws_toFlyStepS_r1 (p0 : (List FlyStep)) (s1 : List FlyStep) : (List FlyStep) := s1
/-- laws.toFlyStepS -/
def laws_toFlyStepS (p0 : (List FlyStep)) : (List FlyStep) := (Res.fin (laws_toFlyStepS_r1 p0) (forN (laws_toFlyStepS_b1 p0) (p0.length - 0) 0 (List.replicate p0.length ((⟨0, 0, 0, 0, 0, 0, false⟩ : FlyStep) : FlyStep))))
theorem c47 (p0 : (List FlyStep)) (k0_0 : p0.length ≤ 1048576) : Fn Proofs.Try.prog 47 [⟨.val, false, [.sl .bor 7 (p0.map FlyStep.row)]⟩] [.c (.sl .own 7 ((laws_toFlyStepS p0).map FlyStep.row))] [] := by
  obtain ⟨R, hR⟩ : ∃ R, R = laws_toFlyStepS p0 := ⟨_, rfl⟩
  rw [← hR]
  rw [laws_toFlyStepS] at hR
  refine ⟨fn_intro hT Proofs.Try.func47 rfl rfl fun fs => ?_, _, Proofs.Try.func47, rfl, rfl⟩
  refine xr hT [] (fun f1 => ⟨[(0, .one (.c (.sl .bor 7 (p0.map FlyStep.row))))], [], 23⟩) (fun f => by kernel_rfl) (fun f => by kernel_rfl) fun f1 => ?_
  refine xr hT [.ln FlyStep.row p0, .mk true FlyStep.row ((⟨0, 0, 0, 0, 0, 0, false⟩ : FlyStep) : FlyStep) ((p0.length : Int)) p0.length 56 (fun h => ⟨rfl, by omega⟩)] (fun f2 => ⟨[(0, .one (.c (.sl .bor 7 (p0.map FlyStep.row)))), (3, .one (.c (.mu 7 (f2 2 0) 7 0 ((List.replicate p0.length ((⟨0, 0, 0, 0, 0, 0, false⟩ : FlyStep) : FlyStep)).map FlyStep.row).length)))], [(7, some (f2 2 0, .arr 7 ((List.replicate p0.length ((⟨0, 0, 0, 0, 0, 0, false⟩ : FlyStep) : FlyStep)).map FlyStep.row)))], 23⟩) (fun f => by kernel_rfl) (fun f => by kernel_rfl) fun f2 => ?_
  refine w_seq ?_
  refine xr hT [] (fun f3 => ⟨[(0, .one (.c (.sl .bor 7 (p0.map FlyStep.row)))), (3, .one (.c (.mu 7 (f2 2 0) 7 0 ((List.replicate p0.length ((⟨0, 0, 0, 0, 0, 0, false⟩ : FlyStep) : FlyStep)).map FlyStep.row).length))), (4, .one (.c (.v (.int .i64 0))))], [(7, some (f2 2 0, .arr 7 ((List.replicate p0.length ((⟨0, 0, 0, 0, 0, 0, false⟩ : FlyStep) : FlyStep)).map FlyStep.row)))], 23⟩) (fun f => by kernel_rfl) (fun f => by kernel_rfl) fun f3 => ?_
  refine w_forT (fun _ => rfl) (laws_toFlyStepS_I1 p0 fs) (laws_toFlyStepS_J1 p0 fs) (fun i1 s1 => s1.length = (List.replicate p0.length ((⟨0, 0, 0, 0, 0, 0, false⟩ : FlyStep) : FlyStep)).length) (fun s1 => s1.length = (List.replicate p0.length ((⟨0, 0, 0, 0, 0, 0, false⟩ : FlyStep) : FlyStep)).length) (p0.length) 0 (laws_toFlyStepS_b1 p0) (laws_toFlyStepS_r1 p0) 0 (List.replicate p0.length ((⟨0, 0, 0, 0, 0, 0, false⟩ : FlyStep) : FlyStep)) (lst [f2 2 0]) (sb (by kernel_rfl)) (by first | rfl | ((try simp only [LN, f_laws_toFlyStep]); omega) | (simp; done) | (simp; omega)) hR ?_ ?_
  · skip
    intro i1 s1 x1 hI1 hX1
    try simp only [LN, f_laws_toFlyStep] at hI1
    refine w_seq ?_
    refine xr hT [.ln FlyStep.row p0] (fun f4 => ⟨[(0, .one (.c (.sl .bor 7 (p0.map FlyStep.row)))), (3, .one (.c (.mu 7 (x1 0) 7 0 (s1.map FlyStep.row).length))), (4, .one (.c (.v (.int .i64 ((i1 : Nat) : Int))))), (11, .one (.c (.v (.bool (decide (((i1 : Nat) : Int) < (p0.length : Int)))))))], [(7, some (x1 0, .arr 7 (s1.map FlyStep.row)))], 23⟩) (fun f => by kernel_rfl) (fun f => by kernel_rfl) fun f4 => ?_
    refine w_cond rfl (fun h5 => ?_) fun h5 => ?_
    · skip
      have hl1 : i1 < p0.length := by have hq := of_decide_eq_true h5; first | omega | ((try simp only [LN, f_laws_toFlyStep] at *); omega)
      have hl1x := hl1; try simp only [LN, f_laws_toFlyStep] at hl1x
      obtain ⟨B1, hB1⟩ : ∃ B, B = laws_toFlyStepS_b1 p0 i1 s1 := ⟨_, rfl⟩
      have hE1 := hB1
      rw [laws_toFlyStepS_b1] at hE1
      refine w_skip ?_
      refine w_seq ?_
      refine w_block ?_
      refine xr1 (fun _ => rfl) hT [ix FlyStep.row p0 i1 (by omega), ca (c66 (p0.getD i1 default)), ix FlyStep.row s1 i1 (by omega), .st inferInstance true FlyStep.row s1 i1 (laws_toFlyStep (p0.getD i1 default)) (fun h => by omega)] (fun f6 => ⟨[(0, .one (.c (.sl .bor 7 (p0.map FlyStep.row)))), (3, .one (.c (.mu 7 (x1 0) 7 0 (s1.map FlyStep.row).length))), (4, .one (.c (.v (.int .i64 ((i1 : Nat) : Int)))))], [(7, some (x1 0, .arr 7 ((s1.set i1 (laws_toFlyStep (p0.getD i1 default))).map FlyStep.row)))], 23⟩) (fun f => by kernel_rfl) (fun f => by kernel_rfl) fun f6 => ?_
      refine w_sub (s := ⟨[(0, .one (.c (.sl .bor 7 (p0.map FlyStep.row)))), (3, .one (.c (.mu 7 (x1 0) 7 0 ((s1.set i1 (laws_toFlyStep (p0.getD i1 default))).map FlyStep.row).length))), (4, .one (.c (.v (.int .i64 ((i1 : Nat) : Int)))))], [(7, some (x1 0, .arr 7 ((s1.set i1 (laws_toFlyStep (p0.getD i1 default))).map FlyStep.row)))], 23⟩) (cst (by simp only [LN, f_laws_toFlyStep]) (sb (s := ⟨[(0, .one (.c (.sl .bor 7 (p0.map FlyStep.row)))), (3, .one (.c (.mu 7 (x1 0) 7 0 (s1.map FlyStep.row).length))), (4, .one (.c (.v (.int .i64 ((i1 : Nat) : Int)))))], [(7, some (x1 0, .arr 7 ((s1.set i1 (laws_toFlyStep (p0.getD i1 default))).map FlyStep.row)))], 23⟩) (by kernel_rfl))) ?_
      refine x_reg hT [.ex true (((i1 : Nat) : Int) + ((1 : Nat) : Int)) ((((i1 + 1) : Nat) : Int)) (fun _ => wr_nat (n := i1) (c := 1) (by omega))] (fun f7 => laws_toFlyStepS_I1 p0 fs (i1 + 1) (s1.set i1 (laws_toFlyStep (p0.getD i1 default))) (lst [x1 0])) (fun f => by kernel_rfl) (fun f => by kernel_rfl) fun f7 s' hs' => ?_
      exact ⟨s1.set i1 (laws_toFlyStep (p0.getD i1 default)), (lst [x1 0]), hl1, (by (try simp only [LN, f_laws_toFlyStep] at *); omega), hX1.trans (forN_next hl1 (hB1.symm.trans hE1)), hs'⟩
    have hq := of_decide_eq_false h5
    refine w_exit ?_
    exact ⟨s1, (lst [x1 0]), (by (try simp only [LN, f_laws_toFlyStep] at *); omega), hX1.trans (forN_end (by first | omega | ((try simp only [LN, f_laws_toFlyStep] at *); omega))), sb (by kernel_rfl)⟩
  intro s1 x1 hF10 hR8
  try simp only [LN, f_laws_toFlyStep] at hF10
  rw [laws_toFlyStepS_r1] at hR8
  refine xr hT [] (fun f9 => ⟨[(2, .one (.c (.mu 7 (x1 0) 7 0 (s1.map FlyStep.row).length)))], [(7, some (x1 0, .arr 7 (s1.map FlyStep.row)))], 23⟩) (fun f => by kernel_rfl) (fun f => by kernel_rfl) fun f9 => ?_
  refine w_ret ?_
  subst hR8
  exact x_ret (by kernel_rfl)
theorem f_laws_toFlyStepS (p0 : List FlyStep) : laws_toFlyStepS p0 = p0 := by
  refine (forN_copy laws_toFlyStep p0 _ (fun s => s) (body := laws_toFlyStepS_b1 p0) (fun i s => rfl) p0.length rfl).trans ?_
  rw [show laws_toFlyStep = id from funext fun x => f_laws_toFlyStep x]; exact List.map_id _

/-- laws.toFlyPath -/
def laws_toFlyPath (p0 : FlyPath) : FlyPath := (⟨(laws_toFlyKind p0.Kind), (laws_toFlyStepS p0.Steps), p0.From, p0.By⟩ : FlyPath)
theorem c23 (p0 : FlyPath) (k0_0 : FlyPath.ok p0) : Fn Proofs.Try.prog 23 [⟨.val, true, FlyPath.cs .bor p0⟩] [.ag (FlyPath.cs .own (laws_toFlyPath p0))] [] := by
  obtain ⟨R, hR⟩ : ∃ R, R = laws_toFlyPath p0 := ⟨_, rfl⟩
  rw [← hR]
  rw [laws_toFlyPath] at hR
  refine ⟨fn_intro hT Proofs.Try.func23 rfl rfl fun fs => ?_, _, Proofs.Try.func23, rfl, rfl⟩
  have q0 := k0_0; simp only [FlyPath.ok] at q0
  refine xr hT [] (fun f1 => ⟨[(1, .one (.pt 1 (f1 0 0) 0)), (2, .one (.pt 2 (f1 1 0) 0))], [(1, some (f1 0 0, .box (FlyPath.cs .bor p0))), (2, some (f1 1 0, .box [.v (.int .i64 0), .v (.int .i64 0), .nl, .v (.int .i64 0), .v (.int .i64 0)]))], 19⟩) (fun f => by kernel_rfl) (fun f => by kernel_rfl) fun f1 => ?_
  refine xr hT [] (fun f2 => ⟨[(1, .one (.pt 1 (f1 0 0) 0)), (2, .one (.pt 2 (f1 1 0) 0)), (3, .one (.pt 3 (f2 0 0) 0))], [(1, some (f1 0 0, .box (FlyPath.cs .bor p0))), (2, some (f1 1 0, .box [.v (.int .i64 0), .v (.int .i64 0), .nl, .v (.int .i64 0), .v (.int .i64 0)])), (3, some (f2 0 0, .box [.v (.int .i64 0), .v (.int .i64 0), .nl, .v (.int .i64 0), .v (.int .i64 0)]))], 19⟩) (fun f => by kernel_rfl) (fun f => by kernel_rfl) fun f2 => ?_
  refine xr hT [ca (c46 p0.Kind)] (fun f3 => ⟨[(1, .one (.pt 1 (f1 0 0) 0)), (2, .one (.pt 2 (f1 1 0) 0)), (3, .one (.pt 3 (f2 0 0) 0))], [(1, some (f1 0 0, .box (FlyPath.cs .bor p0))), (2, some (f1 1 0, .box [.v (.int .i64 0), .v (.int .i64 0), .nl, .v (.int .i64 0), .v (.int .i64 0)])), (3, some (f2 0 0, .box [.v (.int .i64 ((laws_toFlyKind p0.Kind).Quick)), .v (.int .i64 ((laws_toFlyKind p0.Kind).Slow)), .nl, .v (.int .i64 0), .v (.int .i64 0)]))], 19⟩) (fun f => by kernel_rfl) (fun f => by kernel_rfl) fun f3 => ?_
  refine xr hT [ca (c47 p0.Steps (by omega))] (fun f4 => ⟨[(1, .one (.pt 1 (f1 0 0) 0)), (2, .one (.pt 2 (f1 1 0) 0)), (3, .one (.pt 3 (f2 0 0) 0))], [(1, some (f1 0 0, .box (FlyPath.cs .bor p0))), (2, some (f1 1 0, .box [.v (.int .i64 0), .v (.int .i64 0), .nl, .v (.int .i64 0), .v (.int .i64 0)])), (3, some (f2 0 0, .box [.v (.int .i64 ((laws_toFlyKind p0.Kind).Quick)), .v (.int .i64 ((laws_toFlyKind p0.Kind).Slow)), .mu 1100000 (gk (f4 2) 0 0) 7 0 ((laws_toFlyStepS p0.Steps).map FlyStep.row).length, .v (.int .i64 0), .v (.int .i64 0)])), (1100000, some (gk (f4 2) 0 0, .arr 7 ((laws_toFlyStepS p0.Steps).map FlyStep.row)))], 19⟩) (fun f => by kernel_rfl) (fun f => by kernel_rfl) fun f4 => ?_
  refine xr hT [] (fun f5 => ⟨[(1, .one (.pt 1 (f1 0 0) 0)), (2, .one (.pt 2 (f1 1 0) 0)), (3, .one (.pt 3 (f2 0 0) 0))], [(1, some (f1 0 0, .box (FlyPath.cs .bor p0))), (2, some (f1 1 0, .box [.v (.int .i64 0), .v (.int .i64 0), .nl, .v (.int .i64 0), .v (.int .i64 0)])), (3, some (f2 0 0, .box [.v (.int .i64 ((laws_toFlyKind p0.Kind).Quick)), .v (.int .i64 ((laws_toFlyKind p0.Kind).Slow)), .mu 1100000 (gk (f4 2) 0 0) 7 0 ((laws_toFlyStepS p0.Steps).map FlyStep.row).length, .v (.int .i64 p0.From), .v (.int .i64 0)])), (1100000, some (gk (f4 2) 0 0, .arr 7 ((laws_toFlyStepS p0.Steps).map FlyStep.row)))], 19⟩) (fun f => by kernel_rfl) (fun f => by kernel_rfl) fun f5 => ?_
  refine xr hT [] (fun f6 => ⟨[(2, .one (.pt 2 (f1 1 0) 0)), (3, .one (.pt 3 (f2 0 0) 0))], [(2, some (f1 1 0, .box [.v (.int .i64 0), .v (.int .i64 0), .nl, .v (.int .i64 0), .v (.int .i64 0)])), (3, some (f2 0 0, .box [.v (.int .i64 ((laws_toFlyKind p0.Kind).Quick)), .v (.int .i64 ((laws_toFlyKind p0.Kind).Slow)), .mu 1100000 (gk (f4 2) 0 0) 7 0 ((laws_toFlyStepS p0.Steps).map FlyStep.row).length, .v (.int .i64 p0.From), .v (.int .i64 p0.By)])), (1100000, some (gk (f4 2) 0 0, .arr 7 ((laws_toFlyStepS p0.Steps).map FlyStep.row)))], 19⟩) (fun f => by kernel_rfl) (fun f => by kernel_rfl) fun f6 => ?_
  refine xr hT [] (fun f7 => ⟨[(2, .one (.pt 2 (f1 1 0) 0))], [(2, some (f1 1 0, .box [.v (.int .i64 ((laws_toFlyKind p0.Kind).Quick)), .v (.int .i64 ((laws_toFlyKind p0.Kind).Slow)), .mu 1100000 (gk (f4 2) 0 0) 7 0 ((laws_toFlyStepS p0.Steps).map FlyStep.row).length, .v (.int .i64 p0.From), .v (.int .i64 p0.By)])), (1100000, some (gk (f4 2) 0 0, .arr 7 ((laws_toFlyStepS p0.Steps).map FlyStep.row)))], 19⟩) (fun f => by kernel_rfl) (fun f => by kernel_rfl) fun f7 => ?_
  refine w_ret ?_
  subst hR
  exact x_ret (by kernel_rfl)
theorem f_laws_toFlyPath (p0 : FlyPath) : laws_toFlyPath p0 = p0 := by
  unfold laws_toFlyPath
  simp only [LN, f_laws_toFlyKind, f_laws_toFlyStepS]

def laws_toIntS_I1 (p0 : (List Int)) (fs : Nat → Nat → Nat) (i1 : Nat) (s1 : List Int) (x1 : Nat → Nat) : St := ⟨[(0, .one (.c (.sl .bor 1 (p0.map Int.row)))), (3, .one (.c (.mu 7 (x1 0) 1 0 (s1.map Int.row).length))), (4, .one (.c (.v (.int .i64 ((i1 : Nat) : Int)))))], [(7, some (x1 0, .arr 1 (s1.map Int.row)))], 22⟩
def laws_toIntS_J1 (p0 : (List Int)) (fs : Nat → Nat → Nat) (s1 : List Int) (x1 : Nat → Nat) : St := ⟨[(3, .one (.c (.mu 7 (x1 0) 1 0 (s1.map Int.row).length)))], [(7, some (x1 0, .arr 1 (s1.map Int.row)))], 22⟩
def laws_toIntS_b1 (p0 : (List Int)) (i1 : Nat) (s1 : List Int) : Res (List Int) (List Int) := (.next (s1.set i1 (p0.getD i1 default : Int)))
def laws_toIntS_r1 (p0 : (List Int)) (s1 : List Int) : (List Int) := s1
/-- laws.toIntS -/
def laws_toIntS (p0 : (List Int)) : (List Int) := (Res.fin (laws_toIntS_r1 p0) (forN (laws_toIntS_b1 p0) (p0.length - 0) 0 (List.replicate p0.length (0 : Int))))
theorem c24 (p0 : (List Int)) (k0_0 : p0.length ≤ 1048576) : Fn Proofs.Try.prog 24 [⟨.val, false, [.sl .bor 1 (p0.map Int.row)]⟩] [.c (.sl .own 1 ((laws_toIntS p0).map Int.row))] [] := by
  obtain ⟨R, hR⟩ : ∃ R, R = laws_toIntS p0 := ⟨_, rfl⟩
  rw [← hR]
  rw [laws_toIntS] at hR
  refine ⟨fn_intro hT Proofs.Try.func24 rfl rfl fun fs => ?_, _, Proofs.Try.func24, rfl, rfl⟩
  refine xr hT [] (fun f1 => ⟨[(0, .one (.c (.sl .bor 1 (p0.map Int.row))))], [], 22⟩) (fun f => by kernel_rfl) (fun f => by kernel_rfl) fun f1 => ?_
  refine xr hT [.ln Int.row p0, .mk true Int.row (0 : Int) ((p0.length : Int)) p0.length 8 (fun h => ⟨rfl, by omega⟩)] (fun f2 => ⟨[(0, .one (.c (.sl .bor 1 (p0.map Int.row)))), (3, .one (.c (.mu 7 (f2 2 0) 1 0 ((List.replicate p0.length (0 : Int)).map Int.row).length)))], [(7, some (f2 2 0, .arr 1 ((List.replicate p0.length (0 : Int)).map Int.row)))], 22⟩) (fun f => by kernel_rfl) (fun f => by kernel_rfl) fun f2 => ?_
  refine w_seq ?_
  refine xr hT [] (fun f3 => ⟨[(0, .one (.c (.sl .bor 1 (p0.map Int.row)))), (3, .one (.c (.mu 7 (f2 2 0) 1 0 ((List.replicate p0.length (0 : Int)).map Int.row).length))), (4, .one (.c (.v (.int .i64 0))))], [(7, some (f2 2 0, .arr 1 ((List.replicate p0.length (0 : Int)).map Int.row)))], 22⟩) (fun f => by kernel_rfl) (fun f => by kernel_rfl) fun f3 => ?_
  refine w_forT (fun _ => rfl) (laws_toIntS_I1 p0 fs) (laws_toIntS_J1 p0 fs) (fun i1 s1 => s1.length = (List.replicate p0.length (0 : Int)).length) (fun s1 => s1.length = (List.replicate p0.length (0 : Int)).length) (p0.length) 0 (laws_toIntS_b1 p0) (laws_toIntS_r1 p0) 0 (List.replicate p0.length (0 : Int)) (lst [f2 2 0]) (sb (by kernel_rfl)) (by first | rfl | ((try simp only [LN]); omega) | (simp; done) | (simp; omega)) hR ?_ ?_
  · skip
    intro i1 s1 x1 hI1 hX1
    try simp only [LN] at hI1
    refine w_seq ?_
    refine xr hT [.ln Int.row p0] (fun f4 => ⟨[(0, .one (.c (.sl .bor 1 (p0.map Int.row)))), (3, .one (.c (.mu 7 (x1 0) 1 0 (s1.map Int.row).length))), (4, .one (.c (.v (.int .i64 ((i1 : Nat) : Int))))), (11, .one (.c (.v (.bool (decide (((i1 : Nat) : Int) < (p0.length : Int)))))))], [(7, some (x1 0, .arr 1 (s1.map Int.row)))], 22⟩) (fun f => by kernel_rfl) (fun f => by kernel_rfl) fun f4 => ?_
    refine w_cond rfl (fun h5 => ?_) fun h5 => ?_
    · skip
      have hl1 : i1 < p0.length := by have hq := of_decide_eq_true h5; first | omega | ((try simp only [LN] at *); omega)
      have hl1x := hl1; try simp only [LN] at hl1x
      obtain ⟨B1, hB1⟩ : ∃ B, B = laws_toIntS_b1 p0 i1 s1 := ⟨_, rfl⟩
      have hE1 := hB1
      rw [laws_toIntS_b1] at hE1
      refine w_skip ?_
      refine w_seq ?_
      refine w_block ?_
      refine xr1 (fun _ => rfl) hT [ix Int.row p0 i1 (by omega), ix Int.row s1 i1 (by omega), .st inferInstance true Int.row s1 i1 (p0.getD i1 default : Int) (fun h => by omega)] (fun f6 => ⟨[(0, .one (.c (.sl .bor 1 (p0.map Int.row)))), (3, .one (.c (.mu 7 (x1 0) 1 0 (s1.map Int.row).length))), (4, .one (.c (.v (.int .i64 ((i1 : Nat) : Int)))))], [(7, some (x1 0, .arr 1 ((s1.set i1 (p0.getD i1 default : Int)).map Int.row)))], 22⟩) (fun f => by kernel_rfl) (fun f => by kernel_rfl) fun f6 => ?_
      refine w_sub (s := ⟨[(0, .one (.c (.sl .bor 1 (p0.map Int.row)))), (3, .one (.c (.mu 7 (x1 0) 1 0 ((s1.set i1 (p0.getD i1 default : Int)).map Int.row).length))), (4, .one (.c (.v (.int .i64 ((i1 : Nat) : Int)))))], [(7, some (x1 0, .arr 1 ((s1.set i1 (p0.getD i1 default : Int)).map Int.row)))], 22⟩) (cst (by simp only [LN]) (sb (s := ⟨[(0, .one (.c (.sl .bor 1 (p0.map Int.row)))), (3, .one (.c (.mu 7 (x1 0) 1 0 (s1.map Int.row).length))), (4, .one (.c (.v (.int .i64 ((i1 : Nat) : Int)))))], [(7, some (x1 0, .arr 1 ((s1.set i1 (p0.getD i1 default : Int)).map Int.row)))], 22⟩) (by kernel_rfl))) ?_
      refine x_reg hT [.ex true (((i1 : Nat) : Int) + ((1 : Nat) : Int)) ((((i1 + 1) : Nat) : Int)) (fun _ => wr_nat (n := i1) (c := 1) (by omega))] (fun f7 => laws_toIntS_I1 p0 fs (i1 + 1) (s1.set i1 (p0.getD i1 default : Int)) (lst [x1 0])) (fun f => by kernel_rfl) (fun f => by kernel_rfl) fun f7 s' hs' => ?_
      exact ⟨s1.set i1 (p0.getD i1 default : Int), (lst [x1 0]), hl1, (by (try simp only [LN] at *); omega), hX1.trans (forN_next hl1 (hB1.symm.trans hE1)), hs'⟩
    have hq := of_decide_eq_false h5
    refine w_exit ?_
    exact ⟨s1, (lst [x1 0]), (by (try simp only [LN] at *); omega), hX1.trans (forN_end (by first | omega | ((try simp only [LN] at *); omega))), sb (by kernel_rfl)⟩
  intro s1 x1 hF10 hR8
  try simp only [LN] at hF10
  rw [laws_toIntS_r1] at hR8
  refine xr hT [] (fun f9 => ⟨[(2, .one (.c (.mu 7 (x1 0) 1 0 (s1.map Int.row).length)))], [(7, some (x1 0, .arr 1 (s1.map Int.row)))], 22⟩) (fun f => by kernel_rfl) (fun f => by kernel_rfl) fun f9 => ?_
  refine w_ret ?_
  subst hR8
  exact x_ret (by kernel_rfl)
theorem f_laws_toIntS (p0 : List Int) : laws_toIntS p0 = p0 := (forN_copy (fun x : Int => x) p0 0 (fun s => s) (body := laws_toIntS_b1 p0) (fun i s => rfl) p0.length rfl).trans (List.map_id _)

/-- laws.toLinkCraft -/
def laws_toLinkCraft (p0 : LinkCraft) : LinkCraft := (⟨p0.Name, p0.Number, p0.No, (laws_toFlyPath p0.Path), (laws_toIntS p0.Flown)⟩ : LinkCraft)
theorem c7 (p0 : LinkCraft) (k0_0 : LinkCraft.ok p0) : Fn Proofs.Try.prog 7 [⟨.val, true, LinkCraft.cs .bor p0⟩] [.ag (LinkCraft.cs .own (laws_toLinkCraft p0))] [] := by
  obtain ⟨R, hR⟩ : ∃ R, R = laws_toLinkCraft p0 := ⟨_, rfl⟩
  rw [← hR]
  rw [laws_toLinkCraft] at hR
  refine ⟨fn_intro hT Proofs.Try.func7 rfl rfl fun fs => ?_, _, Proofs.Try.func7, rfl, rfl⟩
  have q0 := k0_0; simp only [LinkCraft.ok] at q0
  refine xr hT [] (fun f1 => ⟨[(1, .one (.pt 1 (f1 0 0) 0)), (2, .one (.pt 2 (f1 1 0) 0))], [(1, some (f1 0 0, .box (LinkCraft.cs .bor p0))), (2, some (f1 1 0, .box [.v (.string ⟨#[]⟩), .v (.int .i64 0), .v (.int .i64 0), .v (.int .i64 0), .v (.int .i64 0), .nl, .v (.int .i64 0), .v (.int .i64 0), .nl]))], 22⟩) (fun f => by kernel_rfl) (fun f => by kernel_rfl) fun f1 => ?_
  refine xr hT [] (fun f2 => ⟨[(1, .one (.pt 1 (f1 0 0) 0)), (2, .one (.pt 2 (f1 1 0) 0)), (3, .one (.pt 3 (f2 0 0) 0))], [(1, some (f1 0 0, .box (LinkCraft.cs .bor p0))), (2, some (f1 1 0, .box [.v (.string ⟨#[]⟩), .v (.int .i64 0), .v (.int .i64 0), .v (.int .i64 0), .v (.int .i64 0), .nl, .v (.int .i64 0), .v (.int .i64 0), .nl])), (3, some (f2 0 0, .box [.v (.string ⟨#[]⟩), .v (.int .i64 0), .v (.int .i64 0), .v (.int .i64 0), .v (.int .i64 0), .nl, .v (.int .i64 0), .v (.int .i64 0), .nl]))], 22⟩) (fun f => by kernel_rfl) (fun f => by kernel_rfl) fun f2 => ?_
  refine xr hT [] (fun f3 => ⟨[(1, .one (.pt 1 (f1 0 0) 0)), (2, .one (.pt 2 (f1 1 0) 0)), (3, .one (.pt 3 (f2 0 0) 0))], [(1, some (f1 0 0, .box (LinkCraft.cs .bor p0))), (2, some (f1 1 0, .box [.v (.string ⟨#[]⟩), .v (.int .i64 0), .v (.int .i64 0), .v (.int .i64 0), .v (.int .i64 0), .nl, .v (.int .i64 0), .v (.int .i64 0), .nl])), (3, some (f2 0 0, .box [.v (.string p0.Name), .v (.int .i64 0), .v (.int .i64 0), .v (.int .i64 0), .v (.int .i64 0), .nl, .v (.int .i64 0), .v (.int .i64 0), .nl]))], 22⟩) (fun f => by kernel_rfl) (fun f => by kernel_rfl) fun f3 => ?_
  refine xr hT [] (fun f4 => ⟨[(1, .one (.pt 1 (f1 0 0) 0)), (2, .one (.pt 2 (f1 1 0) 0)), (3, .one (.pt 3 (f2 0 0) 0))], [(1, some (f1 0 0, .box (LinkCraft.cs .bor p0))), (2, some (f1 1 0, .box [.v (.string ⟨#[]⟩), .v (.int .i64 0), .v (.int .i64 0), .v (.int .i64 0), .v (.int .i64 0), .nl, .v (.int .i64 0), .v (.int .i64 0), .nl])), (3, some (f2 0 0, .box [.v (.string p0.Name), .v (.int .i64 p0.Number), .v (.int .i64 0), .v (.int .i64 0), .v (.int .i64 0), .nl, .v (.int .i64 0), .v (.int .i64 0), .nl]))], 22⟩) (fun f => by kernel_rfl) (fun f => by kernel_rfl) fun f4 => ?_
  refine xr hT [] (fun f5 => ⟨[(1, .one (.pt 1 (f1 0 0) 0)), (2, .one (.pt 2 (f1 1 0) 0)), (3, .one (.pt 3 (f2 0 0) 0))], [(1, some (f1 0 0, .box (LinkCraft.cs .bor p0))), (2, some (f1 1 0, .box [.v (.string ⟨#[]⟩), .v (.int .i64 0), .v (.int .i64 0), .v (.int .i64 0), .v (.int .i64 0), .nl, .v (.int .i64 0), .v (.int .i64 0), .nl])), (3, some (f2 0 0, .box [.v (.string p0.Name), .v (.int .i64 p0.Number), .v (.int .i64 p0.No), .v (.int .i64 0), .v (.int .i64 0), .nl, .v (.int .i64 0), .v (.int .i64 0), .nl]))], 22⟩) (fun f => by kernel_rfl) (fun f => by kernel_rfl) fun f5 => ?_
  refine xr hT [ca (c23 p0.Path (by first | assumption | exact (by omega : p0.Path.Steps.length ≤ 1048576)))] (fun f6 => ⟨[(1, .one (.pt 1 (f1 0 0) 0)), (2, .one (.pt 2 (f1 1 0) 0)), (3, .one (.pt 3 (f2 0 0) 0))], [(1, some (f1 0 0, .box (LinkCraft.cs .bor p0))), (2, some (f1 1 0, .box [.v (.string ⟨#[]⟩), .v (.int .i64 0), .v (.int .i64 0), .v (.int .i64 0), .v (.int .i64 0), .nl, .v (.int .i64 0), .v (.int .i64 0), .nl])), (3, some (f2 0 0, .box [.v (.string p0.Name), .v (.int .i64 p0.Number), .v (.int .i64 p0.No), .v (.int .i64 ((laws_toFlyPath p0.Path).Kind.Quick)), .v (.int .i64 ((laws_toFlyPath p0.Path).Kind.Slow)), .mu 1600002 (gk (f6 2) 0 2) 7 0 (((laws_toFlyPath p0.Path).Steps).map FlyStep.row).length, .v (.int .i64 ((laws_toFlyPath p0.Path).From)), .v (.int .i64 ((laws_toFlyPath p0.Path).By)), .nl])), (1600002, some (gk (f6 2) 0 2, .arr 7 (((laws_toFlyPath p0.Path).Steps).map FlyStep.row)))], 22⟩) (fun f => by kernel_rfl) (fun f => by kernel_rfl) fun f6 => ?_
  refine xr hT [ca (c24 p0.Flown (by omega))] (fun f7 => ⟨[(2, .one (.pt 2 (f1 1 0) 0)), (3, .one (.pt 3 (f2 0 0) 0))], [(2, some (f1 1 0, .box [.v (.string ⟨#[]⟩), .v (.int .i64 0), .v (.int .i64 0), .v (.int .i64 0), .v (.int .i64 0), .nl, .v (.int .i64 0), .v (.int .i64 0), .nl])), (3, some (f2 0 0, .box [.v (.string p0.Name), .v (.int .i64 p0.Number), .v (.int .i64 p0.No), .v (.int .i64 ((laws_toFlyPath p0.Path).Kind.Quick)), .v (.int .i64 ((laws_toFlyPath p0.Path).Kind.Slow)), .mu 1600002 (gk (f6 2) 0 2) 7 0 (((laws_toFlyPath p0.Path).Steps).map FlyStep.row).length, .v (.int .i64 ((laws_toFlyPath p0.Path).From)), .v (.int .i64 ((laws_toFlyPath p0.Path).By)), .mu 2000000 (gk (f7 2) 0 0) 1 0 ((laws_toIntS p0.Flown).map Int.row).length])), (1600002, some (gk (f6 2) 0 2, .arr 7 (((laws_toFlyPath p0.Path).Steps).map FlyStep.row))), (2000000, some (gk (f7 2) 0 0, .arr 1 ((laws_toIntS p0.Flown).map Int.row)))], 22⟩) (fun f => by kernel_rfl) (fun f => by kernel_rfl) fun f7 => ?_
  refine xr hT [] (fun f8 => ⟨[(2, .one (.pt 2 (f1 1 0) 0))], [(2, some (f1 1 0, .box [.v (.string p0.Name), .v (.int .i64 p0.Number), .v (.int .i64 p0.No), .v (.int .i64 ((laws_toFlyPath p0.Path).Kind.Quick)), .v (.int .i64 ((laws_toFlyPath p0.Path).Kind.Slow)), .mu 1600002 (gk (f6 2) 0 2) 7 0 (((laws_toFlyPath p0.Path).Steps).map FlyStep.row).length, .v (.int .i64 ((laws_toFlyPath p0.Path).From)), .v (.int .i64 ((laws_toFlyPath p0.Path).By)), .mu 2000000 (gk (f7 2) 0 0) 1 0 ((laws_toIntS p0.Flown).map Int.row).length])), (1600002, some (gk (f6 2) 0 2, .arr 7 (((laws_toFlyPath p0.Path).Steps).map FlyStep.row))), (2000000, some (gk (f7 2) 0 0, .arr 1 ((laws_toIntS p0.Flown).map Int.row)))], 22⟩) (fun f => by kernel_rfl) (fun f => by kernel_rfl) fun f8 => ?_
  refine w_ret ?_
  subst hR
  exact x_ret (by kernel_rfl)
theorem f_laws_toLinkCraft (p0 : LinkCraft) : laws_toLinkCraft p0 = p0 := by
  unfold laws_toLinkCraft
  simp only [LN, f_laws_toFlyPath, f_laws_toIntS]

/-- laws.toLinkWord -/
def laws_toLinkWord (p0 : LinkWord) : LinkWord := (⟨p0.Kind, p0.Name, p0.Number, (laws_toFlyPath p0.Path)⟩ : LinkWord)
theorem c8 (p0 : LinkWord) (k0_0 : LinkWord.ok p0) : Fn Proofs.Try.prog 8 [⟨.val, true, LinkWord.cs .bor p0⟩] [.ag (LinkWord.cs .own (laws_toLinkWord p0))] [] := by
  obtain ⟨R, hR⟩ : ∃ R, R = laws_toLinkWord p0 := ⟨_, rfl⟩
  rw [← hR]
  rw [laws_toLinkWord] at hR
  refine ⟨fn_intro hT Proofs.Try.func8 rfl rfl fun fs => ?_, _, Proofs.Try.func8, rfl, rfl⟩
  have q0 := k0_0; simp only [LinkWord.ok] at q0
  refine xr hT [] (fun f1 => ⟨[(1, .one (.pt 1 (f1 0 0) 0)), (2, .one (.pt 2 (f1 1 0) 0))], [(1, some (f1 0 0, .box (LinkWord.cs .bor p0))), (2, some (f1 1 0, .box [.v (.int .i64 0), .v (.string ⟨#[]⟩), .v (.int .i64 0), .v (.int .i64 0), .v (.int .i64 0), .nl, .v (.int .i64 0), .v (.int .i64 0)]))], 18⟩) (fun f => by kernel_rfl) (fun f => by kernel_rfl) fun f1 => ?_
  refine xr hT [] (fun f2 => ⟨[(1, .one (.pt 1 (f1 0 0) 0)), (2, .one (.pt 2 (f1 1 0) 0)), (3, .one (.pt 3 (f2 0 0) 0))], [(1, some (f1 0 0, .box (LinkWord.cs .bor p0))), (2, some (f1 1 0, .box [.v (.int .i64 0), .v (.string ⟨#[]⟩), .v (.int .i64 0), .v (.int .i64 0), .v (.int .i64 0), .nl, .v (.int .i64 0), .v (.int .i64 0)])), (3, some (f2 0 0, .box [.v (.int .i64 0), .v (.string ⟨#[]⟩), .v (.int .i64 0), .v (.int .i64 0), .v (.int .i64 0), .nl, .v (.int .i64 0), .v (.int .i64 0)]))], 18⟩) (fun f => by kernel_rfl) (fun f => by kernel_rfl) fun f2 => ?_
  refine xr hT [] (fun f3 => ⟨[(1, .one (.pt 1 (f1 0 0) 0)), (2, .one (.pt 2 (f1 1 0) 0)), (3, .one (.pt 3 (f2 0 0) 0))], [(1, some (f1 0 0, .box (LinkWord.cs .bor p0))), (2, some (f1 1 0, .box [.v (.int .i64 0), .v (.string ⟨#[]⟩), .v (.int .i64 0), .v (.int .i64 0), .v (.int .i64 0), .nl, .v (.int .i64 0), .v (.int .i64 0)])), (3, some (f2 0 0, .box [.v (.int .i64 p0.Kind), .v (.string ⟨#[]⟩), .v (.int .i64 0), .v (.int .i64 0), .v (.int .i64 0), .nl, .v (.int .i64 0), .v (.int .i64 0)]))], 18⟩) (fun f => by kernel_rfl) (fun f => by kernel_rfl) fun f3 => ?_
  refine xr hT [] (fun f4 => ⟨[(1, .one (.pt 1 (f1 0 0) 0)), (2, .one (.pt 2 (f1 1 0) 0)), (3, .one (.pt 3 (f2 0 0) 0))], [(1, some (f1 0 0, .box (LinkWord.cs .bor p0))), (2, some (f1 1 0, .box [.v (.int .i64 0), .v (.string ⟨#[]⟩), .v (.int .i64 0), .v (.int .i64 0), .v (.int .i64 0), .nl, .v (.int .i64 0), .v (.int .i64 0)])), (3, some (f2 0 0, .box [.v (.int .i64 p0.Kind), .v (.string p0.Name), .v (.int .i64 0), .v (.int .i64 0), .v (.int .i64 0), .nl, .v (.int .i64 0), .v (.int .i64 0)]))], 18⟩) (fun f => by kernel_rfl) (fun f => by kernel_rfl) fun f4 => ?_
  refine xr hT [] (fun f5 => ⟨[(1, .one (.pt 1 (f1 0 0) 0)), (2, .one (.pt 2 (f1 1 0) 0)), (3, .one (.pt 3 (f2 0 0) 0))], [(1, some (f1 0 0, .box (LinkWord.cs .bor p0))), (2, some (f1 1 0, .box [.v (.int .i64 0), .v (.string ⟨#[]⟩), .v (.int .i64 0), .v (.int .i64 0), .v (.int .i64 0), .nl, .v (.int .i64 0), .v (.int .i64 0)])), (3, some (f2 0 0, .box [.v (.int .i64 p0.Kind), .v (.string p0.Name), .v (.int .i64 p0.Number), .v (.int .i64 0), .v (.int .i64 0), .nl, .v (.int .i64 0), .v (.int .i64 0)]))], 18⟩) (fun f => by kernel_rfl) (fun f => by kernel_rfl) fun f5 => ?_
  refine xr hT [ca (c23 p0.Path (by first | assumption | exact (by omega : p0.Path.Steps.length ≤ 1048576)))] (fun f6 => ⟨[(2, .one (.pt 2 (f1 1 0) 0)), (3, .one (.pt 3 (f2 0 0) 0))], [(2, some (f1 1 0, .box [.v (.int .i64 0), .v (.string ⟨#[]⟩), .v (.int .i64 0), .v (.int .i64 0), .v (.int .i64 0), .nl, .v (.int .i64 0), .v (.int .i64 0)])), (3, some (f2 0 0, .box [.v (.int .i64 p0.Kind), .v (.string p0.Name), .v (.int .i64 p0.Number), .v (.int .i64 ((laws_toFlyPath p0.Path).Kind.Quick)), .v (.int .i64 ((laws_toFlyPath p0.Path).Kind.Slow)), .mu 1600002 (gk (f6 2) 0 2) 7 0 (((laws_toFlyPath p0.Path).Steps).map FlyStep.row).length, .v (.int .i64 ((laws_toFlyPath p0.Path).From)), .v (.int .i64 ((laws_toFlyPath p0.Path).By))])), (1600002, some (gk (f6 2) 0 2, .arr 7 (((laws_toFlyPath p0.Path).Steps).map FlyStep.row)))], 18⟩) (fun f => by kernel_rfl) (fun f => by kernel_rfl) fun f6 => ?_
  refine xr hT [] (fun f7 => ⟨[(2, .one (.pt 2 (f1 1 0) 0))], [(2, some (f1 1 0, .box [.v (.int .i64 p0.Kind), .v (.string p0.Name), .v (.int .i64 p0.Number), .v (.int .i64 ((laws_toFlyPath p0.Path).Kind.Quick)), .v (.int .i64 ((laws_toFlyPath p0.Path).Kind.Slow)), .mu 1600002 (gk (f6 2) 0 2) 7 0 (((laws_toFlyPath p0.Path).Steps).map FlyStep.row).length, .v (.int .i64 ((laws_toFlyPath p0.Path).From)), .v (.int .i64 ((laws_toFlyPath p0.Path).By))])), (1600002, some (gk (f6 2) 0 2, .arr 7 (((laws_toFlyPath p0.Path).Steps).map FlyStep.row)))], 18⟩) (fun f => by kernel_rfl) (fun f => by kernel_rfl) fun f7 => ?_
  refine w_ret ?_
  subst hR
  exact x_ret (by kernel_rfl)
theorem f_laws_toLinkWord (p0 : LinkWord) : laws_toLinkWord p0 = p0 := by
  unfold laws_toLinkWord
  simp only [LN, f_laws_toFlyPath]

/-- impl.copyPath -/
def impl_copyPath (p0 : FlyPath) : FlyPath := p0
theorem c30 (p0 : FlyPath) (k0_0 : FlyPath.ok p0) : Fn Proofs.Try.prog 30 [⟨.val, true, FlyPath.cs .bor p0⟩] [.ag (FlyPath.cs .own (impl_copyPath p0))] [] := by
  obtain ⟨R, hR⟩ : ∃ R, R = impl_copyPath p0 := ⟨_, rfl⟩
  rw [← hR]
  rw [impl_copyPath] at hR
  refine ⟨fn_intro hT Proofs.Try.func30 rfl rfl fun fs => ?_, _, Proofs.Try.func30, rfl, rfl⟩
  have q0 := k0_0; simp only [FlyPath.ok] at q0
  refine xr hT [] (fun f1 => ⟨[(1, .one (.pt 1 (f1 0 0) 0)), (2, .one (.pt 2 (f1 1 0) 0))], [(1, some (f1 0 0, .box (FlyPath.cs .bor p0))), (2, some (f1 1 0, .box [.v (.int .i64 0), .v (.int .i64 0), .nl, .v (.int .i64 0), .v (.int .i64 0)]))], 9⟩) (fun f => by kernel_rfl) (fun f => by kernel_rfl) fun f1 => ?_
  refine xr hT [.app true FlyStep.row ([] : List FlyStep) p0.Steps 56 (fun h => by (try simp only [LN]); omega), .pl (FlyStep.rv p0.Steps)] (fun f2 => ⟨[(1, .one (.pt 1 (f1 0 0) 0)), (2, .one (.pt 2 (f1 1 0) 0))], [(1, some (f1 0 0, .box [.v (.int .i64 p0.Kind.Quick), .v (.int .i64 p0.Kind.Slow), .mu 3 (f2 3 0) 7 0 (p0.Steps.map FlyStep.row).length, .v (.int .i64 p0.From), .v (.int .i64 p0.By)])), (2, some (f1 1 0, .box [.v (.int .i64 0), .v (.int .i64 0), .nl, .v (.int .i64 0), .v (.int .i64 0)])), (3, some (f2 3 0, .arr 7 (p0.Steps.map FlyStep.row)))], 9⟩) (fun f => by kernel_rfl) (fun f => by kernel_rfl) fun f2 => ?_
  refine xr hT [] (fun f3 => ⟨[(2, .one (.pt 2 (f1 1 0) 0))], [(2, some (f1 1 0, .box [.v (.int .i64 p0.Kind.Quick), .v (.int .i64 p0.Kind.Slow), .mu 3 (f2 3 0) 7 0 (p0.Steps.map FlyStep.row).length, .v (.int .i64 p0.From), .v (.int .i64 p0.By)])), (3, some (f2 3 0, .arr 7 (p0.Steps.map FlyStep.row)))], 9⟩) (fun f => by kernel_rfl) (fun f => by kernel_rfl) fun f3 => ?_
  refine w_ret ?_
  subst hR
  exact x_ret (by kernel_rfl)

/-- impl.copyCraft -/
def impl_copyCraft (p0 : LinkCraft) : LinkCraft := (⟨p0.Name, p0.Number, p0.No, (impl_copyPath p0.Path), p0.Flown⟩ : LinkCraft)
theorem c25 (p0 : LinkCraft) (k0_0 : LinkCraft.ok p0) : Fn Proofs.Try.prog 25 [⟨.val, true, LinkCraft.cs .bor p0⟩] [.ag (LinkCraft.cs .own (impl_copyCraft p0))] [] := by
  obtain ⟨R, hR⟩ : ∃ R, R = impl_copyCraft p0 := ⟨_, rfl⟩
  rw [← hR]
  rw [impl_copyCraft] at hR
  refine ⟨fn_intro hT Proofs.Try.func25 rfl rfl fun fs => ?_, _, Proofs.Try.func25, rfl, rfl⟩
  have q0 := k0_0; simp only [LinkCraft.ok] at q0
  refine xr hT [] (fun f1 => ⟨[(1, .one (.pt 1 (f1 0 0) 0)), (2, .one (.pt 2 (f1 1 0) 0))], [(1, some (f1 0 0, .box (LinkCraft.cs .bor p0))), (2, some (f1 1 0, .box [.v (.string ⟨#[]⟩), .v (.int .i64 0), .v (.int .i64 0), .v (.int .i64 0), .v (.int .i64 0), .nl, .v (.int .i64 0), .v (.int .i64 0), .nl]))], 13⟩) (fun f => by kernel_rfl) (fun f => by kernel_rfl) fun f1 => ?_
  refine xr hT [ca (c30 p0.Path (by first | assumption | exact (by omega : p0.Path.Steps.length ≤ 1048576)))] (fun f2 => ⟨[(1, .one (.pt 1 (f1 0 0) 0)), (2, .one (.pt 2 (f1 1 0) 0))], [(1, some (f1 0 0, .box [.v (.string p0.Name), .v (.int .i64 p0.Number), .v (.int .i64 p0.No), .v (.int .i64 ((impl_copyPath p0.Path).Kind.Quick)), .v (.int .i64 ((impl_copyPath p0.Path).Kind.Slow)), .mu 600002 (gk (f2 2) 0 2) 7 0 (((impl_copyPath p0.Path).Steps).map FlyStep.row).length, .v (.int .i64 ((impl_copyPath p0.Path).From)), .v (.int .i64 ((impl_copyPath p0.Path).By)), .sl .bor 1 (p0.Flown.map Int.row)])), (2, some (f1 1 0, .box [.v (.string ⟨#[]⟩), .v (.int .i64 0), .v (.int .i64 0), .v (.int .i64 0), .v (.int .i64 0), .nl, .v (.int .i64 0), .v (.int .i64 0), .nl])), (600002, some (gk (f2 2) 0 2, .arr 7 (((impl_copyPath p0.Path).Steps).map FlyStep.row)))], 13⟩) (fun f => by kernel_rfl) (fun f => by kernel_rfl) fun f2 => ?_
  refine xr hT [.app true Int.row ([] : List Int) p0.Flown 8 (fun h => by (try simp only [LN, impl_copyPath]); omega), .pl (Int.rv p0.Flown)] (fun f3 => ⟨[(1, .one (.pt 1 (f1 0 0) 0)), (2, .one (.pt 2 (f1 1 0) 0))], [(1, some (f1 0 0, .box [.v (.string p0.Name), .v (.int .i64 p0.Number), .v (.int .i64 p0.No), .v (.int .i64 ((impl_copyPath p0.Path).Kind.Quick)), .v (.int .i64 ((impl_copyPath p0.Path).Kind.Slow)), .mu 600002 (gk (f2 2) 0 2) 7 0 (((impl_copyPath p0.Path).Steps).map FlyStep.row).length, .v (.int .i64 ((impl_copyPath p0.Path).From)), .v (.int .i64 ((impl_copyPath p0.Path).By)), .mu 7 (f3 3 0) 1 0 (p0.Flown.map Int.row).length])), (2, some (f1 1 0, .box [.v (.string ⟨#[]⟩), .v (.int .i64 0), .v (.int .i64 0), .v (.int .i64 0), .v (.int .i64 0), .nl, .v (.int .i64 0), .v (.int .i64 0), .nl])), (7, some (f3 3 0, .arr 1 (p0.Flown.map Int.row))), (600002, some (gk (f2 2) 0 2, .arr 7 (((impl_copyPath p0.Path).Steps).map FlyStep.row)))], 13⟩) (fun f => by kernel_rfl) (fun f => by kernel_rfl) fun f3 => ?_
  refine xr hT [] (fun f4 => ⟨[(2, .one (.pt 2 (f1 1 0) 0))], [(2, some (f1 1 0, .box [.v (.string p0.Name), .v (.int .i64 p0.Number), .v (.int .i64 p0.No), .v (.int .i64 ((impl_copyPath p0.Path).Kind.Quick)), .v (.int .i64 ((impl_copyPath p0.Path).Kind.Slow)), .mu 600002 (gk (f2 2) 0 2) 7 0 (((impl_copyPath p0.Path).Steps).map FlyStep.row).length, .v (.int .i64 ((impl_copyPath p0.Path).From)), .v (.int .i64 ((impl_copyPath p0.Path).By)), .mu 7 (f3 3 0) 1 0 (p0.Flown.map Int.row).length])), (7, some (f3 3 0, .arr 1 (p0.Flown.map Int.row))), (600002, some (gk (f2 2) 0 2, .arr 7 (((impl_copyPath p0.Path).Steps).map FlyStep.row)))], 13⟩) (fun f => by kernel_rfl) (fun f => by kernel_rfl) fun f4 => ?_
  refine w_ret ?_
  subst hR
  exact x_ret (by kernel_rfl)

/-- impl.in -/
def impl_in (p0 : Int) (p1 : Int) (p2 : Int) : Bool := (decide (p1 ≤ p0)) && (decide (p0 ≤ p2))
theorem c49 (p0 : Int) (p1 : Int) (p2 : Int) : Fn Proofs.Try.prog 49 [⟨.val, false, [.v (.int .i64 p0)]⟩, ⟨.val, false, [.v (.int .i64 p1)]⟩, ⟨.val, false, [.v (.int .i64 p2)]⟩] [.c (.v (.bool (impl_in p0 p1 p2)))] [] := by
  obtain ⟨R, hR⟩ : ∃ R, R = impl_in p0 p1 p2 := ⟨_, rfl⟩
  rw [← hR]
  rw [impl_in] at hR
  refine ⟨fn_intro hT Proofs.Try.func49 rfl rfl fun fs => ?_, _, Proofs.Try.func49, rfl, rfl⟩
  refine xr hT [] (fun f1 => ⟨[(0, .one (.c (.v (.int .i64 p0)))), (1, .one (.c (.v (.int .i64 p1)))), (2, .one (.c (.v (.int .i64 p2))))], [], 15⟩) (fun f => by kernel_rfl) (fun f => by kernel_rfl) fun f1 => ?_
  refine xr hT [] (fun f2 => ⟨[(6, .one (.c (.v (.bool ((decide (p1 ≤ p0)) && (decide (p0 ≤ p2)))))))], [], 15⟩) (fun f => by kernel_rfl) (fun f => by kernel_rfl) fun f2 => ?_
  refine w_ret ?_
  subst hR
  exact x_ret (by kernel_rfl)

/-- impl.FlyKindOk -/
def impl_FlyKindOk (p0 : FlyKind) : Bool := ((decide (1 ≤ p0.Quick)) && (decide (p0.Quick ≤ p0.Slow))) && (decide (p0.Slow ≤ 50))
theorem c82 (p0 : FlyKind) : Fn Proofs.Try.prog 82 [⟨.val, true, FlyKind.cs .bor p0⟩] [.c (.v (.bool (impl_FlyKindOk p0)))] [] := by
  obtain ⟨R, hR⟩ : ∃ R, R = impl_FlyKindOk p0 := ⟨_, rfl⟩
  rw [← hR]
  rw [impl_FlyKindOk] at hR
  refine ⟨fn_intro hT Proofs.Try.func82 rfl rfl fun fs => ?_, _, Proofs.Try.func82, rfl, rfl⟩
  refine xr hT [] (fun f1 => ⟨[(1, .one (.pt 1 (f1 0 0) 0))], [(1, some (f1 0 0, .box (FlyKind.cs .bor p0)))], 18⟩) (fun f => by kernel_rfl) (fun f => by kernel_rfl) fun f1 => ?_
  refine xr hT [] (fun f2 => ⟨[(2, .one (.c (.v (.bool (((decide (1 ≤ p0.Quick)) && (decide (p0.Quick ≤ p0.Slow))) && (decide (p0.Slow ≤ 50)))))))], [], 18⟩) (fun f => by kernel_rfl) (fun f => by kernel_rfl) fun f2 => ?_
  refine w_ret ?_
  subst hR
  exact x_ret (by kernel_rfl)

def impl_FlyStep_ok_v1 (p0 : FlyStep) : Bool := (((((((impl_in p0.X 0 15) && (impl_in p0.Y 0 15)) && (decide (0 ≤ p0.Low))) && (decide (p0.Low ≤ p0.High))) && (decide (p0.High ≤ 6))) && (decide (0 ≤ p0.From))) && (decide (p0.From ≤ p0.By))) && (decide (p0.By ≤ 10000))
/-- impl.FlyStep.ok -/
def impl_FlyStep_ok (p0 : FlyStep) : Bool := (impl_FlyStep_ok_v1 p0)
theorem c83 (p0 : FlyStep) : Fn Proofs.Try.prog 83 [⟨.val, true, FlyStep.cs .bor p0⟩] [.c (.v (.bool (impl_FlyStep_ok p0)))] [] := by
  obtain ⟨R, hR⟩ : ∃ R, R = impl_FlyStep_ok p0 := ⟨_, rfl⟩
  rw [← hR]
  rw [impl_FlyStep_ok] at hR
  refine ⟨fn_intro hT Proofs.Try.func83 rfl rfl fun fs => ?_, _, Proofs.Try.func83, rfl, rfl⟩
  refine xr hT [] (fun f1 => ⟨[(1, .one (.pt 1 (f1 0 0) 0))], [(1, some (f1 0 0, .box (FlyStep.cs .bor p0)))], 45⟩) (fun f => by kernel_rfl) (fun f => by kernel_rfl) fun f1 => ?_
  refine xr hT [ca (c49 p0.X 0 15), cg (impl_in p0.X 0 15) (fun _ => c49 p0.Y 0 15)] (fun f2 => ⟨[(2, .one (.c (.v (.bool (impl_FlyStep_ok_v1 p0)))))], [], 45⟩) (fun f => by kernel_rfl) (fun f => by kernel_rfl) fun f2 => ?_
  refine w_ret ?_
  subst hR
  exact x_ret (by kernel_rfl)

def impl_FlyPathOk_v1 (p0 : FlyPath) : Bool := ((((!(impl_FlyKindOk p0.Kind)) || (!(impl_in (p0.Steps.length : Int) 1 40))) || (decide (p0.From < 0))) || (decide (p0.By < p0.From))) || (decide (10000 < p0.By))
def impl_FlyPathOk_I1 (p0 : FlyPath) (fs : Nat → Nat → Nat) (i1 : Nat) (s1 : Unit) (x1 : Nat → Nat) : St := ⟨[(1, .one (.pt 1 (x1 0) 0)), (35, .one (.c (.sl .bor 7 (p0.Steps.map FlyStep.row)))), (36, .one (.c (.v (.int .i64 (p0.Steps.length : Int))))), (37, .one (.c (.v (.int .i64 ((i1 : Nat) : Int)))))], [(1, some (x1 0, .box (FlyPath.cs .bor p0)))], 97⟩
def impl_FlyPathOk_J1 (p0 : FlyPath) (fs : Nat → Nat → Nat) (s1 : Unit) (x1 : Nat → Nat) : St := ⟨[], [], 97⟩
def impl_FlyPathOk_v2 (p0 : FlyPath) (i1 : Nat) : Bool := ((((decide (((p0.Steps.getD ((((i1 : Nat) : Int) - 1).toNat) default).X) = ((p0.Steps.getD i1 default).X))) && (decide (((p0.Steps.getD ((((i1 : Nat) : Int) - 1).toNat) default).Y) = ((p0.Steps.getD i1 default).Y)))) || (!(impl_in (wr (((p0.Steps.getD i1 default).X) - ((p0.Steps.getD ((((i1 : Nat) : Int) - 1).toNat) default).X))) (-1) 1))) || (!(impl_in (wr (((p0.Steps.getD i1 default).Y) - ((p0.Steps.getD ((((i1 : Nat) : Int) - 1).toNat) default).Y))) (-1) 1))) || (decide ((min ((p0.Steps.getD ((((i1 : Nat) : Int) - 1).toNat) default).High) ((p0.Steps.getD i1 default).High)) < (max ((p0.Steps.getD ((((i1 : Nat) : Int) - 1).toNat) default).Low) ((p0.Steps.getD i1 default).Low))))
def impl_FlyPathOk_b1 (p0 : FlyPath) (i1 : Nat) (s1 : Unit) : Res (Unit) Bool := (if !(impl_FlyStep_ok (p0.Steps.getD i1 default)) then (.ret false) else (if decide (((i1 : Nat) : Int) = 0) then (.next ()) else (if (impl_FlyPathOk_v2 p0 i1) then (.ret false) else (.next ()))))
def impl_FlyPathOk_r1 (p0 : FlyPath) (s1 : Unit) : Bool := true
/-- impl.FlyPathOk -/
def impl_FlyPathOk (p0 : FlyPath) : Bool := (if (impl_FlyPathOk_v1 p0) then false else (Res.fin (impl_FlyPathOk_r1 p0) (forN (impl_FlyPathOk_b1 p0) (p0.Steps.length - 0) 0 ())))
theorem c69 (p0 : FlyPath) (k0_0 : FlyPath.ok p0) : Fn Proofs.Try.prog 69 [⟨.val, true, FlyPath.cs .bor p0⟩] [.c (.v (.bool (impl_FlyPathOk p0)))] [] := by
  obtain ⟨R, hR⟩ : ∃ R, R = impl_FlyPathOk p0 := ⟨_, rfl⟩
  rw [← hR]
  rw [impl_FlyPathOk] at hR
  refine ⟨fn_intro hT Proofs.Try.func69 rfl rfl fun fs => ?_, _, Proofs.Try.func69, rfl, rfl⟩
  have q0 := k0_0; simp only [FlyPath.ok] at q0
  refine xr hT [] (fun f1 => ⟨[(1, .one (.pt 1 (f1 0 0) 0))], [(1, some (f1 0 0, .box (FlyPath.cs .bor p0)))], 97⟩) (fun f => by kernel_rfl) (fun f => by kernel_rfl) fun f1 => ?_
  refine w_seq ?_
  refine xr hT [ca (c82 p0.Kind), .ln FlyStep.row p0.Steps, cg (!(!(impl_FlyKindOk p0.Kind))) (fun _ => c49 (p0.Steps.length : Int) 1 40)] (fun f2 => ⟨[(1, .one (.pt 1 (f1 0 0) 0)), (33, .one (.c (.v (.bool (impl_FlyPathOk_v1 p0)))))], [(1, some (f1 0 0, .box (FlyPath.cs .bor p0)))], 97⟩) (fun f => by kernel_rfl) (fun f => by kernel_rfl) fun f2 => ?_
  refine w_cond rfl (fun h3 => ?_) fun h3 => ?_
  · rw [if_pos h3] at hR
    have gh3 := h3; try simp only [impl_in, impl_FlyPathOk_v1, Bool.not_eq_true', Bool.not_eq_false', decide_eq_true_eq, decide_eq_false_iff_not, Bool.and_eq_true, Bool.or_eq_true, Bool.and_eq_false_iff, Bool.or_eq_false_iff] at gh3
    refine xr hT [] (fun f4 => ⟨[(2, .one (.c (.v (.bool false))))], [], 97⟩) (fun f => by kernel_rfl) (fun f => by kernel_rfl) fun f4 => ?_
    refine w_ret ?_
    subst hR
    exact x_ret (by kernel_rfl)
  rw [if_neg (nt h3)] at hR
  have gh3 := h3; try simp only [impl_in, impl_FlyPathOk_v1, Bool.not_eq_true', Bool.not_eq_false', decide_eq_true_eq, decide_eq_false_iff_not, Bool.and_eq_true, Bool.or_eq_true, Bool.and_eq_false_iff, Bool.or_eq_false_iff] at gh3
  refine w_skip ?_
  refine w_seq ?_
  refine xr hT [.ln FlyStep.row p0.Steps] (fun f5 => ⟨[(1, .one (.pt 1 (f1 0 0) 0)), (35, .one (.c (.sl .bor 7 (p0.Steps.map FlyStep.row)))), (36, .one (.c (.v (.int .i64 (p0.Steps.length : Int))))), (37, .one (.c (.v (.int .i64 0))))], [(1, some (f1 0 0, .box (FlyPath.cs .bor p0)))], 97⟩) (fun f => by kernel_rfl) (fun f => by kernel_rfl) fun f5 => ?_
  refine w_forT (fun _ => rfl) (impl_FlyPathOk_I1 p0 fs) (impl_FlyPathOk_J1 p0 fs) (fun i1 s1 => True) (fun s1 => True) (p0.Steps.length) 0 (impl_FlyPathOk_b1 p0) (impl_FlyPathOk_r1 p0) 0 (()) (lst [f1 0 0]) (sb (by kernel_rfl)) trivial hR ?_ ?_
  · skip
    intro i1 s1 x1 hI1 hX1
    refine xr hT [] (fun f6 => ⟨[(1, .one (.pt 1 (x1 0) 0)), (35, .one (.c (.sl .bor 7 (p0.Steps.map FlyStep.row)))), (36, .one (.c (.v (.int .i64 (p0.Steps.length : Int))))), (37, .one (.c (.v (.int .i64 ((i1 : Nat) : Int))))), (38, .one (.c (.v (.bool (decide (((i1 : Nat) : Int) < (p0.Steps.length : Int)))))))], [(1, some (x1 0, .box (FlyPath.cs .bor p0)))], 97⟩) (fun f => by kernel_rfl) (fun f => by kernel_rfl) fun f6 => ?_
    refine w_seq ?_
    refine w_cond rfl (fun h7 => ?_) fun h7 => ?_
    · skip
      have hl1 : i1 < p0.Steps.length := by have hq := of_decide_eq_true h7; first | omega | ((try simp only [LN, impl_FlyKindOk, impl_FlyPathOk_v1, impl_FlyPathOk_v2] at *); omega)
      obtain ⟨B1, hB1⟩ : ∃ B, B = impl_FlyPathOk_b1 p0 i1 s1 := ⟨_, rfl⟩
      have hE1 := hB1
      rw [impl_FlyPathOk_b1] at hE1
      refine w_skip ?_
      refine w_seq ?_
      refine w_block ?_
      refine xr hT [ix FlyStep.row p0.Steps i1 (by omega)] (fun f8 => ⟨[(1, .one (.pt 1 (x1 0) 0)), (3, .one (.c (.v (.int .i64 ((i1 : Nat) : Int))))), (4, .one (.pt 4 (f8 3 0) 0)), (35, .one (.c (.sl .bor 7 (p0.Steps.map FlyStep.row)))), (36, .one (.c (.v (.int .i64 (p0.Steps.length : Int))))), (37, .one (.c (.v (.int .i64 ((i1 : Nat) : Int)))))], [(1, some (x1 0, .box (FlyPath.cs .bor p0))), (4, some (f8 3 0, .box (FlyStep.cs .bor (p0.Steps.getD i1 default))))], 97⟩) (fun f => by kernel_rfl) (fun f => by kernel_rfl) fun f8 => ?_
      refine w_seq ?_
      refine xr hT [ca (c83 (p0.Steps.getD i1 default))] (fun f9 => ⟨[(1, .one (.pt 1 (x1 0) 0)), (3, .one (.c (.v (.int .i64 ((i1 : Nat) : Int))))), (4, .one (.pt 4 (f8 3 0) 0)), (35, .one (.c (.sl .bor 7 (p0.Steps.map FlyStep.row)))), (36, .one (.c (.v (.int .i64 (p0.Steps.length : Int))))), (37, .one (.c (.v (.int .i64 ((i1 : Nat) : Int))))), (44, .one (.c (.v (.bool (!(impl_FlyStep_ok (p0.Steps.getD i1 default)))))))], [(1, some (x1 0, .box (FlyPath.cs .bor p0))), (4, some (f8 3 0, .box (FlyStep.cs .bor (p0.Steps.getD i1 default))))], 97⟩) (fun f => by kernel_rfl) (fun f => by kernel_rfl) fun f9 => ?_
      refine w_cond rfl (fun h10 => ?_) fun h10 => ?_
      · rw [if_pos h10] at hE1
        refine xr hT [] (fun f11 => ⟨[(2, .one (.c (.v (.bool false))))], [], 97⟩) (fun f => by kernel_rfl) (fun f => by kernel_rfl) fun f11 => ?_
        refine w_ret ?_
        have hR := hX1.trans (forN_ret hl1 (hB1.symm.trans hE1))
        subst hR
        exact x_ret (by kernel_rfl)
      rw [if_neg (nt h10)] at hE1
      refine w_skip ?_
      refine w_seq ?_
      refine xr hT [] (fun f12 => ⟨[(1, .one (.pt 1 (x1 0) 0)), (3, .one (.c (.v (.int .i64 ((i1 : Nat) : Int))))), (4, .one (.pt 4 (f8 3 0) 0)), (35, .one (.c (.sl .bor 7 (p0.Steps.map FlyStep.row)))), (36, .one (.c (.v (.int .i64 (p0.Steps.length : Int))))), (37, .one (.c (.v (.int .i64 ((i1 : Nat) : Int))))), (46, .one (.c (.v (.bool (decide (((i1 : Nat) : Int) = 0))))))], [(1, some (x1 0, .box (FlyPath.cs .bor p0))), (4, some (f8 3 0, .box (FlyStep.cs .bor (p0.Steps.getD i1 default))))], 97⟩) (fun f => by kernel_rfl) (fun f => by kernel_rfl) fun f12 => ?_
      refine w_cond rfl (fun h13 => ?_) fun h13 => ?_
      · rw [if_pos h13] at hE1
        have gh13 := of_decide_eq_true h13
        refine w_exit ?_
        refine x_reg hT [.ex true (((i1 : Nat) : Int) + ((1 : Nat) : Int)) ((((i1 + 1) : Nat) : Int)) (fun _ => wr_nat (n := i1) (c := 1) (by omega))] (fun f14 => impl_FlyPathOk_I1 p0 fs (i1 + 1) () (lst [x1 0])) (fun f => by kernel_rfl) (fun f => by kernel_rfl) fun f14 s' hs' => ?_
        exact ⟨(), (lst [x1 0]), hl1, trivial, hX1.trans (forN_next hl1 (hB1.symm.trans hE1)), hs'⟩
      rw [if_neg (nt h13)] at hE1
      have gh13 := of_decide_eq_false h13
      refine w_skip ?_
      refine xr hT [.ex true (((i1 : Nat) : Int) - 1) (((i1 : Nat) : Int) - 1) (fun _ => wr_eq (by omega) (by omega)), iz FlyStep.row p0.Steps (((i1 : Nat) : Int) - 1) (by omega)] (fun f15 => ⟨[(1, .one (.pt 1 (x1 0) 0)), (4, .one (.pt 4 (f8 3 0) 0)), (5, .one (.pt 5 (f15 6 0) 0)), (35, .one (.c (.sl .bor 7 (p0.Steps.map FlyStep.row)))), (36, .one (.c (.v (.int .i64 (p0.Steps.length : Int))))), (37, .one (.c (.v (.int .i64 ((i1 : Nat) : Int)))))], [(1, some (x1 0, .box (FlyPath.cs .bor p0))), (4, some (f8 3 0, .box (FlyStep.cs .bor (p0.Steps.getD i1 default)))), (5, some (f15 6 0, .box (FlyStep.cs .bor (p0.Steps.getD ((((i1 : Nat) : Int) - 1).toNat) default))))], 97⟩) (fun f => by kernel_rfl) (fun f => by kernel_rfl) fun f15 => ?_
      refine xr hT [.wr, cg (!((decide (((p0.Steps.getD ((((i1 : Nat) : Int) - 1).toNat) default).X) = ((p0.Steps.getD i1 default).X))) && (decide (((p0.Steps.getD ((((i1 : Nat) : Int) - 1).toNat) default).Y) = ((p0.Steps.getD i1 default).Y))))) (fun _ => c49 (wr (((p0.Steps.getD i1 default).X) - ((p0.Steps.getD ((((i1 : Nat) : Int) - 1).toNat) default).X))) (-1) 1), .wr, cg (!(((decide (((p0.Steps.getD ((((i1 : Nat) : Int) - 1).toNat) default).X) = ((p0.Steps.getD i1 default).X))) && (decide (((p0.Steps.getD ((((i1 : Nat) : Int) - 1).toNat) default).Y) = ((p0.Steps.getD i1 default).Y)))) || (!(impl_in (wr (((p0.Steps.getD i1 default).X) - ((p0.Steps.getD ((((i1 : Nat) : Int) - 1).toNat) default).X))) (-1) 1)))) (fun _ => c49 (wr (((p0.Steps.getD i1 default).Y) - ((p0.Steps.getD ((((i1 : Nat) : Int) - 1).toNat) default).Y))) (-1) 1)] (fun f16 => ⟨[(1, .one (.pt 1 (x1 0) 0)), (35, .one (.c (.sl .bor 7 (p0.Steps.map FlyStep.row)))), (36, .one (.c (.v (.int .i64 (p0.Steps.length : Int))))), (37, .one (.c (.v (.int .i64 ((i1 : Nat) : Int))))), (95, .one (.c (.v (.bool (impl_FlyPathOk_v2 p0 i1)))))], [(1, some (x1 0, .box (FlyPath.cs .bor p0)))], 97⟩) (fun f => by kernel_rfl) (fun f => by kernel_rfl) fun f16 => ?_
      refine w_cond rfl (fun h17 => ?_) fun h17 => ?_
      · rw [if_pos h17] at hE1
        have gh17 := h17; try simp only [impl_in, impl_FlyPathOk_v2, Bool.not_eq_true', Bool.not_eq_false', decide_eq_true_eq, decide_eq_false_iff_not, Bool.and_eq_true, Bool.or_eq_true, Bool.and_eq_false_iff, Bool.or_eq_false_iff] at gh17
        refine xr hT [] (fun f18 => ⟨[(2, .one (.c (.v (.bool false))))], [], 97⟩) (fun f => by kernel_rfl) (fun f => by kernel_rfl) fun f18 => ?_
        refine w_ret ?_
        have hR := hX1.trans (forN_ret hl1 (hB1.symm.trans hE1))
        subst hR
        exact x_ret (by kernel_rfl)
      rw [if_neg (nt h17)] at hE1
      have gh17 := h17; try simp only [impl_in, impl_FlyPathOk_v2, Bool.not_eq_true', Bool.not_eq_false', decide_eq_true_eq, decide_eq_false_iff_not, Bool.and_eq_true, Bool.or_eq_true, Bool.and_eq_false_iff, Bool.or_eq_false_iff] at gh17
      refine w_skip ?_
      refine x_reg hT [.ex true (((i1 : Nat) : Int) + ((1 : Nat) : Int)) ((((i1 + 1) : Nat) : Int)) (fun _ => wr_nat (n := i1) (c := 1) (by omega))] (fun f19 => impl_FlyPathOk_I1 p0 fs (i1 + 1) () (lst [x1 0])) (fun f => by kernel_rfl) (fun f => by kernel_rfl) fun f19 s' hs' => ?_
      exact ⟨(), (lst [x1 0]), hl1, trivial, hX1.trans (forN_next hl1 (hB1.symm.trans hE1)), hs'⟩
    have hq := of_decide_eq_false h7
    refine w_exit ?_
    exact ⟨s1, (lst [x1 0]), trivial, hX1.trans (forN_end (by first | omega | ((try simp only [LN, impl_FlyKindOk, impl_FlyPathOk_v1, impl_FlyPathOk_v2] at *); omega))), sb (by kernel_rfl)⟩
  intro s1 x1 hF22 hR20
  rw [impl_FlyPathOk_r1] at hR20
  refine xr hT [] (fun f21 => ⟨[(2, .one (.c (.v (.bool true))))], [], 97⟩) (fun f => by kernel_rfl) (fun f => by kernel_rfl) fun f21 => ?_
  refine w_ret ?_
  subst hR20
  exact x_ret (by kernel_rfl)

/-- impl.FlyPath.bounds -/
def impl_FlyPath_bounds (p0 : FlyPath) (p1 : Int) : Int × Int := (if decide (p1 = (p0.Steps.length : Int)) then (p0.From, p0.By) else ((p0.Steps.getD ((p1).toNat) default).From, (p0.Steps.getD ((p1).toNat) default).By))
theorem c70 (p0 : FlyPath) (p1 : Int) (k0_0 : FlyPath.ok p0) (h0 : 0 ≤ p1) (h1 : p1 ≤ (p0.Steps.length : Int)) : Fn Proofs.Try.prog 70 [⟨.val, true, FlyPath.cs .bor p0⟩, ⟨.val, false, [.v (.int .i64 p1)]⟩] [.c (.v (.int .i64 (impl_FlyPath_bounds p0 p1).1)), .c (.v (.int .i64 (impl_FlyPath_bounds p0 p1).2))] [] := by
  obtain ⟨R, hR⟩ : ∃ R, R = impl_FlyPath_bounds p0 p1 := ⟨_, rfl⟩
  rw [← hR]
  rw [impl_FlyPath_bounds] at hR
  refine ⟨fn_intro hT Proofs.Try.func70 rfl rfl fun fs => ?_, _, Proofs.Try.func70, rfl, rfl⟩
  have q0 := k0_0; simp only [FlyPath.ok] at q0
  refine xr hT [] (fun f1 => ⟨[(1, .one (.c (.v (.int .i64 p1)))), (2, .one (.pt 2 (f1 0 0) 0))], [(2, some (f1 0 0, .box (FlyPath.cs .bor p0)))], 27⟩) (fun f => by kernel_rfl) (fun f => by kernel_rfl) fun f1 => ?_
  refine w_seq ?_
  refine xr hT [.ln FlyStep.row p0.Steps] (fun f2 => ⟨[(1, .one (.c (.v (.int .i64 p1)))), (2, .one (.pt 2 (f1 0 0) 0)), (10, .one (.c (.v (.bool (decide (p1 = (p0.Steps.length : Int)))))))], [(2, some (f1 0 0, .box (FlyPath.cs .bor p0)))], 27⟩) (fun f => by kernel_rfl) (fun f => by kernel_rfl) fun f2 => ?_
  refine w_cond rfl (fun h3 => ?_) fun h3 => ?_
  · rw [if_pos h3] at hR
    have gh3 := of_decide_eq_true h3
    refine xd hT hM [] (fun f4 => ⟨[(4, .one (.c (.v (.int .i64 p0.From)))), (5, .one (.c (.v (.int .i64 p0.By))))], [], 27⟩) (fun f => by kernel_rfl) (fun f => by kernel_rfl) (fun f => by kernel_rfl) fun f4 => ?_
    refine w_ret ?_
    subst hR
    exact x_ret (by kernel_rfl)
  rw [if_neg (nt h3)] at hR
  have gh3 := of_decide_eq_false h3
  refine w_skip ?_
  refine xd hT hM [iz FlyStep.row p0.Steps (p1) (by omega), iz FlyStep.row p0.Steps (p1) (by omega)] (fun f5 => ⟨[(4, .one (.c (.v (.int .i64 ((p0.Steps.getD ((p1).toNat) default).From))))), (5, .one (.c (.v (.int .i64 ((p0.Steps.getD ((p1).toNat) default).By)))))], [], 27⟩) (fun f => by kernel_rfl) (fun f => by kernel_rfl) (fun f => by kernel_rfl) fun f5 => ?_
  refine w_ret ?_
  subst hR
  exact x_ret (by kernel_rfl)
end Go.Lap
