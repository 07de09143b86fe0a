/- Walks: models of the functions, and that the code computes them. -/
import Derived.Test.YtfeknndjngaieaaYa
set_option linter.unusedVariables false
set_option linter.unusedSimpArgs false
namespace Go.Lap
open Go.RowKit

/-- spec.LinkFree -/
def spec_LinkFree (p0 : LinkBook) (p1 : ByteArray) (p2 : FlyPath) (p3 : Int) : Bool := ((spec_LinkBookOk p0 p3) && (spec_l21Can p2)) && (spec_l23Free p0 p1 p2 p3)
theorem c74 (p0 : LinkBook) (p1 : ByteArray) (p2 : FlyPath) (p3 : Int) (k0_0 : LinkBook.ok p0) (k2_0 : FlyPath.ok p2) : Fn Proofs.Try.prog 74 [⟨.val, true, LinkBook.cs .bor p0⟩, ⟨.val, false, [.v (.string p1)]⟩, ⟨.val, true, FlyPath.cs .bor p2⟩, ⟨.val, false, [.v (.int .i64 p3)]⟩] [.c (.v (.bool (spec_LinkFree p0 p1 p2 p3)))] [] := by
  obtain ⟨R, hR⟩ : ∃ R, R = spec_LinkFree p0 p1 p2 p3 := ⟨_, rfl⟩
  rw [← hR]
  rw [spec_LinkFree] at hR
  refine ⟨fn_intro hT Proofs.Try.func74 rfl rfl fun fs => ?_, _, Proofs.Try.func74, rfl, rfl⟩
  have q0 := k0_0; simp only [LinkBook.ok] at q0
  have q2 := k2_0; simp only [FlyPath.ok] at q2
  refine xr hT [] (fun f1 => ⟨[(1, .one (.c (.v (.string p1)))), (3, .one (.c (.v (.int .i64 p3)))), (4, .one (.pt 4 (f1 0 0) 0)), (6, .one (.pt 6 (f1 1 0) 0))], [(4, some (f1 0 0, .box (LinkBook.cs .bor p0))), (6, some (f1 1 0, .box (FlyPath.cs .bor p2)))], 23⟩) (fun f => by kernel_rfl) (fun f => by kernel_rfl) fun f1 => ?_
  refine xr hT [ca (c72 p0 p3 (by first | assumption | exact ⟨(by omega : p0.Held.length ≤ 1048576), (q0.2)⟩)), cg (spec_LinkBookOk p0 p3) (fun h => by (try simp only [Bool.and_eq_true, Bool.or_eq_true, decide_eq_true_eq, Bool.not_eq_true', decide_eq_false_iff_not] at h); exact c159 p2 (by first | assumption | exact (by omega : p2.Steps.length ≤ 1048576))), cg ((spec_LinkBookOk p0 p3) && (spec_l21Can p2)) (fun h => by (try simp only [Bool.and_eq_true, Bool.or_eq_true, decide_eq_true_eq, Bool.not_eq_true', decide_eq_false_iff_not] at h); exact c160 p0 p1 p2 p3 (by first | assumption | exact ⟨(by omega : p0.Held.length ≤ 1048576), (q0.2)⟩) (by first | assumption | exact (by omega : p2.Steps.length ≤ 1048576)))] (fun f2 => ⟨[(8, .one (.c (.v (.bool (((spec_LinkBookOk p0 p3) && (spec_l21Can p2)) && (spec_l23Free p0 p1 p2 p3))))))], [], 23⟩) (fun f => by kernel_rfl) (fun f => by kernel_rfl) fun f2 => ?_
  refine w_ret ?_
  subst hR
  exact x_ret (by kernel_rfl)

def impl_LinkBook_free_I1 (p0 : LinkBook) (p1 : ByteArray) (p2 : FlyPath) (p3 : Int) (fs : Nat → Nat → Nat) (i1 : Nat) (s1 : Unit) (x1 : Nat → Nat) : St := ⟨[(1, .one (.c (.v (.string p1)))), (3, .one (.c (.v (.int .i64 p3)))), (6, .one (.pt 6 (x1 0) 0)), (12, .one (.c (.sl .bor 13 (p0.Held.map LinkHeld.row)))), (13, .one (.c (.v (.int .i64 (p0.Held.length : Int))))), (14, .one (.c (.v (.int .i64 ((i1 : Nat) : Int)))))], [(6, some (x1 0, .box (FlyPath.cs .bor p2)))], 29⟩
def impl_LinkBook_free_J1 (p0 : LinkBook) (p1 : ByteArray) (p2 : FlyPath) (p3 : Int) (fs : Nat → Nat → Nat) (s1 : Unit) (x1 : Nat → Nat) : St := ⟨[], [], 29⟩
def impl_LinkBook_free_b1 (p0 : LinkBook) (p1 : ByteArray) (p2 : FlyPath) (p3 : Int) (i1 : Nat) (s1 : Unit) : Res (Unit) Bool := (if (!(((p0.Held.getD i1 default).Name).toList == p1.toList)) && (impl_LinkHeld_near (p0.Held.getD i1 default) p2 p3) then (.ret false) else (.next ()))
def impl_LinkBook_free_r1 (p0 : LinkBook) (p1 : ByteArray) (p2 : FlyPath) (p3 : Int) (s1 : Unit) : Bool := true
/-- impl.LinkBook.free -/
def impl_LinkBook_free (p0 : LinkBook) (p1 : ByteArray) (p2 : FlyPath) (p3 : Int) : Bool := (Res.fin (impl_LinkBook_free_r1 p0 p1 p2 p3) (forN (impl_LinkBook_free_b1 p0 p1 p2 p3) (p0.Held.length - 0) 0 ()))
theorem c161 (p0 : LinkBook) (p1 : ByteArray) (p2 : FlyPath) (p3 : Int) (k0_0 : LinkBook.ok p0) (k2_0 : FlyPath.ok p2) : Fn Proofs.Try.prog 161 [⟨.val, true, LinkBook.cs .bor p0⟩, ⟨.val, false, [.v (.string p1)]⟩, ⟨.val, true, FlyPath.cs .bor p2⟩, ⟨.val, false, [.v (.int .i64 p3)]⟩] [.c (.v (.bool (impl_LinkBook_free p0 p1 p2 p3)))] [] := by
  obtain ⟨R, hR⟩ : ∃ R, R = impl_LinkBook_free p0 p1 p2 p3 := ⟨_, rfl⟩
  rw [← hR]
  rw [impl_LinkBook_free] at hR
  refine ⟨fn_intro hT Proofs.Try.func161 rfl rfl fun fs => ?_, _, Proofs.Try.func161, rfl, rfl⟩
  have q0 := k0_0; simp only [LinkBook.ok] at q0
  have q2 := k2_0; simp only [FlyPath.ok] at q2
  refine xr hT [] (fun f1 => ⟨[(1, .one (.c (.v (.string p1)))), (3, .one (.c (.v (.int .i64 p3)))), (4, .one (.pt 4 (f1 0 0) 0)), (6, .one (.pt 6 (f1 1 0) 0))], [(4, some (f1 0 0, .box (LinkBook.cs .bor p0))), (6, some (f1 1 0, .box (FlyPath.cs .bor p2)))], 29⟩) (fun f => by kernel_rfl) (fun f => by kernel_rfl) fun f1 => ?_
  refine w_seq ?_
  refine xr hT [.ln LinkHeld.row p0.Held] (fun f2 => ⟨[(1, .one (.c (.v (.string p1)))), (3, .one (.c (.v (.int .i64 p3)))), (6, .one (.pt 6 (f1 1 0) 0)), (12, .one (.c (.sl .bor 13 (p0.Held.map LinkHeld.row)))), (13, .one (.c (.v (.int .i64 (p0.Held.length : Int))))), (14, .one (.c (.v (.int .i64 0))))], [(6, some (f1 1 0, .box (FlyPath.cs .bor p2)))], 29⟩) (fun f => by kernel_rfl) (fun f => by kernel_rfl) fun f2 => ?_
  refine w_forT (fun _ => rfl) (impl_LinkBook_free_I1 p0 p1 p2 p3 fs) (impl_LinkBook_free_J1 p0 p1 p2 p3 fs) (fun i1 s1 => True) (fun s1 => True) (p0.Held.length) 0 (impl_LinkBook_free_b1 p0 p1 p2 p3) (impl_LinkBook_free_r1 p0 p1 p2 p3) 0 (()) (lst [f1 1 0]) (sb (by kernel_rfl)) trivial hR ?_ ?_
  · skip
    intro i1 s1 x1 hI1 hX1
    refine xr hT [] (fun f3 => ⟨[(1, .one (.c (.v (.string p1)))), (3, .one (.c (.v (.int .i64 p3)))), (6, .one (.pt 6 (x1 0) 0)), (12, .one (.c (.sl .bor 13 (p0.Held.map LinkHeld.row)))), (13, .one (.c (.v (.int .i64 (p0.Held.length : Int))))), (14, .one (.c (.v (.int .i64 ((i1 : Nat) : Int))))), (15, .one (.c (.v (.bool (decide (((i1 : Nat) : Int) < (p0.Held.length : Int)))))))], [(6, some (x1 0, .box (FlyPath.cs .bor p2)))], 29⟩) (fun f => by kernel_rfl) (fun f => by kernel_rfl) fun f3 => ?_
    refine w_seq ?_
    refine w_cond rfl (fun h4 => ?_) fun h4 => ?_
    · skip
      have hl1 : i1 < p0.Held.length := by have hq := of_decide_eq_true h4; first | omega | ((try simp only [LN, impl_LinkHeld_near] at *); omega)
      obtain ⟨B1, hB1⟩ : ∃ B, B = impl_LinkBook_free_b1 p0 p1 p2 p3 i1 s1 := ⟨_, rfl⟩
      have hE1 := hB1
      rw [impl_LinkBook_free_b1] at hE1
      refine w_skip ?_
      refine w_seq ?_
      refine w_block ?_
      try have e6 := okget (xs := p0.Held) (k := i1) (q0.2) (by first | omega | ((try simp only [LN, impl_LinkHeld_near]); omega))
      try simp only [LinkHeld.ok] at e6
      refine xr hT [ix LinkHeld.row p0.Held i1 (by omega), .rw (FlyStep.rv ((p0.Held.getD i1 default).Path.Steps)), .rw (FlyStep.rv ((p0.Held.getD i1 default).Next.Steps))] (fun f5 => ⟨[(1, .one (.c (.v (.string p1)))), (3, .one (.c (.v (.int .i64 p3)))), (6, .one (.pt 6 (x1 0) 0)), (10, .one (.pt 10 (f5 2 0) 0)), (12, .one (.c (.sl .bor 13 (p0.Held.map LinkHeld.row)))), (13, .one (.c (.v (.int .i64 (p0.Held.length : Int))))), (14, .one (.c (.v (.int .i64 ((i1 : Nat) : Int)))))], [(6, some (x1 0, .box (FlyPath.cs .bor p2))), (10, some (f5 2 0, .box (LinkHeld.cs .bor (p0.Held.getD i1 default))))], 29⟩) (fun f => by kernel_rfl) (fun f => by kernel_rfl) fun f5 => ?_
      refine xr hT [cg (!(((p0.Held.getD i1 default).Name).toList == p1.toList)) (fun h => by (try simp only [Bool.and_eq_true, Bool.or_eq_true, decide_eq_true_eq, Bool.not_eq_true', decide_eq_false_iff_not] at h); exact c158 (p0.Held.getD i1 default) p2 p3 (by first | assumption | exact ⟨(by omega : ((p0.Held.getD i1 default).Path.Steps).length ≤ 1048576), (by omega : ((p0.Held.getD i1 default).Next.Steps).length ≤ 1048576)⟩) (by first | assumption | exact (by omega : p2.Steps.length ≤ 1048576)))] (fun f7 => ⟨[(1, .one (.c (.v (.string p1)))), (3, .one (.c (.v (.int .i64 p3)))), (6, .one (.pt 6 (x1 0) 0)), (12, .one (.c (.sl .bor 13 (p0.Held.map LinkHeld.row)))), (13, .one (.c (.v (.int .i64 (p0.Held.length : Int))))), (14, .one (.c (.v (.int .i64 ((i1 : Nat) : Int))))), (27, .one (.c (.v (.bool ((!(((p0.Held.getD i1 default).Name).toList == p1.toList)) && (impl_LinkHeld_near (p0.Held.getD i1 default) p2 p3))))))], [(6, some (x1 0, .box (FlyPath.cs .bor p2)))], 29⟩) (fun f => by kernel_rfl) (fun f => by kernel_rfl) fun f7 => ?_
      refine w_cond rfl (fun h8 => ?_) fun h8 => ?_
      · rw [if_pos h8] at hE1
        refine xr hT [] (fun f9 => ⟨[(8, .one (.c (.v (.bool false))))], [], 29⟩) (fun f => by kernel_rfl) (fun f => by kernel_rfl) fun f9 => ?_
        refine w_ret ?_
        have hR := hX1.trans (forN_ret hl1 (hB1.symm.trans hE1))
        subst hR
        exact x_ret (by kernel_rfl)
      rw [if_neg (nt h8)] at hE1
      refine w_skip ?_
      refine x_reg hT [.ex true (((i1 : Nat) : Int) + ((1 : Nat) : Int)) ((((i1 + 1) : Nat) : Int)) (fun _ => wr_nat (n := i1) (c := 1) (by omega))] (fun f10 => impl_LinkBook_free_I1 p0 p1 p2 p3 fs (i1 + 1) () (lst [x1 0])) (fun f => by kernel_rfl) (fun f => by kernel_rfl) fun f10 s' hs' => ?_
      exact ⟨(), (lst [x1 0]), hl1, trivial, hX1.trans (forN_next hl1 (hB1.symm.trans hE1)), hs'⟩
    have hq := of_decide_eq_false h4
    refine w_exit ?_
    exact ⟨s1, (lst [x1 0]), trivial, hX1.trans (forN_end (by first | omega | ((try simp only [LN, impl_LinkHeld_near] at *); omega))), sb (by kernel_rfl)⟩
  intro s1 x1 hF13 hR11
  rw [impl_LinkBook_free_r1] at hR11
  refine xr hT [] (fun f12 => ⟨[(8, .one (.c (.v (.bool true))))], [], 29⟩) (fun f => by kernel_rfl) (fun f => by kernel_rfl) fun f12 => ?_
  refine w_ret ?_
  subst hR11
  exact x_ret (by kernel_rfl)

/-- impl.LinkFree -/
def impl_LinkFree (p0 : LinkBook) (p1 : ByteArray) (p2 : FlyPath) (p3 : Int) : Bool := ((impl_LinkBookOk p0 p3) && (impl_flown p2)) && (impl_LinkBook_free p0 p1 p2 p3)
theorem c75 (p0 : LinkBook) (p1 : ByteArray) (p2 : FlyPath) (p3 : Int) (k0_0 : LinkBook.ok p0) (k2_0 : FlyPath.ok p2) : Fn Proofs.Try.prog 75 [⟨.val, true, LinkBook.cs .bor p0⟩, ⟨.val, false, [.v (.string p1)]⟩, ⟨.val, true, FlyPath.cs .bor p2⟩, ⟨.val, false, [.v (.int .i64 p3)]⟩] [.c (.v (.bool (impl_LinkFree p0 p1 p2 p3)))] [] := by
  obtain ⟨R, hR⟩ : ∃ R, R = impl_LinkFree p0 p1 p2 p3 := ⟨_, rfl⟩
  rw [← hR]
  rw [impl_LinkFree] at hR
  refine ⟨fn_intro hT Proofs.Try.func75 rfl rfl fun fs => ?_, _, Proofs.Try.func75, rfl, rfl⟩
  have q0 := k0_0; simp only [LinkBook.ok] at q0
  have q2 := k2_0; simp only [FlyPath.ok] at q2
  refine xr hT [] (fun f1 => ⟨[(1, .one (.c (.v (.string p1)))), (3, .one (.c (.v (.int .i64 p3)))), (4, .one (.pt 4 (f1 0 0) 0)), (6, .one (.pt 6 (f1 1 0) 0))], [(4, some (f1 0 0, .box (LinkBook.cs .bor p0))), (6, some (f1 1 0, .box (FlyPath.cs .bor p2)))], 23⟩) (fun f => by kernel_rfl) (fun f => by kernel_rfl) fun f1 => ?_
  refine xr hT [ca (c73 p0 p3 (by first | assumption | exact ⟨(by omega : p0.Held.length ≤ 1048576), (q0.2)⟩)), cg (impl_LinkBookOk p0 p3) (fun h => by (try simp only [Bool.and_eq_true, Bool.or_eq_true, decide_eq_true_eq, Bool.not_eq_true', decide_eq_false_iff_not] at h); exact c156 p2 (by first | assumption | exact (by omega : p2.Steps.length ≤ 1048576))), cg ((impl_LinkBookOk p0 p3) && (impl_flown p2)) (fun h => by (try simp only [Bool.and_eq_true, Bool.or_eq_true, decide_eq_true_eq, Bool.not_eq_true', decide_eq_false_iff_not] at h); exact c161 p0 p1 p2 p3 (by first | assumption | exact ⟨(by omega : p0.Held.length ≤ 1048576), (q0.2)⟩) (by first | assumption | exact (by omega : p2.Steps.length ≤ 1048576)))] (fun f2 => ⟨[(8, .one (.c (.v (.bool (((impl_LinkBookOk p0 p3) && (impl_flown p2)) && (impl_LinkBook_free p0 p1 p2 p3))))))], [], 23⟩) (fun f => by kernel_rfl) (fun f => by kernel_rfl) fun f2 => ?_
  refine w_ret ?_
  subst hR
  exact x_ret (by kernel_rfl)

/-- laws.FnExactLinkFree -/
def laws_FnExactLinkFree (p0 : LinkBook) (p1 : ByteArray) (p2 : FlyPath) (p3 : Int) : Bool := (if decide (1048576 < (p1.size : Int)) then true else (if decide ((laws_szLinkBook p0 1048576) < 0) then true else (if decide ((laws_szFlyPath p2 (laws_szLinkBook p0 1048576)) < 0) then true else (if !((impl_LinkFree (laws_toLinkBook p0) p1 (laws_toFlyPath p2) p3) == (spec_LinkFree (laws_toLinkBook p0) p1 (laws_toFlyPath p2) p3)) then false else (if !(laws_eqLinkBook (laws_toLinkBook p0) (laws_toLinkBook p0)) then false else (if !(laws_eqFlyPath (laws_toFlyPath p2) (laws_toFlyPath p2)) then false else true))))))
set_option maxHeartbeats 1600000 in
theorem c12 (p0 : LinkBook) (p1 : ByteArray) (p2 : FlyPath) (p3 : Int) (k0_0 : LinkBook.big p0) (k1_0 : p1.size ≤ 9223372036854775807) (k2_0 : FlyPath.big p2) : Fn Proofs.Try.prog 12 [⟨.val, true, LinkBook.cs .bor p0⟩, ⟨.val, false, [.v (.string p1)]⟩, ⟨.val, true, FlyPath.cs .bor p2⟩, ⟨.val, false, [.v (.int .i64 p3)]⟩] [.c (.v (.bool (laws_FnExactLinkFree p0 p1 p2 p3)))] [] := by
  obtain ⟨R, hR⟩ : ∃ R, R = laws_FnExactLinkFree p0 p1 p2 p3 := ⟨_, rfl⟩
  rw [← hR]
  rw [laws_FnExactLinkFree] at hR
  refine ⟨fn_intro hT Proofs.Try.func12 rfl rfl fun fs => ?_, _, Proofs.Try.func12, rfl, rfl⟩
  have q0 := k0_0; simp only [LinkBook.big] at q0
  have q2 := k2_0; simp only [FlyPath.big] at q2
  refine xr hT [] (fun f1 => ⟨[(1, .one (.c (.v (.string p1)))), (3, .one (.c (.v (.int .i64 p3)))), (4, .one (.pt 4 (f1 0 0) 0)), (6, .one (.pt 6 (f1 1 0) 0))], [(4, some (f1 0 0, .box (LinkBook.cs .bor p0))), (6, some (f1 1 0, .box (FlyPath.cs .bor p2)))], 56⟩) (fun f => by kernel_rfl) (fun f => by kernel_rfl) fun f1 => ?_
  refine w_seq ?_
  refine xr hT [.und Proofs.Try.underlying9] (fun f2 => ⟨[(1, .one (.c (.v (.string p1)))), (3, .one (.c (.v (.int .i64 p3)))), (4, .one (.pt 4 (f1 0 0) 0)), (6, .one (.pt 6 (f1 1 0) 0)), (16, .one (.c (.v (.bool (decide (1048576 < (p1.size : Int)))))))], [(4, some (f1 0 0, .box (LinkBook.cs .bor p0))), (6, some (f1 1 0, .box (FlyPath.cs .bor p2)))], 56⟩) (fun f => by kernel_rfl) (fun f => by kernel_rfl) fun f2 => ?_
  refine w_cond rfl (fun h3 => ?_) fun h3 => ?_
  · rw [if_pos h3] at hR
    have gh3 := of_decide_eq_true h3
    refine xr hT [] (fun f4 => ⟨[(8, .one (.c (.v (.bool true))))], [], 56⟩) (fun f => by kernel_rfl) (fun f => by kernel_rfl) fun f4 => ?_
    refine w_ret ?_
    subst hR
    exact x_ret (by kernel_rfl)
  rw [if_neg (nt h3)] at hR
  have gh3 := of_decide_eq_false h3
  refine w_skip ?_
  refine xr hT [] (fun f5 => ⟨[(1, .one (.c (.v (.string p1)))), (3, .one (.c (.v (.int .i64 p3)))), (4, .one (.pt 4 (f1 0 0) 0)), (6, .one (.pt 6 (f1 1 0) 0)), (9, .one (.c (.v (.int .i64 1048576))))], [(4, some (f1 0 0, .box (LinkBook.cs .bor p0))), (6, some (f1 1 0, .box (FlyPath.cs .bor p2)))], 56⟩) (fun f => by kernel_rfl) (fun f => by kernel_rfl) fun f5 => ?_
  refine xr hT [ca (c31 p0 1048576 (by first | assumption | exact ⟨(by omega : p0.Held.length ≤ 9223372036854775807), (q0.2)⟩))] (fun f6 => ⟨[(1, .one (.c (.v (.string p1)))), (3, .one (.c (.v (.int .i64 p3)))), (4, .one (.pt 4 (f1 0 0) 0)), (6, .one (.pt 6 (f1 1 0) 0)), (9, .one (.c (.v (.int .i64 (laws_szLinkBook p0 1048576)))))], [(4, some (f1 0 0, .box (LinkBook.cs .bor p0))), (6, some (f1 1 0, .box (FlyPath.cs .bor p2)))], 56⟩) (fun f => by kernel_rfl) (fun f => by kernel_rfl) fun f6 => ?_
  refine w_seq ?_
  refine xr hT [] (fun f7 => ⟨[(1, .one (.c (.v (.string p1)))), (3, .one (.c (.v (.int .i64 p3)))), (4, .one (.pt 4 (f1 0 0) 0)), (6, .one (.pt 6 (f1 1 0) 0)), (9, .one (.c (.v (.int .i64 (laws_szLinkBook p0 1048576))))), (21, .one (.c (.v (.bool (decide ((laws_szLinkBook p0 1048576) < 0))))))], [(4, some (f1 0 0, .box (LinkBook.cs .bor p0))), (6, some (f1 1 0, .box (FlyPath.cs .bor p2)))], 56⟩) (fun f => by kernel_rfl) (fun f => by kernel_rfl) fun f7 => ?_
  refine w_cond rfl (fun h8 => ?_) fun h8 => ?_
  · rw [if_pos h8] at hR
    have gh8 := of_decide_eq_true h8
    refine xr hT [] (fun f9 => ⟨[(8, .one (.c (.v (.bool true))))], [], 56⟩) (fun f => by kernel_rfl) (fun f => by kernel_rfl) fun f9 => ?_
    refine w_ret ?_
    subst hR
    exact x_ret (by kernel_rfl)
  rw [if_neg (nt h8)] at hR
  have gh8 := of_decide_eq_false h8
  have ok0 := (f_laws_szLinkBook p0 1048576 k0_0 (by omega) (by omega) (by omega)).1
  refine w_skip ?_
  refine xr hT [ca (c22 p2 (laws_szLinkBook p0 1048576) (by first | assumption | exact (by omega : p2.Steps.length ≤ 9223372036854775807)))] (fun f10 => ⟨[(1, .one (.c (.v (.string p1)))), (3, .one (.c (.v (.int .i64 p3)))), (4, .one (.pt 4 (f1 0 0) 0)), (6, .one (.pt 6 (f1 1 0) 0)), (9, .one (.c (.v (.int .i64 (laws_szFlyPath p2 (laws_szLinkBook p0 1048576))))))], [(4, some (f1 0 0, .box (LinkBook.cs .bor p0))), (6, some (f1 1 0, .box (FlyPath.cs .bor p2)))], 56⟩) (fun f => by kernel_rfl) (fun f => by kernel_rfl) fun f10 => ?_
  refine w_seq ?_
  refine xr hT [] (fun f11 => ⟨[(1, .one (.c (.v (.string p1)))), (3, .one (.c (.v (.int .i64 p3)))), (4, .one (.pt 4 (f1 0 0) 0)), (6, .one (.pt 6 (f1 1 0) 0)), (26, .one (.c (.v (.bool (decide ((laws_szFlyPath p2 (laws_szLinkBook p0 1048576)) < 0))))))], [(4, some (f1 0 0, .box (LinkBook.cs .bor p0))), (6, some (f1 1 0, .box (FlyPath.cs .bor p2)))], 56⟩) (fun f => by kernel_rfl) (fun f => by kernel_rfl) fun f11 => ?_
  refine w_cond rfl (fun h12 => ?_) fun h12 => ?_
  · rw [if_pos h12] at hR
    have gh12 := of_decide_eq_true h12
    refine xr hT [] (fun f13 => ⟨[(8, .one (.c (.v (.bool true))))], [], 56⟩) (fun f => by kernel_rfl) (fun f => by kernel_rfl) fun f13 => ?_
    refine w_ret ?_
    subst hR
    exact x_ret (by kernel_rfl)
  rw [if_neg (nt h12)] at hR
  have gh12 := of_decide_eq_false h12
  have ok2 := (f_laws_szFlyPath p2 _ k2_0 (by omega) (by have := (f_laws_szLinkBook p0 1048576 k0_0 (by omega) (by omega) (by omega)).2; omega) (by omega : 0 ≤ laws_szFlyPath p2 (laws_szLinkBook p0 1048576))).1
  have ok0 := (f_laws_szLinkBook p0 1048576 k0_0 (by omega) (by omega) (by omega)).1
  refine w_skip ?_
  refine xd hT hM [ca (c34 p0 (by first | assumption | exact ⟨(by omega : p0.Held.length ≤ 1048576), (q0.2)⟩)), ca (c24 p2 (by first | assumption | exact (by omega : p2.Steps.length ≤ 1048576))), ca (c74 (laws_toLinkBook p0) p1 (laws_toFlyPath p2) p3 (by first | assumption | ((try simp only [LN, f_laws_toFlyPath, f_laws_toLinkBook, impl_LinkFree, spec_LinkFree, LinkBook.ok, FlyPath.ok]); omega) | (simp only [LN, f_laws_toFlyPath, f_laws_toLinkBook, impl_LinkFree, spec_LinkFree]; assumption)) (by first | assumption | exact (show ((laws_toFlyPath p2).Steps).length ≤ 1048576 from by (try simp only [LN, f_laws_toFlyPath, f_laws_toLinkBook, impl_LinkFree, spec_LinkFree]); omega)))] (fun f14 => ⟨[(1, .one (.c (.v (.string p1)))), (3, .one (.c (.v (.int .i64 p3)))), (4, .one (.pt 4 (f1 0 0) 0)), (6, .one (.pt 6 (f1 1 0) 0)), (10, .one (.c (.v (.bool (spec_LinkFree (laws_toLinkBook p0) p1 (laws_toFlyPath p2) p3)))))], [(4, some (f1 0 0, .box (LinkBook.cs .bor p0))), (6, some (f1 1 0, .box (FlyPath.cs .bor p2)))], 56⟩) (fun f => by kernel_rfl) (fun f => by kernel_rfl) (fun f => by kernel_rfl) fun f14 => ?_
  refine xr hT [ca (c34 p0 (by first | assumption | exact ⟨(by omega : p0.Held.length ≤ 1048576), (q0.2)⟩))] (fun f15 => ⟨[(1, .one (.c (.v (.string p1)))), (3, .one (.c (.v (.int .i64 p3)))), (4, .one (.pt 4 (f1 0 0) 0)), (6, .one (.pt 6 (f1 1 0) 0)), (10, .one (.c (.v (.bool (spec_LinkFree (laws_toLinkBook p0) p1 (laws_toFlyPath p2) p3))))), (11, .one (.pt 11 (f15 2 0) 0))], [(4, some (f1 0 0, .box (LinkBook.cs .bor p0))), (6, some (f1 1 0, .box (FlyPath.cs .bor p2))), (11, some (f15 2 0, .box [.v (.int .i64 ((laws_toLinkBook p0).Last)), .mu 3600001 (gk (f15 1) 0 1) 13 0 (((laws_toLinkBook p0).Held).map LinkHeld.row).length])), (3600001, some (gk (f15 1) 0 1, .arr 13 (((laws_toLinkBook p0).Held).map LinkHeld.row)))], 56⟩) (fun f => by kernel_rfl) (fun f => by kernel_rfl) fun f15 => ?_
  refine xr hT [ca (c24 p2 (by first | assumption | exact (by omega : p2.Steps.length ≤ 1048576)))] (fun f16 => ⟨[(1, .one (.c (.v (.string p1)))), (3, .one (.c (.v (.int .i64 p3)))), (4, .one (.pt 4 (f1 0 0) 0)), (6, .one (.pt 6 (f1 1 0) 0)), (10, .one (.c (.v (.bool (spec_LinkFree (laws_toLinkBook p0) p1 (laws_toFlyPath p2) p3))))), (11, .one (.pt 11 (f15 2 0) 0)), (12, .one (.pt 12 (f16 2 0) 0))], [(4, some (f1 0 0, .box (LinkBook.cs .bor p0))), (6, some (f1 1 0, .box (FlyPath.cs .bor p2))), (11, some (f15 2 0, .box [.v (.int .i64 ((laws_toLinkBook p0).Last)), .mu 3600001 (gk (f15 1) 0 1) 13 0 (((laws_toLinkBook p0).Held).map LinkHeld.row).length])), (12, some (f16 2 0, .box [.v (.int .i64 ((laws_toFlyPath p2).Kind.Quick)), .v (.int .i64 ((laws_toFlyPath p2).Kind.Slow)), .mu 3800002 (gk (f16 1) 0 2) 7 0 (((laws_toFlyPath p2).Steps).map FlyStep.row).length, .v (.int .i64 ((laws_toFlyPath p2).From)), .v (.int .i64 ((laws_toFlyPath p2).By))])), (3600001, some (gk (f15 1) 0 1, .arr 13 (((laws_toLinkBook p0).Held).map LinkHeld.row))), (3800002, some (gk (f16 1) 0 2, .arr 7 (((laws_toFlyPath p2).Steps).map FlyStep.row)))], 56⟩) (fun f => by kernel_rfl) (fun f => by kernel_rfl) fun f16 => ?_
  refine xr hT [ca (c75 (laws_toLinkBook p0) p1 (laws_toFlyPath p2) p3 (by first | assumption | ((try simp only [LN, f_laws_toFlyPath, f_laws_toLinkBook, impl_LinkFree, spec_LinkFree, LinkBook.ok, FlyPath.ok]); omega) | (simp only [LN, f_laws_toFlyPath, f_laws_toLinkBook, impl_LinkFree, spec_LinkFree]; assumption)) (by first | assumption | exact (show ((laws_toFlyPath p2).Steps).length ≤ 1048576 from by (try simp only [LN, f_laws_toFlyPath, f_laws_toLinkBook, impl_LinkFree, spec_LinkFree]); omega)))] (fun f17 => ⟨[(4, .one (.pt 4 (f1 0 0) 0)), (6, .one (.pt 6 (f1 1 0) 0)), (10, .one (.c (.v (.bool (spec_LinkFree (laws_toLinkBook p0) p1 (laws_toFlyPath p2) p3))))), (11, .one (.pt 11 (f15 2 0) 0)), (12, .one (.pt 12 (f16 2 0) 0)), (13, .one (.c (.v (.bool (impl_LinkFree (laws_toLinkBook p0) p1 (laws_toFlyPath p2) p3)))))], [(4, some (f1 0 0, .box (LinkBook.cs .bor p0))), (6, some (f1 1 0, .box (FlyPath.cs .bor p2))), (11, some (f15 2 0, .box [.v (.int .i64 ((laws_toLinkBook p0).Last)), .mu 3600001 (gk (f15 1) 0 1) 13 0 (((laws_toLinkBook p0).Held).map LinkHeld.row).length])), (12, some (f16 2 0, .box [.v (.int .i64 ((laws_toFlyPath p2).Kind.Quick)), .v (.int .i64 ((laws_toFlyPath p2).Kind.Slow)), .mu 3800002 (gk (f16 1) 0 2) 7 0 (((laws_toFlyPath p2).Steps).map FlyStep.row).length, .v (.int .i64 ((laws_toFlyPath p2).From)), .v (.int .i64 ((laws_toFlyPath p2).By))])), (3600001, some (gk (f15 1) 0 1, .arr 13 (((laws_toLinkBook p0).Held).map LinkHeld.row))), (3800002, some (gk (f16 1) 0 2, .arr 7 (((laws_toFlyPath p2).Steps).map FlyStep.row)))], 56⟩) (fun f => by kernel_rfl) (fun f => by kernel_rfl) fun f17 => ?_
  refine w_seq ?_
  refine xr hT [.und Proofs.Try.underlying4] (fun f18 => ⟨[(4, .one (.pt 4 (f1 0 0) 0)), (6, .one (.pt 6 (f1 1 0) 0)), (11, .one (.pt 11 (f15 2 0) 0)), (12, .one (.pt 12 (f16 2 0) 0)), (45, .one (.c (.v (.bool (!((impl_LinkFree (laws_toLinkBook p0) p1 (laws_toFlyPath p2) p3) == (spec_LinkFree (laws_toLinkBook p0) p1 (laws_toFlyPath p2) p3)))))))], [(4, some (f1 0 0, .box (LinkBook.cs .bor p0))), (6, some (f1 1 0, .box (FlyPath.cs .bor p2))), (11, some (f15 2 0, .box [.v (.int .i64 ((laws_toLinkBook p0).Last)), .mu 3600001 (gk (f15 1) 0 1) 13 0 (((laws_toLinkBook p0).Held).map LinkHeld.row).length])), (12, some (f16 2 0, .box [.v (.int .i64 ((laws_toFlyPath p2).Kind.Quick)), .v (.int .i64 ((laws_toFlyPath p2).Kind.Slow)), .mu 3800002 (gk (f16 1) 0 2) 7 0 (((laws_toFlyPath p2).Steps).map FlyStep.row).length, .v (.int .i64 ((laws_toFlyPath p2).From)), .v (.int .i64 ((laws_toFlyPath p2).By))])), (3600001, some (gk (f15 1) 0 1, .arr 13 (((laws_toLinkBook p0).Held).map LinkHeld.row))), (3800002, some (gk (f16 1) 0 2, .arr 7 (((laws_toFlyPath p2).Steps).map FlyStep.row)))], 56⟩) (fun f => by kernel_rfl) (fun f => by kernel_rfl) fun f18 => ?_
  refine w_cond rfl (fun h19 => ?_) fun h19 => ?_
  · rw [if_pos h19] at hR
    refine xr hT [] (fun f20 => ⟨[(8, .one (.c (.v (.bool false))))], [], 56⟩) (fun f => by kernel_rfl) (fun f => by kernel_rfl) fun f20 => ?_
    refine w_ret ?_
    subst hR
    exact x_ret (by kernel_rfl)
  rw [if_neg (nt h19)] at hR
  refine w_skip ?_
  refine w_seq ?_
  refine xd hT hM [ca (c34 p0 (by first | assumption | exact ⟨(by omega : p0.Held.length ≤ 1048576), (q0.2)⟩)), ca (c37 (laws_toLinkBook p0) (laws_toLinkBook p0) (by first | assumption | ((try simp only [LN, f_laws_toFlyPath, f_laws_toLinkBook, impl_LinkFree, spec_LinkFree, LinkBook.ok, LinkBook.ok]); omega) | (simp only [LN, f_laws_toFlyPath, f_laws_toLinkBook, impl_LinkFree, spec_LinkFree]; assumption)) (by first | assumption | ((try simp only [LN, f_laws_toFlyPath, f_laws_toLinkBook, impl_LinkFree, spec_LinkFree, LinkBook.ok, LinkBook.ok]); omega) | (simp only [LN, f_laws_toFlyPath, f_laws_toLinkBook, impl_LinkFree, spec_LinkFree]; assumption)))] (fun f21 => ⟨[(6, .one (.pt 6 (f1 1 0) 0)), (12, .one (.pt 12 (f16 2 0) 0)), (50, .one (.c (.v (.bool (!(laws_eqLinkBook (laws_toLinkBook p0) (laws_toLinkBook p0)))))))], [(6, some (f1 1 0, .box (FlyPath.cs .bor p2))), (12, some (f16 2 0, .box [.v (.int .i64 ((laws_toFlyPath p2).Kind.Quick)), .v (.int .i64 ((laws_toFlyPath p2).Kind.Slow)), .mu 3800002 (gk (f16 1) 0 2) 7 0 (((laws_toFlyPath p2).Steps).map FlyStep.row).length, .v (.int .i64 ((laws_toFlyPath p2).From)), .v (.int .i64 ((laws_toFlyPath p2).By))])), (3800002, some (gk (f16 1) 0 2, .arr 7 (((laws_toFlyPath p2).Steps).map FlyStep.row)))], 56⟩) (fun f => by kernel_rfl) (fun f => by kernel_rfl) (fun f => by kernel_rfl) fun f21 => ?_
  refine w_cond rfl (fun h22 => ?_) fun h22 => ?_
  · rw [if_pos h22] at hR
    refine xr hT [] (fun f23 => ⟨[(8, .one (.c (.v (.bool false))))], [], 56⟩) (fun f => by kernel_rfl) (fun f => by kernel_rfl) fun f23 => ?_
    refine w_ret ?_
    subst hR
    exact x_ret (by kernel_rfl)
  rw [if_neg (nt h22)] at hR
  refine w_skip ?_
  refine w_seq ?_
  refine xd hT hM [ca (c24 p2 (by first | assumption | exact (by omega : p2.Steps.length ≤ 1048576))), ca (c27 (laws_toFlyPath p2) (laws_toFlyPath p2) (by first | assumption | exact (show ((laws_toFlyPath p2).Steps).length ≤ 1048576 from by (try simp only [LN, f_laws_toFlyPath, f_laws_toLinkBook, impl_LinkFree, spec_LinkFree]); omega)) (by first | assumption | exact (show ((laws_toFlyPath p2).Steps).length ≤ 1048576 from by (try simp only [LN, f_laws_toFlyPath, f_laws_toLinkBook, impl_LinkFree, spec_LinkFree]); omega)))] (fun f24 => ⟨[(55, .one (.c (.v (.bool (!(laws_eqFlyPath (laws_toFlyPath p2) (laws_toFlyPath p2)))))))], [], 56⟩) (fun f => by kernel_rfl) (fun f => by kernel_rfl) (fun f => by kernel_rfl) fun f24 => ?_
  refine w_cond rfl (fun h25 => ?_) fun h25 => ?_
  · rw [if_pos h25] at hR
    refine xr hT [] (fun f26 => ⟨[(8, .one (.c (.v (.bool false))))], [], 56⟩) (fun f => by kernel_rfl) (fun f => by kernel_rfl) fun f26 => ?_
    refine w_ret ?_
    subst hR
    exact x_ret (by kernel_rfl)
  rw [if_neg (nt h25)] at hR
  refine w_skip ?_
  refine xr hT [] (fun f27 => ⟨[(8, .one (.c (.v (.bool true))))], [], 56⟩) (fun f => by kernel_rfl) (fun f => by kernel_rfl) fun f27 => ?_
  refine w_ret ?_
  subst hR
  exact x_ret (by kernel_rfl)
end Go.Lap
