/- The engine's twenty-third part: loops of any kind, as functions with a bound on their rounds. -/
import Derived.Test.YtihiganlkecbaaaEv
set_option linter.unusedVariables false
namespace Go.Lap
open Go.RowKit

/-- A loop of any kind: at most so many rounds. -/
def itr {σ ρ : Type} (step : σ → Res σ ρ) : Nat → σ → Res σ ρ
  | 0, s => .next s
  | c + 1, s => match step s with
    | .next s' => itr step c s'
    | .brk s' => .next s'
    | .ret r => .ret r

section
variable {σ ρ : Type} {step : σ → Res σ ρ} {rest : σ → ρ} {k : Nat} {s s' : σ} {r : ρ}
theorem itr_next (h : 0 < k) (hb : step s = .next s') : Res.fin rest (itr step k s) = Res.fin rest (itr step (k - 1) s') := by
  obtain ⟨c, rfl⟩ : ∃ c, k = c + 1 := ⟨k - 1, by omega⟩
  simp only [itr, hb, Nat.add_sub_cancel]
theorem itr_brk (h : 0 < k) (hb : step s = .brk s') : Res.fin rest (itr step k s) = rest s' := by
  obtain ⟨c, rfl⟩ : ∃ c, k = c + 1 := ⟨k - 1, by omega⟩
  simp only [itr, hb]; rfl
theorem itr_ret (h : 0 < k) (hb : step s = .ret r) : Res.fin rest (itr step k s) = r := by
  obtain ⟨c, rfl⟩ : ∃ c, k = c + 1 := ⟨k - 1, by omega⟩
  simp only [itr, hb]; rfl
end

/-- Where a loop goes from a round. -/
def itrQ {σ ρ : Type} (I : σ → (Nat → Nat) → St) (J : σ → (Nat → Nat) → St) (inv fin : σ → Prop) (μ : σ → Nat) (N : Nat) (step : σ → Res σ ρ) (rest : σ → ρ) (R : ρ) (s : σ) (k : Nat) (Q : Exit → St → Prop) : Exit → St → Prop
  | .normal, st => ∃ s' x', μ s' < μ s ∧ inv s' ∧ R = Res.fin rest (itr step (k - 1) s') ∧ Sub (I s' x') st
  | .exit M, st => if M = N then ∃ s' x', fin s' ∧ R = rest s' ∧ Sub (J s' x') st else Q (.exit M) st
  | e, st => Q e st

theorem w_itrT {P : Program} {c y : Code} {Q Q' : Exit → St → Prop} (hq : ∀ s, Q .normal s = WP P y Q' s) {st : St} {σ ρ : Type} (I : σ → (Nat → Nat) → St) (J : σ → (Nat → Nat) → St) (inv fin : σ → Prop) (μ : σ → Nat) (N : Nat) (step : σ → Res σ ρ) (rest : σ → ρ) {R : ρ} (s0 : σ) (x0 : Nat → Nat)
    (h0 : Sub (I s0 x0) st) (hi : inv s0) (hR : R = Res.fin rest (itr step (μ s0 + 1) s0))
    (round : ∀ s x k, inv s → 0 < k → R = Res.fin rest (itr step k s) → WP P c (itrQ I J inv fin μ N step rest R s k Q) (I s x))
    (after : ∀ s x, fin s → R = rest s → WP P y Q' (J s x)) : WP P (.block N (.loop c)) Q st := by
  refine WP.mono (Q := seqQ (fun s => ∃ z : {z : σ × (Nat → Nat) // fin z.1 ∧ R = rest z.1}, Sub (J z.1.1 z.1.2) s) Q) ?_ fun e s h => by
    cases e with
    | normal => obtain ⟨z, hs⟩ := h; rw [hq]; exact w_sub hs (after _ _ z.2.1 z.2.2)
    | _ => exact h
  refine w_block (w_loop (fun z : {z : (σ × Nat) × (Nat → Nat) // inv z.1.1 ∧ μ z.1.1 < z.1.2 ∧ R = Res.fin rest (itr step z.1.2 z.1.1)} => I z.1.1.1 z.1.2) (fun z => μ z.1.1.1) ⟨((s0, μ s0 + 1), x0), hi, Nat.lt_succ_self _, hR⟩ h0 fun z => ?_)
  have hk : 0 < z.1.1.2 := by have := z.2.2.1; omega
  refine (round _ _ _ z.2.1 hk z.2.2.2).mono fun e s h => ?_
  cases e with
  | normal =>
    obtain ⟨s', x', h1, h2, h3, h4⟩ := h
    exact ⟨⟨((s', z.1.1.2 - 1), x'), h2, by have := z.2.2.1; show μ s' < z.1.1.2 - 1; omega, h3⟩, h1, h4⟩
  | exit M =>
    simp only [itrQ] at h
    simp only [loopQ, blockQ]
    by_cases e : M = N
    · rw [if_pos e] at h ⊢
      obtain ⟨s', x', h1, h2, h3⟩ := h
      exact ⟨⟨(s', x'), h1, h2⟩, h3⟩
    · rw [if_neg e] at h ⊢
      exact h
  | goto l => exact h
  | ret => exact h
  | panic ch => exact h
  | outgrown => exact h

/-- A loop of any kind and what comes behind it, in a row. -/
theorem w_itr {P : Program} {c y : Code} {Q : Exit → St → Prop} {st : St} {σ ρ : Type} (I : σ → (Nat → Nat) → St) (J : σ → (Nat → Nat) → St) (inv fin : σ → Prop) (μ : σ → Nat) (N : Nat) (step : σ → Res σ ρ) (rest : σ → ρ) {R : ρ} (s0 : σ) (x0 : Nat → Nat)
    (h0 : Sub (I s0 x0) st) (hi : inv s0) (hR : R = Res.fin rest (itr step (μ s0 + 1) s0))
    (round : ∀ s x k, inv s → 0 < k → R = Res.fin rest (itr step k s) → WP P c (itrQ I J inv fin μ N step rest R s k Q) (I s x))
    (after : ∀ s x, fin s → R = rest s → WP P y Q (J s x)) : WP P (.seq (.block N (.loop c)) y) Q st :=
  w_seq (w_itrT (fun _ => rfl) I J inv fin μ N step rest s0 x0 h0 hi hR (fun s x k h1 h2 h3 => (round s x k h1 h2 h3).mono fun e s h => by cases e <;> exact h) after)
end Go.Lap
