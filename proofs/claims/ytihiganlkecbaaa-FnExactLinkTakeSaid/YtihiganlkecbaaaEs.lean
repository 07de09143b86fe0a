/- The engine's nineteenth part: shorter forms of the rules, for walks that a program prints. -/
import Derived.Test.YtihiganlkecbaaaEr
set_option linter.unusedVariables false
namespace Go.Lap
open Go.RowKit

def dstB (o : Oper) (n : Nat) : Bool := match o.dst with | some d => Nat.blt d n | none => true

theorem dstB_spec {o : Oper} {n : Nat} (h : dstB o n = true) : ∀ d, o.dst = some d → d < n := by
  intro d hd
  simp only [dstB, hd] at h
  exact Nat.le_of_ble_eq_true h

theorem Runs.mono {P : Program} {all : List Oper} {K K' : St → List (List (Nat × Bool)) → Prop} (hK : ∀ s acc, K s acc → K' s acc) : ∀ (os : List Oper) (st : St) (acc : List (List (Nat × Bool))), Runs P all os st acc K → Runs P all os st acc K'
  | [], st, acc, h => hK st acc h
  | o :: os, st, acc, h => by
    unfold Runs at h ⊢
    refine ⟨h.1, ?_⟩
    have h2 := h.2
    cases hg : o.guard with
    | none =>
      rw [hg] at h2
      exact fun f => by obtain ⟨U, h3, h4⟩ := h2 f; exact ⟨U, h3, Runs.mono hK os _ _ h4⟩
    | some jw =>
      obtain ⟨j, want⟩ := jw
      rw [hg] at h2
      obtain ⟨t, h3, h4⟩ := h2
      refine ⟨t, h3, ?_⟩
      rcases h4 with ⟨h4, h5⟩ | ⟨b, h4, h5, h6⟩
      · exact .inl ⟨h4, Runs.mono hK os _ _ h5⟩
      · exact .inr ⟨b, h4, fun e f => by obtain ⟨U, h7, h8⟩ := h5 e f; exact ⟨U, h7, Runs.mono hK os _ _ h8⟩, fun e => Runs.mono hK os _ _ (h6 e)⟩

section
variable {P : Program} {all os : List Oper} {o : Oper} {st st' : St} {acc : List (List (Nat × Bool))} {K : St → List (List (Nat × Bool)) → Prop} {U : (Nat → Nat) → Upd} {j t : Nat} {want b : Bool}

/-- One operation without a guard. -/
theorem Runs.go (h : ∀ f, OpOK P o (evF (getF st.F)) (getO st.O) f (U f)) (hd : dstB o st.n = true) (hg : o.guard = none) (k : ∀ f, Runs P all os (st.app o.dst (U f)) ((U f).tch :: acc) K) : Runs P all (o :: os) st acc K := by
  unfold Runs
  refine ⟨dstB_spec hd, ?_⟩
  rw [hg]
  exact fun f => ⟨U f, h f, k f⟩

/-- An operation with a guard whose value is not known. -/
theorem Runs.gd (hg : o.guard = some (j, want)) (ht : (all[j]?).bind (·.dst) = some t) (hb : getF st.F t = .one (.c (.v (.bool b)))) (hd : dstB o st.n = true)
    (h : b = want → ∀ f, OpOK P o (evF (getF (st.lit t want).F)) (getO st.O) f (U f)) (ky : b = want → ∀ f, Runs P all os ((st.lit t want).app o.dst (U f)) ((U f).tch :: acc) K)
    (kn : b = !want → Runs P all os ((st.lit t (!want)).app o.dst skipU) ([] :: acc) K) : Runs P all (o :: os) st acc K := by
  unfold Runs
  refine ⟨dstB_spec hd, ?_⟩
  rw [hg]
  exact ⟨t, ht, .inr ⟨b, hb, fun e f => ⟨U f, h e f, ky e f⟩, kn⟩⟩

/-- A guard that is known to let the operation through. -/
theorem Runs.gt (hg : o.guard = some (j, want)) (ht : (all[j]?).bind (·.dst) = some t) (hb : getF st.F t = .one (.c (.v (.bool want)))) (hd : dstB o st.n = true)
    (h : ∀ f, OpOK P o (evF (getF (st.lit t want).F)) (getO st.O) f (U f)) (ky : ∀ f, Runs P all os ((st.lit t want).app o.dst (U f)) ((U f).tch :: acc) K) : Runs P all (o :: os) st acc K := by
  unfold Runs
  refine ⟨dstB_spec hd, ?_⟩
  rw [hg]
  exact ⟨t, ht, .inr ⟨want, hb, fun e f => ⟨U f, h f, ky f⟩, fun e => by cases want <;> simp at e⟩⟩

/-- A guard that is known to skip the operation. -/
theorem Runs.gs (hg : o.guard = some (j, want)) (ht : (all[j]?).bind (·.dst) = some t) (hb : getF st.F t = .one (.c (.v (.bool (!want))))) (hd : dstB o st.n = true)
    (kn : Runs P all os ((st.lit t (!want)).app o.dst skipU) ([] :: acc) K) : Runs P all (o :: os) st acc K := by
  unfold Runs
  refine ⟨dstB_spec hd, ?_⟩
  rw [hg]
  exact ⟨t, ht, .inr ⟨!want, hb, fun e => by cases want <;> simp at e, fun _ => kn⟩⟩

/-- A guard whose own operation was skipped. -/
theorem Runs.gu (hg : o.guard = some (j, want)) (ht : (all[j]?).bind (·.dst) = some t) (hb : getF st.F t = .ud) (hd : dstB o st.n = true)
    (kn : Runs P all os (st.app o.dst skipU) ([] :: acc) K) : Runs P all (o :: os) st acc K := by
  unfold Runs
  refine ⟨dstB_spec hd, ?_⟩
  rw [hg]
  exact ⟨t, ht, .inl ⟨hb, kn⟩⟩

end

section
variable {P : Program} {st st' : St} {Q : Exit → St → Prop} {c : Code} {l : List Oper} {id : Nat}

theorem w_reg (st' : St) (h : Runs P l l st [] fun s _ => Sub st' s) (k : WP P c Q st') : WP P (.seq (.region id l.toArray false) c) Q st :=
  w_seq (w_region (Runs.mono (fun _ _ hs => w_sub hs k) _ _ _ h))

theorem w_regd (hm : P.follows .mixedOrders = true) (st' : St) (h : Runs P l l st [] fun s acc => depOk l acc.reverse = true ∧ Sub st' s) (k : WP P c Q st') : WP P (.seq (.region id l.toArray true) c) Q st :=
  w_seq (w_draw hm (Runs.mono (fun _ _ hs => ⟨hs.1, w_sub hs.2 k⟩) _ _ _ h))

/-- A region at the end of a branch. -/
theorem w_reg1 {y : Code} {Q' : Exit → St → Prop} (hq : ∀ s, Q .normal s = WP P y Q' s) (st' : St) (h : Runs P l l st [] fun s _ => Sub st' s) (k : WP P y Q' st') : WP P (.region id l.toArray false) Q st :=
  w_region (Runs.mono (fun s _ hs => by rw [hq]; exact w_sub hs k) _ _ _ h)

theorem w_reg1d {y : Code} {Q' : Exit → St → Prop} (hm : P.follows .mixedOrders = true) (hq : ∀ s, Q .normal s = WP P y Q' s) (st' : St) (h : Runs P l l st [] fun s acc => depOk l acc.reverse = true ∧ Sub st' s) (k : WP P y Q' st') : WP P (.region id l.toArray true) Q st :=
  w_draw hm (Runs.mono (fun s _ hs => ⟨hs.1, by rw [hq]; exact w_sub hs.2 k⟩) _ _ _ h)

theorem w_reg1I {y : Code} {Q' : Exit → St → Prop} (hq : ∀ s, Q .normal s = WP P y Q' s) (I : (Nat → Nat) → St) (h : Runs P l l st [] fun s _ => ∃ x, Sub (I x) s) (k : ∀ x, WP P y Q' (I x)) : WP P (.region id l.toArray false) Q st :=
  w_region (Runs.mono (fun s _ ⟨x, hs⟩ => by rw [hq]; exact w_sub hs (k x)) _ _ _ h)

theorem w_reg1dI {y : Code} {Q' : Exit → St → Prop} (hm : P.follows .mixedOrders = true) (hq : ∀ s, Q .normal s = WP P y Q' s) (I : (Nat → Nat) → St) (h : Runs P l l st [] fun s acc => depOk l acc.reverse = true ∧ ∃ x, Sub (I x) s) (k : ∀ x, WP P y Q' (I x)) : WP P (.region id l.toArray true) Q st :=
  w_draw hm (Runs.mono (fun s _ ⟨hd, x, hs⟩ => ⟨hd, by rw [hq]; exact w_sub hs (k x)⟩) _ _ _ h)
end

/-! ### Loops, as functions -/
inductive Res (σ ρ : Type) where
  | next (s : σ)
  | brk (s : σ)
  | ret (r : ρ)

/-- A loop that counts: so many rounds are left, the next is the i-th. -/
def forN {σ ρ : Type} (body : Nat → σ → Res σ ρ) : Nat → Nat → σ → Res σ ρ
  | 0, _, s => .next s
  | c + 1, i, s => match body i s with
    | .next s' => forN body c (i + 1) s'
    | .brk s' => .next s'
    | .ret r => .ret r

def Res.fin {σ ρ : Type} (rest : σ → ρ) : Res σ ρ → ρ
  | .next s => rest s
  | .brk s => rest s
  | .ret r => r

section
variable {σ ρ : Type} {body : Nat → σ → Res σ ρ} {rest : σ → ρ} {n i : Nat} {s s' : σ} {r : ρ}

theorem forN_end (h : n ≤ i) : Res.fin rest (forN body (n - i) i s) = rest s := by
  rw [Nat.sub_eq_zero_of_le h]; rfl
theorem forN_next (h : i < n) (hb : body i s = .next s') : Res.fin rest (forN body (n - i) i s) = Res.fin rest (forN body (n - (i + 1)) (i + 1) s') := by
  rw [show n - i = (n - (i + 1)) + 1 by omega]; simp only [forN, hb]
theorem forN_brk (h : i < n) (hb : body i s = .brk s') : Res.fin rest (forN body (n - i) i s) = rest s' := by
  rw [show n - i = (n - (i + 1)) + 1 by omega]; simp only [forN, hb]; rfl
theorem forN_ret (h : i < n) (hb : body i s = .ret r) : Res.fin rest (forN body (n - i) i s) = r := by
  rw [show n - i = (n - (i + 1)) + 1 by omega]; simp only [forN, hb]; rfl
end

/-- Where a counting loop goes from a round: on to the next, out of the loop, or further out. -/
def forQ {σ ρ : Type} (I : Nat → σ → (Nat → Nat) → St) (J : σ → (Nat → Nat) → St) (inv : Nat → σ → Prop) (fin : σ → Prop) (n N : Nat) (body : Nat → σ → Res σ ρ) (rest : σ → ρ) (R : ρ) (i : Nat) (Q : Exit → St → Prop) : Exit → St → Prop
  | .normal, st => ∃ s' x', i < n ∧ inv (i + 1) s' ∧ R = Res.fin rest (forN body (n - (i + 1)) (i + 1) s') ∧ Sub (I (i + 1) s' x') st
  | .exit M, st => if M = N then ∃ s' x', fin s' ∧ R = rest s' ∧ Sub (J s' x') st else Q (.exit M) st
  | e, st => Q e st

/-- A counting loop and what comes behind it. -/
theorem w_forT {P : Program} {c y : Code} {Q Q' : Exit → St → Prop} (hq : ∀ s, Q .normal s = WP P y Q' s) {st : St} {σ ρ : Type} (I : Nat → σ → (Nat → Nat) → St) (J : σ → (Nat → Nat) → St) (inv : Nat → σ → Prop) (fin : σ → Prop) (n N : Nat) (body : Nat → σ → Res σ ρ) (rest : σ → ρ) {R : ρ} (i0 : Nat) (s0 : σ) (x0 : Nat → Nat)
    (h0 : Sub (I i0 s0 x0) st) (hi : inv i0 s0) (hR : R = Res.fin rest (forN body (n - i0) i0 s0))
    (round : ∀ i s x, inv i s → R = Res.fin rest (forN body (n - i) i s) → WP P c (forQ I J inv fin n N body rest R i Q) (I i s x))
    (after : ∀ s x, fin s → R = rest s → WP P y Q' (J s x)) : WP P (.block N (.loop c)) Q st := by
  refine WP.mono (Q := seqQ (fun s => ∃ z : {z : σ × (Nat → Nat) // fin z.1 ∧ R = rest z.1}, Sub (J z.1.1 z.1.2) s) Q) ?_ fun e s h => by
    cases e with
    | normal => obtain ⟨z, hs⟩ := h; rw [hq]; exact w_sub hs (after _ _ z.2.1 z.2.2)
    | _ => exact h
  refine w_block (w_loop (fun z : {z : Nat × σ × (Nat → Nat) // inv z.1 z.2.1 ∧ R = Res.fin rest (forN body (n - z.1) z.1 z.2.1)} => I z.1.1 z.1.2.1 z.1.2.2) (fun z => n - z.1.1) ⟨(i0, s0, x0), hi, hR⟩ h0 fun z => ?_)
  refine (round _ _ _ z.2.1 z.2.2).mono fun e s h => ?_
  cases e with
  | normal =>
    obtain ⟨s', x', h1, h2, h3, h4⟩ := h
    exact ⟨⟨(z.1.1 + 1, s', x'), h2, h3⟩, by show n - (z.1.1 + 1) < n - z.1.1; omega, h4⟩
  | exit M =>
    simp only [forQ] at h
    simp only [loopQ, blockQ]
    by_cases e : M = N
    · rw [if_pos e] at h ⊢
      obtain ⟨s', x', h1, h2, h3⟩ := h
      exact ⟨⟨(s', x'), h1, h2⟩, h3⟩
    · rw [if_neg e] at h ⊢
      exact h
  | goto l => exact h
  | ret => exact h
  | panic ch => exact h
  | outgrown => exact h

/-- A counting loop and what comes behind it, in a row. -/
theorem w_for {P : Program} {c y : Code} {Q : Exit → St → Prop} {st : St} {σ ρ : Type} (I : Nat → σ → (Nat → Nat) → St) (J : σ → (Nat → Nat) → St) (inv : Nat → σ → Prop) (fin : σ → Prop) (n N : Nat) (body : Nat → σ → Res σ ρ) (rest : σ → ρ) {R : ρ} (i0 : Nat) (s0 : σ) (x0 : Nat → Nat)
    (h0 : Sub (I i0 s0 x0) st) (hi : inv i0 s0) (hR : R = Res.fin rest (forN body (n - i0) i0 s0))
    (round : ∀ i s x, inv i s → R = Res.fin rest (forN body (n - i) i s) → WP P c (forQ I J inv fin n N body rest R i Q) (I i s x))
    (after : ∀ s x, fin s → R = rest s → WP P y Q (J s x)) : WP P (.seq (.block N (.loop c)) y) Q st :=
  w_seq (w_forT (fun _ => rfl) I J inv fin n N body rest i0 s0 x0 h0 hi hR (fun i s x h1 h2 => (round i s x h1 h2).mono fun e s h => by cases e <;> exact h) after)

/-! ### Small facts for printed walks -/
abbrev wr (n : Int) : Int := IntKind.i64.wrap n

theorem nt {b : Bool} (h : b = false) : ¬ b = true := by rw [h]; exact Bool.false_ne_true
theorem nd1 {p : Prop} [Decidable p] (h : (!decide p) = true) : ¬ p := by simpa using h
theorem nd0 {p : Prop} [Decidable p] (h : (!decide p) = false) : p := by simpa using h
theorem wr_eq {n : Int} (h1 : -9223372036854775808 ≤ n) (h2 : n ≤ 9223372036854775807) : wr n = n := IntWalk.i64_in n ⟨h1, h2⟩
theorem wr_nat {n c : Nat} (h : n + c ≤ 9223372036854775807) : IntKind.i64.wrap ((n : Int) + (c : Int)) = ((n + c : Nat) : Int) := by rw [IntWalk.i64_in _ (by omega)]; omega
theorem wr_sub {n c : Nat} (h : c ≤ n) (h2 : n ≤ 9223372036854775807) : IntKind.i64.wrap ((n : Int) - (c : Int)) = ((n - c : Nat) : Int) := by rw [IntWalk.i64_in _ (by omega)]; omega
theorem row_get {α : Type} [Inhabited α] (f : α → List C1) {xs : List α} {k : Nat} (h : k < xs.length) : (xs.map f)[k]? = some (f (xs.getD k default)) := by
  simp [List.getD, List.getElem?_eq_getElem h]
end Go.Lap
