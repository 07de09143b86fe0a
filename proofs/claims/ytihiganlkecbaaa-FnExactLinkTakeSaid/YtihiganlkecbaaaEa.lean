/- The engine's first part: abstract values, their relation to the machine's memory, and what keeps it. -/
import Derived.WalkKit
import Derived.Below
import Derived.Orders
import Derived.Laws.AppendOwn
import Derived.Laws.Slices
import Derived.Laws.MakeOwn
import Derived.RowKit3
namespace Go.Lap
open Go.RowKit

/-- What is told of a slice that is held by value: borrowed, never written again, or one's own. -/
inductive Tag where
  | bor | frz | own
  deriving DecidableEq

/-- A cell of an element: a plain value, or a slice of plain rows. -/
inductive C1 where
  | v (x : Value)
  | sl (e : Nat) (rows : List (List Value))

/-- A cell: a plain value, a slice by value, or a slice of one of the call's own arrays. -/
inductive Cell where
  | v (x : Value)
  | nl
  | sl (t : Tag) (e : Nat) (rows : List (List C1))
  | mu (k s e off len : Nat)

inductive V0 where
  | c (x : Cell)
  | ag (xs : List Cell)
  | pt (k s off : Nat)
  | pa (k s e i off : Nat)
  | pi (t : Tag) (xs : List C1)
  | mp (k s : Nat)

inductive TV where
  | dead
  | ud
  | one (x : V0)
  | tu (xs : List V0)

inductive AObj where
  | box (cs : List Cell)
  | arr (e : Nat) (rows : List (List C1))
  | fz (e : Nat) (rows : List (List C1))
  | mp (ks : List Int)

inductive Owner where
  | ext | bor | frz | junk | obj (s : Nat)

structure Gh where
  loc : Nat → Option Nat
  cap : Nat → Nat
  own : Nat → Owner
  used : Nat → Prop

def Gh.imm (G : Gh) (t : Tag) (b : Nat) : Prop :=
  match t with
  | .bor => G.own b = .bor ∨ G.own b = .frz
  | .frz => G.own b = .frz
  | .own => False

structure Wf (G : Gh) (w : World) : Prop where
  lt : ∀ s b, G.loc s = some b → b < w.heap.size ∧ G.used s
  of_own : ∀ b s, G.own b = .obj s → G.loc s = some b
  past : ∀ b, w.heap.size ≤ b → G.own b = .junk
  fin : ∃ N, ∀ s, G.used s → s < N

def isPlain : Value → Bool
  | .agg _ | .tuple _ => false
  | _ => true

/-- Plain cells lie at a place. -/
def CellsV (w : World) (b o : Nat) (xs : List Value) : Prop := ∀ j x, xs[j]? = some x → w.cell? ⟨b, o + j, none⟩ = some x

def R1 (w : World) (G : Gh) (t : Tag) : C1 → Value → Prop
  | .v x, cv => cv = x ∧ isPlain x = true
  | .sl e rows, cv => ∃ A cap, cv = .slice A rows.length cap ∧ rows.length ≤ cap ∧ ((∀ r ∈ rows, r.length = e) ∧ ∀ x ∈ rows.flatten, isPlain x = true) ∧
      (rows ≠ [] → ∃ b o, A = some ⟨b, o, none⟩ ∧ G.imm t b ∧ CellsV w b o rows.flatten)

def Cells1 (w : World) (G : Gh) (t : Tag) (b o : Nat) (xs : List C1) : Prop :=
  ∀ j x, xs[j]? = some x → ∃ cv, w.cell? ⟨b, o + j, none⟩ = some cv ∧ R1 w G t x cv

def RC (w : World) (G : Gh) : Cell → Value → Prop
  | .v x, cv => cv = x
  | .nl, cv => cv = .slice none 0 0
  | .sl t e rows, cv => ∃ A cap, cv = .slice A rows.length cap ∧ rows.length ≤ cap ∧ (∀ r ∈ rows, r.length = e) ∧
      (rows ≠ [] → ∃ b o, A = some ⟨b, o, none⟩ ∧ G.imm t b ∧ Cells1 w G t b o rows.flatten)
  | .mu _ s e off len, cv => ∃ A cap, cv = .slice A len cap ∧ len ≤ cap ∧ G.used s ∧ off + cap ≤ G.cap s ∧
      (cap = 0 ∨ ∃ b, G.loc s = some b ∧ A = some ⟨b, off * e, none⟩)

/-- Two lists stand in a relation place by place. -/
inductive All2 {α β : Type} (R : α → β → Prop) : List α → List β → Prop
  | nil : All2 R [] []
  | cons {a b as bs} : R a b → All2 R as bs → All2 R (a :: as) (b :: bs)

def RV0 (w : World) (G : Gh) : V0 → Value → Prop
  | .c x, cv => RC w G x cv
  | .ag xs, cv => ∃ vs : List Value, cv = .agg vs.toArray ∧ All2 (RC w G) xs vs
  | .pt _ s off, cv => ∃ b, G.loc s = some b ∧ cv = .pointer (some ⟨b, off, none⟩)
  | .pa _ s e i off, cv => ∃ b, G.loc s = some b ∧ cv = .pointer (some ⟨b, i * e + off, none⟩)
  | .pi t xs, cv => ∃ b o, cv = .pointer (some ⟨b, o, none⟩) ∧ G.imm t b ∧ Cells1 w G t b o xs
  | .mp _ s, cv => ∃ b, G.loc s = some b ∧ cv = .map (some b)

def RTV (w : World) (G : Gh) : TV → Value → Prop
  | .dead, _ => True
  | .ud, cv => cv = undef
  | .one x, cv => RV0 w G x cv
  | .tu xs, cv => ∃ vs : List Value, cv = .tuple vs.toArray ∧ All2 (RV0 w G) xs vs

/-- The block of an array: its rows, then anything. -/
def ArrAt (w : World) (G : Gh) (s b e : Nat) (rows : List (List C1)) : Prop :=
  ∃ vs T, w.heap[b]? = some (.cells vs T (0, 0)) ∧ vs.size = G.cap s * e ∧ rows.length ≤ G.cap s ∧ G.cap s ≤ maxLen ∧
    All2 (R1 w G .frz) rows.flatten (vs.toList.take (rows.length * e))

def RObj (w : World) (G : Gh) (s : Nat) : AObj → Prop
  | .box cs => ∃ b vs T, G.loc s = some b ∧ G.own b = .obj s ∧ w.heap[b]? = some (.cells vs T (0, 0)) ∧ All2 (RC w G) cs vs.toList
  | .arr e rows => 0 < e ∧ (∀ r ∈ rows, r.length = e) ∧ ((rows = [] ∧ G.loc s = none ∧ G.cap s = 0) ∨
      ∃ b, G.loc s = some b ∧ G.own b = .obj s ∧ ArrAt w G s b e rows)
  | .fz e rows => 0 < e ∧ (∀ r ∈ rows, r.length = e) ∧ ((rows = [] ∧ G.loc s = none ∧ G.cap s = 0) ∨
      ∃ b, G.loc s = some b ∧ G.own b = .frz ∧ ArrAt w G s b e rows)
  | .mp ks => ∃ b es clock, G.loc s = some b ∧ G.own b = .obj s ∧ w.heap[b]? = some (.map es clock) ∧ es.toList.map (fun e => (e.key, e.val)) = ks.map fun k => (Value.int .i64 k, Value.bool true)

/-- What one step, or many, leave as they were: 'U' are the arrays and boxes that they may touch. -/
structure Evol (U : Nat → Prop) (w : World) (G : Gh) (w' : World) (G' : Gh) : Prop where
  os : w'.os = w.os
  tape : w'.tape = w.tape
  output : w'.output = w.output
  size : w.heap.size ≤ w'.heap.size
  used : ∀ s, G.used s → G'.used s
  loc : ∀ s, G.used s → G'.loc s = G.loc s
  cap : ∀ s, G.used s → G'.cap s = G.cap s
  kept : ∀ b, b < w.heap.size → (G.own b = .ext ∨ G.own b = .bor ∨ G.own b = .frz ∨ ∃ s, G.own b = .obj s ∧ ¬ U s) →
    G'.own b = G.own b ∧ w'.heap[b]? = w.heap[b]?

theorem Evol.refl (U : Nat → Prop) (w : World) (G : Gh) : Evol U w G w G :=
  ⟨rfl, rfl, rfl, Nat.le_refl _, fun _ h => h, fun _ _ => rfl, fun _ _ => rfl, fun _ _ _ => ⟨rfl, rfl⟩⟩

theorem Evol.mono {U V : Nat → Prop} {w w' : World} {G G' : Gh} (h : Evol U w G w' G') (hUV : ∀ s, U s → V s) : Evol V w G w' G' :=
  ⟨h.os, h.tape, h.output, h.size, h.used, h.loc, h.cap, fun b hb ho => h.kept b hb (by
    rcases ho with h1 | h1 | h1 | ⟨s, h1, h2⟩
    · exact .inl h1
    · exact .inr (.inl h1)
    · exact .inr (.inr (.inl h1))
    · exact .inr (.inr (.inr ⟨s, h1, fun hu => h2 (hUV s hu)⟩)))⟩

theorem Evol.trans {U : Nat → Prop} {w w1 w2 : World} {G G1 G2 : Gh} (h : Evol U w G w1 G1) (k : Evol U w1 G1 w2 G2) : Evol U w G w2 G2 :=
  ⟨k.os.trans h.os, k.tape.trans h.tape, k.output.trans h.output, Nat.le_trans h.size k.size, fun s hs => k.used s (h.used s hs),
   fun s hs => (k.loc s (h.used s hs)).trans (h.loc s hs), fun s hs => (k.cap s (h.used s hs)).trans (h.cap s hs),
   fun b hb ho => by
    have h1 := h.kept b hb ho
    have h2 := k.kept b (Nat.lt_of_lt_of_le hb h.size) (by rw [h1.1]; exact ho)
    exact ⟨h2.1.trans h1.1, h2.2.trans h1.2⟩⟩

/-- What is touched in two steps, of which the second may touch what is new. -/
theorem Evol.then {U V : Nat → Prop} {w w1 w2 : World} {G G1 G2 : Gh} (h : Evol U w G w1 G1) (k : Evol V w1 G1 w2 G2) : Evol (fun s => U s ∨ V s) w G w2 G2 :=
  (h.mono fun _ => .inl).trans (k.mono fun _ => .inr)

theorem All2.length {α β : Type} {R : α → β → Prop} {xs : List α} {ys : List β} (h : All2 R xs ys) : xs.length = ys.length := by
  induction h with
  | nil => rfl
  | cons _ _ ih => simp [ih]

theorem All2.mono {α β : Type} {R S : α → β → Prop} {xs : List α} {ys : List β} (h : All2 R xs ys) (hRS : ∀ a b, a ∈ xs → R a b → S a b) : All2 S xs ys := by
  induction h with
  | nil => exact .nil
  | cons r _ ih => exact .cons (hRS _ _ (by simp) r) (ih fun a b ha => hRS a b (by simp [ha]))

theorem All2.get {α β : Type} {R : α → β → Prop} {xs : List α} {ys : List β} (h : All2 R xs ys) (j : Nat) (x : α) (hx : xs[j]? = some x) : ∃ y, ys[j]? = some y ∧ R x y := by
  induction h generalizing j with
  | nil => simp at hx
  | cons r _ ih =>
    cases j with
    | zero => simp at hx; subst hx; exact ⟨_, by simp, r⟩
    | succ j => simpa using ih j (by simpa using hx)

theorem All2.of_get {α β : Type} {R : α → β → Prop} : ∀ {xs : List α} {ys : List β}, xs.length = ys.length → (∀ (j : Nat) x y, xs[j]? = some x → ys[j]? = some y → R x y) → All2 R xs ys
  | [], [], _, _ => .nil
  | x :: xs, y :: ys, hl, h => .cons (h 0 x y (by simp) (by simp)) (All2.of_get (by simpa using hl) fun j a b ha hb => h (j + 1) a b (by simpa using ha) (by simpa using hb))
  | [], _ :: _, hl, _ => by simp at hl
  | _ :: _, [], hl, _ => by simp at hl

theorem All2.append {α β : Type} {R : α → β → Prop} {xs xs' : List α} {ys ys' : List β} (h : All2 R xs ys) (h' : All2 R xs' ys') : All2 R (xs ++ xs') (ys ++ ys') := by
  induction h with
  | nil => exact h'
  | cons r _ ih => exact .cons r ih

theorem All2.take {α β : Type} {R : α → β → Prop} {xs : List α} {ys : List β} (h : All2 R xs ys) (n : Nat) : All2 R (xs.take n) (ys.take n) := by
  induction h generalizing n with
  | nil => simp; exact .nil
  | cons r _ ih =>
    cases n with
    | zero => simp; exact .nil
    | succ n => simp; exact .cons r (ih n)

theorem All2.drop {α β : Type} {R : α → β → Prop} {xs : List α} {ys : List β} (h : All2 R xs ys) (n : Nat) : All2 R (xs.drop n) (ys.drop n) := by
  induction h generalizing n with
  | nil => simp; exact .nil
  | cons r h ih =>
    cases n with
    | zero => simp; exact .cons r h
    | succ n => simp; exact ih n

section
variable {U : Nat → Prop} {w w' : World} {G G' : Gh}

theorem cell_of_heap {w w' : World} {b o : Nat} (h : w'.heap[b]? = w.heap[b]?) : w'.cell? ⟨b, o, none⟩ = w.cell? ⟨b, o, none⟩ := by
  simp [World.cell?, h]

theorem imm_lt (hw : Wf G w) {t : Tag} {b : Nat} (h : G.imm t b) : b < w.heap.size := by
  rcases Nat.lt_or_ge b w.heap.size with h1 | h1
  · exact h1
  · have := hw.past b h1
    cases t <;> simp [Gh.imm, this] at h

theorem imm_kept (hw : Wf G w) (he : Evol U w G w' G') {t : Tag} {b : Nat} (h : G.imm t b) : G'.imm t b ∧ w'.heap[b]? = w.heap[b]? := by
  have hb := imm_lt hw h
  cases t with
  | own => exact h.elim
  | frz =>
    have := he.kept b hb (.inr (.inr (.inl h)))
    exact ⟨this.1.trans h, this.2⟩
  | bor =>
    rcases h with h | h
    · have := he.kept b hb (.inr (.inl h))
      exact ⟨.inl (this.1.trans h), this.2⟩
    · have := he.kept b hb (.inr (.inr (.inl h)))
      exact ⟨.inr (this.1.trans h), this.2⟩

theorem R1.mono (hw : Wf G w) (he : Evol U w G w' G') {t : Tag} {x : C1} {cv : Value} (h : R1 w G t x cv) : R1 w' G' t x cv := by
  cases x with
  | v x => exact h
  | sl e rows =>
    obtain ⟨A, cap, h1, h2, h3, h4⟩ := h
    refine ⟨A, cap, h1, h2, h3, fun hne => ?_⟩
    obtain ⟨b, o, hA, hi, hc⟩ := h4 hne
    have hk := imm_kept hw he hi
    exact ⟨b, o, hA, hk.1, fun j x hx => (cell_of_heap hk.2).trans (hc j x hx)⟩

theorem Cells1.mono (hw : Wf G w) (he : Evol U w G w' G') {t : Tag} {b o : Nat} {xs : List C1} (hi : G.imm t b) (h : Cells1 w G t b o xs) : Cells1 w' G' t b o xs := by
  intro j x hx
  obtain ⟨cv, h1, h2⟩ := h j x hx
  exact ⟨cv, (cell_of_heap (imm_kept hw he hi).2).trans h1, h2.mono hw he⟩

theorem RC.mono (hw : Wf G w) (he : Evol U w G w' G') {x : Cell} {cv : Value} (h : RC w G x cv) : RC w' G' x cv := by
  cases x with
  | v x => exact h
  | nl => exact h
  | sl t e rows =>
    obtain ⟨A, cap, h1, h2, h3, h4⟩ := h
    refine ⟨A, cap, h1, h2, h3, fun hne => ?_⟩
    obtain ⟨b, o, hA, hi, hc⟩ := h4 hne
    exact ⟨b, o, hA, (imm_kept hw he hi).1, hc.mono hw he hi⟩
  | mu k s e off len =>
    obtain ⟨A, cap, h1, h2, h3, h4, h5⟩ := h
    refine ⟨A, cap, h1, h2, he.used s h3, by rw [he.cap s h3]; exact h4, h5.imp id fun ⟨b, hb, hA⟩ => ⟨b, (he.loc s h3).trans hb, hA⟩⟩

theorem RCs.mono (hw : Wf G w) (he : Evol U w G w' G') {xs : List Cell} {vs : List Value} (h : All2 (RC w G) xs vs) : All2 (RC w' G') xs vs :=
  h.mono fun _ _ _ r => r.mono hw he

theorem loc_kept (hw : Wf G w) (he : Evol U w G w' G') {s b : Nat} (h : G.loc s = some b) : G'.loc s = some b := (he.loc s (hw.lt s b h).2).trans h

theorem RV0.mono (hw : Wf G w) (he : Evol U w G w' G') {x : V0} {cv : Value} (h : RV0 w G x cv) : RV0 w' G' x cv := by
  cases x with
  | c x => exact RC.mono hw he h
  | ag xs => obtain ⟨vs, h1, h2⟩ := h; exact ⟨vs, h1, RCs.mono hw he h2⟩
  | pt k s off => obtain ⟨b, h1, h2⟩ := h; exact ⟨b, loc_kept hw he h1, h2⟩
  | pa k s e i off => obtain ⟨b, h1, h2⟩ := h; exact ⟨b, loc_kept hw he h1, h2⟩
  | pi t xs => obtain ⟨b, o, h1, h2, h3⟩ := h; exact ⟨b, o, h1, (imm_kept hw he h2).1, h3.mono hw he h2⟩
  | mp k s => obtain ⟨b, h1, h2⟩ := h; exact ⟨b, loc_kept hw he h1, h2⟩

theorem RTV.mono (hw : Wf G w) (he : Evol U w G w' G') {x : TV} {cv : Value} (h : RTV w G x cv) : RTV w' G' x cv := by
  cases x with
  | dead => trivial
  | ud => exact h
  | one x => exact RV0.mono hw he h
  | tu xs => obtain ⟨vs, h1, h2⟩ := h; exact ⟨vs, h1, h2.mono fun _ _ _ r => r.mono hw he⟩

theorem ArrAt.mono (hw : Wf G w) (he : Evol U w G w' G') {s b e : Nat} {rows : List (List C1)} (hs : G.used s) (hb : w'.heap[b]? = w.heap[b]?) (h : ArrAt w G s b e rows) : ArrAt w' G' s b e rows := by
  obtain ⟨vs, T, h1, h2, h3, h4, h5⟩ := h
  exact ⟨vs, T, hb.trans h1, by rw [he.cap s hs]; exact h2, by rw [he.cap s hs]; exact h3, by rw [he.cap s hs]; exact h4, h5.mono fun _ _ _ r => r.mono hw he⟩

theorem RObj.mono (hw : Wf G w) (he : Evol U w G w' G') {s : Nat} {o : AObj} (hs : G.used s) (hU : ¬ U s) (h : RObj w G s o) : RObj w' G' s o := by
  cases o with
  | box cs =>
    obtain ⟨b, vs, T, h1, h2, h3, h4⟩ := h
    have hk := he.kept b (hw.lt s b h1).1 (.inr (.inr (.inr ⟨s, h2, hU⟩)))
    exact ⟨b, vs, T, loc_kept hw he h1, hk.1.trans h2, hk.2.trans h3, RCs.mono hw he h4⟩
  | arr e rows =>
    obtain ⟨he0, hr, h⟩ := h
    refine ⟨he0, hr, ?_⟩
    rcases h with ⟨h1, h2, h3⟩ | ⟨b, h1, h2, h3⟩
    · exact .inl ⟨h1, (he.loc s hs).trans h2, (he.cap s hs).trans h3⟩
    · have hk := he.kept b (hw.lt s b h1).1 (.inr (.inr (.inr ⟨s, h2, hU⟩)))
      exact .inr ⟨b, loc_kept hw he h1, hk.1.trans h2, h3.mono hw he hs hk.2⟩
  | fz e rows =>
    obtain ⟨he0, hr, h⟩ := h
    refine ⟨he0, hr, ?_⟩
    rcases h with ⟨h1, h2, h3⟩ | ⟨b, h1, h2, h3⟩
    · exact .inl ⟨h1, (he.loc s hs).trans h2, (he.cap s hs).trans h3⟩
    · have hk := he.kept b (hw.lt s b h1).1 (.inr (.inr (.inl h2)))
      exact .inr ⟨b, loc_kept hw he h1, hk.1.trans h2, h3.mono hw he hs hk.2⟩
  | mp ks =>
    obtain ⟨b, es, clock, h1, h2, h3, h4⟩ := h
    have hk := he.kept b (hw.lt s b h1).1 (.inr (.inr (.inr ⟨s, h2, hU⟩)))
    exact ⟨b, es, clock, loc_kept hw he h1, hk.1.trans h2, hk.2.trans h3, h4⟩

/-- What is read as never written again may be read as borrowed. -/
theorem R1.bor {x : C1} {cv : Value} (h : R1 w G .frz x cv) : R1 w G .bor x cv := by
  cases x with
  | v x => exact h
  | sl e rows =>
    obtain ⟨A, cap, h1, h2, h3, h4⟩ := h
    exact ⟨A, cap, h1, h2, h3, fun hne => by obtain ⟨b, o, hA, hi, hc⟩ := h4 hne; exact ⟨b, o, hA, .inr hi, hc⟩⟩
end
end Go.Lap
