/- The engine's twenty-eighth part: a region at one stroke: its operations computed, its end told. -/
import Derived.Test.YtihiganlkecbaaaFa
import Derived.KernelRfl
set_option linter.unusedVariables false
namespace Go.Lap
open Go.RowKit

abbrev Gs := List (Nat × Bool)

/-- A state in a region: what is told, under which guards. -/
structure JS where
  F : List (Nat × TV × Gs)
  O : List (Nat × Option (Nat × AObj) × Gs)
  n : Nat

def conj : Gs → Bool
  | [] => true
  | [(_, c)] => c
  | (_, c) :: r => c && conj r

theorem conj_cons {i : Nat} {c : Bool} {r : Gs} : conj ((i, c) :: r) = (c && conj r) := by
  cases r with
  | nil => simp [conj]
  | cons x r => rfl

def JS.den (j : JS) : St := ⟨j.F.map fun x => (x.1, bif conj x.2.2 then x.2.1 else .ud), j.O.map fun x => (x.1, bif conj x.2.2 then x.2.1 else none), j.n⟩
def St.js (s : St) : JS := ⟨s.F.map fun x => (x.1, x.2, []), s.O.map fun x => (x.1, x.2, []), s.n⟩
theorem js_den (s : St) : s.js.den = s := by
  cases s with | mk F O n =>
  simp only [St.js, JS.den, List.map_map, St.mk.injEq, and_true]
  constructor
  · exact (List.map_congr_left fun x _ => rfl).trans (List.map_id F)
  · exact (List.map_congr_left fun x _ => rfl).trans (List.map_id O)

def lkF : List (Nat × TV × Gs) → Nat → Option (TV × Gs)
  | [], _ => none
  | (k, x) :: r, d => bif Nat.beq k d then some x else lkF r d
def lkO : List (Nat × Option (Nat × AObj) × Gs) → Nat → Option (Option (Nat × AObj) × Gs)
  | [], _ => none
  | (k, x) :: r, d => bif Nat.beq k d then some x else lkO r d

theorem lkF_den : ∀ (F : List (Nat × TV × Gs)) (d : Nat), getF (F.map fun x => (x.1, bif conj x.2.2 then x.2.1 else TV.ud)) d = match lkF F d with | some (v, g) => (bif conj g then v else .ud) | none => .dead
  | [], d => rfl
  | (k, x) :: r, d => by
    simp only [List.map_cons, getF, lkF]
    by_cases e : k = d
    · subst e; simp
    · have h1 : (k == d) = false := by simpa using e
      have h2 : Nat.beq k d = false := by
        cases h : Nat.beq k d with
        | false => rfl
        | true => exact (e (Nat.eq_of_beq_eq_true h)).elim
      simp only [h1, h2, cond_false]
      exact lkF_den r d
theorem lkO_den : ∀ (O : List (Nat × Option (Nat × AObj) × Gs)) (d : Nat), getO (O.map fun x => (x.1, bif conj x.2.2 then x.2.1 else none)) d = match lkO O d with | some (v, g) => (bif conj g then v else none) | none => none
  | [], d => rfl
  | (k, x) :: r, d => by
    simp only [List.map_cons, getO, lkO]
    by_cases e : k = d
    · subst e; simp
    · have h1 : (k == d) = false := by simpa using e
      have h2 : Nat.beq k d = false := by
        cases h : Nat.beq k d with
        | false => rfl
        | true => exact (e (Nat.eq_of_beq_eq_true h)).elim
      simp only [h1, h2, cond_false]
      exact lkO_den r d

/-- Do the first guards stand among the second ones, from some place on? -/
def gEq : Gs → Gs → Option (List EqP)
  | [], [] => some []
  | (i, b) :: r, (j, c) :: s => bif Nat.beq i j then (gEq r s).map (⟨Bool, b, c⟩ :: ·) else none
  | _, _ => none
def sfx (g : Gs) : Gs → Option (List EqP)
  | [] => gEq g []
  | x :: r => match gEq g (x :: r) with
    | some e => some e
    | none => sfx g r

theorem gEq_s : ∀ {g h : Gs} {e : List EqP}, gEq g h = some e → EqsOk e → conj h = conj g
  | [], [], _, _, _ => rfl
  | [], _ :: _, _, h, _ => by simp [gEq] at h
  | _ :: _, [], _, h, _ => by simp [gEq] at h
  | (i, b) :: r, (j, c) :: s, e, h, he => by
    simp only [gEq] at h
    cases hz : Nat.beq i j with
    | false => rw [hz] at h; cases h
    | true =>
      rw [hz] at h
      simp only [cond_true, Option.map_eq_some_iff] at h
      obtain ⟨e1, h1, rfl⟩ := h
      have q : b = c := he.hd
      rw [conj_cons, conj_cons, gEq_s h1 he.tl, q]
theorem sfx_s : ∀ {g h : Gs} {e : List EqP}, sfx g h = some e → EqsOk e → conj h = true → conj g = true
  | g, [], e, h, he, hc => by rw [← gEq_s h he]; exact hc
  | g, x :: r, e, h, he, hc => by
    simp only [sfx] at h
    split at h
    · rename_i e1 h1; cases h; rw [← gEq_s h1 he]; exact hc
    · refine sfx_s h he ?_
      obtain ⟨i, c⟩ := x
      rw [conj_cons] at hc
      simp only [Bool.and_eq_true] at hc
      exact hc.2

def evJ (F : List (Nat × TV × Gs)) (g : Gs) : Operand → Option (TV × List EqP)
  | .tmp t => match lkF F t with
    | some (v, h) => match sfx h g with
      | some e => some (v, e)
      | none => none
    | none => none
  | .const v => some (.one (constV v), [])
  | .global g => some (.one (.c (.v (.pointer (some ⟨g, 0, none⟩)))), [])
  | .func f => some (.one (.c (.v (.func (.func f) #[] #[]))), [])
def evT (F : List (Nat × TV × Gs)) (g : Gs) (x : Operand) : TV := match evJ F g x with | some (v, _) => v | none => .dead
theorem evJ_s {j : JS} {g : Gs} {x : Operand} {v : TV} {e : List EqP} (h : evJ j.F g x = some (v, e)) (he : EqsOk e) (hc : conj g = true) : evF (getF j.den.F) x = v := by
  unfold evJ at h
  split at h
  · rename_i t
    split at h
    · rename_i v' h' hl
      split at h
      · rename_i e' hs
        cases h
        have := lkF_den j.F t
        rw [hl] at this
        simp only [sfx_s hs he hc, cond_true] at this
        exact this
      · cases h
    · cases h
  all_goals (cases h; rfl)

def opsE (F : List (Nat × TV × Gs)) (g : Gs) : List Operand → Option (List EqP)
  | [] => some []
  | x :: xs => match evJ F g x, opsE F g xs with
    | some (_, e), some e' => some (e ++ e')
    | _, _ => none
theorem opsE_s {j : JS} {g : Gs} : ∀ {xs : List Operand} {e : List EqP}, opsE j.F g xs = some e → EqsOk e → conj g = true → ∀ x ∈ xs, evF (getF j.den.F) x = evT j.F g x
  | [], _, _, _, _ => fun x hx => by simp at hx
  | y :: ys, e, h, he, hc => fun x hx => by
    simp only [opsE] at h
    split at h
    · rename_i v e1 e2 h1 h2
      cases h
      rcases List.mem_cons.1 hx with rfl | hx
      · rw [evJ_s h1 he.l hc]; simp [evT, h1]
      · exact opsE_s h2 he.r hc x hx
    · cases h

/-- The objects in sight, and what that asks. -/
def obJ (O : List (Nat × Option (Nat × AObj) × Gs)) (g : Gs) (k : Nat) : Option (Nat × AObj) :=
  match lkO O k with
  | some (x, h) => match sfx h g with
    | some _ => x
    | none => none
  | none => none
def obE (g : Gs) : List (Nat × Option (Nat × AObj) × Gs) → List EqP
  | [] => []
  | (_, _, h) :: r => (match sfx h g with | some e => e | none => []) ++ obE g r
theorem lkO_mem : ∀ {O : List (Nat × Option (Nat × AObj) × Gs)} {k : Nat} {x : Option (Nat × AObj)} {h : Gs}, lkO O k = some (x, h) → ∃ k', (k', x, h) ∈ O
  | [], _, _, _, h => by simp [lkO] at h
  | (k', y) :: r, k, x, g, h => by
    simp only [lkO] at h
    cases hz : Nat.beq k' k with
    | true => rw [hz] at h; simp only [cond_true, Option.some.injEq] at h; subst h; exact ⟨k', by simp⟩
    | false => rw [hz] at h; obtain ⟨k2, h2⟩ := lkO_mem (O := r) h; exact ⟨k2, by simp [h2]⟩
theorem obE_mem {g : Gs} : ∀ {O : List (Nat × Option (Nat × AObj) × Gs)} {k : Nat} {x : Option (Nat × AObj)} {h : Gs} {e : List EqP}, (k, x, h) ∈ O → sfx h g = some e → EqsOk (obE g O) → EqsOk e
  | [], _, _, _, _, hm, _, _ => by simp at hm
  | (k', y, h') :: r, k, x, h, e, hm, hs, he => by
    simp only [obE] at he
    rcases List.mem_cons.1 hm with q | q
    · cases q
      have := he.l
      rw [hs] at this
      exact this
    · exact obE_mem q hs he.r
theorem obJ_s {j : JS} {g : Gs} (he : EqsOk (obE g j.O)) (hc : conj g = true) {k s : Nat} {x : AObj} (h : obJ j.O g k = some (s, x)) : getO j.den.O k = some (s, x) := by
  unfold obJ at h
  split at h
  · rename_i y g' hl
    split at h
    · rename_i e hs
      subst h
      obtain ⟨k', hm⟩ := lkO_mem hl
      have := lkO_den j.O k
      rw [hl] at this
      simp only [sfx_s hs (obE_mem hm hs he) hc, cond_true] at this
      exact this
    · cases h
  · cases h

theorem OpOK.mono {P : Program} {o : Oper} {ev ev' : Operand → TV} {ob ob' : Nat → Option (Nat × AObj)} {f : Nat → Nat} {U : Upd} (h : OpOK P o ev ob f U)
    (he : ∀ x ∈ o.op.operands.toList, ev' x = ev x) (hob : ∀ k s x, ob k = some (s, x) → ob' k = some (s, x)) : OpOK P o ev' ob' f U := by
  refine ⟨h.1, fun G a w hw hev hobs hf => ?_⟩
  have htw : ∀ s, TW ob U.tch s → TW ob' U.tch s := fun s ⟨k, x, hk, hx⟩ => ⟨k, x, hk, hob _ _ _ hx⟩
  have := h.2 G a w hw (fun x hx => by rw [← he x hx]; exact hev x hx)
    ⟨fun k wr hk s x hx => hobs.objs k wr hk s x (hob _ _ _ hx), fun k k' wr wr' hk hk' s x x' hx hx' => hobs.inj k k' wr wr' hk hk' s x x' (hob _ _ _ hx) (hob _ _ _ hx')⟩ hf
  refine Oper.wp_mono (fun a' w' hp => ?_) this
  obtain ⟨v, G', h1, h2, h3, h4, h5, h6, h7⟩ := hp
  exact ⟨v, G', h1, h2, h3, h4.mono fun s hs => htw s hs, h5, fun k s x hx => ⟨(h6 k s x hx).1, (h6 k s x hx).2.1, (h6 k s x hx).2.2.imp id fun hs => htw s hs⟩, h7⟩

/-- The guards of an operation. -/
def gOf (all : List Oper) (F : List (Nat × TV × Gs)) (o : Oper) : Option Gs :=
  match o.guard with
  | none => some []
  | some (j, want) => match (all[j]?).bind (·.dst) with
    | some t => match lkF F t with
      | some (.one (.c (.v (.bool b))), g) => some ((bif want then 2 * j + 1 else 2 * j, bif want then b else !b) :: g)
      | _ => none
    | none => none

structure XR (P : Program) where
  j : JS
  tch : List (Nat × Bool)
  eqs : List EqP
  hs : List (Hint P)

def bit (v : TV) : Option Bool := match v with | .one (.c (.v (.bool b))) => some b | _ => none

/-- The choice behind '&&' and '||': what the guard skipped is not looked at. -/
def xpick (all : List Oper) (F : List (Nat × TV × Gs)) (g : Gs) (c x y : Operand) : Option (TV × List EqP) :=
  match c with
  | .tmp t => match lkF F t with
    | some (.one (.c (.v (.bool b))), gc) => match sfx gc g with
      | some e0 =>
        let side (want : Bool) (z : Operand) : Option (Bool × List EqP) :=
          match z with
          | .tmp u => match lkF F u with
            | some (.one (.c (.v (.bool p))), []) => some (p, [])
            | some (.one (.c (.v (.bool p))), (i, q) :: r) => match sfx r g, sfx ((i, q) :: r) g with
              | _, some e => some (p, e)
              | some e, none => some (p, ⟨Bool, q, bif want then b else !b⟩ :: e)
              | none, none => none
            | _ => none
          | .const (.bool p) => some (p, [])
          | _ => none
        match side true x, side false y with
        | some (p, e1), some (q, e2) => some (.one (.c (.v (.bool (bif b then p else q)))), e0 ++ (e1 ++ e2))
        | _, _ => none
      | none => none
    | _ => none
  | _ => none

/-- What is written under a guard: new objects; boxes that were there, as they are either way. -/
def mrg (O : List (Nat × Option (Nat × AObj) × Gs)) (c : Bool) (g : Gs) : List (Nat × Option (Nat × AObj)) → Option (List (Nat × Option (Nat × AObj) × Gs) × List EqP)
  | [] => some ([], [])
  | (k, x) :: l => match lkO O k, mrg O c g l with
    | none, some (m, e) => some ((k, x, g) :: m, e)
    | some (some (s0, .box cs0), []), some (m, e) => match x with
      | some (s1, .box cs1) => some ((k, some (s0, .box (bif c then cs1 else cs0)), []) :: m, ⟨Nat, s1, s0⟩ :: e)
      | _ => none
    | _, _ => none

def denO (m : List (Nat × Option (Nat × AObj) × Gs)) : List (Nat × Option (Nat × AObj)) := m.map fun x => (x.1, bif conj x.2.2 then x.2.1 else none)

theorem mrg_s {O : List (Nat × Option (Nat × AObj) × Gs)} {c : Bool} {g : Gs} (hg : conj g = c) : ∀ {l : List (Nat × Option (Nat × AObj))} {m : List (Nat × Option (Nat × AObj) × Gs)} {e : List EqP}, mrg O c g l = some (m, e) → EqsOk e →
    (c = true → denO m = l) ∧ (c = false → ∀ k x, (k, x) ∈ denO m → getO (denO O) k = x)
  | [], m, e, h, _ => by simp only [mrg, Option.some.injEq, Prod.mk.injEq] at h; obtain ⟨rfl, _⟩ := h; exact ⟨fun _ => rfl, fun _ k x hx => by simp [denO] at hx⟩
  | (k, x) :: l, m, e, h, he => by
    simp only [mrg] at h
    split at h
    · rename_i m1 e1 hl h1
      cases h
      obtain ⟨g1, g2⟩ := mrg_s hg h1 he
      refine ⟨fun hc => ?_, fun hc k' x' hx => ?_⟩
      · have := g1 hc
        simp only [denO, List.map_cons, hg, hc, cond_true] at this ⊢
        rw [this]
      · simp only [denO, List.map_cons, hg, hc, cond_false, List.mem_cons, Prod.mk.injEq] at hx
        rcases hx with ⟨rfl, rfl⟩ | hx
        · have := lkO_den O k'
          rw [hl] at this
          exact this
        · exact g2 hc k' x' hx
    · rename_i s0 cs0 m1 e1 hl h1
      split at h
      · rename_i s1 cs1
        cases h
        have es : s1 = s0 := he.hd
        subst es
        obtain ⟨g1, g2⟩ := mrg_s hg h1 he.tl
        refine ⟨fun hc => ?_, fun hc k' x' hx => ?_⟩
        · have := g1 hc
          subst hc
          simp only [denO, List.map_cons, conj, cond_true] at this ⊢
          rw [this]
        · subst hc
          simp only [denO, List.map_cons, conj, cond_true, cond_false, List.mem_cons, Prod.mk.injEq] at hx
          rcases hx with ⟨rfl, rfl⟩ | hx
          · have := lkO_den O k'
            rw [hl] at this
            exact this
          · exact g2 rfl k' x' hx
      · cases h
    · cases h

def xop {P : Program} (tt : Nat → Option TD) (all : List Oper) (o : Oper) (j : JS) (f : Nat → Nat) (hs : List (Hint P)) : Option (XR P) :=
  match gOf all j.F o with
  | none => none
  | some g =>
    bif dstB o j.n then
      match o.op with
      | .pick c x y => match xpick all j.F g c x y with
        | some (v, e) => some ⟨⟨match o.dst with | some d => (d, v, g) :: j.F | none => j.F, j.O, j.n⟩, [], e, hs⟩
        | none => none
      | _ => match opsE j.F g o.op.operands.toList, sop tt o (evT j.F g) (obJ j.O g) f (conj g) hs with
        | some e0, some (U, e1, hs') =>
          match g with
          | [] => some ⟨⟨match o.dst with | some d => (d, U.val, []) :: j.F | none => j.F, U.upd.map (fun x => (x.1, x.2, [])) ++ j.O, j.n⟩, U.tch, (e0 ++ obE [] j.O) ++ e1, hs'⟩
          | y :: g' => match mrg j.O (conj (y :: g')) (y :: g') U.upd with
            | some (m, e2) => some ⟨⟨match o.dst with | some d => (d, U.val, y :: g') :: j.F | none => j.F, m ++ j.O, j.n⟩, U.tch, ((e0 ++ obE (y :: g') j.O) ++ e1) ++ e2, hs'⟩
            | none => none
        | _, _ => none
    else none

theorem xpick_s {P : Program} {o : Oper} {all : List Oper} {j : JS} {g : Gs} {c x y : Operand} {v : TV} {e : List EqP} {ob : Nat → Option (Nat × AObj)} {f : Nat → Nat} (ho : o.op = .pick c x y) (h : xpick all j.F g c x y = some (v, e)) (he : EqsOk e) (hc : conj g = true) : OpOK P o (evF (getF j.den.F)) ob f ⟨v, [], []⟩ := by
  unfold xpick at h
  split at h
  · rename_i t
    split at h
    · rename_i b gc hl
      split at h
      · rename_i e0 hs
        dsimp only at h
        split at h
        · rename_i p e1 q e2 hx hy
          cases h
          have hcv : evF (getF j.den.F) (.tmp t) = .one (.c (.v (.bool b))) := evJ_s (e := e0) (by simp only [evJ, hl, hs]) he.l hc
          have side : ∀ (want : Bool) (z : Operand) (p : Bool) (e : List EqP), (match z with
              | .tmp u => match lkF j.F u with
                | some (.one (.c (.v (.bool p))), []) => some (p, [])
                | some (.one (.c (.v (.bool p))), (i, q) :: r) => match sfx r g, sfx ((i, q) :: r) g with
                  | _, some e => some (p, e)
                  | some e, none => some (p, ⟨Bool, q, bif want then b else !b⟩ :: e)
                  | none, none => none
                | _ => none
              | .const (.bool p) => some (p, [])
              | _ => none : Option (Bool × List EqP)) = some (p, e) → EqsOk e → b = want → evF (getF j.den.F) z = .one (.c (.v (.bool p))) := by
            intro want z p e h he hb
            split at h
            · rename_i u
              split at h
              · rename_i p' hl
                cases h
                exact evJ_s (e := []) (g := []) (by simp [evJ, hl, sfx, gEq]) (fun _ h => by simp at h) rfl
              · rename_i p' i q' r hl
                split at h
                · rename_i hs
                  cases h
                  exact evJ_s (by simp only [evJ, hl, hs]) he hc
                · rename_i e' hs1 hs2
                  cases h
                  have hq : q' = (bif want then b else !b) := he.hd
                  have hr := sfx_s hs1 he.tl hc
                  have h1 : conj ((i, q') :: r) = true := by
                    rw [conj_cons, hr, hq, hb]; cases want <;> rfl
                  have := lkF_den j.F u
                  rw [hl] at this
                  simp only [h1, cond_true] at this
                  exact this
                · cases h
              · cases h
            · cases h; rfl
            · cases h
          have hx' := side true x p e1 hx he.r.l
          have hy' := side false y q e2 hy he.r.r
          cases b with
          | true =>
            have := op_pick (P := P) (ob := ob) (f := f) ho hcv (hx' rfl) (rfl : evF (getF j.den.F) y = _)
            rw [pickTV_eq] at this
            exact this
          | false =>
            have := op_pick (P := P) (ob := ob) (f := f) ho hcv (rfl : evF (getF j.den.F) x = _) (hy' rfl)
            rw [pickTV_eq] at this
            exact this
        · cases h
      · cases h
    · cases h
  · cases h

section
variable {P : Program} {tt : Nat → Option TD}

theorem xop_s (hT : TyOK P tt) {all : List Oper} {o : Oper} {os : List Oper} {j : JS} {hs : List (Hint P)} {acc : List (List (Nat × Bool))} {K : St → List (List (Nat × Bool)) → Prop}
    (h : ∀ f, ∃ r, xop tt all o j f hs = some r ∧ EqsOk r.eqs ∧ RunsJ P all os r.j.den (r.tch :: acc) K) : RunsJ P all (o :: os) j.den acc K := by
  -- what one step tells
  have key : ∀ f r g, xop tt all o j f hs = some r → gOf all j.F o = some g → EqsOk r.eqs → dstB o j.n = true ∧ ∃ U, (conj g = true → OpOK P o (evF (getF j.den.F)) (getO j.den.O) f U) ∧ r.j.den = j.den.app o.dst U ∧
      U.tch = r.tch ∧ (conj g = false → U.val = .ud ∧ ∀ k x, (k, x) ∈ U.upd → getO j.den.O k = x) := by
    intro f r g hx hg he
    unfold xop at hx
    rw [hg] at hx
    dsimp only at hx
    cases hd : dstB o j.n with
    | false => rw [hd] at hx; cases hx
    | true =>
      refine ⟨rfl, ?_⟩
      rw [hd] at hx
      simp only [cond_true] at hx
      split at hx
      · rename_i c x y ho
        split at hx
        · rename_i v e hp
          cases hx
          refine ⟨⟨bif conj g then v else .ud, [], []⟩, fun hc => by rw [hc]; exact xpick_s ho hp he hc, ?_, rfl, fun hc => ⟨by rw [hc]; rfl, fun k x hk => by simp at hk⟩⟩
          simp only [JS.den, St.app, List.nil_append, St.mk.injEq, and_true]
          cases o.dst <;> rfl
        · cases hx
      · split at hx
        · rename_i e0 U e1 hs' hE hS
          split at hx
          · cases hx
            refine ⟨U, fun hc => (sop_w hT hs U e1 hs' hS he.r hc).mono (opsE_s hE he.l.l hc) fun k s x hk => obJ_s he.l.r hc hk, ?_, rfl, fun hc => by simp [conj] at hc⟩
            simp only [JS.den, St.app, List.map_append, List.map_map, St.mk.injEq, and_true]
            refine ⟨by cases o.dst <;> rfl, ?_⟩
            congr 1
            exact (List.map_congr_left fun x _ => rfl).trans (List.map_id _)
          · rename_i y g'
            split at hx
            · rename_i m e2 hm
              cases hx
              obtain ⟨q1, q2⟩ := mrg_s rfl hm he.r
              refine ⟨⟨bif conj (y :: g') then U.val else .ud, denO m, U.tch⟩, fun hc => ?_, ?_, rfl, fun hc => ⟨by simp only [hc, cond_false], q2 hc⟩⟩
              · have hq := q1 hc
                have e : (⟨bif conj (y :: g') then U.val else .ud, denO m, U.tch⟩ : Upd) = U := by rw [hc, hq]; rfl
                rw [e]
                exact (sop_w hT hs U e1 hs' hS he.l.r hc).mono (opsE_s hE he.l.l.l hc) fun k s x hk => obJ_s he.l.l.r hc hk
              · simp only [JS.den, St.app, List.map_append, St.mk.injEq, and_true]
                refine ⟨by cases o.dst <;> rfl, rfl⟩
            · cases hx
        · cases hx
  unfold RunsJ
  obtain ⟨r0, hr0, he0, _⟩ := h fun _ => 0
  cases hg : gOf all j.F o with
  | none => simp [xop, hg] at hr0
  | some g =>
    refine ⟨dstB_spec (n := j.den.n) (key _ _ _ hr0 hg he0).1, ?_⟩
    unfold gOf at hg
    cases hgu : o.guard with
    | none =>
      rw [hgu] at hg
      cases hg
      intro f
      obtain ⟨r, hr, he, hk⟩ := h f
      obtain ⟨_, U, h1, h2, h3, _⟩ := key f r [] hr (by simp [gOf, hgu]) he
      refine ⟨U, h1 rfl, ?_⟩
      rw [← h2, h3]
      exact hk
    | some jw =>
      obtain ⟨i, want⟩ := jw
      rw [hgu] at hg
      dsimp only at hg
      split at hg
      · rename_i t ht
        split at hg
        · rename_i b g0 hl
          have hg' : gOf all j.F o = some g := by simp only [gOf, hgu, ht, hl]; exact hg
          cases hg
          have hlk := lkF_den j.F t
          rw [hl] at hlk
          refine ⟨t, ht, conj ((bif want then 2 * i + 1 else 2 * i, bif want then b else !b) :: g0), ?_, ?_, fun f => ?_⟩
          · intro hc
            rw [conj_cons] at hc
            simp only [Bool.and_eq_true] at hc
            show getF (j.F.map _) t = _
            rw [hlk]
            simp only [hc.2, cond_true]
            cases want <;> simp_all
          · intro hc
            rw [conj_cons] at hc
            show getF (j.F.map _) t = _ ∨ getF (j.F.map _) t = _
            rw [hlk]
            cases hq : conj g0 with
            | false => left; simp [hq]
            | true =>
              right
              rw [hq] at hc
              cases want <;> simp_all
          · obtain ⟨r, hr, he, hk⟩ := h f
            obtain ⟨_, U, h1, h2, h3, h4⟩ := key f r _ hr hg' he
            refine ⟨U, h1, h4, ?_⟩
            rw [← h2, h3]; exact hk
        · cases hg
      · cases hg

/-- The rest of a region. -/
def xrun (tt : Nat → Option TD) (all : List Oper) (fs : Nat → Nat → Nat) : List Oper → Nat → JS → List (Hint P) → Option (XR P)
  | [], _, j, hs => some ⟨j, [], [], hs⟩
  | o :: os, i, j, hs => match xop tt all o j (fs i) hs with
    | some r => xrun tt all fs os (i + 1) r.j r.hs
    | none => none
/-- What must be one. -/
def xeqs (tt : Nat → Option TD) (all : List Oper) (fs : Nat → Nat → Nat) : List Oper → Nat → JS → List (Hint P) → List EqP
  | [], _, j, hs => []
  | o :: os, i, j, hs => match xop tt all o j (fs i) hs with
    | some r => r.eqs ++ xeqs tt all fs os (i + 1) r.j r.hs
    | none => []
/-- What is touched. -/
def xtch (tt : Nat → Option TD) (all : List Oper) (fs : Nat → Nat → Nat) : List Oper → Nat → JS → List (Hint P) → List (List (Nat × Bool))
  | [], _, j, hs => []
  | o :: os, i, j, hs => match xop tt all o j (fs i) hs with
    | some r => r.tch :: xtch tt all fs os (i + 1) r.j r.hs
    | none => []

theorem xrun_s (hT : TyOK P tt) {all : List Oper} {K : St → List (List (Nat × Bool)) → Prop} : ∀ (os : List Oper) (i : Nat) (j : JS) (hs : List (Hint P)) (acc : List (List (Nat × Bool))) (pre : Nat → Nat → Nat),
    (∀ fs, (∀ k, k < i → fs k = pre k) → ∃ r, xrun tt all fs os i j hs = some r ∧ EqsOk (xeqs tt all fs os i j hs) ∧ K r.j.den ((xtch tt all fs os i j hs).reverse ++ acc)) → RunsJ P all os j.den acc K
  | [], i, j, hs, acc, pre, h => by
    obtain ⟨r, h1, _, h2⟩ := h pre fun _ _ => rfl
    simp only [xrun, Option.some.injEq] at h1
    subst h1
    have h3 : K j.den acc := by simpa [xtch] using h2
    exact h3
  | o :: os, i, j, hs, acc, pre, h => by
    refine xop_s hT (hs := hs) fun f => ?_
    obtain ⟨r, h1, h2, h3⟩ := h (fun k => if k = i then f else pre k) fun k hk => by rw [if_neg (by omega)]
    simp only [xrun, xeqs, xtch, if_true] at h1 h2 h3
    cases hx : xop tt all o j f hs with
    | none => rw [hx] at h1; cases h1
    | some r0 =>
      rw [hx] at h1 h2 h3
      refine ⟨r0, rfl, h2.l, xrun_s hT os (i + 1) r0.j r0.hs (r0.tch :: acc) (fun k => if k = i then f else pre k) fun fs hfs => ?_⟩
      have hfi : fs i = f := by rw [hfs i (by omega), if_pos rfl]
      obtain ⟨r', g1, g2, g3⟩ := h fs fun k hk => by rw [hfs k (by omega), if_neg (by omega)]
      simp only [xrun, xeqs, xtch, hfi, hx] at g1 g2 g3
      exact ⟨r', g1, g2.r, by simpa using g3⟩

/-- The end of a region, as it is told. -/
def finF (F : List (Nat × TV × Gs)) : List (Nat × TV) → Option (List (Nat × TV))
  | [] => some []
  | (d, _) :: l => match lkF F d, finF F l with
    | some (v, []), some r => some ((d, v) :: r)
    | _, _ => none
def finO (O : List (Nat × Option (Nat × AObj) × Gs)) : List (Nat × Option (Nat × AObj)) → Option (List (Nat × Option (Nat × AObj)))
  | [] => some []
  | (d, _) :: l => match lkO O d, finO O l with
    | some (v, []), some r => some ((d, v) :: r)
    | _, _ => none
def finS (s : St) (r : Option (XR P)) : Option St :=
  match r with
  | some r => match finF r.j.F s.F, finO r.j.O s.O with
    | some F, some O => some ⟨F, O, r.j.n⟩
    | _, _ => none
  | none => none

theorem finF_s {j : JS} : ∀ {l : List (Nat × TV)}, finF j.F l = some l → subF l j.den.F
  | [], _ => trivial
  | (d, v) :: l, h => by
    simp only [finF] at h
    split at h
    · rename_i v' r hl hr
      simp only [Option.some.injEq, List.cons.injEq, Prod.mk.injEq, true_and] at h
      obtain ⟨rfl, rfl⟩ := h
      refine ⟨?_, finF_s hr⟩
      have := lkF_den j.F d
      rw [hl] at this
      exact this
    · cases h
theorem finO_s {j : JS} : ∀ {l : List (Nat × Option (Nat × AObj))}, finO j.O l = some l → subO l j.den.O
  | [], _ => trivial
  | (d, v) :: l, h => by
    simp only [finO] at h
    split at h
    · rename_i v' r hl hr
      simp only [Option.some.injEq, List.cons.injEq, Prod.mk.injEq, true_and] at h
      obtain ⟨rfl, rfl⟩ := h
      refine ⟨?_, finO_s hr⟩
      have := lkO_den j.O d
      rw [hl] at this
      exact this
    · cases h
theorem finS_s {s : St} {x : Option (XR P)} (h : finS s x = some s) : ∃ r, x = some r ∧ Sub s r.j.den := by
  unfold finS at h
  split at h
  · rename_i r
    split at h
    · rename_i F O hF hO
      cases s with | mk F' O' n' =>
      simp only [Option.some.injEq, St.mk.injEq] at h
      obtain ⟨rfl, rfl, rfl⟩ := h
      exact ⟨r, rfl, finF_s hF, finO_s hO, rfl⟩
    · cases h
  · cases h

variable {Q : Exit → St → Prop} {st : St} {id : Nat} {l : List Oper}

/-- **A region at one stroke**: its end, and what must be one. -/
theorem x_reg (hT : TyOK P tt) (hs : List (Hint P)) (s : (Nat → Nat → Nat) → St) (h1 : ∀ fs, finS (s fs) (xrun tt l fs l 0 st.js hs) = some (s fs)) (h2 : ∀ fs, (xeqs tt l fs l 0 st.js hs).map EqP.dup = xeqs tt l fs l 0 st.js hs)
    (k : ∀ fs s', Sub (s fs) s' → Q .normal s') : WP P (.region id l.toArray false) Q st := by
  have := xrun_s hT (all := l) (K := fun s _ => Q .normal s) l 0 st.js hs [] (fun _ _ => 0) fun fs _ => by
    obtain ⟨r, h3, h4⟩ := finS_s (h1 fs)
    exact ⟨r, h3, eqs_ok (h2 fs), k fs _ h4⟩
  rw [js_den] at this
  exact j_region this

theorem x_draw (hT : TyOK P tt) (hm : P.follows .mixedOrders = true) (hs : List (Hint P)) (s : (Nat → Nat → Nat) → St) (h1 : ∀ fs, finS (s fs) (xrun tt l fs l 0 st.js hs) = some (s fs)) (h2 : ∀ fs, (xeqs tt l fs l 0 st.js hs).map EqP.dup = xeqs tt l fs l 0 st.js hs)
    (h3 : ∀ fs, depOk l (xtch tt l fs l 0 st.js hs) = true) (k : ∀ fs s', Sub (s fs) s' → Q .normal s') : WP P (.region id l.toArray true) Q st := by
  have := xrun_s hT (all := l) (K := fun s acc => depOk l acc.reverse = true ∧ Q .normal s) l 0 st.js hs [] (fun _ _ => 0) fun fs _ => by
    obtain ⟨r, h4, h5⟩ := finS_s (h1 fs)
    exact ⟨r, h4, eqs_ok (h2 fs), by simpa using h3 fs, k fs _ h5⟩
  rw [js_den] at this
  exact j_draw hm this

variable {c y : Code} {Q' : Exit → St → Prop}

/-- In a row; at the end of a branch. -/
theorem xr (hT : TyOK P tt) (hs : List (Hint P)) (s : (Nat → Nat → Nat) → St) (h1 : ∀ fs, finS (s fs) (xrun tt l fs l 0 st.js hs) = some (s fs)) (h2 : ∀ fs, (xeqs tt l fs l 0 st.js hs).map EqP.dup = xeqs tt l fs l 0 st.js hs)
    (k : ∀ fs, WP P c Q (s fs)) : WP P (.seq (.region id l.toArray false) c) Q st := w_seq (x_reg hT hs s h1 h2 fun fs s' hs => w_sub hs (k fs))
theorem xd (hT : TyOK P tt) (hm : P.follows .mixedOrders = true) (hs : List (Hint P)) (s : (Nat → Nat → Nat) → St) (h1 : ∀ fs, finS (s fs) (xrun tt l fs l 0 st.js hs) = some (s fs)) (h2 : ∀ fs, (xeqs tt l fs l 0 st.js hs).map EqP.dup = xeqs tt l fs l 0 st.js hs)
    (h3 : ∀ fs, depOk l (xtch tt l fs l 0 st.js hs) = true) (k : ∀ fs, WP P c Q (s fs)) : WP P (.seq (.region id l.toArray true) c) Q st := w_seq (x_draw hT hm hs s h1 h2 h3 fun fs s' hs => w_sub hs (k fs))
theorem xr1 (hq : ∀ s, Q .normal s = WP P y Q' s) (hT : TyOK P tt) (hs : List (Hint P)) (s : (Nat → Nat → Nat) → St) (h1 : ∀ fs, finS (s fs) (xrun tt l fs l 0 st.js hs) = some (s fs)) (h2 : ∀ fs, (xeqs tt l fs l 0 st.js hs).map EqP.dup = xeqs tt l fs l 0 st.js hs)
    (k : ∀ fs, WP P y Q' (s fs)) : WP P (.region id l.toArray false) Q st := x_reg hT hs s h1 h2 fun fs s' hs => by rw [hq]; exact w_sub hs (k fs)
theorem xd1 (hq : ∀ s, Q .normal s = WP P y Q' s) (hT : TyOK P tt) (hm : P.follows .mixedOrders = true) (hs : List (Hint P)) (s : (Nat → Nat → Nat) → St) (h1 : ∀ fs, finS (s fs) (xrun tt l fs l 0 st.js hs) = some (s fs)) (h2 : ∀ fs, (xeqs tt l fs l 0 st.js hs).map EqP.dup = xeqs tt l fs l 0 st.js hs)
    (h3 : ∀ fs, depOk l (xtch tt l fs l 0 st.js hs) = true) (k : ∀ fs, WP P y Q' (s fs)) : WP P (.region id l.toArray true) Q st := x_draw hT hm hs s h1 h2 h3 fun fs s' hs => by rw [hq]; exact w_sub hs (k fs)
end
end Go.Lap
