/- The engine's fourth part: code, loops, functions. -/
import Derived.Test.YtihiganlkecbaaaEc
namespace Go.Lap
open Go.RowKit

/-! ### Types, as a table -/
inductive TK where
  | sc
  | st (fs : List (Nat × Nat))
  | slc (e : Nat)
  | mp (k e : Nat)

structure TD where
  k : TK
  size : Nat
  bytes : Nat
  zero : List Value

def TD.agg (d : TD) : Bool := match d.k with | .st _ => true | _ => false

structure TDOK (P : Program) (t : Nat) (d : TD) : Prop where
  info : ∃ i z, P.info? t = some i ∧ i.size = d.size ∧ i.bytes = d.bytes ∧ i.zero = some z ∧ z.cells.toList = d.zero
  und : ∃ u, P.underlying t = some u ∧ match d.k with
    | .sc => (match u with | .struct _ | .array _ _ => true | _ => false) = false
    | .st fs => ∃ fields, u = .struct fields ∧ fields.toList.map (fun f => (f.offset, f.type)) = fs
    | .slc e => u = .slice e
    | .mp k e => u = .map k e
  zlen : d.zero.length = d.size
  zpl : ∀ x ∈ d.zero, isPlain x = true

def TyOK (P : Program) (tt : Nat → Option TD) : Prop := ∀ t d, tt t = some d → TDOK P t d

section
variable {P : Program} {tt : Nat → Option TD}

theorem TDOK.run_info {t : Nat} {d : TD} (h : TDOK P t d) (w : World) : ∃ i z, (typeInfo t).run P w = .ok i w ∧ i.size = d.size ∧ i.bytes = d.bytes ∧ i.zero = some z ∧ z.cells.toList = d.zero := by
  obtain ⟨i, z, h1, h2, h3, h4, h5⟩ := h.info
  exact ⟨i, z, by simp [typeInfo, h1], h2, h3, h4, h5⟩

theorem TDOK.run_size {t : Nat} {d : TD} (h : TDOK P t d) (w : World) : (sizeOf t).run P w = .ok d.size w := by
  obtain ⟨i, z, h1, h2, _⟩ := h.info
  simp [sizeOf, typeInfo, h1, h2]

theorem TDOK.run_zero {t : Nat} {d : TD} (h : TDOK P t d) (w : World) : ∃ z, (zeroValue t).run P w = .ok z w ∧ z.cells.toList = d.zero := by
  obtain ⟨i, z, h1, _, _, h4, h5⟩ := h.info
  exact ⟨z, by simp [zeroValue, typeInfo, h1, h4], h5⟩

theorem TDOK.run_agg {t : Nat} {d : TD} (h : TDOK P t d) (w : World) : (isAgg t).run P w = .ok d.agg w := by
  obtain ⟨u, h1, h2⟩ := h.und
  unfold isAgg TD.agg
  cases hk : d.k with
  | sc =>
    simp only [hk] at h2
    simp only [Sem.run_bind, run_underlying h1, Result.andThen_ok]
    cases u <;> simp_all
  | st fs => simp only [hk] at h2; obtain ⟨fields, rfl, _⟩ := h2; simp [run_underlying h1]
  | slc e => simp only [hk] at h2; subst h2; simp [run_underlying h1]
  | mp k e => simp only [hk] at h2; subst h2; simp [run_underlying h1]

theorem TDOK.run_slice {t e : Nat} {d : TD} (h : TDOK P t d) (hk : d.k = .slc e) (w : World) : (underlying t).run P w = .ok (.slice e) w := by
  obtain ⟨u, h1, h2⟩ := h.und
  simp only [hk] at h2; subst h2; exact run_underlying h1 w

theorem TDOK.und_slice {t e : Nat} {d : TD} (h : TDOK P t d) (hk : d.k = .slc e) : P.underlying t = some (.slice e) := by
  obtain ⟨u, h1, h2⟩ := h.und
  simp only [hk] at h2; subst h2; exact h1

theorem TDOK.und_struct {t : Nat} {fs : List (Nat × Nat)} {d : TD} (h : TDOK P t d) (hk : d.k = .st fs) : ∃ fields, P.underlying t = some (.struct fields) ∧ fields.toList.map (fun f => (f.offset, f.type)) = fs := by
  obtain ⟨u, h1, h2⟩ := h.und
  simp only [hk] at h2; obtain ⟨fields, rfl, h3⟩ := h2; exact ⟨fields, h1, h3⟩
end

/-! ### Code -/
def WP (P : Program) (c : Code) (Q : Exit → St → Prop) (st : St) : Prop :=
  ∀ G a w, RelSt st G a w → c.wp P (fun e a' w' => ∃ st' G', Q e st' ∧ RelSt st' G' a' w' ∧ Evol (fun _ => True) w G w' G') a w

section
variable {P : Program} {Q : Exit → St → Prop} {st : St}

theorem WP.mono {c : Code} {Q' : Exit → St → Prop} (h : WP P c Q st) (hq : ∀ e s, Q e s → Q' e s) : WP P c Q' st := fun G a w hr =>
  wp_mono (h G a w hr) fun _ _ _ ⟨st', G', h1, h2, h3⟩ => ⟨st', G', hq _ _ h1, h2, h3⟩

theorem w_skip (h : Q .normal st) : WP P .skip Q st := fun G _ w hr => wp_skip ⟨st, G, h, hr, Evol.refl _ w G⟩
theorem w_ret (h : Q .ret st) : WP P .ret Q st := fun G _ w hr => wp_ret ⟨st, G, h, hr, Evol.refl _ w G⟩
theorem w_exit {id : Nat} (h : Q (.exit id) st) : WP P (.exit id) Q st := fun G _ w hr => wp_exit ⟨st, G, h, hr, Evol.refl _ w G⟩

def seqQ (K : St → Prop) (Q : Exit → St → Prop) : Exit → St → Prop
  | .normal, st => K st
  | e, st => Q e st

theorem w_seq {x y : Code} (h : WP P x (seqQ (WP P y Q) Q) st) : WP P (.seq x y) Q st := fun G a w hr => by
  refine wp_seq (wp_mono (h G a w hr) fun e a' w' ⟨st', G', h1, h2, h3⟩ => ?_)
  cases e with
  | normal =>
    refine wp_mono (h1 G' a' w' h2) fun e a'' w'' ⟨st'', G'', k1, k2, k3⟩ => ⟨st'', G'', k1, k2, h3.trans k3⟩
  | exit id => exact ⟨st', G', h1, h2, h3⟩
  | goto l => exact ⟨st', G', h1, h2, h3⟩
  | ret => exact ⟨st', G', h1, h2, h3⟩
  | panic ch => exact ⟨st', G', h1, h2, h3⟩
  | outgrown => exact ⟨st', G', h1, h2, h3⟩

theorem w_cond {c : Operand} {x y : Code} {b : Bool} (hc : evF (getF st.F) c = .one (.c (.v (.bool b)))) (ht : b = true → WP P x Q st) (hf : b = false → WP P y Q st) : WP P (.cond c x y) Q st := fun G a w hr => by
  have h := hr.ev c
  rw [hc] at h
  have h' : a.eval c = .bool b := h
  exact wp_cond_split h' (fun e => ht e G a w hr) (fun e => hf e G a w hr)

def blockQ (id : Nat) (Q : Exit → St → Prop) : Exit → St → Prop
  | .exit id', st => if id' = id then Q .normal st else Q (.exit id') st
  | e, st => Q e st

theorem w_block {id : Nat} {c : Code} (h : WP P c (blockQ id Q) st) : WP P (.block id c) Q st := fun G a w hr => by
  refine wp_block (wp_mono (h G a w hr) fun e a' w' ⟨st', G', h1, h2, h3⟩ => ?_)
  cases e with
  | exit id' =>
    simp only [blockQ] at h1
    simp only [Exit.inBlock]
    split
    · rename_i e; rw [if_pos e] at h1; exact ⟨st', G', h1, h2, h3⟩
    · rename_i e; rw [if_neg e] at h1; exact ⟨st', G', h1, h2, h3⟩
  | normal => exact ⟨st', G', h1, h2, h3⟩
  | goto l => exact ⟨st', G', h1, h2, h3⟩
  | ret => exact ⟨st', G', h1, h2, h3⟩
  | panic ch => exact ⟨st', G', h1, h2, h3⟩
  | outgrown => exact ⟨st', G', h1, h2, h3⟩

/-- What is told of the slots and objects in 's' is told in 'st', too. -/
def subF : List (Nat × TV) → List (Nat × TV) → Prop
  | [], _ => True
  | (k, x) :: r, F => getF F k = x ∧ subF r F

def subO : List (Nat × Option (Nat × AObj)) → List (Nat × Option (Nat × AObj)) → Prop
  | [], _ => True
  | (k, x) :: r, O => getO O k = x ∧ subO r O

structure Sub (s st : St) : Prop where
  F : subF s.F st.F
  O : subO s.O st.O
  n : s.n = st.n

theorem subF_get : ∀ {r F : List (Nat × TV)}, subF r F → ∀ d, getF r d = .dead ∨ getF r d = getF F d
  | [], _, _, _ => .inl rfl
  | (k, x) :: r, F, h, d => by
    simp only [getF]
    by_cases e : k = d
    · subst e; simp [h.1]
    · have : (k == d) = false := by simpa using e
      simp only [this, cond_false]; exact subF_get h.2 d

theorem subO_get : ∀ {r O : List (Nat × Option (Nat × AObj))}, subO r O → ∀ d x, getO r d = some x → getO O d = some x
  | (k, y) :: r, O, h, d, x, hx => by
    simp only [getO] at hx
    by_cases e : k = d
    · subst e; simp at hx; rw [h.1]; exact hx
    · have : (k == d) = false := by simpa using e
      simp only [this, cond_false] at hx; exact subO_get h.2 d x hx

theorem Sub.rel {s : St} (h : Sub s st) {G : Gh} {a : Act} {w : World} (hr : RelSt st G a w) : RelSt s G a w := by
  refine ⟨hr.dfr, by rw [h.n]; exact hr.sz, hr.wf, fun d => ?_, fun k x o hx => hr.objs k x o (subO_get h.O k _ hx), fun k k' x o o' hx hx' => hr.inj k k' x o o' (subO_get h.O k _ hx) (subO_get h.O k' _ hx')⟩
  rcases subF_get h.F d with e | e
  · rw [e]; trivial
  · rw [e]; exact hr.slots d

theorem w_sub {c : Code} {s : St} (h : Sub s st) (hw : WP P c Q s) : WP P c Q st := fun G a w hr => hw G a w (h.rel hr)

/-- A cut: the code that comes to one of several states. -/
theorem w_cut {α : Type} {x y : Code} (I : α → St) (hx : WP P x (seqQ (fun s => ∃ i, Sub (I i) s) Q) st) (hy : ∀ i, WP P y Q (I i)) : WP P (.seq x y) Q st := by
  refine w_seq (hx.mono fun e s h => ?_)
  cases e with
  | normal => obtain ⟨i, hs⟩ := h; exact w_sub hs (hy i)
  | _ => exact h

def loopQ {α : Type} (I : α → St) (μ : α → Nat) (m : Nat) (Q : Exit → St → Prop) : Exit → St → Prop
  | .normal, s => ∃ y, μ y < m ∧ Sub (I y) s
  | e, s => Q e s

theorem w_loop {α : Type} {c : Code} (I : α → St) (μ : α → Nat) (x0 : α) (h0 : Sub (I x0) st) (round : ∀ x, WP P c (loopQ I μ (μ x) Q) (I x)) : WP P (.loop c) Q st := by
  intro G0 a0 w0 hr0
  have hr0' := h0.rel hr0
  intro b k cs
  have key : ∀ n x G a w, μ x = n → RelSt (I x) G a w → Evol (fun _ => True) w0 G0 w G →
      ∃ e a' w', (∃ st' G', Q e st' ∧ RelSt st' G' a' w' ∧ Evol (fun _ => True) w0 G0 w' G') ∧ Arrives P (lone (b.at a (.code c :: .inLoop c :: k)) cs w) b k cs e a' w' := by
    intro n
    induction n using Nat.strongRecOn with
    | _ n ih =>
      intro x G a w hn hr hev
      obtain ⟨e, a₁, w₁, ⟨st', G', hq, hr', hev'⟩, harr⟩ := round x G a w hr b (.inLoop c :: k) cs
      cases e with
      | normal =>
        obtain ⟨y, hlt, hsub⟩ := hq
        obtain ⟨e₂, a₂, w₂, hq₂, harr₂⟩ := ih (μ y) (hn ▸ hlt) y G' a₁ w₁ rfl (hsub.rel hr') (hev.trans hev')
        exact ⟨e₂, a₂, w₂, hq₂, .of_steps (Steps.trans harr (.one step_inLoop)) harr₂⟩
      | exit id => exact ⟨_, a₁, w₁, ⟨st', G', hq, hr', hev.trans hev'⟩, .pass (x := .inLoop c) rfl (fun _ _ => .inl (by simp)) harr⟩
      | goto l => exact ⟨_, a₁, w₁, ⟨st', G', hq, hr', hev.trans hev'⟩, .pass (x := .inLoop c) rfl (fun _ _ => .inl (by simp)) harr⟩
      | ret => exact ⟨_, a₁, w₁, ⟨st', G', hq, hr', hev.trans hev'⟩, .pass (x := .inLoop c) rfl (fun _ _ => .inl (by simp)) harr⟩
      | panic ch => exact ⟨_, a₁, w₁, ⟨st', G', hq, hr', hev.trans hev'⟩, .pass (x := .inLoop c) rfl (fun _ _ => .inl (by simp)) harr⟩
      | outgrown => exact ⟨_, a₁, w₁, ⟨st', G', hq, hr', hev.trans hev'⟩, .pass (x := .inLoop c) rfl (fun _ _ => .inl (by simp)) harr⟩
  obtain ⟨e, a', w', hq, harr⟩ := key _ x0 G0 a0 w0 rfl hr0' (Evol.refl _ _ _)
  exact ⟨e, a', w', hq, .of_steps (.one step_loop) harr⟩

/-! ### Regions -/
theorem oper_mono {o : Oper} {a : Act} {w : World} {K K' : Act → World → Prop} {Q' : Exit → Act → World → Prop} (hK : ∀ a w, K a w → K' a w) (hh : o.wp P a w K (fun _ _ _ => False)) : o.wp P a w K' Q' := by
  unfold Oper.wp at *
  generalize (execOp a.eval o).run P w = r at *
  cases r with
  | ok nx w' =>
    cases nx <;> simp only [Oper.upon] at hh ⊢ <;>
      first
        | exact hK _ _ hh
        | exact Calls.mono hh (fun e w'' he => by cases e <;> first | exact hK _ _ he | exact he.elim | (obtain ⟨_, _, h⟩ := he; exact h.elim))
        | exact Rows.mono hh (fun _ _ he => hK _ _ he)
  | halt x w' => cases x <;> simp only [Oper.upon] at hh ⊢ <;> exact hh.elim

theorem fs_inj {N m i j k l : Nat} (hi : i < m) (hj : j < m) (h : N + k * m + i = N + l * m + j) : i = j ∧ k = l := by
  have h' : k * m + i = l * m + j := by omega
  have e1 : (k * m + i) % m = i := by rw [Nat.add_comm, Nat.add_mul_mod_self_right, Nat.mod_eq_of_lt hi]
  have e2 : (l * m + j) % m = j := by rw [Nat.add_comm, Nat.add_mul_mod_self_right, Nat.mod_eq_of_lt hj]
  have hij : i = j := by rw [← e1, ← e2, h']
  subst hij
  have : k * m = l * m := by omega
  exact ⟨rfl, Nat.eq_of_mul_eq_mul_right (by omega) this⟩

theorem ChOk.dst {all : List Oper} {n : Nat} : ∀ (l : List Stp) (S : SF), ChOk P all n l S → ∀ s ∈ l, ∀ d, s.o.dst = some d → d < n := by
  intro l
  induction l with
  | nil => intro S _ s hs; simp at hs
  | cons x l ih =>
    intro S h s hs d hd
    rcases List.mem_cons.1 hs with e | e
    · subst e; exact h.1.1 d hd
    · exact ih _ h.2 s e d hd

theorem wpList_of {all : List Oper} {n : Nat} {Q : Exit → Act → World → Prop} {S1 : SF} (fs : Nat → Nat → Nat) (used0 : Nat → Prop) (m : Nat)
    (hinj : ∀ i j k l, i < m → j < m → fs i k = fs j l → i = j ∧ k = l) (hun : ∀ i k, ¬ used0 (fs i k)) (hd : ∀ (j : Nat) d, (all[j]?).bind (·.dst) = some d → d < n) (w0 : World) (G0 : Gh)
    (hQ : ∀ G a w, Rel S1.F S1.O n G a w → Evol (fun _ => True) w0 G0 w G → Q .normal a w) : ∀ (l : List Stp) (base : Nat) (S : SF) (G : Gh) (a : Act) (w : World), base + l.length ≤ m → ChOk P all n l S → chRun l S = S1 →
      (∀ (i : Nat) s, l[i]? = some s → ∀ U f, s.x = some (U, f) → f = fs (base + i)) → Rel S.F S.O n G a w → Evol (fun _ => True) w0 G0 w G → (∀ s, G.used s → used0 s ∨ ∃ i k, i < base ∧ s = fs i k) →
      wpList P all.toArray Q (l.map (·.o)) a w
  | [], base, S, G, a, w, _, _, hrun, _, hrel, hev, _ => by
    simp only [chRun] at hrun; subst hrun
    exact hQ G a w hrel hev
  | s :: l, base, S, G, a, w, hlen, hch, hrun, hfx, hrel, hev, hus => by
    obtain ⟨hs, hch⟩ := hch
    simp only [List.length_cons] at hlen
    have fin : ∀ G' a' w', Rel (S.app s).F (S.app s).O n G' a' w' → Evol (fun _ => True) w G w' G' → (∀ x, G'.used x → G.used x ∨ ∃ k, x = fs base k) → wpList P all.toArray Q (l.map (·.o)) a' w' := by
      intro G' a' w' hr' he' hu'
      refine wpList_of fs used0 m hinj hun hd w0 G0 hQ l (base + 1) (S.app s) G' a' w' (by omega) hch hrun (fun i s' hi U f hx => ?_) hr' (hev.trans he') (fun x hx => ?_)
      · have := hfx (i + 1) s' (by simpa using hi) U f hx; rw [this]; congr 1; omega
      · rcases hu' x hx with h | ⟨k, h⟩
        · rcases hus x h with h | ⟨i, k, h1, h2⟩
          · exact .inl h
          · exact .inr ⟨i, k, by omega, h2⟩
        · exact .inr ⟨base, k, by omega, h⟩
    simp only [List.map_cons]
    unfold wpList
    have hs2 := hs.2
    cases hx : s.x with
    | none =>
      simp only [hx] at hs2
      have hw := hs2.wanted hrel hd
      simp only [hw, Bool.false_eq_true, if_false]
      have e1 : s.u = skipU := by simp [Stp.u, hx]
      refine fin G _ w ?_ (Evol.refl _ _ _) (fun s hs => .inl hs)
      have e2 : updO [] S.O = S.O := by funext k; simp [updO]
      simp only [SF.app, e1, skipU, e2]
      exact hrel.skip s.o.dst hs.1
    | some pu =>
      obtain ⟨U, f⟩ := pu
      have e1 : s.u = U := by simp [Stp.u, hx]
      have hff := hfx 0 s (by simp) U f hx
      simp only [Nat.add_zero] at hff
      subst hff
      simp only [hx] at hs2
      have hw := hs2.2.wanted hrel hd
      simp only [hw, if_true]
      refine .inl ?_
      have hfresh : Fresh G (fs base) := ⟨fun k hk => by
        rcases hus _ hk with h | ⟨j, l, h1, h2⟩
        · exact hun base k h
        · have := (hinj base j k l (by omega) (by omega) h2).1; omega, fun k l h => (hinj base base k l (by omega) (by omega) h).2⟩
      have hwp := hs2.1.2 G a w hrel.wf (fun x _ => hrel.ev x) (hrel.obs _) hfresh
      refine oper_mono (fun a' w' hp => ?_) hwp
      obtain ⟨G', hr', he', hu'⟩ := hrel.step hs2.1.1 hfresh hs.1 hp
      refine fin G' a' w' ?_ he' hu'
      simp only [SF.app, e1]
      exact hr'

theorem runs_dst {l : List Stp} {all : List Oper} {n : Nat} {S : SF} (h1 : l.map (·.o) = all) (h2 : ChOk P all n l S) : ∀ (j : Nat) d, (all[j]?).bind (·.dst) = some d → d < n := by
  intro j d hj
  subst h1
  simp only [List.getElem?_map] at hj
  cases hs : l[j]? with
  | none => simp [hs] at hj
  | some s =>
    simp [hs] at hj
    exact ChOk.dst l S h2 s (List.mem_of_getElem? hs) d hj

theorem w_region {id : Nat} {l : List Oper} (h : Runs P l l st [] fun s _ => Q .normal s) : WP P (.region id l.toArray false) Q st := fun G a w hr => by
  obtain ⟨N, hN⟩ := hr.wf.fin
  obtain ⟨ls, h1, h2, h3, st', h4, h5, h6⟩ := Runs.chain (fun i k => N + k * (l.length + 1) + i) l 0 st [] h
  have hll : ls.length = l.length := by rw [← h1]; simp
  refine wp_region_lit ?_
  have := wpList_of (P := P) (Q := fun e a' w' => ∃ st' G', Q e st' ∧ RelSt st' G' a' w' ∧ Evol (fun _ => True) w G w' G') (S1 := st'.sf) (n := st.n) (all := l)
    (fun i k => N + k * (l.length + 1) + i) G.used (l.length + 1) (fun i j k l hi hj h => fs_inj hi hj h) (fun i k hk => by have := hN _ hk; omega) (runs_dst h1 h2) w G
    (fun G' a' w' hrel hev => ⟨st', G', h4, by rw [← h6] at hrel; exact hrel, hev⟩) ls 0 st.sf G a w (by omega) h2 h5.symm (fun i s hi U f hx => by simpa using h3 i s hi U f hx) hr (Evol.refl _ _ _) (fun s hs => .inl hs)
  rwa [h1] at this

theorem left_all (n : Nat) : left n (Array.replicate n false) = List.range n := by
  unfold left
  refine List.filter_eq_self.2 fun i hi => ?_
  simp at hi
  simp [Array.getD_eq_getD_getElem?, hi]

instance : Inhabited Stp := ⟨⟨default, none⟩⟩

theorem w_draw {id : Nat} {l : List Oper} (hm : P.follows .mixedOrders = true) (h : Runs P l l st [] fun s acc => depOk l acc.reverse = true ∧ Q .normal s) : WP P (.region id l.toArray true) Q st := fun G a w hr => by
  obtain ⟨N, hN⟩ := hr.wf.fin
  obtain ⟨ls, h1, h2, h3, st', ⟨hdep, h4⟩, h5, h6⟩ := Runs.chain (fun i k => N + k * (l.length + 1) + i) l 0 st [] h
  have hll : ls.length = l.length := by rw [← h1]; simp
  have hst : (List.range l.length).map (fun i => ls.getD i default) = ls := by
    apply List.ext_getElem?
    intro i
    by_cases hi : i < ls.length
    · simp [hi, hll ▸ hi, List.getD]
    · simp [hi, show ¬ i < l.length by omega]
  obtain ⟨hr', hev'⟩ := hr.drew (w' := { w with drawn := w.drawn + 1 }) rfl rfl rfl rfl
  refine wp_region_any hm ?_
  refine wpAny_of (S1 := st'.sf) (n := st.n) (all := l) (fun i => ls.getD i default) (fun i k => N + k * (l.length + 1) + i) G.used ?_ ?_ (fun i j k m hi hj h => fs_inj (by omega) (by omega) h)
    (fun i k hk => by have := hN _ hk; omega) ?_ (runs_dst h1 h2) w G (fun G' a' w' hrel hev => ⟨st', G', h4, by rw [← h6] at hrel; exact hrel, hev⟩) l.toArray.size (Array.replicate l.toArray.size false) st.sf G a _ (by simp) ?_ ?_ ?_ hr' hev' (fun s hs => .inl hs) ?_
  · intro i o ho
    have hi : i < ls.length := by have := (List.getElem?_eq_some_iff.1 ho).1; omega
    rw [← h1] at ho
    simp only [List.getElem?_map, List.getElem?_eq_getElem hi, Option.map_some, Option.some.injEq] at ho
    simp [List.getD, List.getElem?_eq_getElem hi, ho]
  · intro i U f hi hx
    have hi' : i < ls.length := by omega
    simp only [List.getD, List.getElem?_eq_getElem hi', Option.getD_some] at hx
    have := h3 i ls[i] (List.getElem?_eq_getElem hi') U f hx
    simpa using this
  · have e : (List.range l.length).map (fun i => (ls.getD i default).u.tch) = ls.map (·.u.tch) := by
      have := congrArg (List.map (fun s : Stp => s.u.tch)) hst
      rw [List.map_map] at this
      exact this
    rw [e]
    simpa using hdep
  · simp [left_all]
  · simp only [List.size_toArray, left_all, hst]; exact h2
  · simp only [List.size_toArray, left_all, hst]; exact h5.symm
  · intro i o ho hl
    have : i < l.length := (List.getElem?_eq_some_iff.1 ho).1
    simp [Array.getD_eq_getD_getElem?, this] at hl
end
end Go.Lap
