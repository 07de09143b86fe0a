/- The engine's sixteenth part: the rule for calls. -/
import Derived.Test.YtihiganlkecbaaaEo
set_option linter.unusedVariables false
namespace Go.Lap
open Go.RowKit

/-- A cell that may be handed back ('vb': borrowed slices, too). -/
def okC (vb : Bool) : Cell → Bool
  | .v _ | .nl => true
  | .sl .bor _ _ => vb
  | .sl _ _ _ => true
  | .mu .. => false

/-- The names here for what the callee hands back. -/
def gk (f : Nat → Nat) (j i : Nat) : Nat := f (100 * j + i)
def hk (f : Nat → Nat) (i j : Nat) : Nat := f (1000 * (i + 1) + j)

section
variable {w : World} {G' G2 : Gh} {vb : Bool} {f : Nat → Nat} {K : Nat}

structure Ren (G' G2 : Gh) (vb : Bool) : Prop where
  frz : ∀ b, G'.own b = .frz → G2.own b = .frz
  bor : vb = true → ∀ b, G'.own b = .bor → G2.own b = .bor

theorem Ren.imm (h : Ren G' G2 vb) {t : Tag} (ht : t = .bor → vb = true) {b : Nat} (hi : G'.imm t b) : G2.imm t b := by
  cases t with
  | own => exact hi.elim
  | frz => exact h.frz b hi
  | bor => exact hi.imp (h.bor (ht rfl) b) (h.frz b)

theorem Ren.R1 (h : Ren G' G2 vb) {t : Tag} (ht : t = .bor → vb = true) {x : C1} {cv : Value} (hr : Lap.R1 w G' t x cv) : Lap.R1 w G2 t x cv := by
  cases x with
  | v x => exact hr
  | sl e rows =>
    obtain ⟨A, cap, h1, h2, h3, h4⟩ := hr
    exact ⟨A, cap, h1, h2, h3, fun hne => by obtain ⟨b, o, hA, hi, hc⟩ := h4 hne; exact ⟨b, o, hA, h.imm ht hi, hc⟩⟩

theorem Ren.cells (h : Ren G' G2 vb) (base base2 : Nat) (g g2 : Nat → Nat) : ∀ {cs : List Cell} (j : Nat), cs.all (okC vb) = true → (∀ k s x, (k, s, x) ∈ upO base g j cs → ∃ i, k = base + i ∧ s = g i ∧ Rn G' G2 (g i) (g2 i)) → ∀ {vs : List Value}, All2 (RC w G') (upC base g j cs) vs → All2 (RC w G2) (upC base2 g2 j cs) vs
  | [], j, _, _, _, hv => by cases hv; exact .nil
  | y :: cs, j, hok, hn, vs, hv => by
    simp only [List.all_cons, Bool.and_eq_true] at hok
    have rest : ∀ {vs : List Value}, All2 (RC w G') (upC base g (j + 1) cs) vs → All2 (RC w G2) (upC base2 g2 (j + 1) cs) vs := fun hv => Ren.cells h base base2 g g2 (j + 1) hok.2 (fun k s x hx => hn k s x (by rw [upO_cons]; exact List.mem_append_right _ hx)) hv
    have sl : ∀ {t e rows}, t ≠ .own → (t = .bor → vb = true) → ∀ {cv}, RC w G' (.sl t e rows) cv → RC w G2 (.sl t e rows) cv := by
      intro t e rows ht hb cv hr
      obtain ⟨A, cap, h1, h2, h3, h4⟩ := hr
      refine ⟨A, cap, h1, h2, h3, fun hne => ?_⟩
      obtain ⟨b, o, hA, hi, hc⟩ := h4 hne
      exact ⟨b, o, hA, h.imm hb hi, fun j x hx => by obtain ⟨cv, k1, k2⟩ := hc j x hx; exact ⟨cv, k1, h.R1 hb k2⟩⟩
    cases y with
    | v x => cases hv with | cons r rs => exact .cons r (rest rs)
    | nl => cases hv with | cons r rs => exact .cons r (rest rs)
    | mu => simp [okC] at hok
    | sl t e rows =>
      cases t with
      | bor => cases hv with | cons r rs => exact .cons (sl (by simp) (fun _ => by simpa [okC] using hok.1) r) (rest rs)
      | frz => cases hv with | cons r rs => exact .cons (sl (by simp) (by simp) r) (rest rs)
      | own =>
        cases hv with
        | cons r rs =>
          refine .cons ?_ (rest rs)
          obtain ⟨i, e1, e2, hrn⟩ := hn (base + j) (g j) _ (by simp only [upO]; exact List.mem_cons_self)
          have : i = j := by omega
          subst this
          obtain ⟨A, cap, h1, h2, h3, h4, h5⟩ := r
          exact ⟨A, cap, h1, h2, hrn.used, by rw [hrn.cap]; exact h4, h5.imp id fun ⟨b, hb, hA⟩ => ⟨b, hrn.loc.trans hb, hA⟩⟩

theorem upO_idx (base : Nat) (g : Nat → Nat) : ∀ {cs : List Cell} (j : Nat) {k s : Nat} {x : AObj}, (k, s, x) ∈ upO base g j cs → ∃ i, k = base + i ∧ s = g i ∧ ∃ e rows, x = .arr e rows
  | [], j, k, s, x, h => by simp [upO] at h
  | y :: cs, j, k, s, x, h => by
    rw [upO_cons] at h
    rcases List.mem_append.1 h with e | e
    · cases y with
      | sl t e' rows =>
        cases t with
        | own => simp [upO] at e; obtain ⟨rfl, rfl, rfl⟩ := e; exact ⟨j, rfl, rfl, _, _, rfl⟩
        | bor => simp [upO] at e
        | frz => simp [upO] at e
      | _ => simp [upO] at e
    · exact upO_idx base g (j + 1) e

/-- The same arrays under two names. -/
theorem upO_two (base base2 : Nat) (g g2 : Nat → Nat) : ∀ {cs : List Cell} (j : Nat) {k s : Nat} {x : AObj}, (k, s, x) ∈ upO base2 g2 j cs → ∃ i, k = base2 + i ∧ s = g2 i ∧ (base + i, g i, x) ∈ upO base g j cs
  | [], j, k, s, x, h => by simp [upO] at h
  | y :: cs, j, k, s, x, h => by
    rw [upO_cons] at h
    rcases List.mem_append.1 h with e | e
    · cases y with
      | sl t e' rows =>
        cases t with
        | own => simp [upO] at e; obtain ⟨rfl, rfl, rfl⟩ := e; exact ⟨j, rfl, rfl, by simp [upO]⟩
        | bor => simp [upO] at e
        | frz => simp [upO] at e
      | _ => simp [upO] at e
    · obtain ⟨i, h1, h2, h3⟩ := upO_two base base2 g g2 (j + 1) e
      exact ⟨i, h1, h2, by rw [upO_cons]; exact List.mem_append_right _ h3⟩

theorem Ren.arr (h : Ren G' G2 vb) {s c e : Nat} {rows : List (List C1)} (hr : Rn G' G2 s c) (ho : RObj w G' s (.arr e rows)) : RObj w G2 c (.arr e rows) := by
  obtain ⟨he, hl, hc⟩ := ho
  refine ⟨he, hl, ?_⟩
  rcases hc with ⟨a, b, c⟩ | ⟨b, h1, h2, vs, T, h3, h4, h5, h6, h7⟩
  · exact .inl ⟨a, hr.loc.trans b, hr.cap.trans c⟩
  · exact .inr ⟨b, hr.loc.trans h1, hr.own b h2, vs, T, h3, by rw [hr.cap]; exact h4, by rw [hr.cap]; exact h5, by rw [hr.cap]; exact h6, h7.mono fun _ _ _ r => h.R1 (by simp) r⟩

theorem Ren.box (h : Ren G' G2 vb) {s c : Nat} {xs ys : List Cell} (hr : Rn G' G2 s c) (hc : ∀ {vs : List Value}, All2 (RC w G') xs vs → All2 (RC w G2) ys vs) (ho : RObj w G' s (.box xs)) : RObj w G2 c (.box ys) := by
  obtain ⟨b, vs, T, h1, h2, h3, h4⟩ := ho
  exact ⟨b, vs, T, hr.loc.trans h1, hr.own b h2, h3, hc h4⟩

theorem Ren.cells' (h : Ren G' G2 vb) (base : Nat) (g : Nat → Nat) {cs : List Cell} (hok : cs.all (okC vb) = true) (hn : ∀ k s x, (k, s, x) ∈ upO base g 0 cs → Rn G' G2 s (f k)) {vs : List Value} (hv : All2 (RC w G') (upC base g 0 cs) vs) : All2 (RC w G2) (upC (K + base) (fun i => f (base + i)) 0 cs) vs :=
  h.cells base (K + base) g _ 0 hok (fun k s x hx => by obtain ⟨i, e1, e2, _⟩ := upO_idx base g 0 hx; exact ⟨i, e1, e2, by rw [← e2, ← e1]; exact hn k s x hx⟩) hv

theorem Ren.res (h : Ren G' G2 vb) (g : Nat → Nat → Nat) : ∀ {rs : List RV} (j : Nat), rs.all (fun r => r.cells.all (okC vb)) = true → (∀ k s x, (k, s, x) ∈ resOs 0 g j rs → RObj w G' s x ∧ Rn G' G2 s (f k)) → 
    (∀ {vs : List Value}, All2 (RV0 w G') (resVs 0 g j rs) vs → All2 (RV0 w G2) (resVs K (gk f) j rs) vs) ∧ ∀ k s x, (k, s, x) ∈ resOs K (gk f) j rs → ∃ k0 s' x', (k0, s', x') ∈ resOs 0 g j rs ∧ k = K + k0 ∧ s = f k0 ∧ RObj w G2 s x
  | [], j, _, _ => ⟨fun hv => by cases hv; exact .nil, fun k s x hx => by simp [resOs] at hx⟩
  | r :: rs, j, hok, hn => by
    simp only [List.all_cons, Bool.and_eq_true] at hok
    obtain ⟨g1, g2⟩ := Ren.res h g (rs := rs) (j + 1) hok.2 (fun k s x hx => hn k s x (by simp only [resOs]; exact List.mem_append_right _ hx))
    have hn0 : ∀ k s x, (k, s, x) ∈ upO (0 + 100 * j) (g j) 0 r.cells → RObj w G' s x ∧ Rn G' G2 s (f k) := fun k s x hx => hn k s x (by
      simp only [resOs]
      refine List.mem_append_left _ ?_
      cases r with
      | c x => exact hx
      | ag cs => exact hx
      | ptr cs => exact List.mem_append_left _ hx)
    have hgk : gk f j = fun i => f (0 + 100 * j + i) := by funext i; simp [gk]
    have cells : ∀ {vs : List Value}, All2 (RC w G') (upC (0 + 100 * j) (g j) 0 r.cells) vs → All2 (RC w G2) (upC (K + 100 * j) (gk f j) 0 r.cells) vs := fun hv => by
      have := h.cells' (K := K) (f := f) (0 + 100 * j) (g j) hok.1 (fun k s x hx => (hn0 k s x hx).2) hv
      rw [hgk]
      rw [show K + 100 * j = K + (0 + 100 * j) by omega]
      exact this
    have objs : ∀ k s x, (k, s, x) ∈ upO (K + 100 * j) (gk f j) 0 r.cells → ∃ k0 s' x', (k0, s', x') ∈ upO (0 + 100 * j) (g j) 0 r.cells ∧ k = K + k0 ∧ s = f k0 ∧ RObj w G2 s x := fun k s x hx => by
      obtain ⟨i, e1, e2, hm⟩ := upO_two (0 + 100 * j) (K + 100 * j) (g j) (gk f j) 0 hx
      obtain ⟨i', e3, e4, e, rows, rfl⟩ := upO_idx _ _ 0 hm
      obtain ⟨k1, k2⟩ := hn0 _ _ _ hm
      have e5 : s = f (0 + 100 * j + i) := by rw [e2, hgk]
      exact ⟨_, _, _, hm, by omega, e5, by rw [e5]; exact h.arr k2 k1⟩
    cases r with
    | c y =>
      refine ⟨fun hv => ?_, fun k s x hx => ?_⟩
      · simp only [resVs] at hv ⊢
        cases hv with
        | cons r rs =>
          refine .cons ?_ (g1 rs)
          simp only [resV] at r ⊢
          have key : ∀ {l : List Cell} {v : Value}, l.length = 1 → RV0 w G' (cV false l) v → All2 (RC w G') l [v] := by
            intro l v hl hr
            match l, hl with
            | [z], _ => exact .cons hr .nil
          have l1 : ∀ (b : Nat) (gg : Nat → Nat), (upC b gg 0 [y]).length = 1 := by
            intro b gg
            cases y with
            | sl t e rows => cases t <;> rfl
            | _ => rfl
          have h2 := cells (key (l1 _ _) r)
          simp only [RV.cells] at h2
          generalize upC (K + 100 * j) (gk f j) 0 [y] = l at h2
          cases h2 with
          | cons r rs => cases rs; exact r
      · simp only [resOs, resO] at hx
        rcases List.mem_append.1 hx with e | e
        · obtain ⟨k0, s', x', h1, h2⟩ := objs k s x e
          exact ⟨k0, s', x', by simp only [resOs]; exact List.mem_append_left _ h1, h2⟩
        · obtain ⟨k0, s', x', h1, h2⟩ := g2 k s x e
          exact ⟨k0, s', x', by simp only [resOs]; exact List.mem_append_right _ h1, h2⟩
    | ag cs =>
      refine ⟨fun hv => ?_, fun k s x hx => ?_⟩
      · simp only [resVs] at hv ⊢
        cases hv with
        | cons r rs =>
          refine .cons ?_ (g1 rs)
          obtain ⟨us, h1, h2⟩ := r
          exact ⟨us, h1, cells h2⟩
      · simp only [resOs, resO] at hx
        rcases List.mem_append.1 hx with e | e
        · obtain ⟨k0, s', x', h1, h2⟩ := objs k s x e
          exact ⟨k0, s', x', by simp only [resOs]; exact List.mem_append_left _ h1, h2⟩
        · obtain ⟨k0, s', x', h1, h2⟩ := g2 k s x e
          exact ⟨k0, s', x', by simp only [resOs]; exact List.mem_append_right _ h1, h2⟩
    | ptr cs =>
      have hbx := hn (0 + 100 * j + 99) (g j 99) (.box (upC (0 + 100 * j) (g j) 0 cs)) (by simp only [resOs, resO]; exact List.mem_append_left _ (by simp))
      refine ⟨fun hv => ?_, fun k s x hx => ?_⟩
      · simp only [resVs] at hv ⊢
        cases hv with
        | cons r rs =>
          refine .cons ?_ (g1 rs)
          obtain ⟨b, hb, hv⟩ := r
          refine ⟨b, ?_, hv⟩
          rw [show gk f j 99 = f (0 + 100 * j + 99) by simp [gk], hbx.2.loc]
          exact hb
      · simp only [resOs, resO] at hx
        rcases List.mem_append.1 hx with e | e
        · rcases List.mem_append.1 e with e | e
          · obtain ⟨k0, s', x', h1, h2⟩ := objs k s x e
            exact ⟨k0, s', x', by simp only [resOs, resO]; exact List.mem_append_left _ (List.mem_append_left _ h1), h2⟩
          · simp only [List.mem_singleton, Prod.mk.injEq] at e
            obtain ⟨rfl, rfl, rfl⟩ := e
            refine ⟨0 + 100 * j + 99, g j 99, .box (upC (0 + 100 * j) (g j) 0 cs), by simp only [resOs, resO]; exact List.mem_append_left _ (List.mem_append_right _ (by simp)), by omega, by simp [gk], ?_⟩
            rw [show gk f j 99 = f (0 + 100 * j + 99) by simp [gk]]
            exact h.box hbx.2 cells hbx.1
        · obtain ⟨k0, s', x', h1, h2⟩ := g2 k s x e
          exact ⟨k0, s', x', by simp only [resOs]; exact List.mem_append_right _ h1, h2⟩

theorem Ren.outs (h : Ren G' G2 vb) (hh : Nat → Nat → Nat) : ∀ {ps : List Par} {outs : List (List Cell)} (i : Nat), (∀ k s x, (k, s, x) ∈ outN 0 hh i ps outs → RObj w G' s x ∧ Rn G' G2 s (f k)) → 
    ∀ k s x, (k, s, x) ∈ outN K (hk f) i ps outs → ∃ k0 s' x', (k0, s', x') ∈ outN 0 hh i ps outs ∧ k = K + k0 ∧ s = f k0 ∧ RObj w G2 s x
  | [], outs, i, _, k, s, x, hx => by simp [outN] at hx
  | p :: ps, outs, i, hn, k, s, x, hx => by
    cases hp : p.k with
    | val =>
      simp only [outN, hp] at hx hn ⊢
      exact Ren.outs h hh (i + 1) hn k s x hx
    | mt =>
      cases outs with
      | nil => simp only [outN, hp] at hx; simp at hx
      | cons cs outs =>
        simp only [outN, hp] at hx hn ⊢
        exact Ren.outs h hh (i + 1) hn k s x hx
    | ptr =>
      cases outs with
      | nil => simp only [outN, hp] at hx; simp at hx
      | cons cs outs =>
        simp only [outN, hp] at hx hn ⊢
        rcases List.mem_append.1 hx with e | e
        · obtain ⟨i', e1, e2, hm⟩ := upO_two (0 + 1000 * (i + 1)) (K + 1000 * (i + 1)) (hh i) (hk f i) 0 e
          obtain ⟨_, _, _, e', rows, rfl⟩ := upO_idx _ _ 0 hm
          obtain ⟨k1, k2⟩ := hn _ _ _ (List.mem_append_left _ hm)
          have e5 : s = f (0 + 1000 * (i + 1) + i') := by rw [e2]; simp [hk]
          exact ⟨_, _, _, List.mem_append_left _ hm, by omega, e5, by rw [e5]; exact h.arr k2 k1⟩
        · obtain ⟨k0, s', x', h1, h2⟩ := Ren.outs h hh (i + 1) (fun k s x hx => hn k s x (List.mem_append_right _ hx)) k s x e
          exact ⟨k0, s', x', List.mem_append_right _ h1, h2⟩
end
end Go.Lap
