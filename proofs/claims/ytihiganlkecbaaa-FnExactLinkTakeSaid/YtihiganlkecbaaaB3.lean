/- Plain laws, third part: going on, what is left, staying. -/
import Derived.Test.YtihiganlkecbaaaB2
set_option linter.unusedVariables false
set_option linter.unusedSimpArgs false
namespace Go.Lap

theorem path_ext {p q : FlyPath} (hk : p.Kind = q.Kind) (hn : p.Steps.length = q.Steps.length) (hs : ∀ k, k < p.Steps.length → stp p k = stp q k) (h1 : p.From = q.From) (h2 : p.By = q.By) : p = q := by
  cases p with | mk k s f b =>
  cases q with | mk k' s' f' b' =>
  simp only at hk hn h1 h2
  subst hk h1 h2
  have : s = s' := by
    apply List.ext_getElem hn
    intro i h1 h2
    have := hs i h1
    simpa [stp, List.getD, List.getElem?_eq_getElem h1, List.getElem?_eq_getElem h2] using this
  rw [this]

theorem getD_set {α : Type} (xs : List α) (i k : Nat) (x d : α) (h : i < xs.length) : (xs.set i x).getD k d = if k = i then x else xs.getD k d := by
  simp only [List.getD, List.getElem?_set]
  by_cases e : i = k
  · subst e; simp [h]
  · have e' : ¬ k = i := fun q => e q.symm
    simp [e, e']

/-! ### What was flown, held -/
def hst (s : FlyStep) (t : Int) : FlyStep := { s with From := max s.From t, By := min s.By t }
/-- A path whose first entries are as they were. -/
structure Held (p : FlyPath) (bs : List Int) (q : FlyPath) : Prop where
  k : q.Kind = p.Kind
  n : q.Steps.length = p.Steps.length
  s : ∀ k, k < p.Steps.length → stp q k = if k < bs.length then hst (stp p k) (bs.getD k default) else stp p k
  f : q.From = p.From
  b : q.By = p.By
theorem held_spec {p : FlyPath} {bs : List Int} (h : bs.length ≤ p.Steps.length) : Held p bs (spec_l6Held p bs) := by
  unfold spec_l6Held
  refine forN_inv (fun (i : Nat) (s : List FlyStep × Int × Int) => s.1.length = p.Steps.length ∧ s.2 = (p.From, p.By) ∧ ∀ k, k < p.Steps.length → s.1.getD k default = if k < i then hst (stp p k) (bs.getD k default) else stp p k) (Held p bs) bs.length (fun j s hj h1 => ?_) (fun s h1 => ?_) _ 0 _ rfl (Nat.zero_le _) ⟨rfl, rfl, fun k hk => by simp [stp, spec_l2Copy]⟩
  · obtain ⟨s, f, b⟩ := s
    obtain ⟨h1, h2, h3⟩ := h1
    simp only at h1 h2 h3
    cases h2
    unfold spec_l6Held_b1
    simp only [all_ite, all_next]
    refine ⟨fun _ => ⟨?_, trivial, fun k hk => ?_⟩, fun hc => ?_⟩
    · unfold spec_l6Held_v1; simp [h1]
    · unfold spec_l6Held_v1
      simp only [max_spec, min_spec]
      rw [getD_set _ _ _ _ _ (by simp; omega)]
      rw [getD_set _ _ _ _ _ (by omega), getD_set _ _ _ _ _ (by omega)]
      by_cases e : k = j
      · subst e
        have := h3 k hk
        rw [if_neg (Nat.lt_irrefl _)] at this
        simp only [if_true, this, Nat.lt_succ_self, hst]
      · simp only [e, if_false, h3 k hk]
        by_cases g : k < j
        · simp [g, show k < j + 1 by omega]
        · simp [g, show ¬ k < j + 1 by omega]
    · have := of_decide_eq_false hc; omega
  · obtain ⟨h1, h2, h3⟩ := h1
    refine ⟨rfl, h1, h3, ?_, ?_⟩ <;> simp [spec_l6Held_r1, h2]
theorem held_nil (p : FlyPath) : spec_l6Held p [] = p := by
  have h := held_spec (p := p) (bs := []) (Nat.zero_le _)
  exact path_ext h.k h.n (fun k hk => by rw [h.s k (by rw [← h.n]; exact hk)]; simp) h.f h.b

theorem Held.lo {p q : FlyPath} {bs : List Int} (h : Held p bs q) {k : Nat} (hk : k ≤ p.Steps.length) : lo q k = if k < p.Steps.length ∧ k < bs.length then max (Lap.lo p k) (bs.getD k default) else Lap.lo p k := by
  rcases Nat.lt_or_ge k p.Steps.length with g | g
  · rw [lo_lt (by rw [h.n]; exact g), lo_lt g, h.s k g]
    by_cases e : k < bs.length <;> simp [e, g, hst]
  · have : k = p.Steps.length := by omega
    subst this
    have e := lo_len q
    rw [h.n] at e
    rw [e, lo_len, h.f]; simp
theorem Held.hi {p q : FlyPath} {bs : List Int} (h : Held p bs q) {k : Nat} (hk : k ≤ p.Steps.length) : hi q k = if k < p.Steps.length ∧ k < bs.length then min (Lap.hi p k) (bs.getD k default) else Lap.hi p k := by
  rcases Nat.lt_or_ge k p.Steps.length with g | g
  · rw [hi_lt (by rw [h.n]; exact g), hi_lt g, h.s k g]
    by_cases e : k < bs.length <;> simp [e, g, hst]
  · have : k = p.Steps.length := by omega
    subst this
    have e := hi_len q
    rw [h.n] at e
    rw [e, hi_len, h.b]; simp
theorem Held.ms {p q : FlyPath} {bs : List Int} (h : Held p bs q) {k : Nat} (hk : k < p.Steps.length) : ms q k = Lap.ms p k := by
  have h1 := h.s k hk
  have : (stp q k).Hold = (stp p k).Hold := by rw [h1]; split <;> rfl
  unfold Lap.ms; simp only [stp] at this; rw [this, h.k]
/-- A path with the same places and narrower windows. -/
theorem sok_of {p q : FlyPath} (hp : SOK p) (hk : q.Kind = p.Kind) (hn : q.Steps.length = p.Steps.length) (hpl : ∀ k, k < p.Steps.length → (stp q k).X = (stp p k).X ∧ (stp q k).Y = (stp p k).Y ∧ (stp q k).Low = (stp p k).Low ∧ (stp q k).High = (stp p k).High)
    (h0 : ∀ k, k ≤ p.Steps.length → 0 ≤ lo q k) (h1 : ∀ k, k ≤ p.Steps.length → hi q k ≤ 10000) : SOK q := by
  refine ⟨⟨by rw [hk]; exact hp.win.q1, by rw [hk]; exact hp.win.q2, by rw [hk]; exact hp.win.q3, by rw [hn]; exact h0, by rw [hn]; exact h1⟩, by rw [hn]; exact hp.n1, by rw [hn]; exact hp.n40, fun k hk' => ?_, fun k hk' => ?_⟩
  · rw [hn] at hk'
    obtain ⟨e1, e2, e3, e4⟩ := hpl k hk'
    have := hp.pl k hk'
    unfold Pl at this ⊢
    rw [e1, e2, e3, e4]; exact this
  · rw [hn] at hk'
    obtain ⟨e1, e2, e3, e4⟩ := hpl k (by omega)
    obtain ⟨g1, g2, g3, g4⟩ := hpl (k + 1) hk'
    have := hp.nx k hk'
    unfold Nx at this ⊢
    rw [e1, e2, e3, e4, g1, g2, g3, g4]; exact this
theorem Held.sok {p q : FlyPath} {bs : List Int} (h : Held p bs q) (hp : SOK p) : SOK q := by
  refine sok_of hp h.k h.n (fun k hk => ?_) (fun k hk => ?_) (fun k hk => ?_)
  · rw [h.s k hk]; split <;> exact ⟨rfl, rfl, rfl, rfl⟩
  · rw [h.lo hk]; have := hp.win.lo0 k hk; split <;> omega
  · rw [h.hi hk]; have := hp.win.hi0 k hk; split <;> omega

/-- Flights of a path that is held: those that have begun so. -/
theorem Held.fl {p q : FlyPath} {bs : List Int} (h : Held p bs q) (hb : bs.length ≤ p.Steps.length) {f : Nat → Int} : Fl q f ↔ Fl p f ∧ ∀ k, k < bs.length → f k = bs.getD k default := by
  constructor
  · intro hf
    refine ⟨⟨fun k hk => ?_, fun k hk => ?_⟩, fun k hk => ?_⟩
    · have := hf.b k (by rw [h.n]; exact hk)
      rw [h.lo hk, h.hi hk] at this
      split at this <;> omega
    · have := hf.d k (by rw [h.n]; exact hk)
      rw [h.ms hk, h.k] at this; exact this
    · have := hf.b k (by rw [h.n]; omega)
      rw [h.lo (by omega), h.hi (by omega), if_pos ⟨by omega, hk⟩, if_pos ⟨by omega, hk⟩] at this
      omega
  · rintro ⟨hf, he⟩
    refine ⟨fun k hk => ?_, fun k hk => ?_⟩
    · rw [h.n] at hk
      have := hf.b k hk
      rw [h.lo hk, h.hi hk]
      by_cases e : k < p.Steps.length ∧ k < bs.length
      · rw [if_pos e, if_pos e]; have := he k e.2; omega
      · rw [if_neg e, if_neg e]; exact this
    · rw [h.n] at hk
      have := hf.d k hk
      rw [h.ms hk, h.k]; exact this

/-- The specification's next entry, told by itself. -/
def nextS (p0 : FlyPath) (p1 : List Int) : FlySpan × Bool := (if (!(spec_FlyPathOk p0)) || (decide ((p0.Steps.length : Int) < (p1.length : Int))) then ((⟨0, 0⟩ : FlySpan), false) else (if !((spec_l4Spans (spec_l6Held p0 p1)).2) then ((⟨0, 0⟩ : FlySpan), false) else (((spec_l4Spans (spec_l6Held p0 p1)).1).getD p1.length default, true)))
/-! ### Going on -/
theorem next_eq (p : FlyPath) (bs : List Int) : impl_FlyNext p bs = nextS p bs := by
  unfold impl_FlyNext nextS
  rw [pathok_eq]
  cases hc : (!spec_FlyPathOk p || decide ((p.Steps.length : Int) < (bs.length : Int))) with
  | true => rfl
  | false =>
    simp only [Bool.or_eq_false_iff, Bool.not_eq_false', decide_eq_false_iff_not] at hc
    obtain ⟨h1, h2⟩ := hc
    have hp := (pathok_spec p).1 h1
    have hle : bs.length ≤ p.Steps.length := by omega
    have hh := held_spec hle
    have hq := hh.sok hp.s
    simp only [Bool.false_eq_true, if_false]
    have hsp := spans_spec hq.win
    refine forN_inv (fun (i : Nat) (s : List FlyStep) => s.length = p.Steps.length ∧ (∀ k, k < p.Steps.length → s.getD k default = if k < i then hst (stp p k) (bs.getD k default) else stp p k) ∧ ∀ k, k < i → lo p k ≤ bs.getD k default ∧ bs.getD k default ≤ hi p k)
      (fun r => r = _) bs.length (fun j s hj h3 => ?_) (fun s h3 => ?_) _ 0 _ rfl (Nat.zero_le _) ⟨rfl, fun k hk => by simp [stp, impl_copyPath], fun k hk => by omega⟩
    · obtain ⟨g1, g2, g3⟩ := h3
      have e := g2 j (by omega)
      rw [if_neg (Nat.lt_irrefl _)] at e
      unfold impl_FlyNext_b1
      simp only [all_ite, all_next, all_ret, e]
      have l1 : lo p j = (stp p j).From := lo_lt (by omega)
      have l2 : hi p j = (stp p j).By := hi_lt (by omega)
      refine ⟨fun hc => ?_, fun hc => ?_⟩
      · have hc' : ¬ (lo p j ≤ bs.getD j default ∧ bs.getD j default ≤ hi p j) := by
          rw [l1, l2]
          simp only [Bool.not_eq_true', ← Bool.not_eq_true, in_impl] at hc; exact hc
        have : ¬ Feas (spec_l6Held p bs) := by
          refine not_feas (k := j) (by rw [hh.n]; omega) ?_
          rw [hh.lo (by omega), hh.hi (by omega), if_pos ⟨by omega, hj⟩, if_pos ⟨by omega, hj⟩]
          have := hp.o j (by omega)
          omega
        rcases hsp with ⟨q, _⟩ | ⟨_, q⟩
        · exact (this q).elim
        · rw [q]; rfl
      · have hc : lo p j ≤ bs.getD j default ∧ bs.getD j default ≤ hi p j := by
          rw [l1, l2]
          simp only [Bool.not_eq_false', in_impl] at hc; exact hc
        refine ⟨by unfold impl_FlyNext_v1; simp [g1], fun k hk => ?_, fun k hk => ?_⟩
        · unfold impl_FlyNext_v1
          rw [getD_set _ _ _ _ _ (by simp; omega)]
          rw [getD_set _ _ _ _ _ (by omega), getD_set _ _ _ _ _ (by omega)]
          by_cases e2 : k = j
          · subst e2
            simp only [if_true, e, Nat.lt_succ_self, hst]
            rw [l1, l2] at hc
            rw [Int.max_eq_right hc.1, Int.min_eq_right hc.2]
          · simp only [e2, if_false, g2 k hk]
            by_cases g : k < j
            · simp [g, show k < j + 1 by omega]
            · simp [g, show ¬ k < j + 1 by omega]
        · rcases Nat.lt_or_ge k j with g | g
          · exact g3 k g
          · rw [show k = j by omega]; exact hc
    · obtain ⟨g1, g2, g3⟩ := h3
      have hx : (⟨(impl_copyPath p).Kind, s, (impl_copyPath p).From, (impl_copyPath p).By⟩ : FlyPath) = spec_l6Held p bs := by
        refine path_ext hh.k.symm (by rw [hh.n]; exact g1) (fun k hk => ?_) hh.f.symm hh.b.symm
        have hk' : k < p.Steps.length := by simpa [g1] using hk
        rw [hh.s k hk']
        exact g2 k hk'
      unfold impl_FlyNext_r1
      rw [hx, spans_eq hq]

theorem next_snd (p : FlyPath) (bs : List Int) : (nextS p bs).2 = true ↔ POK p ∧ bs.length ≤ p.Steps.length ∧ ∃ f, Fl p f ∧ ∀ k, k < bs.length → f k = bs.getD k default := by
  unfold nextS
  cases hc : (!spec_FlyPathOk p || decide ((p.Steps.length : Int) < (bs.length : Int))) with
  | true =>
    simp only [if_true, Bool.false_eq_true, false_iff]
    rintro ⟨h1, h2, _⟩
    rw [(pathok_spec p).2 h1] at hc
    simp at hc; omega
  | false =>
    simp only [Bool.or_eq_false_iff, Bool.not_eq_false', decide_eq_false_iff_not] at hc
    have hp := (pathok_spec p).1 hc.1
    have hle : bs.length ≤ p.Steps.length := by omega
    have hh := held_spec hle
    have hq := hh.sok hp.s
    have hsp := (spans_spec hq.win).snd
    simp only [Bool.false_eq_true, if_false]
    rw [feas_iff hq.win] at hsp
    have : (∃ f, Fl (spec_l6Held p bs) f) ↔ ∃ f, Fl p f ∧ ∀ k, k < bs.length → f k = bs.getD k default := by
      constructor
      · rintro ⟨f, hf⟩; exact ⟨f, (hh.fl hle).1 hf⟩
      · rintro ⟨f, hf⟩; exact ⟨f, (hh.fl hle).2 hf⟩
    rw [this] at hsp
    cases hb : (spec_l4Spans (spec_l6Held p bs)).2 with
    | true => simp only [Bool.not_true, Bool.false_eq_true, if_false, true_iff]; exact ⟨hp, hle, hsp.1 hb⟩
    | false =>
      simp only [Bool.not_false, if_true, Bool.false_eq_true, false_iff]
      rintro ⟨_, _, h⟩
      rw [hsp.2 h] at hb; cases hb

theorem begun_eq (c : LinkCraft) : impl_LinkCraft_begun c = spec_l22Begun c.Path c.Flown := by
  unfold impl_LinkCraft_begun spec_l22Begun spec_l22Spans
  rw [next_eq]
  unfold nextS
  by_cases h : (c.Path.Steps.length : Int) < (c.Flown.length : Int)
  · have h' : ¬ (c.Flown.length : Int) ≤ (c.Path.Steps.length : Int) := by omega
    simp [h, h']
  · have h' : (c.Flown.length : Int) ≤ (c.Path.Steps.length : Int) := by omega
    simp only [h, h', decide_false, decide_true, Bool.or_false, Bool.and_true, Bool.false_eq_true, if_false]
    cases spec_FlyPathOk c.Path with
    | false => simp
    | true =>
      simp only [Bool.not_true, Bool.false_eq_true, if_false, Bool.true_and]
      cases (spec_l4Spans (spec_l6Held c.Path c.Flown)).2 <;> simp

/-- The path that is left, step `a` having been entered at a tick from `f` to `b`, and being left behind `now`. -/
def rest (p : FlyPath) (a : Nat) (f b now : Int) : FlyPath :=
  let s := (p.Steps.drop a).set 0 { stp p a with From := f, By := b }
  if 1 < s.length then ⟨p.Kind, s.set 1 { s.getD 1 default with From := max (s.getD 1 default).From (now + 1) }, p.From, p.By⟩ else ⟨p.Kind, s, max p.From (now + 1), p.By⟩

theorem tail_take (p : FlyPath) (a : Nat) : (p.Steps.drop a).take (p.Steps.length - a) = p.Steps.drop a := List.take_of_length_le (by simp)
theorem drop_get (p : FlyPath) (a k : Nat) : (p.Steps.drop a).getD k default = stp p (a + k) := by simp [stp, List.getD]

/-- What `rest` tells, place by place. -/
structure RestOf (p : FlyPath) (a : Nat) (f b now : Int) (x : FlyPath) : Prop where
  k : x.Kind = p.Kind
  n : x.Steps.length = p.Steps.length - a
  pl : ∀ k, k < x.Steps.length → (stp x k).X = (stp p (a + k)).X ∧ (stp x k).Y = (stp p (a + k)).Y ∧ (stp x k).Low = (stp p (a + k)).Low ∧ (stp x k).High = (stp p (a + k)).High ∧ (stp x k).Hold = (stp p (a + k)).Hold
  lo : ∀ k, k ≤ x.Steps.length → Lap.lo x k = if k = 0 then f else if k = 1 then max (Lap.lo p (a + 1)) (now + 1) else Lap.lo p (a + k)
  hi : ∀ k, k ≤ x.Steps.length → Lap.hi x k = if k = 0 then b else Lap.hi p (a + k)
theorem rest_of (p : FlyPath) {a : Nat} (ha : a < p.Steps.length) (f b now : Int) : RestOf p a f b now (rest p a f b now) := by
  have hs1 : ((p.Steps.drop a).set 0 { stp p a with From := f, By := b }).length = p.Steps.length - a := by simp
  have hg : ∀ k, ((p.Steps.drop a).set 0 { stp p a with From := f, By := b }).getD k default = if k = 0 then { stp p a with From := f, By := b } else stp p (a + k) := fun k => by
    rw [getD_set _ _ _ _ _ (by simp; omega), drop_get]
  unfold rest
  simp only [hs1]
  by_cases h : 1 < p.Steps.length - a
  · rw [if_pos h]
    have hst : ∀ k, stp ⟨p.Kind, ((p.Steps.drop a).set 0 { stp p a with From := f, By := b }).set 1 { ((p.Steps.drop a).set 0 { stp p a with From := f, By := b }).getD 1 default with From := max (((p.Steps.drop a).set 0 { stp p a with From := f, By := b }).getD 1 default).From (now + 1) }, p.From, p.By⟩ k = if k = 1 then { stp p (a + 1) with From := max (stp p (a + 1)).From (now + 1) } else if k = 0 then { stp p a with From := f, By := b } else stp p (a + k) := fun k => by
      show List.getD _ _ _ = _
      rw [getD_set _ _ _ _ _ (by rw [hs1]; exact h), hg k, hg 1]
      by_cases e : k = 1 <;> simp [e]
    refine ⟨rfl, by simp, fun k hk => ?_, fun k hk => ?_, fun k hk => ?_⟩
    · rw [hst k]
      by_cases e1 : k = 1
      · subst e1; simp
      · by_cases e0 : k = 0 <;> simp [e1, e0]
    · simp only [List.length_set, List.length_drop] at hk
      rcases Nat.lt_or_ge k (p.Steps.length - a) with g | g
      · rw [lo_lt (by simpa using g), hst k]
        by_cases e1 : k = 1
        · subst e1; simp [lo_lt (show a + 1 < p.Steps.length by omega)]
        · by_cases e0 : k = 0
          · simp [e0]
          · simp [e1, e0, lo_lt (show a + k < p.Steps.length by omega)]
      · have e : k = p.Steps.length - a := by omega
        have e2 : a + k = p.Steps.length := by omega
        rw [if_neg (by omega), if_neg (by omega), e2, lo_len]
        have := lo_len ⟨p.Kind, ((p.Steps.drop a).set 0 { stp p a with From := f, By := b }).set 1 { ((p.Steps.drop a).set 0 { stp p a with From := f, By := b }).getD 1 default with From := max (((p.Steps.drop a).set 0 { stp p a with From := f, By := b }).getD 1 default).From (now + 1) }, p.From, p.By⟩
        simp only [List.length_set, List.length_drop] at this
        rw [e]; exact this
    · simp only [List.length_set, List.length_drop] at hk
      rcases Nat.lt_or_ge k (p.Steps.length - a) with g | g
      · rw [hi_lt (by simpa using g), hst k]
        by_cases e1 : k = 1
        · subst e1; simp [hi_lt (show a + 1 < p.Steps.length by omega)]
        · by_cases e0 : k = 0
          · simp [e0]
          · simp [e1, e0, hi_lt (show a + k < p.Steps.length by omega)]
      · have e : k = p.Steps.length - a := by omega
        have e2 : a + k = p.Steps.length := by omega
        rw [if_neg (by omega), e2, hi_len]
        have := hi_len ⟨p.Kind, ((p.Steps.drop a).set 0 { stp p a with From := f, By := b }).set 1 { ((p.Steps.drop a).set 0 { stp p a with From := f, By := b }).getD 1 default with From := max (((p.Steps.drop a).set 0 { stp p a with From := f, By := b }).getD 1 default).From (now + 1) }, p.From, p.By⟩
        simp only [List.length_set, List.length_drop] at this
        rw [e]; exact this
  · rw [if_neg h]
    have h1 : p.Steps.length - a = 1 := by omega
    have hst : ∀ k, stp ⟨p.Kind, (p.Steps.drop a).set 0 { stp p a with From := f, By := b }, max p.From (now + 1), p.By⟩ k = if k = 0 then { stp p a with From := f, By := b } else stp p (a + k) := hg
    refine ⟨rfl, by simp, fun k hk => ?_, fun k hk => ?_, fun k hk => ?_⟩
    · rw [hst k]
      by_cases e0 : k = 0 <;> simp [e0]
    · simp only [List.length_set, List.length_drop, h1] at hk
      rcases Nat.eq_zero_or_pos k with e | e
      · subst e
        rw [lo_lt (by simp; omega), hst 0]; simp
      · have e1 : k = 1 := by omega
        subst e1
        have e2 : a + 1 = p.Steps.length := by omega
        have := lo_len ⟨p.Kind, (p.Steps.drop a).set 0 { stp p a with From := f, By := b }, max p.From (now + 1), p.By⟩
        simp only [List.length_set, List.length_drop, h1] at this
        rw [this, e2, lo_len]; simp
    · simp only [List.length_set, List.length_drop, h1] at hk
      rcases Nat.eq_zero_or_pos k with e | e
      · subst e
        rw [hi_lt (by simp; omega), hst 0]; simp
      · have e1 : k = 1 := by omega
        subst e1
        have e2 : a + 1 = p.Steps.length := by omega
        have := hi_len ⟨p.Kind, (p.Steps.drop a).set 0 { stp p a with From := f, By := b }, max p.From (now + 1), p.By⟩
        simp only [List.length_set, List.length_drop, h1] at this
        rw [this, e2, hi_len]; simp

theorem RestOf.ms {p x : FlyPath} {a : Nat} {f b now : Int} (h : RestOf p a f b now x) {k : Nat} (hk : k < x.Steps.length) : ms x k = Lap.ms p (a + k) := by
  have := (h.pl k hk).2.2.2.2
  unfold Lap.ms; simp only [stp] at this; rw [this, h.k]
theorem RestOf.sok {p x : FlyPath} {a : Nat} {f b now : Int} (h : RestOf p a f b now x) (hp : SOK p) (ha : a < p.Steps.length) (hf : 0 ≤ f) (hb : b ≤ 10000) : SOK x := by
  have hn := h.n
  refine ⟨⟨by rw [h.k]; exact hp.win.q1, by rw [h.k]; exact hp.win.q2, by rw [h.k]; exact hp.win.q3, fun k hk => ?_, fun k hk => ?_⟩, by omega, by have := hp.n40; omega, fun k hk => ?_, fun k hk => ?_⟩
  · rw [h.lo k hk]
    have h1 := hp.win.lo0 (a + k) (by omega)
    have h2 := hp.win.lo0 (a + 1) (by omega)
    split
    · exact hf
    · split <;> omega
  · rw [h.hi k hk]
    have h1 := hp.win.hi0 (a + k) (by omega)
    split
    · exact hb
    · exact h1
  · obtain ⟨e1, e2, e3, e4, _⟩ := h.pl k hk
    have := hp.pl (a + k) (by omega)
    unfold Pl at this ⊢; rw [e1, e2, e3, e4]; exact this
  · obtain ⟨e1, e2, e3, e4, _⟩ := h.pl k (by omega)
    obtain ⟨g1, g2, g3, g4, _⟩ := h.pl (k + 1) hk
    have := hp.nx (a + k) (by omega)
    rw [show a + (k + 1) = a + k + 1 by omega] at g1 g2 g3 g4
    unfold Nx at this ⊢; rw [e1, e2, e3, e4, g1, g2, g3, g4]; exact this

/-- FlyRest, told. -/
def RestR (p : FlyPath) (st en now : Int) (r : FlyPath × Bool) : Prop :=
  (POK p ∧ 0 ≤ st ∧ st < p.Steps.length ∧ 0 ≤ en ∧ en ≤ now ∧ now ≤ 10000 ∧ Feas (rest p st.toNat (max (stp p st.toNat).From en) (min (stp p st.toNat).By en) now) ∧ r = (rest p st.toNat (max (stp p st.toNat).From en) (min (stp p st.toNat).By en) now, true)) ∨
  (¬ (POK p ∧ 0 ≤ st ∧ st < p.Steps.length ∧ 0 ≤ en ∧ en ≤ now ∧ now ≤ 10000 ∧ Feas (rest p st.toNat (max (stp p st.toNat).From en) (min (stp p st.toNat).By en) now)) ∧ r = (⟨⟨0, 0⟩, [], 0, 0⟩, false))
theorem RestR.uniq {p : FlyPath} {st en now : Int} {r r' : FlyPath × Bool} (h : RestR p st en now r) (h' : RestR p st en now r') : r = r' := by
  rcases h with ⟨a1, a2, a3, a4, a5, a6, a7, rfl⟩ | ⟨h1, rfl⟩ <;> rcases h' with ⟨b1, b2, b3, b4, b5, b6, b7, rfl⟩ | ⟨h2, rfl⟩
  · rfl
  · exact (h2 ⟨a1, a2, a3, a4, a5, a6, a7⟩).elim
  · exact (h1 ⟨b1, b2, b3, b4, b5, b6, b7⟩).elim
  · rfl

theorem after_rest (p : FlyPath) {a : Nat} (ha : a < p.Steps.length) (f b now : Int) (hn : -9223372036854775808 ≤ now + 1 ∧ now + 1 ≤ 9223372036854775807) :
    spec_l7After ⟨p.Kind, (p.Steps.drop a).set 0 { stp p a with From := f, By := b }, p.From, p.By⟩ now = rest p a f b now := by
  unfold spec_l7After rest
  simp only [max_spec, wr_eq hn.1 hn.2]
  by_cases h : 1 < ((p.Steps.drop a).set 0 { stp p a with From := f, By := b }).length
  · rw [if_pos h, if_pos (by simpa using (by omega : (1 : Int) < (((p.Steps.drop a).set 0 { stp p a with From := f, By := b }).length : Int)))]
  · rw [if_neg h, if_neg (by simpa using (by omega : ¬ (1 : Int) < (((p.Steps.drop a).set 0 { stp p a with From := f, By := b }).length : Int)))]

theorem set_set (p : FlyPath) {a : Nat} (ha : a < p.Steps.length) (f b : Int) :
    ((p.Steps.drop a).set 0 { (p.Steps.drop a).getD 0 default with From := f }).set 0 { ((p.Steps.drop a).set 0 { (p.Steps.drop a).getD 0 default with From := f }).getD 0 default with By := b } = (p.Steps.drop a).set 0 { stp p a with From := f, By := b } := by
  rw [getD_set _ _ _ _ _ (by simp; omega), List.set_set, drop_get]; simp

theorem rest_spec (p : FlyPath) (st en now : Int) : RestR p st en now (spec_FlyRest p st en now) := by
  unfold spec_FlyRest
  cases hc : (!spec_FlyPathOk p || !spec_l1In st 0 ((p.Steps.length : Int) - 1) || !spec_l1In now en 10000 || decide (en < 0)) with
  | true =>
    refine .inr ⟨fun h => ?_, rfl⟩
    obtain ⟨h1, h2, h3, h4, h5, h6, _⟩ := h
    simp only [Bool.or_eq_true, Bool.not_eq_true', ← Bool.not_eq_true, in_spec, decide_eq_true_eq, pathok_spec] at hc
    rcases hc with ((hc | hc) | hc) | hc
    · exact hc h1
    · exact hc ⟨h2, by omega⟩
    · exact hc ⟨h5, h6⟩
    · omega
  | false =>
    simp only [Bool.or_eq_false_iff, Bool.not_eq_false', in_spec, decide_eq_false_iff_not, pathok_spec] at hc
    obtain ⟨⟨⟨h1, h2⟩, h3⟩, h4⟩ := hc
    have ha : st.toNat < p.Steps.length := by omega
    have hx : spec_l7After (⟨(spec_l7Tail (spec_l6Held p ([] : List Int)) st).Kind, (spec_FlyRest_v2 p st en), (spec_l7Tail (spec_l6Held p ([] : List Int)) st).From, (spec_l7Tail (spec_l6Held p ([] : List Int)) st).By⟩ : FlyPath) now = rest p st.toNat (max (stp p st.toNat).From en) (min (stp p st.toNat).By en) now := by
      rw [← after_rest p ha _ _ _ ⟨by omega, by omega⟩]
      unfold spec_FlyRest_v2 spec_FlyRest_v1 spec_l7Tail
      simp only [held_nil, tail_take, max_spec, min_spec]
      rw [getD_set _ _ _ _ _ (by simp; omega), List.set_set, drop_get]
      simp
    have hr := rest_of p ha (max (stp p st.toNat).From en) (min (stp p st.toNat).By en) now
    have hsok := hr.sok h1.s ha (by omega) (by have := h1.s.win.hi0 st.toNat (by omega); rw [hi_lt ha] at this; omega)
    have hsp := spans_spec hsok.win
    simp only [Bool.false_eq_true, if_false]
    unfold spec_FlyRest_v3 spec_FlyRest_v4 spec_FlyRest_v5 spec_FlyRest_v6 spec_FlyRest_v7 spec_FlyRest_v8
    rw [hx]
    unfold spec_l7Can
    rcases hsp with ⟨q1, q2⟩ | ⟨q1, q2⟩
    · rw [q2]
      exact .inl ⟨h1, h2.1, by omega, by omega, h3.1, h3.2, q1, rfl⟩
    · rw [q2]
      refine .inr ⟨fun h => q1 h.2.2.2.2.2.2, rfl⟩

theorem rest_impl (p : FlyPath) (st en now : Int) : RestR p st en now (impl_FlyRest p st en now) := by
  unfold impl_FlyRest
  cases hc : impl_FlyRest_v1 p st en now with
  | true =>
    refine .inr ⟨fun h => ?_, rfl⟩
    obtain ⟨h1, h2, h3, h4, h5, h6, _⟩ := h
    unfold impl_FlyRest_v1 at hc
    simp only [Bool.or_eq_true, Bool.not_eq_true', ← Bool.not_eq_true, in_impl, decide_eq_true_eq, pathok_impl] at hc
    rcases hc with (((hc | hc) | hc) | hc) | hc
    · exact hc h1
    · exact hc ⟨h2, by omega⟩
    · omega
    · omega
    · omega
  | false =>
    unfold impl_FlyRest_v1 at hc
    simp only [Bool.or_eq_false_iff, Bool.not_eq_false', in_impl, decide_eq_false_iff_not, pathok_impl] at hc
    obtain ⟨⟨⟨⟨h1, h2⟩, h3⟩, h4⟩, h5⟩ := hc
    have ha : st.toNat < p.Steps.length := by omega
    have hr := rest_of p ha (max (stp p st.toNat).From en) (min (stp p st.toNat).By en) now
    have hsok := hr.sok h1.s ha (by omega) (by have := h1.s.win.hi0 st.toNat (by omega); rw [hi_lt ha] at this; omega)
    have hsp := spans_impl hsok
    simp only [Bool.false_eq_true, if_false]
    have hv1 : ∀ f b, impl_left_v1 p st f b = (p.Steps.drop st.toNat).set 0 { stp p st.toNat with From := f, By := b } := fun f b => by
      unfold impl_left_v1 impl_copyPath
      simp only [tail_take]
      exact set_set p ha f b
    have e0 : p.Steps.getD st.toNat default = stp p st.toNat := rfl
    rw [e0]
    unfold impl_left impl_left_v3 impl_left_v5 impl_left_v2 impl_left_v4 impl_copyPath
    simp only [hv1]
    rw [wr_eq (by omega) (by omega)]
    by_cases h : 1 < ((p.Steps.drop st.toNat).set 0 { stp p st.toNat with From := max (stp p st.toNat).From en, By := min (stp p st.toNat).By en }).length
    · have h' : (1 : Int) < (((p.Steps.drop st.toNat).set 0 { stp p st.toNat with From := max (stp p st.toNat).From en, By := min (stp p st.toNat).By en }).length : Int) := by omega
      have hx : rest p st.toNat (max (stp p st.toNat).From en) (min (stp p st.toNat).By en) now = ⟨p.Kind, ((p.Steps.drop st.toNat).set 0 { stp p st.toNat with From := max (stp p st.toNat).From en, By := min (stp p st.toNat).By en }).set 1 { ((p.Steps.drop st.toNat).set 0 { stp p st.toNat with From := max (stp p st.toNat).From en, By := min (stp p st.toNat).By en }).getD 1 default with From := max (((p.Steps.drop st.toNat).set 0 { stp p st.toNat with From := max (stp p st.toNat).From en, By := min (stp p st.toNat).By en }).getD 1 default).From (now + 1) }, p.From, p.By⟩ := by
        unfold rest; rw [if_pos h]
      rw [hx] at hsp
      unfold RestR
      rw [hx]
      rw [if_pos (by simpa using h')]
      rcases hsp with ⟨q1, q2⟩ | ⟨q1, q2⟩
      · rw [q2]; exact .inl ⟨h1, h2.1, by omega, by omega, by omega, by omega, q1, rfl⟩
      · rw [q2]; exact .inr ⟨fun h => q1 h.2.2.2.2.2.2, rfl⟩
    · have h' : ¬ (1 : Int) < (((p.Steps.drop st.toNat).set 0 { stp p st.toNat with From := max (stp p st.toNat).From en, By := min (stp p st.toNat).By en }).length : Int) := by omega
      have hx : rest p st.toNat (max (stp p st.toNat).From en) (min (stp p st.toNat).By en) now = ⟨p.Kind, (p.Steps.drop st.toNat).set 0 { stp p st.toNat with From := max (stp p st.toNat).From en, By := min (stp p st.toNat).By en }, max p.From (now + 1), p.By⟩ := by
        unfold rest; rw [if_neg h]
      rw [hx] at hsp
      unfold RestR
      rw [hx]
      rw [if_neg (by simpa using h')]
      rcases hsp with ⟨q1, q2⟩ | ⟨q1, q2⟩
      · rw [q2]; exact .inl ⟨h1, h2.1, by omega, by omega, by omega, by omega, q1, rfl⟩
      · rw [q2]; exact .inr ⟨fun h => q1 h.2.2.2.2.2.2, rfl⟩

theorem rest_eq (p : FlyPath) (st en now : Int) : impl_FlyRest p st en now = spec_FlyRest p st en now := (rest_impl p st en now).uniq (rest_spec p st en now)
end Go.Lap
