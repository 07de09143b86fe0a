/- Plain laws, first part: windows, spans and flights of a path. -/
import Derived.Test.YtihiganlkecbaaaTc
set_option linter.unusedVariables false
set_option linter.unusedSimpArgs false
namespace Go.Lap

theorem max_spec (a b : Int) : spec_l1Max a b = max a b := by unfold spec_l1Max; by_cases h : b < a <;> simp [h] <;> omega
theorem min_spec (a b : Int) : spec_l1Min a b = min a b := by unfold spec_l1Min; by_cases h : a < b <;> simp [h] <;> omega
theorem in_spec (a b c : Int) : spec_l1In a b c = true ↔ b ≤ a ∧ a ≤ c := by unfold spec_l1In; simp
theorem in_impl (a b c : Int) : impl_in a b c = true ↔ b ≤ a ∧ a ≤ c := by unfold impl_in; simp
theorem in_eq (a b c : Int) : impl_in a b c = spec_l1In a b c := rfl

/-! ### Windows -/
def lo (p : FlyPath) (k : Nat) : Int := if k < p.Steps.length then (p.Steps.getD k default).From else p.From
def hi (p : FlyPath) (k : Nat) : Int := if k < p.Steps.length then (p.Steps.getD k default).By else p.By
def ms (p : FlyPath) (k : Nat) : Int := if (p.Steps.getD k default).Hold then 10000 else p.Kind.Slow
def fw (p : FlyPath) : Nat → Int × Int
  | 0 => (lo p 0, hi p 0)
  | k + 1 => (max (lo p (k + 1)) ((fw p k).1 + p.Kind.Quick), min (hi p (k + 1)) ((fw p k).2 + ms p k))
def bw (p : FlyPath) (n : Nat) : Nat → Int × Int
  | 0 => fw p n
  | d + 1 => (max (fw p (n - (d + 1))).1 ((bw p n d).1 - ms p (n - (d + 1))), min (fw p (n - (d + 1))).2 ((bw p n d).2 - p.Kind.Quick))
def sp (p : FlyPath) (k : Nat) : Int × Int := bw p p.Steps.length (p.Steps.length - k)
def tab (f : Nat → Int × Int) (n : Nat) : List FlySpan := (List.range n).map fun k => ⟨(f k).1, (f k).2⟩

theorem sp_last (p : FlyPath) : sp p p.Steps.length = fw p p.Steps.length := by simp [sp, bw]
theorem sp_step (p : FlyPath) {k : Nat} (h : k < p.Steps.length) : sp p k = (max (fw p k).1 ((sp p (k + 1)).1 - ms p k), min (fw p k).2 ((sp p (k + 1)).2 - p.Kind.Quick)) := by
  obtain ⟨d, hd⟩ : ∃ d, p.Steps.length - k = d + 1 := ⟨p.Steps.length - k - 1, by omega⟩
  have h1 : p.Steps.length - (k + 1) = d := by omega
  have h2 : p.Steps.length - (d + 1) = k := by omega
  simp only [sp, hd, h1, bw, h2]

/-- The windows bound the ticks. -/
structure Win (p : FlyPath) : Prop where
  q1 : 1 ≤ p.Kind.Quick
  q2 : p.Kind.Quick ≤ p.Kind.Slow
  q3 : p.Kind.Slow ≤ 50
  lo0 : ∀ k, k ≤ p.Steps.length → 0 ≤ lo p k
  hi0 : ∀ k, k ≤ p.Steps.length → hi p k ≤ 10000

def OkF (p : FlyPath) (k : Nat) : Prop := (fw p k).1 ≤ (fw p k).2
def OkB (p : FlyPath) (k : Nat) : Prop := (sp p k).1 ≤ (sp p k).2
structure Feas (p : FlyPath) : Prop where
  f : ∀ k, k ≤ p.Steps.length → OkF p k
  b : ∀ k, k ≤ p.Steps.length → OkB p k
/-- What spans are told. -/
def IsSp (p : FlyPath) (r : List FlySpan × Bool) : Prop := (Feas p ∧ r = (tab (sp p) (p.Steps.length + 1), true)) ∨ (¬ Feas p ∧ r = ([], false))
theorem IsSp.uniq {p : FlyPath} {r s : List FlySpan × Bool} (h : IsSp p r) (h' : IsSp p s) : r = s := by
  rcases h with ⟨h1, rfl⟩ | ⟨h1, rfl⟩ <;> rcases h' with ⟨h2, rfl⟩ | ⟨h2, rfl⟩ <;> first | rfl | exact (h1 h2).elim | exact (h2 h1).elim
theorem IsSp.snd {p : FlyPath} {r : List FlySpan × Bool} (h : IsSp p r) : r.2 = true ↔ Feas p := by
  rcases h with ⟨h1, rfl⟩ | ⟨h1, rfl⟩ <;> simp [h1]

theorem ms_bounds {p : FlyPath} (w : Win p) (k : Nat) : p.Kind.Quick ≤ ms p k ∧ ms p k ≤ 10000 ∧ 0 ≤ ms p k := by
  have := w.q1; have := w.q2; have := w.q3
  unfold ms; split <;> omega
theorem fw_ge {p : FlyPath} (w : Win p) {k : Nat} (h : k ≤ p.Steps.length) : 0 ≤ (fw p k).1 ∧ (fw p k).2 ≤ 10000 := by
  have h1 := w.lo0 k h; have h2 := w.hi0 k h
  cases k with
  | zero => exact ⟨h1, h2⟩
  | succ k => simp only [fw]; omega
theorem fw_lo {p : FlyPath} (k : Nat) : lo p k ≤ (fw p k).1 ∧ (fw p k).2 ≤ hi p k := by
  cases k with
  | zero => simp [fw]
  | succ k => simp only [fw]; omega
theorem fw_sp {p : FlyPath} {k : Nat} (h : k ≤ p.Steps.length) : (fw p k).1 ≤ (sp p k).1 ∧ (sp p k).2 ≤ (fw p k).2 := by
  rcases Nat.lt_or_ge k p.Steps.length with g | g
  · rw [sp_step p g]; simp only; omega
  · have : k = p.Steps.length := by omega
    subst this; rw [sp_last]; simp

theorem tab_len (f : Nat → Int × Int) (n : Nat) : (tab f n).length = n := by simp [tab]
theorem tab_get (f : Nat → Int × Int) {n k : Nat} (h : k < n) : (tab f n).getD k default = ⟨(f k).1, (f k).2⟩ := by simp [tab, List.getD, h]
theorem tab_succ (f : Nat → Int × Int) (n : Nat) : tab f (n + 1) = tab f n ++ [⟨(f n).1, (f n).2⟩] := by simp [tab, List.range_succ]
theorem tab_ext {f g : Nat → Int × Int} {n : Nat} (h : ∀ k, k < n → f k = g k) : tab f n = tab g n := by
  unfold tab; exact List.map_congr_left fun k hk => by rw [h k (by simpa using hk)]
theorem tab_set (f : Nat → Int × Int) {n k : Nat} (x : FlySpan) : (tab f n).set k x = tab (fun j => if j = k then (x.Low, x.High) else f j) n := by
  apply List.ext_getElem?
  intro j
  rw [List.getElem?_set]
  by_cases e : k = j
  · subst e
    by_cases h : k < n <;> simp [tab, h]
  · have e' : ¬ j = k := fun h => e h.symm
    by_cases h : j < n <;> simp [tab, e, e', h]

/-! ### Flights -/
structure Fl (p : FlyPath) (f : Nat → Int) : Prop where
  b : ∀ k, k ≤ p.Steps.length → lo p k ≤ f k ∧ f k ≤ hi p k
  d : ∀ k, k < p.Steps.length → p.Kind.Quick ≤ f (k + 1) - f k ∧ f (k + 1) - f k ≤ ms p k

theorem Fl.fw {p : FlyPath} {f : Nat → Int} (h : Fl p f) : ∀ k, k ≤ p.Steps.length → (Lap.fw p k).1 ≤ f k ∧ f k ≤ (Lap.fw p k).2
  | 0, hk => h.b 0 hk
  | k + 1, hk => by
    have h1 := h.fw k (by omega)
    have h2 := h.b (k + 1) hk
    have h3 := h.d k (by omega)
    simp only [Lap.fw]; omega
theorem Fl.sp {p : FlyPath} {f : Nat → Int} (h : Fl p f) {k : Nat} (hk : k ≤ p.Steps.length) : (Lap.sp p k).1 ≤ f k ∧ f k ≤ (Lap.sp p k).2 := by
  have key : ∀ d k, k + d = p.Steps.length → (Lap.sp p k).1 ≤ f k ∧ f k ≤ (Lap.sp p k).2 := by
    intro d
    induction d with
    | zero => intro k hk; have : k = p.Steps.length := by omega
              subst this; rw [sp_last]; exact h.fw _ (Nat.le_refl _)
    | succ d ih =>
      intro k hk
      have h1 := ih (k + 1) (by omega)
      have h2 := h.fw k (by omega)
      have h3 := h.d k (by omega)
      rw [sp_step p (by omega)]
      simp only; omega
  exact key (p.Steps.length - k) k (by omega)
theorem Fl.feas {p : FlyPath} {f : Nat → Int} (h : Fl p f) : Feas p :=
  ⟨fun k hk => by have := h.fw k hk; unfold OkF; omega, fun k hk => by have := h.sp hk; unfold OkB; omega⟩

theorem sp_bounds {p : FlyPath} {k : Nat} (h : k ≤ p.Steps.length) : lo p k ≤ (sp p k).1 ∧ (sp p k).2 ≤ hi p k := by
  have := fw_sp h; have := fw_lo (p := p) k; omega
theorem sp_d {p : FlyPath} (w : Win p) (hf : Feas p) {k : Nat} (h : k < p.Steps.length) :
    (p.Kind.Quick ≤ (sp p (k + 1)).1 - (sp p k).1 ∧ (sp p (k + 1)).1 - (sp p k).1 ≤ ms p k) ∧ (p.Kind.Quick ≤ (sp p (k + 1)).2 - (sp p k).2 ∧ (sp p (k + 1)).2 - (sp p k).2 ≤ ms p k) := by
  have h1 := fw_sp (p := p) (k := k + 1) (by omega)
  have h2 := ms_bounds w k
  have h3 : (fw p (k + 1)) = (max (lo p (k + 1)) ((fw p k).1 + p.Kind.Quick), min (hi p (k + 1)) ((fw p k).2 + ms p k)) := rfl
  rw [h3] at h1
  rw [sp_step p h]
  simp only at h1 ⊢
  omega
/-- Both ends of the spans are flights. -/
theorem fl_low {p : FlyPath} (w : Win p) (hf : Feas p) : Fl p fun k => (sp p k).1 :=
  ⟨fun k hk => by have := sp_bounds hk; have := hf.b k hk; unfold OkB at this; omega, fun k hk => (sp_d w hf hk).1⟩
theorem fl_high {p : FlyPath} (w : Win p) (hf : Feas p) : Fl p fun k => (sp p k).2 :=
  ⟨fun k hk => by have := sp_bounds hk; have := hf.b k hk; unfold OkB at this; omega, fun k hk => (sp_d w hf hk).2⟩
theorem feas_iff {p : FlyPath} (w : Win p) : Feas p ↔ ∃ f, Fl p f := ⟨fun h => ⟨_, fl_low w h⟩, fun ⟨f, h⟩ => h.feas⟩

/-! ### The reference's spans -/
theorem low_spec (p : FlyPath) (k : Nat) : spec_l3Low p (k : Int) = lo p k := by unfold spec_l3Low lo; by_cases h : k < p.Steps.length <;> simp [h]
theorem high_spec (p : FlyPath) (k : Nat) : spec_l3High p (k : Int) = hi p k := by unfold spec_l3High hi; by_cases h : k < p.Steps.length <;> simp [h]
theorem most_spec (p : FlyPath) (k : Nat) : spec_l3Most p (k : Int) = ms p k := by unfold spec_l3Most ms; simp

theorem spans_spec {p : FlyPath} (w : Win p) : IsSp p (spec_l4Spans p) := by
  have hq1 := w.q1; have hq2 := w.q2; have hq3 := w.q3
  unfold spec_l4Spans
  refine forN_inv (fun (i : Nat) (s : List FlySpan) => s = tab (fw p) i ∧ ∀ k, k < i → OkF p k) (IsSp p) (p.Steps.length + 1) (fun j s hj h => ?_) (fun s h => ?_) _ 0 _ rfl (Nat.zero_le _) ⟨rfl, fun k hk => by omega⟩
  · obtain ⟨rfl, hok⟩ := h
    unfold spec_l4Spans_b1
    simp only [all_ite, all_next, all_ret]
    cases j with
    | zero =>
      simp only [low_spec, high_spec]
      refine ⟨fun h => by simp at h, fun _ => ⟨fun h => ?_, fun h => ?_⟩⟩
      · have h := of_decide_eq_true h
        exact .inr ⟨fun hf => by have := hf.f 0 (Nat.zero_le _); simp only [OkF, fw] at this; omega, rfl⟩
      · have h := of_decide_eq_false h
        refine ⟨by simp [tab, fw], fun k hk => ?_⟩
        have : k = 0 := by omega
        subst this; simp only [OkF, fw]; omega
    | succ j =>
      have hp := hok j (by omega)
      have hb := fw_ge w (k := j) (by omega)
      unfold OkF at hp
      have hm := ms_bounds w j
      have e0 : ((((j + 1 : Nat) : Int) - 1).toNat) = j := by omega
      have e1 : (((j + 1 : Nat) : Int) - 1) = (j : Int) := by omega
      have v1 : spec_l4Spans_v1 p (j + 1) (tab (fw p) (j + 1)) = (fw p (j + 1)).2 := by
        unfold spec_l4Spans_v1
        rw [e0, tab_get _ (by omega), min_spec, high_spec, e1, most_spec]
        simp only [fw]
        rw [wr_eq (by omega) (by omega)]
      have v2 : spec_l1Max (spec_l3Low p ((j + 1 : Nat) : Int)) (wr (((tab (fw p) (j + 1)).getD ((((j + 1 : Nat) : Int) - 1).toNat) default).Low + p.Kind.Quick)) = (fw p (j + 1)).1 := by
        rw [e0, tab_get _ (by omega), max_spec, low_spec]
        simp only [fw]
        rw [wr_eq (by omega) (by omega)]
      refine ⟨fun _ => ⟨fun h => ?_, fun h => ?_⟩, fun h => ?_⟩
      · unfold spec_l4Spans_v2 at h
        rw [v1, v2] at h
        have h := of_decide_eq_true h
        exact .inr ⟨fun hf => by have := hf.f (j + 1) (by omega); unfold OkF at this; omega, rfl⟩
      · unfold spec_l4Spans_v2 at h
        rw [v1, v2] at h
        have h := of_decide_eq_false h
        refine ⟨by unfold spec_l4Spans_v3; rw [v1, v2, tab_succ _ (j + 1)], fun k hk => ?_⟩
        rcases Nat.lt_or_ge k (j + 1) with g | g
        · exact hok k g
        · have : k = j + 1 := by omega
          subst this; unfold OkF; omega
      · have h := of_decide_eq_false h; omega
  · obtain ⟨rfl, hok⟩ := h
    unfold spec_l4Spans_r1
    refine itr_inv (fun (s2 : Int × List FlySpan) => ∃ i : Nat, s2.1 = (i : Int) - 1 ∧ i ≤ p.Steps.length ∧ s2.2 = tab (fun k => if k < i then fw p k else sp p k) (p.Steps.length + 1) ∧ ∀ k, i ≤ k → k ≤ p.Steps.length → OkB p k)
      (spec_l4Spans_u2 p _) (IsSp p) (fun s2 h2 => ?_) _ _ (Nat.lt_succ_self _) ⟨p.Steps.length, rfl, Nat.le_refl _, ?_, fun k h1 h2 => ?_⟩
    · obtain ⟨i, e1, hi, e2, hB⟩ := h2
      obtain ⟨z, s⟩ := s2
      simp only at e1 e2
      subst e1 e2
      rcases Nat.eq_zero_or_pos i with hi0 | hi0
      · subst hi0
        unfold spec_l4Spans_b2
        rw [show decide ((0 : Int) ≤ ((0 : Nat) : Int) - 1) = false by simp]
        simp only [Bool.false_eq_true, if_false, all_brk]
        unfold spec_l4Spans_r2
        refine .inl ⟨⟨fun k hk => hok k (by omega), fun k hk => hB k (Nat.zero_le _) hk⟩, ?_⟩
        simp only [Nat.not_lt_zero, if_false]
      · obtain ⟨j, rfl⟩ : ∃ j, i = j + 1 := ⟨i - 1, by omega⟩
        have c3 : (((j + 1 : Nat) : Int) - 1) = (j : Int) := by omega
        rw [c3]
        unfold spec_l4Spans_b2
        rw [show decide ((0 : Int) ≤ (j : Int)) = true by simp]
        simp only [if_true]
        simp only [all_ite, all_next, all_brk, all_ret]
        have c1 : ((j : Int).toNat) = j := by omega
        have c2 : (((j : Int) + 1).toNat) = j + 1 := by omega
        have hm := ms_bounds w j
        have g1 := fw_ge w (k := j) (by omega)
        have g2 := fw_ge w (k := j + 1) (by omega)
        have g3 := fw_sp (p := p) (k := j + 1) (by omega)
        have g4 := hB (j + 1) (by omega) (by omega)
        unfold OkB at g4
        have hs := sp_step p (k := j) (by omega)
        have v5 : spec_l4Spans_v5 p ((j : Int), tab (fun k => if k < j + 1 then fw p k else sp p k) (p.Steps.length + 1)) = tab (fun k => if k < j then fw p k else sp p k) (p.Steps.length + 1) := by
          unfold spec_l4Spans_v5 spec_l4Spans_v4
          simp only [c1, c2, most_spec, max_spec, min_spec]
          simp only [tab_set, tab_get _ (show j < p.Steps.length + 1 by omega), tab_get _ (show j + 1 < p.Steps.length + 1 by omega)]
          refine tab_ext fun k hk => ?_
          by_cases ek : k = j
          · subst ek
            simp only [if_true, Nat.lt_irrefl, if_false, Nat.lt_succ_self, show ¬ (k + 1 = k) by omega]
            rw [hs, wr_eq (by omega) (by omega), wr_eq (by omega) (by omega)]
          · by_cases hkj : k < j
            · simp [ek, hkj, show k < j + 1 by omega]
            · simp [ek, hkj, show ¬ k < j + 1 by omega]
        rw [v5]
        simp only [c1, tab_get _ (show j < p.Steps.length + 1 by omega), Nat.lt_irrefl, if_false]
        refine ⟨fun h => ?_, fun h => ⟨⟨j, by omega, by omega, rfl, fun k h1 h2 => ?_⟩, ?_⟩⟩
        · have h := of_decide_eq_true h
          exact .inr ⟨fun hf => by have := hf.b j (by omega); unfold OkB at this; omega, rfl⟩
        · have h := of_decide_eq_false h
          rcases Nat.lt_or_ge j k with g | g
          · exact hB k (by omega) h2
          · have : k = j := by omega
            subst this; unfold OkB; omega
        · unfold spec_l4Spans_u2; simp only; omega
    · refine tab_ext fun k hk => ?_
      by_cases h : k < p.Steps.length
      · rw [if_pos h]
      · have : k = p.Steps.length := by omega
        subst this; rw [if_neg h, sp_last]
    · have : k = p.Steps.length := by omega
      subst this
      have := hok p.Steps.length (by omega)
      unfold OkB; rw [sp_last]; exact this
end Go.Lap
