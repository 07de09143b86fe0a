/- Plain laws, second part: paths that are ok; the program's spans. -/
import Derived.Test.YtihiganlkecbaaaB1
set_option linter.unusedVariables false
set_option linter.unusedSimpArgs false
namespace Go.Lap

/-- A check of all, one by one. -/
theorem forN_all {body : Nat → Unit → Res Unit Bool} {good : Nat → Prop} {n : Nat} (hb : ∀ i, i < n → (good i ∧ body i () = .next ()) ∨ (¬ good i ∧ body i () = .ret false)) : Res.fin (fun _ => true) (forN body (n - 0) 0 ()) = true ↔ ∀ i, i < n → good i := by
  refine forN_inv (fun (i : Nat) (_ : Unit) => ∀ k, k < i → good k) (fun r => r = true ↔ ∀ i, i < n → good i) n (fun j s hj h => ?_) (fun s h => ⟨fun _ => h, fun _ => rfl⟩) _ 0 () rfl (Nat.zero_le _) fun k hk => by omega
  rcases hb j hj with ⟨h1, h2⟩ | ⟨h1, h2⟩
  · rw [show s = () from rfl, h2]
    exact fun k hk => by
      rcases Nat.lt_or_ge k j with g | g
      · exact h k g
      · rw [show k = j by omega]; exact h1
  · rw [show s = () from rfl, h2]
    exact ⟨fun e => (by cases e), fun e => (h1 (e j hj)).elim⟩

/-- A step's place. -/
def Pl (s : FlyStep) : Prop := (0 ≤ s.X ∧ s.X ≤ 15) ∧ (0 ≤ s.Y ∧ s.Y ≤ 15) ∧ 0 ≤ s.Low ∧ s.Low ≤ s.High ∧ s.High ≤ 6
/-- One step behind another. -/
def Nx (a b : FlyStep) : Prop := (-1 ≤ a.X - b.X ∧ a.X - b.X ≤ 1) ∧ (-1 ≤ a.Y - b.Y ∧ a.Y - b.Y ≤ 1) ∧ (a.X ≠ b.X ∨ a.Y ≠ b.Y) ∧ a.Low ≤ b.High ∧ b.Low ≤ a.High
def stp (p : FlyPath) (k : Nat) : FlyStep := p.Steps.getD k default

/-- A path that is ok but for the order of its windows' ends. -/
structure SOK (p : FlyPath) : Prop where
  win : Win p
  n1 : 1 ≤ p.Steps.length
  n40 : p.Steps.length ≤ 40
  pl : ∀ k, k < p.Steps.length → Pl (stp p k)
  nx : ∀ k, k + 1 < p.Steps.length → Nx (stp p k) (stp p (k + 1))
structure POK (p : FlyPath) : Prop where
  s : SOK p
  o : ∀ k, k ≤ p.Steps.length → lo p k ≤ hi p k

theorem lo_lt {p : FlyPath} {k : Nat} (h : k < p.Steps.length) : lo p k = (stp p k).From := by simp [lo, h, stp]
theorem hi_lt {p : FlyPath} {k : Nat} (h : k < p.Steps.length) : hi p k = (stp p k).By := by simp [hi, h, stp]
theorem lo_len (p : FlyPath) : lo p p.Steps.length = p.From := by simp [lo]
theorem hi_len (p : FlyPath) : hi p p.Steps.length = p.By := by simp [hi]

/-- What is asked of a path, bit by bit. -/
def PB (p : FlyPath) : Prop := ((1 ≤ p.Kind.Quick ∧ p.Kind.Quick ≤ p.Kind.Slow ∧ p.Kind.Slow ≤ 50) ∧ (1 ≤ p.Steps.length ∧ p.Steps.length ≤ 40) ∧ 0 ≤ p.From ∧ p.From ≤ p.By ∧ p.By ≤ 10000) ∧
  ∀ i, i < p.Steps.length → (Pl (stp p i) ∧ 0 ≤ (stp p i).From ∧ (stp p i).From ≤ (stp p i).By ∧ (stp p i).By ≤ 10000) ∧ (0 < i → Nx (stp p (i - 1)) (stp p i))
theorem pok_iff (p : FlyPath) : POK p ↔ PB p := by
  constructor
  · intro h
    have w := h.s.win
    have h1 := w.lo0 p.Steps.length (Nat.le_refl _); have h2 := w.hi0 p.Steps.length (Nat.le_refl _); have h3 := h.o p.Steps.length (Nat.le_refl _)
    rw [lo_len] at h1 h3; rw [hi_len] at h2 h3
    refine ⟨⟨⟨w.q1, w.q2, w.q3⟩, ⟨h.s.n1, h.s.n40⟩, h1, h3, h2⟩, fun i hi' => ⟨⟨h.s.pl i hi', ?_⟩, fun h0 => ?_⟩⟩
    · have g1 := w.lo0 i (by omega); have g2 := w.hi0 i (by omega); have g3 := h.o i (by omega)
      rw [lo_lt hi'] at g1 g3; rw [hi_lt hi'] at g2 g3
      exact ⟨g1, g3, g2⟩
    · have := h.s.nx (i - 1) (by omega)
      rwa [show i - 1 + 1 = i by omega] at this
  · rintro ⟨⟨⟨q1, q2, q3⟩, ⟨n1, n2⟩, f1, f2, f3⟩, hs⟩
    have hlo : ∀ k, k ≤ p.Steps.length → 0 ≤ lo p k ∧ lo p k ≤ hi p k ∧ hi p k ≤ 10000 := by
      intro k hk
      rcases Nat.lt_or_ge k p.Steps.length with g | g
      · rw [lo_lt g, hi_lt g]; exact (hs k g).1.2
      · have : k = p.Steps.length := by omega
        subst this; rw [lo_len, hi_len]; exact ⟨f1, f2, f3⟩
    exact ⟨⟨⟨q1, q2, q3, fun k hk => (hlo k hk).1, fun k hk => (hlo k hk).2.2⟩, n1, n2, fun k hk => (hs k hk).1.1, fun k hk => by have := (hs (k + 1) hk).2 (by omega); simpa using this⟩, fun k hk => (hlo k hk).2.1⟩

theorem stepok_spec (s : FlyStep) : spec_l2StepOk s = true ↔ (Pl s ∧ 0 ≤ s.From ∧ s.From ≤ s.By ∧ s.By ≤ 10000) := by
  unfold spec_l2StepOk spec_l2StepOk_v1 Pl
  simp only [Bool.and_eq_true, in_spec, decide_eq_true_eq]
  omega
theorem stepok_impl (s : FlyStep) : impl_FlyStep_ok s = true ↔ (Pl s ∧ 0 ≤ s.From ∧ s.From ≤ s.By ∧ s.By ≤ 10000) := by
  unfold impl_FlyStep_ok impl_FlyStep_ok_v1 Pl
  simp only [Bool.and_eq_true, in_impl, decide_eq_true_eq]
  omega
theorem next_spec {a b : FlyStep} (ha : Pl a) (hb : Pl b) : spec_l2Next a b = true ↔ Nx a b := by
  unfold spec_l2Next spec_l2Next_v1 Nx
  obtain ⟨⟨x1, x2⟩, ⟨y1, y2⟩, _⟩ := ha
  obtain ⟨⟨x3, x4⟩, ⟨y3, y4⟩, _⟩ := hb
  rw [wr_eq (by omega) (by omega), wr_eq (by omega) (by omega)]
  simp only [Bool.and_eq_true, Bool.or_eq_true, in_spec, decide_eq_true_eq, Bool.not_eq_true', decide_eq_false_iff_not]
  omega

theorem pathok_spec (p : FlyPath) : spec_FlyPathOk p = true ↔ POK p := by
  rw [pok_iff]
  unfold spec_FlyPathOk PB
  have hloop : Res.fin (spec_FlyPathOk_r1 p) (forN (spec_FlyPathOk_b1 p) (p.Steps.length - 0) 0 ()) = true ↔ ∀ i, i < p.Steps.length → (spec_l2StepOk (stp p i) = true ∧ (0 < i → spec_l2Next (stp p (i - 1)) (stp p i) = true)) := by
    refine forN_all fun i hi => ?_
    unfold spec_FlyPathOk_b1 spec_FlyPathOk_v1
    have e : (((i : Int) - 1).toNat) = i - 1 := by omega
    rw [e]
    show _ ∨ _
    simp only [stp]
    cases h1 : spec_l2StepOk (p.Steps.getD i default) with
    | false => right; simp
    | true =>
      by_cases h0 : 0 < i
      · cases h2 : spec_l2Next (p.Steps.getD (i - 1) default) (p.Steps.getD i default) with
        | false => right; simp [h0]
        | true => left; simp
      · left; simp [h0]
  have hall : (∀ i, i < p.Steps.length → (spec_l2StepOk (stp p i) = true ∧ (0 < i → spec_l2Next (stp p (i - 1)) (stp p i) = true))) ↔ ∀ i, i < p.Steps.length → (Pl (stp p i) ∧ 0 ≤ (stp p i).From ∧ (stp p i).From ≤ (stp p i).By ∧ (stp p i).By ≤ 10000) ∧ (0 < i → Nx (stp p (i - 1)) (stp p i)) := by
    constructor
    · intro h i hi
      obtain ⟨h1, h2⟩ := h i hi
      rw [stepok_spec] at h1
      refine ⟨h1, fun h0 => ?_⟩
      have h3 := (h (i - 1) (by omega)).1
      rw [stepok_spec] at h3
      exact (next_spec h3.1 h1.1).1 (h2 h0)
    · intro h i hi
      obtain ⟨h1, h2⟩ := h i hi
      exact ⟨(stepok_spec _).2 h1, fun h0 => (next_spec (h (i - 1) (by omega)).1.1 h1.1).2 (h2 h0)⟩
  rw [← hall, ← hloop]
  rw [ite_all (M := fun b : Bool => b = true ↔ _)]
  refine ⟨fun h => ⟨fun e => (by cases e), fun e => ?_⟩, fun h => ⟨fun e => ⟨?_, e⟩, fun e => e.2⟩⟩
  · exfalso
    simp only [Bool.or_eq_true, Bool.not_eq_true', decide_eq_true_eq, ← Bool.not_eq_true, spec_FlyKindOk, Bool.and_eq_true, in_spec] at h
    omega
  · simp only [Bool.or_eq_false_iff, Bool.not_eq_false', decide_eq_false_iff_not, spec_FlyKindOk, Bool.and_eq_true, in_spec, decide_eq_true_eq] at h
    omega

theorem pathok_impl (p : FlyPath) : impl_FlyPathOk p = true ↔ POK p := by
  rw [pok_iff]
  unfold impl_FlyPathOk PB
  have hloop : Res.fin (impl_FlyPathOk_r1 p) (forN (impl_FlyPathOk_b1 p) (p.Steps.length - 0) 0 ()) = true ↔ ∀ i, i < p.Steps.length → (impl_FlyStep_ok (stp p i) = true ∧ (0 < i → impl_FlyPathOk_v2 p i = false)) := by
    refine forN_all fun i hi => ?_
    unfold impl_FlyPathOk_b1
    simp only [stp]
    cases h1 : impl_FlyStep_ok (p.Steps.getD i default) with
    | false => right; simp
    | true =>
      by_cases h0 : i = 0
      · left; simp [h0]
      · have h0' : 0 < i := by omega
        cases h2 : impl_FlyPathOk_v2 p i with
        | false => left; simp [h0]
        | true => right; simp [h0, h0']
  have hall : (∀ i, i < p.Steps.length → (impl_FlyStep_ok (stp p i) = true ∧ (0 < i → impl_FlyPathOk_v2 p i = false))) ↔ ∀ i, i < p.Steps.length → (Pl (stp p i) ∧ 0 ≤ (stp p i).From ∧ (stp p i).From ≤ (stp p i).By ∧ (stp p i).By ≤ 10000) ∧ (0 < i → Nx (stp p (i - 1)) (stp p i)) := by
    have key : ∀ i, 0 < i → Pl (stp p (i - 1)) → Pl (stp p i) → (impl_FlyPathOk_v2 p i = false ↔ Nx (stp p (i - 1)) (stp p i)) := by
      intro i h0 ha hb
      unfold impl_FlyPathOk_v2 Nx
      have e : (((i : Int) - 1).toNat) = i - 1 := by omega
      rw [e]
      simp only [stp] at ha hb ⊢
      obtain ⟨⟨x1, x2⟩, ⟨y1, y2⟩, _⟩ := ha
      obtain ⟨⟨x3, x4⟩, ⟨y3, y4⟩, _⟩ := hb
      rw [wr_eq (by omega) (by omega), wr_eq (by omega) (by omega)]
      simp only [Bool.or_eq_false_iff, Bool.and_eq_false_iff, Bool.not_eq_false', in_impl, decide_eq_false_iff_not]
      omega
    constructor
    · intro h i hi
      obtain ⟨h1, h2⟩ := h i hi
      rw [stepok_impl] at h1
      refine ⟨h1, fun h0 => ?_⟩
      have h3 := (h (i - 1) (by omega)).1
      rw [stepok_impl] at h3
      exact (key i h0 h3.1 h1.1).1 (h2 h0)
    · intro h i hi
      obtain ⟨h1, h2⟩ := h i hi
      exact ⟨(stepok_impl _).2 h1, fun h0 => (key i h0 (h (i - 1) (by omega)).1.1 h1.1).2 (h2 h0)⟩
  rw [← hall, ← hloop]
  rw [ite_all (M := fun b : Bool => b = true ↔ _)]
  refine ⟨fun h => ⟨fun e => (by cases e), fun e => ?_⟩, fun h => ⟨fun e => ⟨?_, e⟩, fun e => e.2⟩⟩
  · exfalso
    simp only [impl_FlyPathOk_v1, Bool.or_eq_true, Bool.not_eq_true', decide_eq_true_eq, ← Bool.not_eq_true, impl_FlyKindOk, Bool.and_eq_true, in_impl] at h
    omega
  · simp only [impl_FlyPathOk_v1, Bool.or_eq_false_iff, Bool.not_eq_false', decide_eq_false_iff_not, impl_FlyKindOk, Bool.and_eq_true, in_impl, decide_eq_true_eq] at h
    omega

theorem pathok_eq (p : FlyPath) : impl_FlyPathOk p = spec_FlyPathOk p := by
  rw [Bool.eq_iff_iff, pathok_impl, pathok_spec]

/-! ### The program's spans -/
theorem bounds_impl (p : FlyPath) {k : Nat} (h : k ≤ p.Steps.length) : impl_FlyPath_bounds p (k : Int) = (lo p k, hi p k) := by
  unfold impl_FlyPath_bounds lo hi
  by_cases e : k = p.Steps.length
  · subst e; simp
  · have h1 : k < p.Steps.length := by omega
    have h2 : ¬ (k : Int) = (p.Steps.length : Int) := by omega
    simp [h1, h2]
theorem rep_tab (n : Nat) : List.replicate n (⟨0, 0⟩ : FlySpan) = tab (fun _ => (0, 0)) n := by
  unfold tab
  apply List.ext_getElem?
  intro j
  by_cases h : j < n <;> simp [h]

theorem spans_impl_ok {p : FlyPath} (hp : POK p) : IsSp p (impl_FlySpans p) := by
  have w := hp.s.win
  have hq1 := w.q1; have hq2 := w.q2; have hq3 := w.q3
  unfold impl_FlySpans
  rw [(pathok_impl p).2 hp]
  simp only [Bool.not_true, Bool.false_eq_true, if_false]
  refine forN_inv (fun (i : Nat) (s : List FlySpan) => s = tab (fun k => if k < i then fw p k else (0, 0)) (p.Steps.length + 1) ∧ ∀ k, k < i → OkF p k) (IsSp p) (List.replicate (p.Steps.length + 1) (⟨0, 0⟩ : FlySpan)).length (fun j s hj h => ?_) (fun s h => ?_) _ 0 _ rfl (Nat.zero_le _) ⟨?_, fun k hk => by omega⟩
  · obtain ⟨rfl, hok⟩ := h
    rw [List.length_replicate] at hj
    have v1 : impl_FlySpans_v1 p j (tab (fun k => if k < j then fw p k else (0, 0)) (p.Steps.length + 1)) = tab (fun k => if k = j then (lo p j, hi p j) else if k < j then fw p k else (0, 0)) (p.Steps.length + 1) := by
      unfold impl_FlySpans_v1
      rw [bounds_impl p (by omega)]
      simp only [tab_set, tab_get _ hj]
      refine tab_ext fun k hk => ?_
      by_cases e : k = j <;> simp [e]
    unfold impl_FlySpans_b1
    simp only [all_ite, all_next, all_ret]
    refine ⟨fun h => ?_, fun h => ?_⟩
    · have h := of_decide_eq_true h
      have : j = 0 := by omega
      subst this
      rw [v1]
      refine ⟨tab_ext fun k hk => ?_, fun k hk => ?_⟩
      · by_cases e : k = 0
        · subst e; simp [fw]
        · simp [e, show ¬ k < 1 by omega]
      · have : k = 0 := by omega
        subst this; exact hp.o 0 (Nat.zero_le _)
    · have h := of_decide_eq_false h
      obtain ⟨i, rfl⟩ : ∃ i, j = i + 1 := ⟨j - 1, by omega⟩
      have hp1 := hok i (by omega)
      have hb := fw_ge w (k := i) (by omega)
      unfold OkF at hp1
      have hm := ms_bounds w i
      have e0 : ((((i + 1 : Nat) : Int) - 1).toNat) = i := by omega
      have hhi := w.hi0 (i + 1) (by omega)
      have v2 : impl_FlySpans_v2 p (i + 1) (tab (fun k => if k < i + 1 then fw p k else (0, 0)) (p.Steps.length + 1)) = tab (fun k => if k = i + 1 then ((fw p (i + 1)).1, hi p (i + 1)) else if k < i + 1 then fw p k else (0, 0)) (p.Steps.length + 1) := by
        unfold impl_FlySpans_v2
        rw [v1]
        simp only [e0, tab_set, tab_get _ hj, tab_get _ (show i < p.Steps.length + 1 by omega), if_true, show ¬ i = i + 1 by omega, if_false, show i < i + 1 by omega]
        rw [wr_eq (by omega) (by omega)]
        refine tab_ext fun k hk => ?_
        by_cases e : k = i + 1
        · subst e; simp [fw]
        · simp [e]
      have fin : ∀ f : Nat → Int × Int, (∀ k, k ≠ i + 1 → f k = if k < i + 1 then fw p k else (0, 0)) → f (i + 1) = fw p (i + 1) → tab f (p.Steps.length + 1) = tab (fun k => if k < i + 1 + 1 then fw p k else (0, 0)) (p.Steps.length + 1) := by
        intro f h1 h2
        refine tab_ext fun k hk => ?_
        by_cases e : k = i + 1
        · subst e; rw [h2]; simp
        · rw [h1 k e]
          by_cases g : k < i + 1
          · simp [g, show k < i + 1 + 1 by omega]
          · simp [g, show ¬ k < i + 1 + 1 by omega]
      have okn : (fw p (i + 1)).1 ≤ (fw p (i + 1)).2 → ∀ k, k < i + 1 + 1 → OkF p k := by
        intro h k hk
        rcases Nat.lt_or_ge k (i + 1) with g | g
        · exact hok k g
        · rw [show k = i + 1 by omega]; exact h
      have bad : (fw p (i + 1)).2 < (fw p (i + 1)).1 → IsSp p ([], false) := fun h => .inr ⟨fun hf => by have := hf.f (i + 1) (by omega); unfold OkF at this; omega, rfl⟩
      rw [e0]
      refine ⟨fun hh => ?_, fun hh => ?_⟩
      · have hh : (p.Steps.getD i default).Hold = false := by simpa using hh
        have hms : ms p i = p.Kind.Slow := by unfold ms; rw [hh]; rfl
        have v3 : impl_FlySpans_v3 p (i + 1) (tab (fun k => if k < i + 1 then fw p k else (0, 0)) (p.Steps.length + 1)) = tab (fun k => if k < i + 1 + 1 then fw p k else (0, 0)) (p.Steps.length + 1) := by
          unfold impl_FlySpans_v3
          rw [v2]
          simp only [e0, tab_set, tab_get _ hj, tab_get _ (show i < p.Steps.length + 1 by omega), if_true, show ¬ i = i + 1 by omega, if_false, show i < i + 1 by omega]
          rw [wr_eq (by omega) (by omega)]
          refine fin _ (fun k e => by simp [e]) ?_
          simp [fw, hms]
        rw [v3]
        simp only [tab_get _ hj, show i + 1 < i + 1 + 1 by omega, if_true]
        exact ⟨fun h => bad (of_decide_eq_true h), fun h => ⟨trivial, okn (by have := of_decide_eq_false h; omega)⟩⟩
      · have hh : (p.Steps.getD i default).Hold = true := by simpa using hh
        have hms : ms p i = 10000 := by unfold ms; rw [hh]; rfl
        have e2 : hi p (i + 1) = (fw p (i + 1)).2 := by simp only [fw, hms]; omega
        rw [v2]
        simp only [tab_get _ hj, if_true]
        rw [e2]
        refine ⟨fun h => bad (of_decide_eq_true h), fun h => ⟨fin _ (fun k e => by simp [e]) (by simp), okn (by have := of_decide_eq_false h; omega)⟩⟩
  · obtain ⟨rfl, hok⟩ := h
    rw [List.length_replicate] at hok ⊢
    unfold impl_FlySpans_r1
    refine itr_inv (fun (s2 : Int × List FlySpan) => ∃ i : Nat, s2.1 = (i : Int) - 1 ∧ i ≤ p.Steps.length ∧ s2.2 = tab (fun k => if k < i then fw p k else sp p k) (p.Steps.length + 1) ∧ ∀ k, i ≤ k → k ≤ p.Steps.length → OkB p k)
      (impl_FlySpans_u2 p _) (IsSp p) (fun s2 h2 => ?_) _ _ (Nat.lt_succ_self _) ⟨p.Steps.length, rfl, Nat.le_refl _, ?_, fun k h1 h2 => ?_⟩
    · obtain ⟨i, e1, hi', e2, hB⟩ := h2
      obtain ⟨z, s⟩ := s2
      simp only at e1 e2
      subst e1 e2
      rcases Nat.eq_zero_or_pos i with hi0 | hi0
      · subst hi0
        unfold impl_FlySpans_b2
        rw [show decide ((0 : Int) ≤ ((0 : Nat) : Int) - 1) = false by simp]
        simp only [Bool.false_eq_true, if_false, all_brk]
        unfold impl_FlySpans_r2
        refine .inl ⟨⟨fun k hk => hok k (by omega), fun k hk => hB k (Nat.zero_le _) hk⟩, ?_⟩
        simp only [Nat.not_lt_zero, if_false]
      · obtain ⟨j, rfl⟩ : ∃ j, i = j + 1 := ⟨i - 1, by omega⟩
        have c3 : (((j + 1 : Nat) : Int) - 1) = (j : Int) := by omega
        rw [c3]
        unfold impl_FlySpans_b2
        rw [show decide ((0 : Int) ≤ (j : Int)) = true by simp]
        simp only [if_true]
        simp only [all_ite, all_next, all_brk, all_ret]
        have c1 : ((j : Int).toNat) = j := by omega
        have c2 : (((j : Int) + 1).toNat) = j + 1 := by omega
        have hm := ms_bounds w j
        have g1 := fw_ge w (k := j) (by omega)
        have g2 := fw_ge w (k := j + 1) (by omega)
        have g3 := fw_sp (p := p) (k := j + 1) (by omega)
        have g4 := hB (j + 1) (by omega) (by omega)
        unfold OkB at g4
        have hs := sp_step p (k := j) (by omega)
        have v4 : impl_FlySpans_v4 p ((j : Int), tab (fun k => if k < j + 1 then fw p k else sp p k) (p.Steps.length + 1)) = tab (fun k => if k = j then ((fw p j).1, (sp p j).2) else if k < j + 1 then fw p k else sp p k) (p.Steps.length + 1) := by
          unfold impl_FlySpans_v4
          simp only [c1, c2]
          simp only [tab_set, tab_get _ (show j < p.Steps.length + 1 by omega), tab_get _ (show j + 1 < p.Steps.length + 1 by omega), show ¬ j + 1 < j + 1 by omega, show j < j + 1 by omega, if_true, if_false]
          rw [wr_eq (by omega) (by omega)]
          refine tab_ext fun k hk => ?_
          by_cases ek : k = j
          · subst ek; simp [hs]
          · simp [ek]
        have fin : ∀ f : Nat → Int × Int, (∀ k, k ≠ j → f k = if k < j + 1 then fw p k else sp p k) → f j = sp p j → tab f (p.Steps.length + 1) = tab (fun k => if k < j then fw p k else sp p k) (p.Steps.length + 1) := by
          intro f h1 h2
          refine tab_ext fun k hk => ?_
          by_cases e : k = j
          · subst e; rw [h2]; simp
          · rw [h1 k e]
            by_cases g : k < j
            · simp [g, show k < j + 1 by omega]
            · simp [g, show ¬ k < j + 1 by omega]
        have okn : (sp p j).1 ≤ (sp p j).2 → ∀ k, j ≤ k → k ≤ p.Steps.length → OkB p k := by
          intro h k h1 h2
          rcases Nat.lt_or_ge j k with g | g
          · exact hB k (by omega) h2
          · rw [show k = j by omega]; exact h
        have bad : (sp p j).2 < (sp p j).1 → IsSp p ([], false) := fun h => .inr ⟨fun hf => by have := hf.b j (by omega); unfold OkB at this; omega, rfl⟩
        rw [c1]
        refine ⟨fun hh => ?_, fun hh => ?_⟩
        · have hh : (p.Steps.getD j default).Hold = false := by simpa using hh
          have hms : ms p j = p.Kind.Slow := by unfold ms; rw [hh]; rfl
          have v5 : impl_FlySpans_v5 p ((j : Int), tab (fun k => if k < j + 1 then fw p k else sp p k) (p.Steps.length + 1)) = tab (fun k => if k < j then fw p k else sp p k) (p.Steps.length + 1) := by
            unfold impl_FlySpans_v5
            rw [v4]
            simp only [c1, c2]
            simp only [tab_set, tab_get _ (show j < p.Steps.length + 1 by omega), tab_get _ (show j + 1 < p.Steps.length + 1 by omega), show ¬ j + 1 < j + 1 by omega, show ¬ j + 1 = j by omega, if_true, if_false]
            rw [wr_eq (by omega) (by omega)]
            refine fin _ (fun k e => by simp [e]) ?_
            rw [hs, hms]; simp
          rw [v5]
          simp only [tab_get _ (show j < p.Steps.length + 1 by omega), Nat.lt_irrefl, if_false]
          refine ⟨fun h => bad (of_decide_eq_true h), fun h => ⟨⟨j, by omega, by omega, rfl, okn (by have := of_decide_eq_false h; omega)⟩, ?_⟩⟩
          unfold impl_FlySpans_u2; simp only; omega
        · have hh : (p.Steps.getD j default).Hold = true := by simpa using hh
          have hms : ms p j = 10000 := by unfold ms; rw [hh]; rfl
          have g5 := fw_ge w (k := j + 1) (by omega)
          have e2 : (fw p j).1 = (sp p j).1 := by rw [hs, hms]; simp only; omega
          rw [v4]
          simp only [tab_get _ (show j < p.Steps.length + 1 by omega), if_true]
          rw [e2]
          refine ⟨fun h => bad (of_decide_eq_true h), fun h => ⟨⟨j, by omega, by omega, fin _ (fun k e => by simp [e]) (by simp), okn (by have := of_decide_eq_false h; omega)⟩, ?_⟩⟩
          unfold impl_FlySpans_u2; simp only; omega
    · refine tab_ext fun k hk => ?_
      by_cases h : k < p.Steps.length
      · simp [h, show k < p.Steps.length + 1 by omega]
      · have : k = p.Steps.length := by omega
        subst this; simp [sp_last]
    · have : k = p.Steps.length := by omega
      subst this
      have := hok p.Steps.length (by omega)
      unfold OkB; rw [sp_last]; exact this
  · rw [rep_tab]; exact tab_ext fun k hk => by simp

/-- Windows whose ends are the wrong way round: no flight. -/
theorem not_feas {p : FlyPath} {k : Nat} (hk : k ≤ p.Steps.length) (h : hi p k < lo p k) : ¬ Feas p := fun hf => by
  have h1 := hf.f k hk; have h2 := fw_lo (p := p) k
  unfold OkF at h1; omega
theorem spans_impl {p : FlyPath} (hp : SOK p) : IsSp p (impl_FlySpans p) := by
  by_cases h : POK p
  · exact spans_impl_ok h
  · have : ∃ k, k ≤ p.Steps.length ∧ hi p k < lo p k := by
      refine Classical.byContradiction fun hn => h ⟨hp, fun k hk => ?_⟩
      refine Classical.byContradiction fun hg => hn ⟨k, hk, by omega⟩
    obtain ⟨k, hk, hl⟩ := this
    refine .inr ⟨not_feas hk hl, ?_⟩
    unfold impl_FlySpans
    have : impl_FlyPathOk p = false := by
      cases hb : impl_FlyPathOk p with
      | false => rfl
      | true => exact (h ((pathok_impl p).1 hb)).elim
    rw [this]; rfl
/-- **The two agree on spans.** -/
theorem spans_eq {p : FlyPath} (hp : SOK p) : impl_FlySpans p = spec_l4Spans p := (spans_impl hp).uniq (spans_spec hp.win)
end Go.Lap
