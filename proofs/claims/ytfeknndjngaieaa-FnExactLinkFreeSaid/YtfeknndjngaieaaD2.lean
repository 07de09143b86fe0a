/- Plain laws: books; the laws FnExactLinkBookOk and FnExactLinkFree. No condition beyond the argument's kind. -/
import Derived.Test.YtfeknndjngaieaaD1
set_option linter.unusedVariables false
set_option linter.unusedSimpArgs false
namespace Go.Lap

theorem forN_congr {σ ρ : Type} {b b' : Nat → σ → Res σ ρ} : ∀ (c i : Nat) (s : σ), (∀ k, i ≤ k → k < i + c → ∀ s, b k s = b' k s) → forN b c i s = forN b' c i s
  | 0, _, _, _ => rfl
  | c + 1, i, s, h => by
    simp only [forN]
    rw [h i (Nat.le_refl _) (by omega) s]
    cases b' i s with
    | next s' => exact forN_congr c (i + 1) s' fun k h1 h2 s => h k (by omega) (by omega) s
    | brk s' => rfl
    | ret r => rfl

theorem close_eq {a b : ProbeBox} (ha : spec_ProbeBoxOk a = true) (hb : spec_ProbeBoxOk b = true) : impl_ProbeClose a b = spec_l11Close a b := by
  have e1 : impl_in (wr (a.X - b.X)) (-1) 1 = spec_l11In (wr (a.X - b.X)) (-1) 1 := rfl
  have e2 : impl_in (wr (a.Y - b.Y)) (-1) 1 = spec_l11In (wr (a.Y - b.Y)) (-1) 1 := rfl
  unfold impl_ProbeClose impl_ProbeClose_v1 spec_l11Close spec_l11Close_v1
  rw [box_eq, box_eq, ha, hb, e1, e2]
  unfold spec_ProbeBoxOk spec_ProbeBoxOk_v1 spec_l11In at ha hb
  simp only [Bool.and_eq_true, decide_eq_true_eq] at ha hb
  generalize spec_l11In (wr (a.X - b.X)) (-1) 1 = u
  generalize spec_l11In (wr (a.Y - b.Y)) (-1) 1 = v
  cases u with
  | false => simp
  | true =>
    cases v with
    | false => simp
    | true =>
      simp only [Bool.not_true, Bool.false_or, Bool.or_eq_true, decide_eq_true_eq]
      by_cases h1 : min a.High b.High < max a.Low b.Low
      · have q : (((b.High < a.Low ∨ a.High < b.Low) ∨ b.Out < a.In) ∨ a.Out < b.In) := by omega
        rw [if_pos h1, if_pos q]
      · by_cases h2 : min a.Out b.Out < max a.In b.In
        · have q : (((b.High < a.Low ∨ a.High < b.Low) ∨ b.Out < a.In) ∨ a.Out < b.In) := by omega
          rw [if_neg h1, if_pos h2, if_pos q]
        · have q : ¬ (((b.High < a.Low ∨ a.High < b.Low) ∨ b.Out < a.In) ∨ a.Out < b.In) := by omega
          rw [if_neg h1, if_neg h2, if_neg q]
          by_cases h3 : b.In < a.In
          · rw [if_pos h3, show max a.In b.In = a.In by omega]
          · rw [if_neg h3, show max a.In b.In = b.In by omega]

theorem tube_boxes {t : ProbeTube} (h : spec_ProbeTubeOk t = true) {i : Nat} (hi : i < t.Boxes.length) : spec_ProbeBoxOk (t.Boxes.getD i default) = true := by
  unfold spec_ProbeTubeOk at h
  split at h
  · cases h
  · have := (forN_all (body := spec_ProbeTubeOk_b1 t) (good := fun i => spec_ProbeBoxOk (t.Boxes.getD i default) = true) (n := t.Boxes.length) (fun i _ => by
      unfold spec_ProbeTubeOk_b1
      cases hq : spec_ProbeBoxOk (t.Boxes.getD i default) <;> simp)).1 h
    exact this i hi

theorem meet_eq (a b : ProbeTube) : impl_ProbeMeet a b = spec_ProbeMeet a b := by
  unfold impl_ProbeMeet spec_ProbeMeet
  rw [tubeok_eq, tubeok_eq]
  cases ha : spec_ProbeTubeOk a with
  | false => rfl
  | true =>
    cases hb : spec_ProbeTubeOk b with
    | false => rfl
    | true =>
      simp only [Bool.not_true, Bool.or_self, Bool.false_eq_true, if_false]
      unfold spec_l13Meet
      rw [forN_congr (b := impl_ProbeMeet_b1 a b) (b' := spec_l13Meet_b1 a b) _ 0 _ (fun i _ hi s => ?_)]
      · rfl
      · unfold impl_ProbeMeet_b1 spec_l13Meet_b1
        rw [forN_congr (b := impl_ProbeMeet_b2 a b i s) (b' := spec_l13Meet_b2 a b i s) _ 0 _ (fun j _ hj s2 => ?_)]
        · rfl
        · unfold impl_ProbeMeet_b2 spec_l13Meet_b2 impl_ProbeMeet_v1 spec_l13Meet_v1
          rw [close_eq (tube_boxes ha (by omega)) (tube_boxes hb (by omega))]

theorem near_eq (p q : FlyPath) (now : Int) : impl_near p q now = spec_l23Meets p q now := by
  unfold impl_near spec_l23Meets
  rw [meet_eq, tube_eq, tube_eq]
theorem can_eq (p : FlyPath) : impl_flown p = spec_l21Can p := by
  unfold impl_flown spec_l21Can
  rw [Bool.eq_iff_iff, spans_pok, specspans_snd]

theorem forN_in {σ : Type} {body : Nat → Unit → Res Unit (Res σ Bool)} {c : Nat → Bool} (hb : ∀ i, body i () = if c i then .ret (.ret false) else .next ()) (x : σ) :
    ∀ n j, ((∀ k, j ≤ k → k < j + n → c k = false) ∧ Res.fin (fun _ => .next x) (forN body n j ()) = .next x) ∨ ((∃ k, j ≤ k ∧ k < j + n ∧ c k = true) ∧ Res.fin (fun _ => .next x) (forN body n j ()) = .ret false)
  | 0, j => .inl ⟨fun k h1 h2 => by omega, rfl⟩
  | n + 1, j => by
    cases hc : c j with
    | true => exact .inr ⟨⟨j, Nat.le_refl _, by omega, hc⟩, by simp only [forN, hb j, hc, if_true, Res.fin]⟩
    | false =>
      have e : forN body (n + 1) j () = forN body n (j + 1) () := by simp only [forN, hb j, hc, Bool.false_eq_true, if_false]
      rw [e]
      rcases forN_in hb x n (j + 1) with ⟨h1, h2⟩ | ⟨⟨k, h1, h2, h3⟩, h4⟩
      · exact .inl ⟨fun k g1 g2 => by
          by_cases e : k = j
          · subst e; exact hc
          · exact h1 k (by omega) (by omega), h2⟩
      · exact .inr ⟨⟨k, by omega, by omega, h3⟩, h4⟩

theorem forN_st {σ : Type} {body : Nat → σ → Res σ Bool} (S : Nat → σ → Prop) (good : Nat → Prop) (n : Nat)
    (hb : ∀ i s, i < n → S i s → (∀ k, k < i → good k) → (good i ∧ ∃ s', body i s = .next s' ∧ S (i + 1) s') ∨ (¬ good i ∧ body i s = .ret false)) :
    ∀ (c i : Nat) (s : σ), i + c = n → S i s → (∀ k, k < i → good k) → (Res.fin (fun _ => true) (forN body c i s) = true ↔ ∀ k, k < n → good k)
  | 0, i, s, h, _, hg => ⟨fun _ k hk => hg k (by omega), fun _ => rfl⟩
  | c + 1, i, s, h, hs, hg => by
    rcases hb i s (by omega) hs hg with ⟨h1, s', h2, h3⟩ | ⟨h1, h2⟩
    · simp only [forN, h2]
      exact forN_st S good n hb c (i + 1) s' (by omega) h3 fun k hk => by
        by_cases e : k = i
        · subst e; exact h1
        · exact hg k (by omega)
    · simp only [forN, h2, Res.fin]
      exact ⟨fun e => (by cases e), fun e => (h1 (e i (by omega))).elim⟩

/-- What is asked of the i-th who holds something. -/
def bgood (b : LinkBook) (now : Int) (i : Nat) : Prop :=
  spec_LinkBookOk_v1 b i = false ∧ ∀ k, k < i → (spec_l23Same (b.Held.getD k default) (b.Held.getD i default) || spec_l23Near (b.Held.getD k default) (b.Held.getD i default) now) = false

theorem insK_mem (ks : List Int) (n x : Int) : x ∈ insK ks n ↔ x ∈ ks ∨ x = n := by
  unfold insK
  split
  · rename_i h; exact ⟨.inl, fun e => e.elim id fun e => e ▸ h⟩
  · simp

theorem book_spec (b : LinkBook) (now : Int) : Res.fin (spec_LinkBookOk_r1 b now) (forN (spec_LinkBookOk_b1 b now) (b.Held.length - 0) 0 ()) = true ↔ ∀ i, i < b.Held.length → bgood b now i := by
  refine forN_all fun i _ => ?_
  unfold spec_LinkBookOk_b1 bgood
  cases hv : spec_LinkBookOk_v1 b i with
  | true => exact .inr ⟨fun h => (by cases h.1), rfl⟩
  | false =>
    simp only [Bool.false_eq_true, if_false, true_and]
    rcases forN_in (σ := Unit) (body := spec_LinkBookOk_b2 b now i ()) (c := fun k => spec_l23Same (b.Held.getD k default) (b.Held.getD i default) || spec_l23Near (b.Held.getD k default) (b.Held.getD i default) now) (fun k => rfl) () (i - 0) 0 with ⟨h1, h2⟩ | ⟨⟨k, h1, h2, h3⟩, h4⟩
    · exact .inl ⟨fun k hk => h1 k (Nat.zero_le _) (by omega), h2⟩
    · refine .inr ⟨fun h => ?_, h4⟩
      rw [h k (by omega)] at h3; cases h3

theorem hnear_eq (h : LinkHeld) (p : FlyPath) (now : Int) : impl_LinkHeld_near h p now = (spec_l23Meets h.Path p now || spec_l23Meets h.Next p now) := by
  unfold impl_LinkHeld_near
  rw [near_eq, near_eq]

theorem take_get {α : Type} (xs : List α) {i k : Nat} (d : α) (h : k < i) : ((xs.drop 0).take (i - 0)).getD k d = xs.getD k d := by
  simp only [List.drop_zero, Nat.sub_zero, List.getD_eq_getElem?_getD, List.getElem?_take, h, if_true]

/-- The numbers that were met. -/
def Met (b : LinkBook) (i : Nat) (s : List Int) : Prop := ∀ x, x ∈ s ↔ ∃ k, k < i ∧ (x = (b.Held.getD k default).Number ∨ (x = (b.Held.getD k default).Sent ∧ x ≠ 0))

theorem same_false (a c : LinkHeld) : spec_l23Same a c = false ↔ a.Number ≠ c.Number ∧ a.Number ≠ c.Sent ∧ a.Sent ≠ c.Number ∧ ¬ (a.Sent = c.Sent ∧ 0 < a.Sent) := by
  unfold spec_l23Same spec_l23Same_v1
  simp only [Bool.or_eq_false_iff, Bool.and_eq_false_iff, decide_eq_false_iff_not]
  constructor
  · rintro ⟨⟨⟨h1, h2⟩, h3⟩, h4⟩
    exact ⟨h1, h2, h3, fun ⟨e1, e2⟩ => by rcases h4 with h | h; exact h e1; exact h e2⟩
  · rintro ⟨h1, h2, h3, h4⟩
    refine ⟨⟨⟨h1, h2⟩, h3⟩, ?_⟩
    by_cases e : a.Sent = c.Sent
    · exact .inr fun h => h4 ⟨e, h⟩
    · exact .inl e

theorem v1_false (b : LinkBook) (i : Nat) : spec_LinkBookOk_v1 b i = false ↔ spec_l12NameOk (b.Held.getD i default).Name = true ∧ 1 ≤ (b.Held.getD i default).Number ∧ spec_l21Can (b.Held.getD i default).Path = true ∧
    ((spec_l21None (b.Held.getD i default).Next = true ∧ (b.Held.getD i default).Sent = 0) ∨ (spec_l21Can (b.Held.getD i default).Next = true ∧ (b.Held.getD i default).Number < (b.Held.getD i default).Sent)) ∧
    (b.Held.getD i default).Number ≤ b.Last ∧ (b.Held.getD i default).Sent ≤ b.Last ∧ ((decide (0 < ((i : Nat) : Int))) && (!Op.bytesLess ((b.Held.getD ((((i : Nat) : Int) - 1).toNat) default).Name).toList ((b.Held.getD i default).Name).toList)) = false := by
  unfold spec_LinkBookOk_v1 spec_l23HeldOk
  generalize ((decide (0 < ((i : Nat) : Int))) && (!Op.bytesLess ((b.Held.getD ((((i : Nat) : Int) - 1).toNat) default).Name).toList ((b.Held.getD i default).Name).toList)) = O
  generalize b.Held.getD i default = h
  cases spec_l12NameOk h.Name <;> cases spec_l21Can h.Path <;> cases spec_l21None h.Next <;> cases spec_l21Can h.Next <;> cases O <;>
    simp only [Bool.or_eq_false_iff, Bool.not_eq_false', Bool.not_true, Bool.not_false, Bool.false_or, Bool.or_false, Bool.true_or, Bool.or_true, Bool.false_and, Bool.true_and, decide_eq_false_iff_not, decide_eq_true_eq, Bool.false_eq_true, if_true, if_false, false_and, true_and, and_false, and_true, Bool.true_eq_false, or_false, false_or, Bool.or_eq_true, Bool.and_eq_true, reduceCtorEq, Bool.not_eq_true'] <;>
    (try (by_cases h0 : h.Number < 1 <;> simp [h0] <;> omega)) <;> omega

theorem near_false (a c : LinkHeld) (now : Int) : spec_l23Near a c now = (impl_LinkHeld_near a c.Path now || impl_LinkHeld_near a c.Next now) := by
  unfold spec_l23Near spec_l23Near_v1
  rw [hnear_eq, hnear_eq]
  cases spec_l23Meets a.Path c.Path now <;> cases spec_l23Meets a.Path c.Next now <;> cases spec_l23Meets a.Next c.Path now <;> cases spec_l23Meets a.Next c.Next now <;> rfl

theorem implv1_false (b : LinkBook) (i : Nat) (s : List Int) : impl_LinkBookOk_v1 b i s = false ↔ spec_l12NameOk (b.Held.getD i default).Name = true ∧
    ((decide (0 < ((i : Nat) : Int))) && (!Op.bytesLess ((b.Held.getD ((((i : Nat) : Int) - 1).toNat) default).Name).toList ((b.Held.getD i default).Name).toList)) = false ∧
    (1 ≤ (b.Held.getD i default).Number ∧ (b.Held.getD i default).Number ≤ b.Last) ∧ (b.Held.getD i default).Number ∉ s ∧ spec_l21Can (b.Held.getD i default).Path = true := by
  unfold impl_LinkBookOk_v1
  rw [name_eq, can_eq]
  simp only [Bool.or_eq_false_iff, Bool.not_eq_false', decide_eq_false_iff_not, in_impl]
  constructor
  · rintro ⟨⟨⟨⟨h1, h2⟩, h3⟩, h4⟩, h5⟩; exact ⟨h1, h2, h3, h4, h5⟩
  · rintro ⟨h1, h2, h3, h4, h5⟩; exact ⟨⟨⟨⟨h1, h2⟩, h3⟩, h4⟩, h5⟩
theorem implv3_false (b : LinkBook) (i : Nat) (s : List Int) : impl_LinkBookOk_v3 b i s = false ↔ (b.Held.getD i default).Number < (b.Held.getD i default).Sent ∧ (b.Held.getD i default).Sent ≤ b.Last ∧
    (b.Held.getD i default).Sent ∉ insK s (b.Held.getD i default).Number ∧ spec_l21Can (b.Held.getD i default).Next = true := by
  unfold impl_LinkBookOk_v3
  rw [can_eq]
  simp only [Bool.or_eq_false_iff, Bool.not_eq_false', decide_eq_false_iff_not]
  constructor
  · rintro ⟨⟨⟨h1, h2⟩, h3⟩, h4⟩; exact ⟨by omega, by omega, h3, h4⟩
  · rintro ⟨h1, h2, h3, h4⟩; exact ⟨⟨⟨by omega, by omega⟩, h3⟩, h4⟩

/-- The numbers of those before, as the specification's conditions tell of them. -/
theorem same_all {b : LinkBook} {now : Int} {i : Nat} {s : List Int} (hM : Met b i s) (hg : ∀ k, k < i → bgood b now k) (h1 : 1 ≤ (b.Held.getD i default).Number)
    (h2 : (b.Held.getD i default).Sent = 0 ∨ (b.Held.getD i default).Number < (b.Held.getD i default).Sent) :
    ((b.Held.getD i default).Number ∉ s ∧ ((b.Held.getD i default).Sent = 0 ∨ (b.Held.getD i default).Sent ∉ s)) ↔ ∀ k, k < i → spec_l23Same (b.Held.getD k default) (b.Held.getD i default) = false := by
  constructor
  · rintro ⟨g1, g2⟩ k hk
    rw [same_false]
    obtain ⟨q1, q2, q3, q4, q5⟩ := (v1_false b k).1 (hg k hk).1
    refine ⟨fun e => g1 ((hM _).2 ⟨k, hk, .inl e.symm⟩), fun e => ?_, fun e => g1 ((hM _).2 ⟨k, hk, .inr ⟨e.symm, by omega⟩⟩), fun ⟨e, e2⟩ => ?_⟩
    · rcases g2 with g2 | g2
      · omega
      · exact g2 ((hM _).2 ⟨k, hk, .inl e.symm⟩)
    · rcases g2 with g2 | g2
      · omega
      · exact g2 ((hM _).2 ⟨k, hk, .inr ⟨e.symm, by omega⟩⟩)
  · intro h
    refine ⟨fun hm => ?_, ?_⟩
    · obtain ⟨k, hk, e⟩ := (hM _).1 hm
      obtain ⟨q1, q2, q3, q4⟩ := (same_false _ _).1 (h k hk)
      rcases e with e | ⟨e, e2⟩
      · exact q1 e.symm
      · exact q3 e.symm
    · by_cases e0 : (b.Held.getD i default).Sent = 0
      · exact .inl e0
      · refine .inr fun hm => ?_
        obtain ⟨k, hk, e⟩ := (hM _).1 hm
        obtain ⟨q1, q2, q3, q4⟩ := (same_false _ _).1 (h k hk)
        rcases e with e | ⟨e, e2⟩
        · exact q2 e.symm
        · exact q4 ⟨e.symm, by omega⟩

theorem met_next {b : LinkBook} {i : Nat} {s s' : List Int} (hM : Met b i s) (h : ∀ x, x ∈ s' ↔ x ∈ s ∨ x = (b.Held.getD i default).Number ∨ (x = (b.Held.getD i default).Sent ∧ x ≠ 0)) : Met b (i + 1) s' := by
  intro x
  rw [h, hM]
  constructor
  · rintro (⟨k, hk, e⟩ | e)
    · exact ⟨k, by omega, e⟩
    · exact ⟨i, by omega, e⟩
  · rintro ⟨k, hk, e⟩
    by_cases ek : k = i
    · subst ek; exact .inr e
    · exact .inl ⟨k, by omega, e⟩

theorem book_impl (b : LinkBook) (now : Int) : Res.fin (impl_LinkBookOk_r1 b now) (forN (impl_LinkBookOk_b1 b now) (b.Held.length - 0) 0 ([] : List Int)) = true ↔ ∀ i, i < b.Held.length → bgood b now i := by
  refine forN_st (body := impl_LinkBookOk_b1 b now) (Met b) (bgood b now) b.Held.length (fun i s hi hM hg => ?_) (b.Held.length - 0) 0 [] (by omega) (fun x => ⟨fun h => (by cases h), fun ⟨k, hk, _⟩ => by omega⟩) (fun k hk => by omega)
  have hlen : ((b.Held.drop 0).take (i - 0)).length - 0 = i := by simp; omega
  have hnear : ∀ k, k < i → spec_l23Near (b.Held.getD k default) (b.Held.getD i default) now = (impl_LinkHeld_near (((b.Held.drop 0).take (i - 0)).getD k default) (b.Held.getD i default).Path now || impl_LinkHeld_near (((b.Held.drop 0).take (i - 0)).getD k default) (b.Held.getD i default).Next now) := fun k hk => by
    rw [near_false, take_get _ _ hk]
  unfold impl_LinkBookOk_b1
  by_cases hv : impl_LinkBookOk_v1 b i s = true
  · refine .inr ⟨fun hgood => ?_, by rw [if_pos hv]⟩
    obtain ⟨q1, q2, q3, q4, q5, q6, q7⟩ := (v1_false b i).1 hgood.1
    have hsame := (same_all hM hg q2 (q4.imp (fun e => e.2) fun e => e.2)).2 (fun k hk => by have := hgood.2 k hk; simp only [Bool.or_eq_false_iff] at this; exact this.1)
    have : impl_LinkBookOk_v1 b i s = false := (implv1_false b i s).2 ⟨q1, q7, ⟨q2, q5⟩, hsame.1, q3⟩
    rw [this] at hv; cases hv
  · rw [if_neg hv]
    obtain ⟨p1, p2, ⟨p3, p4⟩, p5, p6⟩ := (implv1_false b i s).1 (by simpa using hv)
    by_cases h0 : (b.Held.getD i default).Sent = 0
    · rw [if_pos (by simpa using h0)]
      cases hn : impl_nothing (b.Held.getD i default).Next with
      | false =>
        refine .inr ⟨fun hgood => ?_, by simp⟩
        obtain ⟨q1, q2, q3, q4, q5, q6, q7⟩ := (v1_false b i).1 hgood.1
        rcases q4 with ⟨q4, _⟩ | ⟨_, q4⟩
        · rw [show spec_l21None (b.Held.getD i default).Next = impl_nothing (b.Held.getD i default).Next from rfl, hn] at q4; cases q4
        · omega
      | true =>
        simp only [Bool.not_true, Bool.false_eq_true, if_false]
        rw [hlen]
        rcases forN_in (σ := List Int) (body := impl_LinkBookOk_b2 b now i s) (c := fun k => impl_LinkBookOk_v2 b now i k) (fun k => rfl) (insK s (b.Held.getD i default).Number) i 0 with ⟨g1, g2⟩ | ⟨⟨k, g1, g2, g3⟩, g4⟩
        · refine .inl ⟨⟨(v1_false b i).2 ⟨p1, p3, p6, .inl ⟨hn, h0⟩, p4, by omega, p2⟩, fun k hk => ?_⟩, _, g2, met_next hM fun x => ?_⟩
          · rw [Bool.or_eq_false_iff]
            refine ⟨(same_all hM hg p3 (.inl h0)).1 ⟨p5, .inl h0⟩ k hk, ?_⟩
            rw [hnear k hk]
            exact g1 k (Nat.zero_le _) (by omega)
          · rw [insK_mem]
            constructor
            · rintro (h | h); exact .inl h; exact .inr (.inl h)
            · rintro (h | h | ⟨h, h'⟩); exact .inl h; exact .inr h; omega
        · refine .inr ⟨fun hgood => ?_, g4⟩
          have := hgood.2 k (by omega)
          rw [Bool.or_eq_false_iff, hnear k (by omega)] at this
          have e : impl_LinkBookOk_v2 b now i k = false := this.2
          rw [e] at g3; cases g3
    · rw [if_neg (by simpa using h0)]
      by_cases hw : impl_LinkBookOk_v3 b i s = true
      · refine .inr ⟨fun hgood => ?_, by rw [if_pos hw]⟩
        obtain ⟨q1, q2, q3, q4, q5, q6, q7⟩ := (v1_false b i).1 hgood.1
        have hsame := (same_all hM hg q2 (q4.imp (fun e => e.2) fun e => e.2)).2 (fun k hk => by have := hgood.2 k hk; simp only [Bool.or_eq_false_iff] at this; exact this.1)
        rcases q4 with ⟨_, q4⟩ | ⟨q4, q8⟩
        · exact h0 q4
        · have : impl_LinkBookOk_v3 b i s = false := (implv3_false b i s).2 ⟨q8, q6, fun hm => by
            rcases (insK_mem _ _ _).1 hm with hm | hm
            · exact (hsame.2.resolve_left h0) hm
            · omega, q4⟩
          rw [this] at hw; cases hw
      · rw [if_neg hw]
        obtain ⟨r1, r2, r3, r4⟩ := (implv3_false b i s).1 (by simpa using hw)
        rw [hlen]
        have r3' : (b.Held.getD i default).Sent ∉ s := fun h => r3 ((insK_mem _ _ _).2 (.inl h))
        rcases forN_in (σ := List Int) (body := impl_LinkBookOk_b3 b now i s) (c := fun k => impl_LinkBookOk_v4 b now i k) (fun k => rfl) (insK (insK s (b.Held.getD i default).Number) (b.Held.getD i default).Sent) i 0 with ⟨g1, g2⟩ | ⟨⟨k, g1, g2, g3⟩, g4⟩
        · refine .inl ⟨⟨(v1_false b i).2 ⟨p1, p3, p6, .inr ⟨r4, r1⟩, p4, r2, p2⟩, fun k hk => ?_⟩, _, g2, met_next hM fun x => ?_⟩
          · rw [Bool.or_eq_false_iff]
            refine ⟨(same_all hM hg p3 (.inr r1)).1 ⟨p5, .inr r3'⟩ k hk, ?_⟩
            rw [hnear k hk]
            exact g1 k (Nat.zero_le _) (by omega)
          · rw [insK_mem, insK_mem]
            constructor
            · rintro ((h | h) | h); exact .inl h; exact .inr (.inl h); exact .inr (.inr ⟨h, by omega⟩)
            · rintro (h | h | ⟨h, h'⟩); exact .inl (.inl h); exact .inl (.inr h); exact .inr h
        · refine .inr ⟨fun hgood => ?_, g4⟩
          have := hgood.2 k (by omega)
          rw [Bool.or_eq_false_iff, hnear k (by omega)] at this
          have e : impl_LinkBookOk_v4 b now i k = false := this.2
          rw [e] at g3; cases g3

theorem bookok_eq (b : LinkBook) (now : Int) : impl_LinkBookOk b now = spec_LinkBookOk b now := by
  unfold impl_LinkBookOk spec_LinkBookOk
  have e1 : impl_in now 0 10000 = spec_l1In now 0 10000 := rfl
  have e2 : impl_in b.Last 0 1000000 = spec_l1In b.Last 0 1000000 := rfl
  rw [e1, e2]
  have : Res.fin (impl_LinkBookOk_r1 b now) (forN (impl_LinkBookOk_b1 b now) (b.Held.length - 0) 0 ([] : List Int)) = Res.fin (spec_LinkBookOk_r1 b now) (forN (spec_LinkBookOk_b1 b now) (b.Held.length - 0) 0 ()) := by
    rw [Bool.eq_iff_iff, book_impl, book_spec]
  rw [this]

theorem free_eq (b : LinkBook) (n : ByteArray) (p : FlyPath) (now : Int) : impl_LinkFree b n p now = spec_LinkFree b n p now := by
  unfold impl_LinkFree spec_LinkFree impl_LinkBook_free spec_l23Free
  rw [bookok_eq, can_eq]
  have : impl_LinkBook_free_b1 b n p now = spec_l23Free_b1 b n p now := by
    funext i u
    unfold impl_LinkBook_free_b1 spec_l23Free_b1 spec_l23Free_v1
    rw [hnear_eq]
  rw [this]
  rfl

theorem r_eqLinkHeld (x : LinkHeld) : laws_eqLinkHeld x x = true := by simp [laws_eqLinkHeld, r_eqFlyPath]
theorem r_eqLinkHeldS (x : List LinkHeld) : laws_eqLinkHeldS x x = true := by
  simp [laws_eqLinkHeldS, forN_unit (body := laws_eqLinkHeldS_b1 x x) (fun i => by simp [laws_eqLinkHeldS_b1, r_eqLinkHeld]), Res.fin, laws_eqLinkHeldS_r1]
theorem r_eqLinkBook (x : LinkBook) : laws_eqLinkBook x x = true := by simp [laws_eqLinkBook, r_eqLinkHeldS]

theorem law_FnExactLinkBookOk (p0 : LinkBook) (p1 : Int) (h0 : LinkBook.big p0) (h1 : -9223372036854775808 ≤ p1 ∧ p1 ≤ 9223372036854775807) : laws_FnExactLinkBookOk p0 p1 = true := by
  unfold laws_FnExactLinkBookOk
  simp [bookok_eq, r_eqLinkBook]
theorem law_FnExactLinkFree (p0 : LinkBook) (p1 : ByteArray) (p2 : FlyPath) (p3 : Int) (h0 : LinkBook.big p0) (h1 : p1.size ≤ 9223372036854775807) (h2 : FlyPath.big p2) (h3 : -9223372036854775808 ≤ p3 ∧ p3 ≤ 9223372036854775807) : laws_FnExactLinkFree p0 p1 p2 p3 = true := by
  unfold laws_FnExactLinkFree
  simp [free_eq, r_eqLinkBook, r_eqFlyPath]
end Go.Lap
