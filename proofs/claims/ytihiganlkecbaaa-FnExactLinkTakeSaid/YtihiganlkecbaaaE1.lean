/- Plain laws: a word taken by an aircraft; the law FnExactLinkTake. No condition beyond the arguments' kind. -/
import Derived.Test.YtihiganlkecbaaaC0
set_option linter.unusedVariables false
set_option linter.unusedSimpArgs false
namespace Go.Lap

theorem shared_eq (p q : FlyPath) : impl_FlyShared p q = spec_FlyShared p q := by
  have hb : impl_FlyShared_b1 p q = spec_FlyShared_b1 p q := by
    funext s
    unfold impl_FlyShared_b1 spec_FlyShared_b1
    have e : impl_FlyShared_v1 p q s = spec_FlyShared_v1 p q s := by
      unfold impl_FlyShared_v1 spec_FlyShared_v1
      cases FlyKind.beq p.Kind q.Kind <;> cases decide (s < (p.Steps.length : Int)) <;> cases decide (s < (q.Steps.length : Int)) <;> cases FlyStep.beq (p.Steps.getD s.toNat default) (q.Steps.getD s.toNat default) <;> rfl
    rw [e]
  unfold impl_FlyShared spec_FlyShared
  rw [hb]
  rfl
theorem flown_eq (p : FlyPath) : impl_flown p = spec_l21Can p := by
  unfold impl_flown spec_l21Can
  rw [Bool.eq_iff_iff, spans_pok]
  unfold spec_FlySpans
  cases h : spec_FlyPathOk p with
  | false =>
    have : ¬ POK p := fun hp => by rw [(pathok_spec p).2 hp] at h; cases h
    simp [this]
  | true =>
    have hp := (pathok_spec p).1 h
    simp only [Bool.not_true, Bool.false_eq_true, if_false]
    rw [(spans_spec hp.s.win).snd]
    exact ⟨fun h => h.2, fun h => ⟨hp, h⟩⟩
theorem wordok_eq (w : LinkWord) : impl_LinkWordOk w = spec_LinkWordOk w := by
  unfold impl_LinkWordOk spec_LinkWordOk
  rw [name_eq, flown_eq]
  rfl

theorem take_eq (c : LinkCraft) (w : LinkWord) (now : Int) : impl_LinkTake c w now = spec_LinkTake c w now := by
  unfold impl_LinkTake spec_LinkTake
  have e : impl_LinkTake_v1 c w now = spec_LinkTake_v1 c w now := by
    unfold impl_LinkTake_v1 spec_LinkTake_v1
    rw [craftok_eq, wordok_eq]
  rw [e]
  cases hv : spec_LinkTake_v1 c w now with
  | true => rfl
  | false =>
    have hr : 0 ≤ now ∧ now ≤ 10000 := by
      unfold spec_LinkTake_v1 at hv
      simp only [Bool.or_eq_false_iff, Bool.not_eq_false'] at hv
      have hc := hv.1.1.1.1
      unfold spec_LinkCraftOk at hc
      split at hc
      · cases hc
      · rename_i h1
        have h2 : spec_LinkCraftOk_v1 c now = false := by simpa using h1
        unfold spec_LinkCraftOk_v1 at h2
        simp only [Bool.or_eq_false_iff, Bool.not_eq_false', in_spec] at h2
        exact h2.1.2
    simp only [Bool.false_eq_true, if_false]
    by_cases hn : w.Number = c.Number
    · simp only [decide_eq_true hn, if_true]
      rfl
    · simp only [decide_eq_false hn, Bool.false_eq_true, if_false]
      have hst := stays_eq c w.Path (now := now) (by omega) (by omega)
      have fin : ∀ b : Bool, (if b then ((⟨(impl_copyCraft c).Name, (impl_copyCraft c).Number, max ((impl_copyCraft c).No) w.Number, (impl_copyCraft c).Path, (impl_copyCraft c).Flown⟩ : LinkCraft), (⟨4, c.Name, w.Number, ⟨⟨0, 0⟩, [], 0, 0⟩⟩ : LinkWord), true)
          else ((⟨(impl_copyCraft c).Name, w.Number, (impl_copyCraft c).No, (impl_copyPath w.Path), (impl_copyCraft c).Flown⟩ : LinkCraft), (⟨3, c.Name, w.Number, ⟨⟨0, 0⟩, [], 0, 0⟩⟩ : LinkWord), true)) =
          (if b then (if decide (((spec_l22Craft c).No) < w.Number) then ((⟨(spec_l22Craft c).Name, (spec_l22Craft c).Number, w.Number, (spec_l22Craft c).Path, (spec_l22Craft c).Flown⟩ : LinkCraft), (⟨4, c.Name, w.Number, ⟨⟨0, 0⟩, [], 0, 0⟩⟩ : LinkWord), true) else ((spec_l22Craft c), (⟨4, c.Name, w.Number, ⟨⟨0, 0⟩, [], 0, 0⟩⟩ : LinkWord), true))
          else ((⟨(spec_l22Craft c).Name, w.Number, (spec_l22Craft c).No, (spec_l2Copy w.Path), (spec_l22Craft c).Flown⟩ : LinkCraft), (⟨3, c.Name, w.Number, ⟨⟨0, 0⟩, [], 0, 0⟩⟩ : LinkWord), true)) := by
        intro b
        cases b with
        | false => rfl
        | true =>
          simp only [if_true]
          by_cases h : c.No < w.Number
          · have h2 : max c.No w.Number = w.Number := by omega
            simp [impl_copyCraft, spec_l22Craft, impl_copyPath, spec_l2Copy, h, h2]
          · have h2 : max c.No w.Number = c.No := by omega
            simp [impl_copyCraft, spec_l22Craft, impl_copyPath, spec_l2Copy, h, h2]
      by_cases hf : (0 : Int) < (c.Flown.length : Int)
      · simp only [decide_eq_true hf, if_true]
        have ec : impl_LinkTake_v2 c w now = ((decide (w.Number ≤ c.No)) || (!(spec_l22Can c w.Path now))) := by
          unfold impl_LinkTake_v2 spec_l22Can
          rw [hst, shared_eq, if_neg (by simp only [decide_eq_true_eq]; omega)]
          have : decide ((c.Flown.length : Int) ≤ spec_FlyShared c.Path w.Path) = decide ((c.Flown.length : Int) - 1 < spec_FlyShared c.Path w.Path) := by
            rw [Bool.eq_iff_iff]; simp only [decide_eq_true_eq]; omega
          rw [this, Bool.and_comm]
        rw [ec]
        exact fin _
      · simp only [decide_eq_false hf, Bool.false_eq_true, if_false]
        have ec : ((decide (w.Number ≤ c.No)) || (!(impl_LinkCraft_stays c w.Path now))) = ((decide (w.Number ≤ c.No)) || (!(spec_l22Can c w.Path now))) := by
          have h0 : (c.Flown.length : Int) = 0 := by omega
          unfold spec_l22Can
          rw [hst, if_pos (by simpa using h0)]
          unfold spec_l22Stays
          rw [if_pos (by simpa using h0)]
        rw [ec]
        exact fin _

theorem mark_LinkCraft_le (c : LinkCraft) (h : LinkCraft.ok c) : (laws_markLinkCraft c 1).1 ≤ 50000000 := by
  obtain ⟨hp, hf⟩ := h
  have hl : c.Path.Steps.length ≤ 1048576 := hp
  obtain ⟨h1, h2⟩ := mh_FlyPath c.Path (k := 1) (by omega) (by omega) hp
  obtain ⟨h3, h4⟩ := mh_IntS c.Flown (k := 1 + 7 * c.Path.Steps.length) (by omega) (by omega)
  unfold laws_markLinkCraft
  simp only [h1, h3]
  omega
theorem mh_LinkWord (w : LinkWord) {k : Int} (h0 : 0 ≤ k) (hk : k ≤ 100000000) (h : LinkWord.ok w) : 0 ≤ (laws_markLinkWord w k).1 ∧
    laws_heldLinkWord (⟨w.Kind, w.Name, w.Number, ⟨w.Path.Kind, (laws_markLinkWord w k).2.Path.Steps, w.Path.From, w.Path.By⟩⟩ : LinkWord) k = (laws_markLinkWord w k).1 := by
  obtain ⟨h1, h2⟩ := mh_FlyPath w.Path h0 hk h
  unfold laws_heldLinkWord laws_markLinkWord
  simp only [h1]
  refine ⟨by omega, ?_⟩
  rw [h2 ⟨w.Path.Kind, (laws_markFlyPath w.Path k).2.Steps, w.Path.From, w.Path.By⟩ rfl, if_neg (by simp only [decide_eq_true_eq]; omega)]
theorem r_eqLinkWord (x : LinkWord) : laws_eqLinkWord x x = true := by simp [laws_eqLinkWord, r_eqFlyPath]

theorem law_FnExactLinkTake (p0 : LinkCraft) (p1 : LinkWord) (p2 : Int) (h0 : LinkCraft.big p0) (h1 : LinkWord.big p1) (h2 : -9223372036854775808 ≤ p2 ∧ p2 ≤ 9223372036854775807) : laws_FnExactLinkTake p0 p1 p2 = true := by
  unfold laws_FnExactLinkTake
  by_cases a : laws_szLinkCraft p0 1048576 < 0
  · simp [a]
  by_cases b : laws_szLinkWord p1 (laws_szLinkCraft p0 1048576) < 0
  · simp [b]
  have q0 := f_laws_szLinkCraft p0 1048576 h0 (by omega) (by omega) (by omega)
  have ok1 := (f_laws_szLinkWord p1 _ h1 (by omega) (by have := q0.2; omega) (by omega : 0 ≤ laws_szLinkWord p1 (laws_szLinkCraft p0 1048576))).1
  have ok0 := q0.1
  have hC : LinkCraft.ok (spec_LinkTake p0 p1 p2).1 := f_spec_LinkTake p0 p1 p2 ok0 ok1
  have hW : LinkWord.ok (spec_LinkTake p0 p1 p2).2.1 := g_spec_LinkTake p0 p1 p2 ok0 ok1
  obtain ⟨m0, m1⟩ := mh_LinkCraft _ hC
  have mle := mark_LinkCraft_le _ hC
  obtain ⟨w0, w1⟩ := mh_LinkWord _ m0 (by omega) hW
  obtain ⟨x0, _⟩ := mh_LinkCraft _ ok0
  have xle := mark_LinkCraft_le _ ok0
  obtain ⟨y0, _⟩ := mh_LinkWord p1 x0 (by omega) ok1
  simp only [laws_FnExactLinkTake_v1, laws_FnExactLinkTake_v2, laws_FnExactLinkTake_v3, laws_FnExactLinkTake_v4, laws_FnExactLinkTake_v5, laws_FnExactLinkTake_v6, f_laws_toLinkCraft, f_laws_toLinkWord, take_eq, r_eqLinkCraft, r_eqLinkWord, m1, w1]
  simp [a, b, m0, w0, y0]
end Go.Lap
