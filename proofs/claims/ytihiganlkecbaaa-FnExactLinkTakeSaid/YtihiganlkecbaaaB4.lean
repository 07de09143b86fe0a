/- Plain laws, fourth part: staying, names, who must move, who is ok. -/
import Derived.Test.YtihiganlkecbaaaB3
set_option linter.unusedVariables false
set_option linter.unusedSimpArgs false
namespace Go.Lap

/-- Waiting on the ground: the path whose first entry is behind now. -/
def wait (p : FlyPath) (now : Int) : FlyPath := { p with Steps := p.Steps.set 0 { stp p 0 with From := max (stp p 0).From (now + 1) } }
theorem wait_stp (p : FlyPath) (now : Int) (hn : 0 < p.Steps.length) (k : Nat) : stp (wait p now) k = if k = 0 then { stp p 0 with From := max (stp p 0).From (now + 1) } else stp p k := by
  unfold stp wait
  simp only
  rw [getD_set _ _ _ _ _ hn]; rfl
theorem wait_len (p : FlyPath) (now : Int) : (wait p now).Steps.length = p.Steps.length := by simp [wait]
theorem wait_lo (p : FlyPath) (now : Int) (hn : 0 < p.Steps.length) {k : Nat} (hk : k ≤ p.Steps.length) : lo (wait p now) k = if k = 0 then max (lo p 0) (now + 1) else lo p k := by
  rcases Nat.lt_or_ge k p.Steps.length with g | g
  · rw [lo_lt (by rw [wait_len]; exact g), wait_stp p now hn k]
    by_cases e : k = 0
    · subst e; simp [lo_lt hn]
    · simp [e, lo_lt g]
  · have e : k = p.Steps.length := by omega
    subst e
    have := lo_len (wait p now)
    rw [wait_len] at this
    rw [this, if_neg (by omega), lo_len]; rfl
theorem wait_hi (p : FlyPath) (now : Int) (hn : 0 < p.Steps.length) {k : Nat} (hk : k ≤ p.Steps.length) : hi (wait p now) k = hi p k := by
  rcases Nat.lt_or_ge k p.Steps.length with g | g
  · rw [hi_lt (by rw [wait_len]; exact g), wait_stp p now hn k]
    by_cases e : k = 0
    · subst e; simp [hi_lt hn]
    · simp [e, hi_lt g]
  · have e : k = p.Steps.length := by omega
    subst e
    have := hi_len (wait p now)
    rw [wait_len] at this
    rw [this, hi_len]; rfl
theorem wait_ms (p : FlyPath) (now : Int) (hn : 0 < p.Steps.length) (k : Nat) : ms (wait p now) k = ms p k := by
  have : (stp (wait p now) k).Hold = (stp p k).Hold := by
    rw [wait_stp p now hn k]
    by_cases e : k = 0
    · subst e; simp
    · simp [e]
  unfold ms; simp only [stp] at this; rw [this]; rfl
theorem wait_sok {p : FlyPath} (hp : SOK p) (now : Int) : SOK (wait p now) := by
  have hn : 0 < p.Steps.length := by have := hp.n1; omega
  refine sok_of hp rfl (wait_len p now) (fun k hk => ?_) (fun k hk => ?_) (fun k hk => ?_)
  · rw [wait_stp p now hn k]
    by_cases e : k = 0
    · subst e; simp
    · simp [e]
  · rw [wait_lo p now hn hk]
    have h0 := hp.win.lo0 0 (by omega); have hk' := hp.win.lo0 k hk
    split <;> omega
  · rw [wait_hi p now hn hk]; exact hp.win.hi0 k hk
theorem wait_fl {p : FlyPath} (hn : 0 < p.Steps.length) (now : Int) {f : Nat → Int} : Fl (wait p now) f ↔ Fl p f ∧ now + 1 ≤ f 0 := by
  constructor
  · intro h
    refine ⟨⟨fun k hk => ?_, fun k hk => ?_⟩, ?_⟩
    · have := h.b k (by rw [wait_len]; exact hk)
      rw [wait_lo p now hn hk, wait_hi p now hn hk] at this
      by_cases e : k = 0
      · subst e; simp at this; omega
      · rw [if_neg e] at this; exact this
    · have := h.d k (by rw [wait_len]; exact hk)
      rw [wait_ms p now hn] at this; exact this
    · have := h.b 0 (Nat.zero_le _)
      rw [wait_lo p now hn (Nat.zero_le _)] at this
      simp at this; omega
  · rintro ⟨h, h0⟩
    refine ⟨fun k hk => ?_, fun k hk => ?_⟩
    · rw [wait_len] at hk
      have := h.b k hk
      rw [wait_lo p now hn hk, wait_hi p now hn hk]
      by_cases e : k = 0
      · subst e; simp; omega
      · rw [if_neg e]; exact this
    · rw [wait_len] at hk
      have := h.d k hk
      rw [wait_ms p now hn]; exact this
theorem wait_feas {p : FlyPath} (hp : SOK p) (now : Int) : Feas (wait p now) ↔ Feas p ∧ now < (sp p 0).2 := by
  have hn : 0 < p.Steps.length := by have := hp.n1; omega
  rw [feas_iff (wait_sok hp now).win]
  constructor
  · rintro ⟨f, hf⟩
    obtain ⟨h1, h2⟩ := (wait_fl hn now).1 hf
    have := h1.sp (k := 0) (Nat.zero_le _)
    exact ⟨h1.feas, by omega⟩
  · rintro ⟨h1, h2⟩
    exact ⟨_, (wait_fl hn now).2 ⟨fl_high hp.win h1, by omega⟩⟩

theorem waits_spec (p : FlyPath) {now : Int} (h0 : -9223372036854775808 ≤ now + 1) (h1 : now + 1 ≤ 9223372036854775807) : spec_l22Waits p now = true ↔ POK p ∧ Feas p ∧ now < (sp p 0).2 := by
  unfold spec_l22Waits spec_l22Waits_v2 spec_l22Waits_v1 spec_l2Copy spec_l22Spans
  by_cases hn : 0 < p.Steps.length
  · have hn' : (0 : Int) < (p.Steps.length : Int) := by omega
    have e : (⟨p.Kind, p.Steps.set 0 { p.Steps.getD 0 default with From := spec_l1Max (p.Steps.getD 0 default).From (wr (now + 1)) }, p.From, p.By⟩ : FlyPath) = wait p now := by
      rw [max_spec, wr_eq h0 h1]; rfl
    rw [if_pos (by simpa using hn'), e]
    simp only [Bool.and_eq_true, pathok_spec]
    constructor
    · rintro ⟨hp, hs⟩
      have := (spans_spec (wait_sok hp.s now).win).snd.1 hs
      rw [wait_feas hp.s] at this
      exact ⟨hp, this⟩
    · rintro ⟨hp, hs⟩
      exact ⟨hp, (spans_spec (wait_sok hp.s now).win).snd.2 ((wait_feas hp.s now).2 hs)⟩
  · have hn' : ¬ (0 : Int) < (p.Steps.length : Int) := by omega
    rw [if_neg (by simpa using hn')]
    simp only [Bool.and_eq_true, pathok_spec]
    constructor
    · rintro ⟨hp, _⟩; have := hp.s.n1; omega
    · rintro ⟨hp, _⟩; have := hp.s.n1; omega

theorem spans_pok (p : FlyPath) : (impl_FlySpans p).2 = true ↔ POK p ∧ Feas p := by
  by_cases h : POK p
  · rw [(spans_impl_ok h).snd]; simp [h]
  · have : impl_FlyPathOk p = false := by
      cases hb : impl_FlyPathOk p with
      | false => rfl
      | true => exact (h ((pathok_impl p).1 hb)).elim
    unfold impl_FlySpans; rw [this]; simp [h]
theorem spans_first {p : FlyPath} (h : POK p) (hf : Feas p) : (impl_FlySpans p).1.getD 0 default = ⟨(sp p 0).1, (sp p 0).2⟩ := by
  rcases spans_impl_ok h with ⟨_, q⟩ | ⟨q, _⟩
  · rw [q]; exact tab_get _ (by omega)
  · exact (q hf).elim

theorem waits_impl (p : FlyPath) (now : Int) : ((impl_FlySpans p).2 && decide (now < ((impl_FlySpans p).1.getD 0 default).High)) = true ↔ POK p ∧ Feas p ∧ now < (sp p 0).2 := by
  simp only [Bool.and_eq_true, decide_eq_true_eq, spans_pok]
  constructor
  · rintro ⟨⟨h1, h2⟩, h3⟩
    rw [spans_first h1 h2] at h3
    exact ⟨h1, h2, h3⟩
  · rintro ⟨h1, h2, h3⟩
    refine ⟨⟨h1, h2⟩, ?_⟩
    rw [spans_first h1 h2]; exact h3

theorem stays_eq (c : LinkCraft) (p : FlyPath) {now : Int} (h0 : -9223372036854775808 ≤ now + 1) (h1 : now + 1 ≤ 9223372036854775807) : impl_LinkCraft_stays c p now = spec_l22Stays p c.Flown now := by
  unfold impl_LinkCraft_stays spec_l22Stays
  rw [rest_eq]
  cases decide ((c.Flown.length : Int) = 0) with
  | false => rfl
  | true =>
    simp only [if_true]
    rw [Bool.eq_iff_iff, waits_impl, waits_spec p h0 h1]

/-! ### Names -/
theorem name_eq (s : ByteArray) : impl_name s = spec_l12NameOk s := by
  have hb : ∀ i, impl_ProbeTubeOk_v1 (⟨s, []⟩ : ProbeTube) i = spec_l12NameOk_v1 s i := fun i => rfl
  unfold impl_name impl_ProbeTubeOk spec_l12NameOk
  have e : (!impl_in ((⟨s, []⟩ : ProbeTube).Name.size : Int) 1 8 || decide ((40 : Int) < ((⟨s, []⟩ : ProbeTube).Boxes.length : Int))) = (!spec_l11In (s.size : Int) 1 8) := by
    show (!spec_l11In (s.size : Int) 1 8 || decide ((40 : Int) < ((0 : Nat) : Int))) = _
    simp
  rw [e]
  cases (!spec_l11In (s.size : Int) 1 8) with
  | true => rfl
  | false =>
    simp only [Bool.false_eq_true, if_false]
    have hr : impl_ProbeTubeOk_r1 (⟨s, []⟩ : ProbeTube) = fun _ => true := by funext u; rfl
    rw [hr]
    rfl

/-! ### Who must move; who is ok -/
theorem craftok_eq (c : LinkCraft) (now : Int) : impl_LinkCraftOk c now = spec_LinkCraftOk c now := by
  unfold impl_LinkCraftOk spec_LinkCraftOk
  have e : impl_LinkCraftOk_v1 c now = spec_LinkCraftOk_v1 c now := by
    unfold impl_LinkCraftOk_v1 spec_LinkCraftOk_v1
    rw [name_eq, begun_eq]; rfl
  rw [e]
  cases hv : spec_LinkCraftOk_v1 c now with
  | true => rfl
  | false =>
    have hr : 0 ≤ now ∧ now ≤ 10000 := by
      unfold spec_LinkCraftOk_v1 at hv
      simp only [Bool.or_eq_false_iff, Bool.not_eq_false', in_spec] at hv
      exact hv.1.2
    simp only [Bool.false_eq_true, if_false]
    unfold spec_LinkCraftOk_v2
    rw [stays_eq c c.Path (by omega) (by omega)]
    rcases Nat.eq_zero_or_pos c.Flown.length with h | h
    · have h1 : (c.Flown.length : Int) = 0 := by omega
      have h2 : ¬ (0 : Int) < (c.Flown.length : Int) := by omega
      simp [h1]
    · have h1 : ¬ (c.Flown.length : Int) = 0 := by omega
      have h2 : (0 : Int) < (c.Flown.length : Int) := by omega
      by_cases g : now < c.Flown.getD (((c.Flown.length : Int) - 1).toNat) default
      · have g' : ¬ c.Flown.getD (((c.Flown.length : Int) - 1).toNat) default ≤ now := by omega
        simp only [h1, h2, g, g', decide_true, decide_false, Bool.and_true, Bool.or_false, Bool.false_and, if_true]
      · have g' : c.Flown.getD (((c.Flown.length : Int) - 1).toNat) default ≤ now := by omega
        simp only [h1, h2, g, g', decide_true, decide_false, Bool.and_false, Bool.or_true, Bool.true_and, Bool.false_eq_true, if_false]
end Go.Lap
