/- Plain laws: what was marked in place reads as it was marked. -/
import Derived.Test.YtihiganlkecbaaaP0
set_option linter.unusedVariables false
set_option linter.unusedSimpArgs false
namespace Go.Lap

def gi (g : Int → Int) : Nat → Int → Int
  | 0, k => k
  | n + 1, k => g (gi g n k)
theorem gi_add {g : Int → Int} {q : Int} (hq : 0 ≤ q) (hg : ∀ k, 0 ≤ k → k ≤ 1000000000000 → g k = k + q) {k : Int} (h0 : 0 ≤ k) : ∀ (n : Nat), k + q * n ≤ 1000000000000 → gi g n k = k + q * n
  | 0, _ => by simp [gi]
  | n + 1, h => by
    have e : q * ((n + 1 : Nat) : Int) = q * n + q := by rw [Int.natCast_add, Int.mul_add]; simp
    rw [e] at h ⊢
    have h1 : 0 ≤ q * n := Int.mul_nonneg hq (by omega)
    simp only [gi]
    rw [gi_add hq hg h0 n (by omega), hg _ (by omega) (by omega)]
    omega
theorem getS {α : Type} {xs : List α} {i : Nat} (h : i < xs.length) (a d : α) : (xs.set i a).getD i d = a := by simp [List.getD, h]
theorem getS' {α : Type} {xs : List α} {i j : Nat} (a d : α) (h : i ≠ j) : (xs.set i a).getD j d = xs.getD j d := by simp [List.getD, List.getElem?_set_ne h]

section
variable {α : Type} {d : α} {mb : Nat → Int × List α → Res (Int × List α) (Int × List α)} {hb : Nat → Int → Res Int Int} {g : Int → Int} {E : Int → α} {k : Int}

theorem mark_go (hm : ∀ i k (s : List α), i < s.length → mb i (k, s) = .next (g k, s.set i (E k))) :
    ∀ (c j : Nat) (s : List α), s.length = j + c → (∀ i, i < j → s.getD i d = E (gi g i k)) → ∃ s', forN mb c j (gi g j k, s) = .next (gi g (j + c) k, s') ∧ s'.length = j + c ∧ ∀ i, i < j + c → s'.getD i d = E (gi g i k)
  | 0, j, s, h, hi => ⟨s, rfl, h, hi⟩
  | c + 1, j, s, h, hi => by
    simp only [forN, hm j (gi g j k) s (by omega)]
    obtain ⟨s', h1, h2, h3⟩ := mark_go hm c (j + 1) (s.set j (E (gi g j k))) (by simp; omega) (fun i h' => by
      by_cases e : j = i
      · subst e; exact getS (by omega) _ _
      · rw [getS' _ _ e]; exact hi i (by omega))
    rw [show j + 1 + c = j + (c + 1) by omega] at h1 h2 h3
    exact ⟨s', h1, h2, h3⟩

theorem held_go {n : Nat} (hh : ∀ i, i < n → hb i (gi g i k) = .next (g (gi g i k))) : ∀ (c j : Nat), j + c = n → forN hb c j (gi g j k) = .next (gi g n k)
  | 0, j, h => by subst h; rfl
  | c + 1, j, h => by
    simp only [forN, hh j (by omega)]
    exact held_go hh c (j + 1) (by omega)
end

def g7 (k : Int) : Int := wr (wr (wr (wr (wr (wr (wr (k + 1) + 1) + 1) + 1) + 1) + 1) + 1)
def g6 (k : Int) : Int := wr (wr (wr (wr (wr (wr (k + 1) + 1) + 1) + 1) + 1) + 1)
def g1 (k : Int) : Int := wr (k + 1)
theorem wr1 {k : Int} (h0 : 0 ≤ k) (h1 : k ≤ 1000000000010) : wr (k + 1) = k + 1 := wr_eq (by omega) (by omega)
theorem g7_add (k : Int) (h0 : 0 ≤ k) (h1 : k ≤ 1000000000000) : g7 k = k + 7 := by
  unfold g7
  rw [wr1 (k := k) (by omega) (by omega), wr1 (k := k + 1) (by omega) (by omega), wr1 (k := k + 1 + 1) (by omega) (by omega), wr1 (k := k + 1 + 1 + 1) (by omega) (by omega), wr1 (k := k + 1 + 1 + 1 + 1) (by omega) (by omega), wr1 (k := k + 1 + 1 + 1 + 1 + 1) (by omega) (by omega), wr1 (k := k + 1 + 1 + 1 + 1 + 1 + 1) (by omega) (by omega)]
  omega
theorem g6_add (k : Int) (h0 : 0 ≤ k) (h1 : k ≤ 1000000000000) : g6 k = k + 6 := by
  unfold g6
  rw [wr1 (k := k) (by omega) (by omega), wr1 (k := k + 1) (by omega) (by omega), wr1 (k := k + 1 + 1) (by omega) (by omega), wr1 (k := k + 1 + 1 + 1) (by omega) (by omega), wr1 (k := k + 1 + 1 + 1 + 1) (by omega) (by omega), wr1 (k := k + 1 + 1 + 1 + 1 + 1) (by omega) (by omega)]
  omega
theorem g1_add (k : Int) (h0 : 0 ≤ k) (h1 : k ≤ 1000000000000) : g1 k = k + 1 := wr1 h0 (by omega)

theorem mh_FlyStepS (p : List FlyStep) {k : Int} (h0 : 0 ≤ k) (hk : k + 7 * p.length ≤ 1000000000000) :
    (laws_markFlyStepS p k).1 = k + 7 * p.length ∧ laws_heldFlyStepS (laws_markFlyStepS p k).2 k = k + 7 * p.length := by
  obtain ⟨s', h1, h2, h3⟩ := mark_go (k := k) (d := default) (mb := laws_markFlyStepS_b1 p k) (g := g7) (E := fun k => ⟨k, wr (k + 1), wr (wr (k + 1) + 1), wr (wr (wr (k + 1) + 1) + 1), wr (wr (wr (wr (k + 1) + 1) + 1) + 1), wr (wr (wr (wr (wr (k + 1) + 1) + 1) + 1) + 1), decide (Int.tmod (wr (wr (wr (wr (wr (wr (k + 1) + 1) + 1) + 1) + 1) + 1)) 3 = 0)⟩)
    (fun i k s hi => by simp only [laws_markFlyStepS_b1, laws_markFlyStepS_v1, laws_markFlyStepS_v2, laws_markFlyStepS_v3, laws_markFlyStepS_v4, laws_markFlyStepS_v5, List.set_set, getS hi, g7]) p.length 0 p (by omega) (fun i h => by omega)
  simp only [gi, Nat.zero_add] at h1 h2 h3
  have e := gi_add (by omega) g7_add h0 p.length hk
  rw [e] at h1
  have hM : laws_markFlyStepS p k = (k + 7 * p.length, s') := by
    unfold laws_markFlyStepS
    rw [show p.length - 0 = p.length from rfl, h1]; rfl
  refine ⟨by rw [hM], ?_⟩
  rw [hM]
  have h4 := held_go (k := k) (hb := laws_heldFlyStepS_b1 s' k) (g := g7) (n := p.length) (fun i hi => by
    simp only [laws_heldFlyStepS_b1, h3 i hi]; simp [g7]) p.length 0 (by omega)
  simp only [gi] at h4
  unfold laws_heldFlyStepS
  rw [show s'.length - 0 = p.length from by omega, h4, e]; rfl

theorem mh_IntS (p : List Int) {k : Int} (h0 : 0 ≤ k) (hk : k + 1 * p.length ≤ 1000000000000) :
    (laws_markIntS p k).1 = k + 1 * p.length ∧ laws_heldIntS (laws_markIntS p k).2 k = k + 1 * p.length := by
  obtain ⟨s', h1, h2, h3⟩ := mark_go (k := k) (d := default) (mb := laws_markIntS_b1 p k) (g := g1) (E := fun k => k)
    (fun i k s hi => by simp only [laws_markIntS_b1, g1]) p.length 0 p (by omega) (fun i h => by omega)
  simp only [gi, Nat.zero_add] at h1 h2 h3
  have e := gi_add (by omega) g1_add h0 p.length hk
  rw [e] at h1
  have hM : laws_markIntS p k = (k + 1 * p.length, s') := by
    unfold laws_markIntS
    rw [show p.length - 0 = p.length from rfl, h1]; rfl
  refine ⟨by rw [hM], ?_⟩
  rw [hM]
  have h4 := held_go (k := k) (hb := laws_heldIntS_b1 s' k) (g := g1) (n := p.length) (fun i hi => by
    simp only [laws_heldIntS_b1, h3 i hi]; simp [g1]) p.length 0 (by omega)
  simp only [gi] at h4
  unfold laws_heldIntS
  rw [show s'.length - 0 = p.length from by omega, h4, e]; rfl

theorem mh_FlyPath (p : FlyPath) {k : Int} (h0 : 0 ≤ k) (hk : k ≤ 100000000) (h : FlyPath.ok p) : (laws_markFlyPath p k).1 = k + 7 * p.Steps.length ∧ ∀ q : FlyPath, q.Steps = (laws_markFlyPath p k).2.Steps → laws_heldFlyPath q k = k + 7 * p.Steps.length := by
  have hl : p.Steps.length ≤ 1048576 := h
  obtain ⟨h1, h2⟩ := mh_FlyStepS p.Steps (k := k) h0 (by omega)
  refine ⟨by simp only [laws_markFlyPath, h1], fun q hq => ?_⟩
  simp only [laws_markFlyPath] at hq
  unfold laws_heldFlyPath
  rw [hq, h2, if_neg (by simp only [decide_eq_true_eq]; omega)]
theorem mh_LinkCraft (c : LinkCraft) (h : LinkCraft.ok c) : 0 ≤ (laws_markLinkCraft c 1).1 ∧ laws_heldLinkCraft (⟨c.Name, c.Number, c.No, ⟨c.Path.Kind, (laws_markLinkCraft c 1).2.Path.Steps, c.Path.From, c.Path.By⟩, (laws_markLinkCraft c 1).2.Flown⟩ : LinkCraft) 1 = (laws_markLinkCraft c 1).1 := by
  obtain ⟨hp, hf⟩ := h
  have hl : c.Path.Steps.length ≤ 1048576 := hp
  obtain ⟨h1, h2⟩ := mh_FlyPath c.Path (k := 1) (by omega) (by omega) hp
  obtain ⟨h3, h4⟩ := mh_IntS c.Flown (k := 1 + 7 * c.Path.Steps.length) (by omega) (by omega)
  unfold laws_heldLinkCraft laws_markLinkCraft
  simp only [h1, h3]
  refine ⟨by omega, ?_⟩
  rw [h2 ⟨c.Path.Kind, (laws_markFlyPath c.Path 1).2.Steps, c.Path.From, c.Path.By⟩ rfl, if_neg (by simp only [decide_eq_true_eq]; omega), h4, if_neg (by simp only [decide_eq_true_eq]; omega)]

end Go.Lap
