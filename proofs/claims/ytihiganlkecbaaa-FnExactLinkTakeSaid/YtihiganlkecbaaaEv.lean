/- The engine's twenty-second part: nil, told as an empty array of one's own. -/
import Derived.Test.YtihiganlkecbaaaEu
set_option linter.unusedVariables false
namespace Go.Lap
open Go.RowKit

section
variable {P : Program} {st : St} {Q : Exit → St → Prop} {c : Code}

theorem em_obj {G : Gh} {w : World} {s e : Nat} (hw : Wf G w) (hs : ¬ G.used s) (he : 0 < e) : RObj w (G.em s) s (.arr e []) :=
  ⟨he, by simp, .inl ⟨rfl, show G.loc s = none from loc_unused hw hs, by simp [Gh.em]⟩⟩

theorem nl_mu {G : Gh} {w : World} {k s e : Nat} {cv : Value} (h : RC w G .nl cv) : RC w (G.em s) (.mu k s e 0 0) cv := by
  have h' : cv = .slice none 0 0 := h
  exact ⟨none, 0, h', Nat.le_refl _, .inr rfl, by simp, .inl rfl⟩

theorem own_rel {F : List (Nat × TV)} {O : List (Nat × Option (Nat × AObj))} {n key e s : Nat} {G : Gh} {a : Act} {w : World} (hr : RelSt ⟨F, O, n⟩ G a w) (hs : ¬ G.used s) (he : 0 < e) : RelSt ⟨F, (key, some (s, .arr e [])) :: O, n⟩ (G.em s) a w := by
  have hev : Evol (fun _ => False) w G w (G.em s) := em_evol hs _
  refine ⟨hr.dfr, hr.sz, em_wf hr.wf, fun d => (hr.slots d).mono hr.wf hev, fun k s' o hk => ?_, fun k k' s' o o' hk hk' => ?_⟩
  · simp only [getO] at hk
    by_cases e' : key = k
    · subst e'; simp at hk; obtain ⟨rfl, rfl⟩ := hk; exact ⟨.inr rfl, em_obj hr.wf hs he⟩
    · have : (key == k) = false := by simpa using e'
      simp only [this, cond_false] at hk
      obtain ⟨h1, h2⟩ := hr.objs k s' o hk
      exact ⟨.inl h1, h2.mono hr.wf hev h1 (fun h => h)⟩
  · simp only [getO] at hk hk'
    by_cases e1 : key = k
    · subst e1
      simp at hk
      by_cases e2 : key = k'
      · exact e2
      · have : (key == k') = false := by simpa using e2
        simp only [this, cond_false] at hk'
        have := (hr.objs k' s' o' hk').1
        rw [← hk.1] at this
        exact (hs this).elim
    · have e1' : (key == k) = false := by simpa using e1
      simp only [e1', cond_false] at hk
      by_cases e2 : key = k'
      · subst e2
        simp at hk'
        have := (hr.objs k s' o hk).1
        rw [← hk'.1] at this
        exact (hs this).elim
      · have : (key == k') = false := by simpa using e2
        simp only [this, cond_false] at hk'
        exact hr.inj k k' s' o o' hk hk'

/-- A slot that holds nil. -/
theorem w_ownF (d key e : Nat) (he : Nat.ble 1 e = true) (h : getF st.F d = .one (.c .nl)) (k : ∀ s, WP P c Q ⟨(d, .one (.c (.mu key s e 0 0))) :: st.F, (key, some (s, .arr e [])) :: st.O, st.n⟩) : WP P c Q st := fun G a w hr => by
  obtain ⟨N, hN⟩ := hr.wf.fin
  have hs : ¬ G.used N := fun h => by have := hN N h; omega
  have h1 := own_rel (key := key) (e := e) hr hs (Nat.le_of_ble_eq_true he)
  have h2 : RelSt ⟨(d, .one (.c (.mu key N e 0 0))) :: st.F, (key, some (N, .arr e [])) :: st.O, st.n⟩ (G.em N) a w := by
    refine ⟨h1.dfr, h1.sz, h1.wf, fun d' => ?_, h1.objs, h1.inj⟩
    simp only [getF]
    by_cases e' : d = d'
    · subst e'
      simp only [beq_self_eq_true, cond_true]
      have := hr.slots d
      rw [h] at this
      exact nl_mu (w := w) (k := key) this
    · have : (d == d') = false := by simpa using e'
      simp only [this, cond_false]
      exact h1.slots d'
  have := k N (G.em N) a w h2
  exact wp_mono this fun e' a' w' ⟨st', G', q1, q2, q3⟩ => ⟨st', G', q1, q2, (em_evol hs _).trans q3⟩

/-- A cell of a box that holds nil. -/
theorem w_ownO (kb i key e : Nat) {sb : Nat} {cs : List Cell} (he : Nat.ble 1 e = true) (hne : Nat.beq key kb = false) (h : getO st.O kb = some (sb, .box cs)) (hi : cs[i]? = some .nl) (k : ∀ s, WP P c Q ⟨st.F, (kb, some (sb, .box (cs.set i (.mu key s e 0 0)))) :: (key, some (s, .arr e [])) :: st.O, st.n⟩) : WP P c Q st := fun G a w hr => by
  obtain ⟨N, hN⟩ := hr.wf.fin
  have hs : ¬ G.used N := fun h => by have := hN N h; omega
  have h1 := own_rel (key := key) (e := e) hr hs (Nat.le_of_ble_eq_true he)
  have hkk : key ≠ kb := by intro e'; subst e'; simp at hne
  have hkb : getO ((key, some (N, AObj.arr e [])) :: st.O) kb = some (sb, .box cs) := by
    simp only [getO, show (key == kb) = false by simpa using hkk, cond_false]; exact h
  have hob : RObj w (G.em N) sb (.box (cs.set i (.mu key N e 0 0))) := by
    obtain ⟨b, vs, T, g1, g2, g3, g4⟩ := (h1.objs kb sb _ hkb).2
    refine ⟨b, vs, T, g1, g2, g3, All2.of_get (by rw [List.length_set]; exact g4.length) fun j x y hx hy => ?_⟩
    rw [List.getElem?_set] at hx
    by_cases e' : i = j
    · subst e'
      have hil : i < cs.length := (List.getElem?_eq_some_iff.1 hi).1
      simp [hil] at hx
      subst hx
      obtain ⟨y', hy', hr'⟩ := g4.get i .nl hi
      rw [hy] at hy'; cases hy'
      have h' : y = .slice none 0 0 := hr'
      exact ⟨none, 0, h', Nat.le_refl _, .inr rfl, by simp, .inl rfl⟩
    · simp only [if_neg e'] at hx
      obtain ⟨y', hy', hr'⟩ := g4.get j x hx
      rw [hy] at hy'; cases hy'
      exact hr'
  have h2 : RelSt ⟨st.F, (kb, some (sb, .box (cs.set i (.mu key N e 0 0)))) :: (key, some (N, .arr e [])) :: st.O, st.n⟩ (G.em N) a w := by
    have getk : ∀ k, getO ((kb, some (sb, AObj.box (cs.set i (.mu key N e 0 0)))) :: (key, some (N, .arr e [])) :: st.O) k = if kb = k then some (sb, .box (cs.set i (.mu key N e 0 0))) else getO ((key, some (N, AObj.arr e [])) :: st.O) k := by
      intro k
      simp only [getO]
      by_cases e' : kb = k
      · simp [e']
      · simp [e', show (kb == k) = false by simpa using e']
    refine ⟨h1.dfr, h1.sz, h1.wf, h1.slots, fun k s o hk => ?_, fun k k' s o o' hk hk' => ?_⟩
    · rw [getk] at hk
      by_cases e' : kb = k
      · rw [if_pos e'] at hk; cases hk; exact ⟨(h1.objs kb sb _ hkb).1, hob⟩
      · rw [if_neg e'] at hk; exact h1.objs k s o hk
    · rw [getk] at hk hk'
      have : ∀ k s o, (if kb = k then some (sb, AObj.box (cs.set i (.mu key N e 0 0))) else getO ((key, some (N, AObj.arr e [])) :: st.O) k) = some (s, o) → ∃ o2, getO ((key, some (N, AObj.arr e [])) :: st.O) k = some (s, o2) := by
        intro k s o hk
        by_cases e' : kb = k
        · rw [if_pos e'] at hk; cases hk; exact ⟨_, e' ▸ hkb⟩
        · rw [if_neg e'] at hk; exact ⟨_, hk⟩
      obtain ⟨o2, h3⟩ := this k s o hk
      obtain ⟨o3, h4⟩ := this k' s o' hk'
      exact h1.inj k k' s o2 o3 h3 h4
  have := k N (G.em N) a w h2
  exact wp_mono this fun e' a' w' ⟨st', G', q1, q2, q3⟩ => ⟨st', G', q1, q2, (em_evol hs _).trans q3⟩
end
end Go.Lap
