/- The engine's twenty-fourth part: regions on one path: what a guard may skip is told under its condition. -/
import Derived.Test.YtihiganlkecbaaaEw
set_option linter.unusedVariables false
namespace Go.Lap
open Go.RowKit

theorem getO_in : ∀ {l : List (Nat × Option (Nat × AObj))} {k : Nat}, k ∈ l.map (·.1) → (k, getO l k) ∈ l
  | [], k, h => by simp at h
  | (j, x) :: l, k, h => by
    simp only [getO]
    by_cases e : j = k
    · subst e; simp
    · have h1 : (j == k) = false := by simpa using e
      simp only [h1, cond_false]
      have : k ∈ l.map (·.1) := by
        rcases List.mem_cons.1 h with h | h
        · exact (e h.symm).elim
        · exact h
      exact List.mem_cons_of_mem _ (getO_in this)

def RunsJ (P : Program) (all : List Oper) : List Oper → St → List (List (Nat × Bool)) → (St → List (List (Nat × Bool)) → Prop) → Prop
  | [], st, acc, K => K st acc
  | o :: os, st, acc, K =>
    (∀ d, o.dst = some d → d < st.n) ∧
    match o.guard with
    | none => ∀ f, ∃ U, OpOK P o (evF (getF st.F)) (getO st.O) f U ∧ RunsJ P all os (st.app o.dst U) (U.tch :: acc) K
    | some (j, want) => ∃ t, (all[j]?).bind (·.dst) = some t ∧ ∃ c : Bool,
        (c = true → getF st.F t = .one (.c (.v (.bool want)))) ∧ (c = false → getF st.F t = .ud ∨ getF st.F t = .one (.c (.v (.bool (!want))))) ∧
        ∀ f, ∃ U, (c = true → OpOK P o (evF (getF st.F)) (getO st.O) f U) ∧ (c = false → U.val = .ud ∧ ∀ k x, (k, x) ∈ U.upd → getO st.O k = x) ∧ RunsJ P all os (st.app o.dst U) (U.tch :: acc) K

theorem RunsJ.chain {P : Program} {all : List Oper} {K : St → List (List (Nat × Bool)) → Prop} (fs : Nat → Nat → Nat) : ∀ (os : List Oper) (base : Nat) (st : St) (acc : List (List (Nat × Bool))), RunsJ P all os st acc K →
    ∃ l : List Stp, l.map (·.o) = os ∧ ChOk P all st.n l st.sf ∧ (∀ (i : Nat) s, l[i]? = some s → ∀ U f, s.x = some (U, f) → f = fs (base + i)) ∧
      ∃ st' ts, K st' (ts.reverse ++ acc) ∧ st'.sf = chRun l st.sf ∧ st'.n = st.n ∧ All2 (fun (t : List (Nat × Bool)) (s : Stp) => s.u.tch = t ∨ s.u.tch = []) ts l
  | [], base, st, acc, h => ⟨[], rfl, trivial, by simp, st, [], h, rfl, rfl, .nil⟩
  | o :: os, base, st, acc, h => by
    have go : ∀ (s : Stp) (st1 : St) (t : List (Nat × Bool)), s.o = o → st1.sf = st.sf.app s → st1.n = st.n → s.Ok P all st.n st.sf → (∀ U f, s.x = some (U, f) → f = fs base) → (s.u.tch = t ∨ s.u.tch = []) → RunsJ P all os st1 (t :: acc) K →
        ∃ l : List Stp, l.map (·.o) = o :: os ∧ ChOk P all st.n l st.sf ∧ (∀ (i : Nat) s, l[i]? = some s → ∀ U f, s.x = some (U, f) → f = fs (base + i)) ∧
          ∃ st' ts, K st' (ts.reverse ++ acc) ∧ st'.sf = chRun l st.sf ∧ st'.n = st.n ∧ All2 (fun (t : List (Nat × Bool)) (s : Stp) => s.u.tch = t ∨ s.u.tch = []) ts l := by
      intro s st1 t hso hsf hn hs hf ht hr
      obtain ⟨l, h1, h2, h3, st', ts, h4, h5, h6, h7⟩ := RunsJ.chain fs os (base + 1) _ _ hr
      rw [hsf] at h2 h5
      rw [hn] at h2 h6
      refine ⟨s :: l, by simp [hso, h1], ⟨hs, h2⟩, ?_, st', t :: ts, by simpa using h4, h5, h6, .cons ht h7⟩
      intro i s' hi U f hx
      cases i with
      | zero => simp at hi; subst hi; exact hf U f hx
      | succ i => have := h3 i s' (by simpa using hi) U f hx; rw [this]; congr 1; omega
    obtain ⟨hd, h⟩ := h
    cases hg : o.guard with
    | none =>
      simp only [hg] at h
      obtain ⟨U, hU, hr⟩ := h (fs base)
      exact go ⟨o, some (U, fs base)⟩ (st.app o.dst U) U.tch rfl (sf_app st ⟨o, some (U, fs base)⟩) rfl ⟨hd, hU, by simp [Wants, hg]⟩ (fun _ _ e => by simp at e; exact e.2.symm) (.inl rfl) hr
    | some gw =>
      obtain ⟨j, want⟩ := gw
      simp only [hg] at h
      obtain ⟨t, ht, c, hc1, hc2, h⟩ := h
      obtain ⟨U, hU, hk, hr⟩ := h (fs base)
      cases c with
      | true =>
        exact go ⟨o, some (U, fs base)⟩ (st.app o.dst U) U.tch rfl (sf_app st ⟨o, some (U, fs base)⟩) rfl ⟨hd, hU rfl, by simp only [Wants, hg]; exact ⟨t, ht, by simp; exact hc1 rfl⟩⟩ (fun _ _ e => by simp at e; exact e.2.symm) (.inl rfl) hr
      | false =>
        obtain ⟨hv, hk⟩ := hk rfl
        refine go ⟨o, none⟩ (st.app o.dst U) U.tch rfl ?_ rfl ⟨hd, by simp only [Wants, hg]; exact ⟨t, ht, by simp; exact hc2 rfl⟩⟩ (fun _ _ e => by simp at e) (.inr rfl) hr
        simp only [St.sf, SF.app, getF_app, Stp.u, skipU, SF.mk.injEq, hv, true_and]
        show getO (U.upd ++ st.O) = updO [] (getO st.O)
        rw [getO_append]
        funext k
        simp only [updO, List.map_nil, List.not_mem_nil, if_false]
        split
        · rename_i hm
          exact (hk k _ (getO_in hm)).symm
        · rfl

theorem clashT_sub {t t' u u' : List (Nat × Bool)} (ht : t = t' ∨ t = []) (hu : u = u' ∨ u = []) (h : clashT t' u' = false) : clashT t u = false := by
  rcases ht with rfl | rfl
  · rcases hu with rfl | rfl
    · exact h
    · simp [clashT]
  · simp [clashT]

theorem depOk_sub {all : List Oper} {ts ts' : List (List (Nat × Bool))} (h : depOk all ts' = true) (hs : ∀ i, ts.getD i [] = ts'.getD i [] ∨ ts.getD i [] = []) : depOk all ts = true := by
  simp only [depOk, List.all_eq_true, List.mem_range, Bool.and_eq_true] at h ⊢
  intro j hj
  refine ⟨(h j hj).1, fun i hi => ?_⟩
  have := (h j hj).2 i hi
  cases hb : ((Region.before all.toArray).getD j 0).testBit i with
  | true => simp
  | false =>
    simp only [hb, Bool.or_false, Bool.not_eq_true', ] at this ⊢
    simp only [clash, Bool.or_eq_false_iff] at this ⊢
    exact ⟨this.1, clashT_sub (hs i) (hs j) this.2⟩

section
variable {P : Program} {Q : Exit → St → Prop} {st : St}

theorem j_region {id : Nat} {l : List Oper} (h : RunsJ P l l st [] fun s _ => Q .normal s) : WP P (.region id l.toArray false) Q st := fun G a w hr => by
  obtain ⟨N, hN⟩ := hr.wf.fin
  obtain ⟨ls, h1, h2, h3, st', ts, h4, h5, h6, _⟩ := RunsJ.chain (fun i k => N + k * (l.length + 1) + i) l 0 st [] h
  have hll : ls.length = l.length := by rw [← h1]; simp
  refine wp_region_lit ?_
  have := wpList_of (P := P) (Q := fun e a' w' => ∃ st' G', Q e st' ∧ RelSt st' G' a' w' ∧ Evol (fun _ => True) w G w' G') (S1 := st'.sf) (n := st.n) (all := l)
    (fun i k => N + k * (l.length + 1) + i) G.used (l.length + 1) (fun i j k l hi hj h => fs_inj hi hj h) (fun i k hk => by have := hN _ hk; omega) (runs_dst h1 h2) w G
    (fun G' a' w' hrel hev => ⟨st', G', h4, by rw [← h6] at hrel; exact hrel, hev⟩) ls 0 st.sf G a w (by omega) h2 h5.symm (fun i s hi U f hx => by simpa using h3 i s hi U f hx) hr (Evol.refl _ _ _) (fun s hs => .inl hs)
  rwa [h1] at this

theorem j_draw {id : Nat} {l : List Oper} (hm : P.follows .mixedOrders = true) (h : RunsJ P l l st [] fun s acc => depOk l acc.reverse = true ∧ Q .normal s) : WP P (.region id l.toArray true) Q st := fun G a w hr => by
  obtain ⟨N, hN⟩ := hr.wf.fin
  obtain ⟨ls, h1, h2, h3, st', ts, ⟨hdep, h4⟩, h5, h6, h7⟩ := RunsJ.chain (fun i k => N + k * (l.length + 1) + i) l 0 st [] h
  have hll : ls.length = l.length := by rw [← h1]; simp
  have hst : (List.range l.length).map (fun i => ls.getD i default) = ls := by
    apply List.ext_getElem?
    intro i
    by_cases hi : i < ls.length
    · simp [hi, hll ▸ hi, List.getD]
    · simp [hi, show ¬ i < l.length by omega]
  obtain ⟨hr', hev'⟩ := hr.drew (w' := { w with drawn := w.drawn + 1 }) rfl rfl rfl rfl
  refine wp_region_any hm ?_
  refine wpAny_of (S1 := st'.sf) (n := st.n) (all := l) (fun i => ls.getD i default) (fun i k => N + k * (l.length + 1) + i) G.used ?_ ?_ (fun i j k m hi hj h => fs_inj (by omega) (by omega) h)
    (fun i k hk => by have := hN _ hk; omega) ?_ (runs_dst h1 h2) w G (fun G' a' w' hrel hev => ⟨st', G', h4, by rw [← h6] at hrel; exact hrel, hev⟩) l.toArray.size (Array.replicate l.toArray.size false) st.sf G a _ (by simp) ?_ ?_ ?_ hr' hev' (fun s hs => .inl hs) ?_
  · intro i o ho
    have hi : i < ls.length := by have := (List.getElem?_eq_some_iff.1 ho).1; omega
    rw [← h1] at ho
    simp only [List.getElem?_map, List.getElem?_eq_getElem hi, Option.map_some, Option.some.injEq] at ho
    simp [List.getD, List.getElem?_eq_getElem hi, ho]
  · intro i U f hi hx
    have hi' : i < ls.length := by omega
    simp only [List.getD, List.getElem?_eq_getElem hi', Option.getD_some] at hx
    have := h3 i ls[i] (List.getElem?_eq_getElem hi') U f hx
    simpa using this
  · have e : (List.range l.length).map (fun i => (ls.getD i default).u.tch) = ls.map (·.u.tch) := by
      have := congrArg (List.map (fun s : Stp => s.u.tch)) hst
      rw [List.map_map] at this
      exact this
    rw [e]
    refine depOk_sub (ts' := ts) (by simpa using hdep) fun i => ?_
    have hlen := h7.length
    by_cases hi : i < ls.length
    · have hi' : i < ts.length := by omega
      obtain ⟨y, hy, hyt⟩ := h7.get i _ (List.getElem?_eq_getElem hi')
      have : ls[i] = y := by rw [List.getElem?_eq_getElem hi] at hy; exact Option.some.inj hy
      subst this
      simp only [List.getD, List.getElem?_map, List.getElem?_eq_getElem hi, List.getElem?_eq_getElem hi', Option.map_some, Option.getD_some]
      exact hyt
    · right; simp [List.getD, hi]
  · simp [left_all]
  · simp only [List.size_toArray, left_all, hst]; exact h2
  · simp only [List.size_toArray, left_all, hst]; exact h5.symm
  · intro i o ho hl
    have : i < l.length := (List.getElem?_eq_some_iff.1 ho).1
    simp [Array.getD_eq_getD_getElem?, this] at hl
end
end Go.Lap
