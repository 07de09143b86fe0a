/- The engine's third part: from a walk of a region's operations in the text's order to the region, whatever order is drawn. -/
import Derived.Test.YtihiganlkecbaaaEb
import Derived.KernelRfl
namespace Go.Lap
open Go.RowKit

/-- A walk of operations in the text's order. -/
def Runs (P : Program) (all : List Oper) : List Oper → St → List (List (Nat × Bool)) → (St → List (List (Nat × Bool)) → Prop) → Prop
  | [], st, acc, K => K st acc
  | o :: os, st, acc, K =>
    (∀ d, o.dst = some d → d < st.n) ∧
    match o.guard with
    | none => ∀ f, ∃ U, OpOK P o (evF (getF st.F)) (getO st.O) f U ∧ Runs P all os (st.app o.dst U) (U.tch :: acc) K
    | some (j, want) => ∃ t, (all[j]?).bind (·.dst) = some t ∧
      ((getF st.F t = .ud ∧ Runs P all os (st.app o.dst skipU) ([] :: acc) K) ∨
       ∃ b, getF st.F t = .one (.c (.v (.bool b))) ∧
        (b = want → ∀ f, ∃ U, OpOK P o (evF (getF (st.lit t want).F)) (getO st.O) f U ∧ Runs P all os ((st.lit t want).app o.dst U) (U.tch :: acc) K) ∧
        (b = !want → Runs P all os ((st.lit t (!want)).app o.dst skipU) ([] :: acc) K))

def St.sf (st : St) : SF := ⟨getF st.F, getO st.O⟩

theorem sf_app (st : St) (s : Stp) : (st.app s.o.dst s.u).sf = st.sf.app s := by
  simp only [St.sf, SF.app, getF_app, getO_app]

theorem sf_lit (st : St) (t : Nat) (b : Bool) (h : getF st.F t = .one (.c (.v (.bool b)))) : (st.lit t b).sf = st.sf := by
  simp only [St.sf, St.lit, SF.mk.injEq, and_true]
  funext d
  simp only [getF]
  by_cases e : t = d
  · subst e; simp [h]
  · have : (t == d) = false := by simpa using e
    simp [this]

theorem Runs.chain {P : Program} {all : List Oper} {K : St → List (List (Nat × Bool)) → Prop} (fs : Nat → Nat → Nat) : ∀ (os : List Oper) (base : Nat) (st : St) (acc : List (List (Nat × Bool))), Runs P all os st acc K →
    ∃ l : List Stp, l.map (·.o) = os ∧ ChOk P all st.n l st.sf ∧ (∀ (i : Nat) s, l[i]? = some s → ∀ U f, s.x = some (U, f) → f = fs (base + i)) ∧
      ∃ st', K st' ((l.map (·.u.tch)).reverse ++ acc) ∧ st'.sf = chRun l st.sf ∧ st'.n = st.n
  | [], base, st, acc, h => ⟨[], rfl, trivial, by simp, st, h, rfl, rfl⟩
  | o :: os, base, st, acc, h => by
    -- one step, then the rest
    have go : ∀ (s : Stp) (st1 : St), s.o = o → st1.sf = st.sf → st1.n = st.n → s.Ok P all st.n st.sf → (∀ U f, s.x = some (U, f) → f = fs base) → Runs P all os (st1.app o.dst s.u) (s.u.tch :: acc) K →
        ∃ l : List Stp, l.map (·.o) = o :: os ∧ ChOk P all st.n l st.sf ∧ (∀ (i : Nat) s, l[i]? = some s → ∀ U f, s.x = some (U, f) → f = fs (base + i)) ∧
          ∃ st', K st' ((l.map (·.u.tch)).reverse ++ acc) ∧ st'.sf = chRun l st.sf ∧ st'.n = st.n := by
      intro s st1 hso hsf hn hs hf hr
      obtain ⟨l, h1, h2, h3, st', h4, h5, h6⟩ := Runs.chain fs os (base + 1) _ _ hr
      have e : (st1.app o.dst s.u).sf = st.sf.app s := by rw [← hso, sf_app, hsf]
      have en : (st1.app o.dst s.u).n = st.n := hn
      rw [e] at h2 h5
      rw [en] at h2 h6
      refine ⟨s :: l, by simp [hso, h1], ⟨hs, h2⟩, ?_, st', by simpa using h4, h5, h6⟩
      intro i s' hi U f hx
      cases i with
      | zero => simp at hi; subst hi; exact hf U f hx
      | succ i => have := h3 i s' (by simpa using hi) U f hx; rw [this]; congr 1; omega
    obtain ⟨hd, h⟩ := h
    cases hg : o.guard with
    | none =>
      simp only [hg] at h
      obtain ⟨U, hU, hr⟩ := h (fs base)
      exact go ⟨o, some (U, fs base)⟩ st rfl rfl rfl ⟨hd, hU, by simp [Wants, hg]⟩ (fun _ _ e => by simp at e; exact e.2.symm) hr
    | some gw =>
      obtain ⟨j, want⟩ := gw
      simp only [hg] at h
      obtain ⟨t, ht, h⟩ := h
      rcases h with ⟨hud, hr⟩ | ⟨b, hb, h1, h2⟩
      · exact go ⟨o, none⟩ st rfl rfl rfl ⟨hd, by simp only [Wants, hg]; exact ⟨t, ht, by simp; exact .inl hud⟩⟩ (fun _ _ e => by simp at e) hr
      · by_cases e : b = want
        · obtain ⟨U, hU, hr⟩ := h1 e (fs base)
          have hl : (st.lit t want).sf = st.sf := sf_lit st t want (by rw [← e]; exact hb)
          have hl' : getF (st.lit t want).F = getF st.F := congrArg SF.F hl
          rw [hl'] at hU
          exact go ⟨o, some (U, fs base)⟩ (st.lit t want) rfl hl rfl ⟨hd, hU, by simp only [Wants, hg]; exact ⟨t, ht, by simp; rw [← e]; exact hb⟩⟩ (fun _ _ e => by simp at e; exact e.2.symm) hr
        · have e' : b = !want := by cases b <;> cases want <;> simp_all
          have hr := h2 e'
          have hl : (st.lit t (!want)).sf = st.sf := sf_lit st t (!want) (by rw [← e']; exact hb)
          exact go ⟨o, none⟩ (st.lit t (!want)) rfl hl rfl ⟨hd, by simp only [Wants, hg]; exact ⟨t, ht, by simp; right; rw [← e']; exact hb⟩⟩ (fun _ _ e => by simp at e) hr

/-! ### What stands before what -/
def beforeStep (acc : Array Nat) (o : Oper) : Nat := o.after.foldl (fun s e => if Region.binds .any e then s ||| 2 ^ e.on ||| acc.getD e.on 0 else s) 0

theorem before_eq (ops : Array Oper) : Region.before ops = ops.toList.foldl (fun acc o => acc.push (beforeStep acc o)) #[] := by
  unfold Region.before
  rw [← Array.foldl_toList]
  rfl

theorem foldl_bit (acc : Array Nat) (i : Nat) : ∀ (l : List Edge) (s : Nat), (l.foldl (fun s e => if Region.binds .any e then s ||| 2 ^ e.on ||| acc.getD e.on 0 else s) s).testBit i = true →
    s.testBit i = true ∨ ∃ e ∈ l, Region.binds .any e = true ∧ (e.on = i ∨ (acc.getD e.on 0).testBit i = true)
  | [], s, h => .inl h
  | e :: l, s, h => by
    simp only [List.foldl_cons] at h
    rcases foldl_bit acc i l _ h with h | ⟨e', he', h⟩
    · split at h
      · rename_i hb
        simp only [Nat.testBit_or, Bool.or_eq_true, Nat.testBit_two_pow, decide_eq_true_eq] at h
        rcases h with (h | h) | h
        · exact .inl h
        · exact .inr ⟨e, by simp, hb, .inl h⟩
        · exact .inr ⟨e, by simp, hb, .inr h⟩
      · exact .inl h
    · exact .inr ⟨e', by simp [he'], h⟩

theorem before_inv (i : Nat) : ∀ (l pre : List Oper) (acc : Array Nat), acc.size = pre.length →
    (∀ j o, pre[j]? = some o → (acc.getD j 0).testBit i = true → ∃ e ∈ o.after, Region.binds .any e = true ∧ (e.on = i ∨ (acc.getD e.on 0).testBit i = true)) →
    ∀ j o, (pre ++ l)[j]? = some o → ((l.foldl (fun acc o => acc.push (beforeStep acc o)) acc).getD j 0).testBit i = true →
      ∃ e ∈ o.after, Region.binds .any e = true ∧ (e.on = i ∨ ((l.foldl (fun acc o => acc.push (beforeStep acc o)) acc).getD e.on 0).testBit i = true)
  | [], pre, acc, _, h => by simpa using h
  | x :: l, pre, acc, hs, h => by
    have push : ∀ (k v : Nat), (acc.getD k 0).testBit i = true → ((acc.push v).getD k 0).testBit i = true := by
      intro k v hk
      by_cases hlt : k < acc.size
      · simpa [Array.getD_eq_getD_getElem?, Array.getElem?_push, Nat.ne_of_lt hlt] using hk
      · simp [Array.getD_eq_getD_getElem?, Array.getElem?_eq_none (Nat.le_of_not_lt hlt)] at hk
    have := before_inv i l (pre ++ [x]) (acc.push (beforeStep acc x)) (by simp [hs]) (by
      intro j o ho hb
      by_cases hj : j < pre.length
      · have hb' : (acc.getD j 0).testBit i = true := by
          simpa [Array.getD_eq_getD_getElem?, Array.getElem?_push, Nat.ne_of_lt (hs ▸ hj)] using hb
        obtain ⟨e, he, h1, h2⟩ := h j o (by simpa [List.getElem?_append, hj] using ho) hb'
        exact ⟨e, he, h1, h2.imp id (push _ _)⟩
      · have hj' : j = pre.length := by
          have : j < (pre ++ [x]).length := (List.getElem?_eq_some_iff.1 ho).1
          simp at this; omega
        subst hj'
        have ho' : x = o := by simpa using ho
        subst ho'
        have hb' : (beforeStep acc x).testBit i = true := by
          rw [← hs] at hb
          simpa [Array.getD_eq_getD_getElem?, Array.getElem?_push] using hb
        unfold beforeStep at hb'
        rw [← Array.foldl_toList] at hb'
        rcases foldl_bit acc i x.after.toList 0 hb' with h0 | ⟨e, he, h1, h2⟩
        · simp at h0
        · exact ⟨e, by simpa using he, h1, h2.imp id (push _ _)⟩)
    simpa using this

theorem before_spec {ops : List Oper} {i j : Nat} {o : Oper} (ho : ops[j]? = some o) (h : ((Region.before ops.toArray).getD j 0).testBit i = true) :
    ∃ e ∈ o.after, Region.binds .any e = true ∧ (e.on = i ∨ ((Region.before ops.toArray).getD e.on 0).testBit i = true) := by
  rw [before_eq] at h ⊢
  exact before_inv i ops [] #[] rfl (by simp) j o (by simpa using ho) h

def depOk (all : List Oper) (tch : List (List (Nat × Bool))) : Bool :=
  let b := Region.before all.toArray
  (List.range all.length).all fun j =>
    ((all.getD j default).after.all fun e => !Region.binds .any e || decide (e.on < j)) &&
    (List.range j).all fun i => !clash all (all.getD i default) (all.getD j default) (tch.getD i []) (tch.getD j []) || (b.getD j 0).testBit i

/-- Which are still to come, in the text's order. -/
def left (n : Nat) (listed : Array Bool) : List Nat := (List.range n).filter fun i => !listed.getD i true

theorem left_set {n i : Nat} {listed : Array Bool} (hi : i < listed.size) : left n (listed.setIfInBounds i true) = (left n listed).filter (· != i) := by
  unfold left
  rw [List.filter_filter]
  apply List.filter_congr
  intro j _
  by_cases h : i = j
  · subst h; simp [Array.getD_eq_getD_getElem?, hi]
  · have h' : ¬ j = i := fun e => h e.symm
    simp [Array.getD_eq_getD_getElem?, Array.getElem?_setIfInBounds_ne h, h']

theorem left_split {n i : Nat} {listed : Array Bool} (hm : i ∈ left n listed) : ∃ p q, left n listed = p ++ i :: q ∧ (left n listed).filter (· != i) = p ++ q ∧ ∀ j ∈ p, j < i := by
  obtain ⟨p, q, hpq⟩ := List.append_of_mem hm
  have hsort : (left n listed).Pairwise (· < ·) := List.Pairwise.filter _ List.pairwise_lt_range
  rw [hpq] at hsort
  have h1 := List.pairwise_append.1 hsort
  have h2 := List.pairwise_cons.1 h1.2.1
  have hp : ∀ j ∈ p, j < i := fun j hj => h1.2.2 j hj i (by simp)
  refine ⟨p, q, hpq, ?_, hp⟩
  rw [hpq, List.filter_append, List.filter_cons]
  have e1 : p.filter (· != i) = p := List.filter_eq_self.2 fun j hj => by have := hp j hj; simp; omega
  have e2 : q.filter (· != i) = q := List.filter_eq_self.2 fun j hj => by have := h2.1 j hj; simp; omega
  simp [e1, e2]

/-- **Whatever order is drawn, the state at the end is that of the walk in the text's order.** -/
theorem wpAny_of {P : Program} {all : List Oper} {n : Nat} {Q : Exit → Act → World → Prop} {S1 : SF} (st : Nat → Stp) (fs : Nat → Nat → Nat) (used0 : Nat → Prop)
    (hst : ∀ (i : Nat) o, all[i]? = some o → (st i).o = o) (hfx : ∀ i U f, i < all.length → (st i).x = some (U, f) → f = fs i)
    (hinj : ∀ i j k l, i < all.length → j < all.length → fs i k = fs j l → i = j ∧ k = l) (hun : ∀ i k, ¬ used0 (fs i k))
    (hdep : depOk all ((List.range all.length).map fun i => (st i).u.tch) = true) (hd : ∀ (j : Nat) d, (all[j]?).bind (·.dst) = some d → d < n) (w0 : World) (G0 : Gh)
    (hQ : ∀ G a w, Rel S1.F S1.O n G a w → Evol (fun _ => True) w0 G0 w G → Q .normal a w) :
    ∀ (fuel : Nat) (listed : Array Bool) (S : SF) (G : Gh) (a : Act) (w : World), listed.size = all.length → (left all.length listed).length ≤ fuel →
      ChOk P all n ((left all.length listed).map st) S → chRun ((left all.length listed).map st) S = S1 → Rel S.F S.O n G a w → Evol (fun _ => True) w0 G0 w G →
      (∀ s, G.used s → used0 s ∨ ∃ i k, i < all.length ∧ listed.getD i true = true ∧ s = fs i k) →
      (∀ i o, all[i]? = some o → listed.getD i true = true → ∀ e ∈ o.after, Region.binds .any e = true → listed.getD e.on false = true) →
      wpAny P .any all.toArray Q fuel listed a w := by
  have hlt : ∀ j o, all[j]? = some o → ∀ e ∈ o.after, Region.binds .any e = true → e.on < j := by
    intro j o ho e he hb
    have hj : j < all.length := (List.getElem?_eq_some_iff.1 ho).1
    simp only [depOk, List.all_eq_true, List.mem_range, Bool.and_eq_true] at hdep
    have := (hdep j hj).1
    have hg : all.getD j default = o := by simp [List.getD, ho]
    rw [hg, Array.all_eq_true] at this
    obtain ⟨k, hk, hke⟩ := Array.mem_iff_getElem.1 he
    have h := this k hk
    rw [hke] at h
    simpa [hb] using h
  intro fuel
  induction fuel with
  | zero =>
    intro listed S G a w hsz hfu hch hrun hrel hev hus hcl
    have hnil : left all.length listed = [] := List.eq_nil_of_length_eq_zero (by omega)
    rw [hnil] at hrun
    simp only [List.map_nil, chRun] at hrun
    subst hrun
    refine ⟨?_, hQ G a w hrel hev⟩
    simp only [Region.ready, List.filter_eq_nil_iff, List.mem_range, List.size_toArray]
    intro i hi hc
    have : i ∈ left all.length listed := by
      simp only [left, List.mem_filter, List.mem_range]
      simp only [Bool.and_eq_true] at hc
      exact ⟨hi, hc.1⟩
    rw [hnil] at this
    simp at this
  | succ fuel ih =>
    intro listed S G a w hsz hfu hch hrun hrel hev hus hcl
    refine ⟨?_, ?_⟩
    · intro hnone
      -- nothing is ready: nothing is left
      have hnil : left all.length listed = [] := by
        cases hl : left all.length listed with
        | nil => rfl
        | cons i q =>
          exfalso
          have hmem : i ∈ left all.length listed := by rw [hl]; simp
          have hm := hmem
          simp only [left, List.mem_filter, List.mem_range] at hm
          have hsort : (left all.length listed).Pairwise (· < ·) := List.Pairwise.filter _ List.pairwise_lt_range
          rw [hl] at hsort
          have hmin := (List.pairwise_cons.1 hsort).1
          have hlow : ∀ j, j < i → listed.getD j false = true := by
            intro j hj
            have hjs : j < listed.size := by omega
            have hjn : j ∉ left all.length listed := fun hj' => by
              rw [hl] at hj'
              rcases List.mem_cons.1 hj' with e | e
              · omega
              · have := hmin j e; omega
            simp only [left, List.mem_filter, List.mem_range, not_and, Bool.not_eq_true] at hjn
            have := hjn (by omega)
            simpa [Array.getD_eq_getD_getElem?, hjs] using this
          have hin : i ∈ Region.ready .any all.toArray listed := by
            simp only [Region.ready, List.mem_filter, List.mem_range, List.size_toArray, Bool.and_eq_true]
            refine ⟨hm.1, hm.2, ?_⟩
            have ho : all[i]? = some all[i] := List.getElem?_eq_getElem hm.1
            simp only [List.getElem?_toArray, ho, Option.map_some, Option.getD_some, Array.all_eq_true]
            intro k hk
            cases hb : Region.binds .any all[i].after[k] with
            | false => simp
            | true =>
              have hlt' := hlt i _ ho all[i].after[k] (Array.getElem_mem hk) hb
              simp only [Bool.not_true, Bool.false_or]
              exact hlow _ hlt'
          rw [hnone] at hin
          simp at hin
      rw [hnil] at hrun
      simp only [List.map_nil, chRun] at hrun
      subst hrun
      exact hQ G a w hrel hev
    · intro i hi
      simp only [Region.ready, List.mem_filter, List.mem_range, List.size_toArray, Bool.and_eq_true] at hi
      obtain ⟨hin, hun', hrd⟩ := hi
      have ho : all[i]? = some all[i] := List.getElem?_eq_getElem hin
      have hedge : ∀ e ∈ all[i].after, Region.binds .any e = true → listed.getD e.on false = true := by
        intro e he hb
        simp only [List.getElem?_toArray, ho, Option.map_some, Option.getD_some, Array.all_eq_true] at hrd
        obtain ⟨k, hk, hke⟩ := Array.mem_iff_getElem.1 he
        have := hrd k hk
        rw [hke] at this
        simpa [hb] using this
      have hmem : i ∈ left all.length listed := by simp only [left, List.mem_filter, List.mem_range]; exact ⟨hin, hun'⟩
      obtain ⟨p, q, hpq, hfil, hpl⟩ := left_split hmem
      have hset : left all.length (listed.setIfInBounds i true) = p ++ q := by rw [left_set (by omega), hfil]
      -- whatever stands before an operation that is ready has been done
      have hanc : ∀ (m j o' : Nat), j ≤ m → j < all.length → (∀ o, all[j]? = some o → (∀ e ∈ o.after, Region.binds .any e = true → listed.getD e.on false = true)) →
          ((Region.before all.toArray).getD j 0).testBit o' = true → listed.getD o' false = true := by
        intro m
        induction m with
        | zero =>
          intro j o' hj hjl hed hb
          have hoj : all[j]? = some all[j] := List.getElem?_eq_getElem hjl
          obtain ⟨e, he, hbe, h⟩ := before_spec hoj hb
          have := hlt j _ hoj e he hbe
          omega
        | succ m ihm =>
          intro j o' hj hjl hed hb
          have hoj : all[j]? = some all[j] := List.getElem?_eq_getElem hjl
          obtain ⟨e, he, hbe, h⟩ := before_spec hoj hb
          have hl1 := hed _ hoj e he hbe
          have hlte := hlt j _ hoj e he hbe
          rcases h with h | h
          · rw [← h]; exact hl1
          · refine ihm e.on o' (by omega) (by omega) ?_ h
            intro o hoe e' he' hb'
            refine hcl e.on o hoe ?_ e' he' hb'
            have hs : e.on < listed.size := by omega
            simpa [Array.getD_eq_getD_getElem?, hs] using hl1
      have hclash : ∀ x ∈ p.map st, clash all x.o (st i).o x.u.tch (st i).u.tch = false := by
        intro x hx
        obtain ⟨j, hj, rfl⟩ := List.mem_map.1 hx
        have hji := hpl j hj
        have hjm : j ∈ left all.length listed := by rw [hpq]; simp [hj]
        simp only [left, List.mem_filter, List.mem_range] at hjm
        have hoj : all[j]? = some all[j] := List.getElem?_eq_getElem hjm.1
        have := hdep
        simp only [depOk, List.all_eq_true, List.mem_range, Bool.and_eq_true] at this
        have := (this i hin).2 j hji
        have g1 : all.getD j default = all[j] := by simp [List.getD, hoj]
        have g2 : all.getD i default = all[i] := by simp [List.getD, ho]
        have g3 : ((List.range all.length).map fun i => (st i).u.tch).getD j [] = (st j).u.tch := by simp [List.getD, hjm.1]
        have g4 : ((List.range all.length).map fun i => (st i).u.tch).getD i [] = (st i).u.tch := by simp [List.getD, hin]
        rw [g1, g2, g3, g4, ← hst j _ hoj, ← hst i _ ho] at this
        simp only [Bool.or_eq_true, Bool.not_eq_true'] at this
        rcases this with h | h
        · exact h
        · exfalso
          have := hanc i i j (Nat.le_refl _) hin (fun o hoo e he hb => by rw [ho] at hoo; cases hoo; exact hedge e he hb) h
          have hjs : j < listed.size := by omega
          have h2 := hjm.2
          simp [Array.getD_eq_getD_getElem?, hjs] at this h2
          rw [this] at h2
          simp at h2
      rw [hpq, List.map_append, List.map_cons] at hch hrun
      obtain ⟨hy, hch', hrun'⟩ := ChOk.pull (p.map st) S hch hclash
      rw [hrun'] at hrun
      have hso := hst i _ ho
      have hcl' : ∀ k o, all[k]? = some o → (listed.setIfInBounds i true).getD k true = true → ∀ e ∈ o.after, Region.binds .any e = true → (listed.setIfInBounds i true).getD e.on false = true := by
        intro k o hk hkl e he hb
        have mono : ∀ j, listed.getD j false = true → (listed.setIfInBounds i true).getD j false = true := by
          intro j hj
          by_cases h : i = j
          · subst h; simp [Array.getD_eq_getD_getElem?, show i < listed.size by omega]
          · simpa [Array.getD_eq_getD_getElem?, Array.getElem?_setIfInBounds_ne h] using hj
        by_cases h : i = k
        · subst h
          rw [ho] at hk; cases hk
          exact mono _ (hedge e he hb)
        · refine mono _ (hcl k o hk ?_ e he hb)
          simpa [Array.getD_eq_getD_getElem?, Array.getElem?_setIfInBounds_ne h] using hkl
      have hlen : (left all.length (listed.setIfInBounds i true)).length ≤ fuel := by
        rw [hset]; rw [hpq] at hfu; simp at hfu ⊢; omega
      have fin : ∀ G' a' w', Rel (S.app (st i)).F (S.app (st i)).O n G' a' w' → Evol (fun _ => True) w G w' G' → (∀ s, G'.used s → G.used s ∨ ∃ k, s = fs i k) →
          wpAny P .any all.toArray Q fuel (listed.setIfInBounds i true) a' w' := by
        intro G' a' w' hr' he' hu'
        refine ih (listed.setIfInBounds i true) (S.app (st i)) G' a' w' (by simpa using hsz) hlen (by rw [hset, List.map_append]; exact hch') (by rw [hset, List.map_append]; exact hrun) hr' (hev.trans he') ?_ hcl'
        intro s hs
        have keep : ∀ j, listed.getD j true = true → (listed.setIfInBounds i true).getD j true = true := by
          intro j hj
          by_cases h : i = j
          · subst h; simp [Array.getD_eq_getD_getElem?, show i < listed.size by omega]
          · simpa [Array.getD_eq_getD_getElem?, Array.getElem?_setIfInBounds_ne h] using hj
        rcases hu' s hs with h | ⟨k, h⟩
        · rcases hus s h with h | ⟨j, k, h1, h2, h3⟩
          · exact .inl h
          · exact .inr ⟨j, k, h1, keep j h2, h3⟩
        · exact .inr ⟨i, k, hin, by simp [Array.getD_eq_getD_getElem?, show i < listed.size by omega], h⟩
      unfold Go.wpOp
      simp only [List.getElem?_toArray, ho]
      have hd' : ∀ d, (st i).o.dst = some d → d < n := hy.1
      have hy2 := hy.2
      cases hx : (st i).x with
      | none =>
        simp only [hx] at hy2
        rw [hso] at hy2
        have hw := hy2.wanted hrel hd
        simp only [hw, Bool.false_eq_true, if_false]
        have := hrel.skip all[i].dst (by rw [← hso]; exact hd')
        refine fin G _ w ?_ (Evol.refl _ _ _) (fun s hs => .inl hs)
        have e1 : (st i).u = skipU := by simp [Stp.u, hx]
        simp only [SF.app, e1, hso, skipU]
        have e2 : updO [] S.O = S.O := by funext k; simp [updO]
        rw [e2]; exact this
      | some pu =>
        obtain ⟨U, f⟩ := pu
        have e1 : (st i).u = U := by simp [Stp.u, hx]
        have hff := hfx i U f hin hx
        subst hff
        simp only [hx] at hy2
        rw [hso] at hy2
        have hw := hy2.2.wanted hrel hd
        simp only [hw, if_true]
        refine .inl ?_
        have hfresh : Fresh G (fs i) := ⟨fun k hk => by
          rcases hus _ hk with h | ⟨j, l, h1, h2, h3⟩
          · exact hun i k h
          · have := (hinj i j k l hin h1 h3).1
            subst this
            simp only [Bool.not_eq_true'] at hun'
            rw [hun'] at h2
            simp at h2, fun k l h => (hinj i i k l hin hin h).2⟩
        have hwp := hy2.1.2 G a w hrel.wf (fun x _ => hrel.ev x) (hrel.obs _) hfresh
        have mono1 : ∀ {o : Oper} {a : Act} {w : World} {K K' : Act → World → Prop} {Q' : Exit → Act → World → Prop}, (∀ a w, K a w → K' a w) → o.wp P a w K (fun _ _ _ => False) → o.wp P a w K' Q' := by
          intro o a w K K' Q' hK hh
          unfold Oper.wp at *
          generalize (execOp a.eval o).run P w = r at *
          cases r with
          | ok nx w' =>
            cases nx <;> simp only [Oper.upon] at hh ⊢ <;>
              first
                | exact hK _ _ hh
                | exact Calls.mono hh (fun e w'' he => by cases e <;> first | exact hK _ _ he | exact he.elim | (obtain ⟨_, _, h⟩ := he; exact h.elim))
                | exact Rows.mono hh (fun _ _ he => hK _ _ he)
          | halt x w' => cases x <;> simp only [Oper.upon] at hh ⊢ <;> exact hh.elim
        refine mono1 (fun a' w' hp => ?_) hwp
        obtain ⟨G', hr', he', hu'⟩ := hrel.step hy2.1.1 hfresh (by rw [← hso]; exact hd') hp
        refine fin G' a' w' ?_ he' hu'
        simp only [SF.app, e1, hso]
        exact hr'
end Go.Lap
