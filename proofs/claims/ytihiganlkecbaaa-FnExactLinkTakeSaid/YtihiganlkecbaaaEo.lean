/- The engine's fifteenth part: what a call brings back, under the caller's names. -/
import Derived.Test.YtihiganlkecbaaaEn
set_option linter.unusedVariables false
namespace Go.Lap
open Go.RowKit

def itS (its : List (Nat × Nat × AObj)) (s : Nat) : Option (Nat × Nat × AObj) := its.find? fun x => x.2.1 == s
def itF (f : Nat → Nat) (its : List (Nat × Nat × AObj)) (c : Nat) : Option (Nat × Nat × AObj) := its.find? fun x => f x.1 == c

theorem itS_some {its : List (Nat × Nat × AObj)} {s : Nat} {x : Nat × Nat × AObj} (h : itS its s = some x) : x ∈ its ∧ x.2.1 = s :=
  ⟨List.mem_of_find?_eq_some h, by have := List.find?_some h; simpa using this⟩

theorem itF_some {f : Nat → Nat} {its : List (Nat × Nat × AObj)} {c : Nat} {x : Nat × Nat × AObj} (h : itF f its c = some x) : x ∈ its ∧ f x.1 = c :=
  ⟨List.mem_of_find?_eq_some h, by have := List.find?_some h; simpa using this⟩

theorem itS_mem : ∀ {its : List (Nat × Nat × AObj)} (h : (its.map (·.2.1)).Nodup) {x : Nat × Nat × AObj} (hx : x ∈ its), itS its x.2.1 = some x
  | y :: its, h, x, hx => by
    simp only [List.map_cons, List.nodup_cons] at h
    simp only [itS, List.find?_cons]
    rcases List.mem_cons.1 hx with e | e
    · subst e; simp
    · have : (y.2.1 == x.2.1) = false := by
        simp only [beq_eq_false_iff_ne]
        intro e'
        exact h.1 (e' ▸ List.mem_map.2 ⟨x, e, rfl⟩)
      simp only [this]
      exact itS_mem h.2 e

theorem itF_mem {f : Nat → Nat} (hf : ∀ i j, f i = f j → i = j) : ∀ {its : List (Nat × Nat × AObj)} (h : (its.map (·.1)).Nodup) {x : Nat × Nat × AObj} (hx : x ∈ its), itF f its (f x.1) = some x
  | y :: its, h, x, hx => by
    simp only [List.map_cons, List.nodup_cons] at h
    simp only [itF, List.find?_cons]
    rcases List.mem_cons.1 hx with e | e
    · subst e; simp
    · have : (f y.1 == f x.1) = false := by
        simp only [beq_eq_false_iff_ne]
        intro e'
        exact h.1 (hf _ _ e' ▸ List.mem_map.2 ⟨x, e, rfl⟩)
      simp only [this]
      exact itF_mem hf h.2 e

def ownB (G' : Gh) (f : Nat → Nat) (Bx : List Nat) (its : List (Nat × Nat × AObj)) (b : Nat) : Owner :=
  match G'.own b with
  | .obj s' => match itS its s' with | some x => .obj (if Bx.contains s' then s' else f x.1) | none => .junk
  | z => z

/-- The ghost after a call, under the caller's names. -/
noncomputable def Gh.back (G G' : Gh) (f : Nat → Nat) (pl fl Bx : List Nat) (its : List (Nat × Nat × AObj)) : Gh :=
  open Classical in
  ⟨fun c => if G.used c then G.loc c else match itF f its c with | some x => G'.loc x.2.1 | none => none,
   fun c => if G.used c then G.cap c else match itF f its c with | some x => G'.cap x.2.1 | none => 0,
   fun b => match G.own b with | .obj s => if pl.contains s || fl.contains s then ownB G' f Bx its b else .obj s | _ => ownB G' f Bx its b,
   fun c => G.used c ∨ ∃ x ∈ its, c = f x.1⟩

section
variable {w w' : World} {G G' : Gh} {f : Nat → Nat} {pl fl vl Bx : List Nat} {its : List (Nat × Nat × AObj)}

theorem back_own {b : Nat} : (G.back G' f pl fl Bx its).own b = match G.own b with | .obj s => if pl.contains s || fl.contains s then ownB G' f Bx its b else .obj s | _ => ownB G' f Bx its b := rfl

/-- What the callee owns, freezes or calls borrowed is none of the arrays that stay with the caller. -/
theorem back_own' (hw : Wf G w) (hev : Evol (fun _ => True) w (G.toC pl fl vl) w' G') {b : Nat} (h : (∃ s, G'.own b = .obj s) ∨ G'.own b = .frz ∨ (vl = [] ∧ G'.own b = .bor)) : (G.back G' f pl fl Bx its).own b = ownB G' f Bx its b := by
  rw [back_own]
  cases ho : G.own b with
  | obj s =>
    simp only
    by_cases hc : (pl.contains s || fl.contains s) = true
    · rw [if_pos hc]
    · exfalso
      have hlt := (hw.lt s b (hw.of_own b s ho)).1
      have hc' : pl.contains s = false ∧ fl.contains s = false := by simpa using hc
      have h1 : (G.toC pl fl vl).own b = if vl.contains s then .bor else .ext := by
        rw [toC_own, ho]; simp only [hc'.1, hc'.2, Bool.false_eq_true, if_false]
      by_cases hv : vl.contains s = true
      · rw [if_pos hv] at h1
        have h2 := (hev.kept b hlt (.inr (.inl h1))).1
        rw [h1] at h2
        rcases h with ⟨s', h⟩ | h | ⟨h3, h⟩
        · rw [h2] at h; cases h
        · rw [h2] at h; cases h
        · rw [h3] at hv; simp at hv
      · rw [if_neg hv] at h1
        have h2 := (hev.kept b hlt (.inl h1)).1
        rw [h1] at h2
        rcases h with ⟨s', h⟩ | h | ⟨h3, h⟩
        · rw [h2] at h; cases h
        · rw [h2] at h; cases h
        · rw [h2] at h; cases h
  | _ => rfl

structure BackHyp (w w' : World) (G G' : Gh) (f : Nat → Nat) (pl fl vl Bx : List Nat) (its : List (Nat × Nat × AObj)) : Prop where
  hw : Wf G w
  hw' : Wf G' w'
  hev : Evol (fun _ => True) w (G.toC pl fl vl) w' G'
  un : ∀ i, ¬ G.used (f i)
  inj : ∀ i j, f i = f j → i = j
  kn : (its.map (·.1)).Nodup
  sn : (its.map (·.2.1)).Nodup
  bx : ∀ s ∈ Bx, G.used s

theorem BackHyp.loc_new (h : BackHyp w w' G G' f pl fl vl Bx its) {x : Nat × Nat × AObj} (hx : x ∈ its) : (G.back G' f pl fl Bx its).loc (f x.1) = G'.loc x.2.1 ∧ (G.back G' f pl fl Bx its).cap (f x.1) = G'.cap x.2.1 := by
  simp only [Gh.back, if_neg (h.un x.1), itF_mem h.inj h.kn hx, and_self]

theorem BackHyp.wf (h : BackHyp w w' G G' f pl fl vl Bx its) : Wf (G.back G' f pl fl Bx its) w' := by
  refine ⟨fun c b hc => ?_, fun b c hb => ?_, fun b hb => ?_, ?_⟩
  · by_cases hu : G.used c
    · simp only [Gh.back, if_pos hu] at hc
      exact ⟨Nat.lt_of_lt_of_le (h.hw.lt c b hc).1 h.hev.size, .inl hu⟩
    · simp only [Gh.back, if_neg hu] at hc
      cases hi : itF f its c with
      | none => rw [hi] at hc; cases hc
      | some x =>
        rw [hi] at hc
        obtain ⟨h1, h2⟩ := itF_some hi
        exact ⟨(h.hw'.lt _ b hc).1, .inr ⟨x, h1, h2.symm⟩⟩
  · have key : ownB G' f Bx its b = .obj c → (G.back G' f pl fl Bx its).loc c = some b := by
      intro ho
      unfold ownB at ho
      cases hg : G'.own b with
      | obj s' =>
        rw [hg] at ho
        simp only at ho
        cases hi : itS its s' with
        | none => rw [hi] at ho; cases ho
        | some x =>
          rw [hi] at ho
          obtain ⟨h1, h2⟩ := itS_some hi
          have hl := h.hw'.of_own b s' hg
          simp only [Owner.obj.injEq] at ho
          by_cases hB : Bx.contains s' = true
          · rw [if_pos hB] at ho
            subst ho
            have hu := h.bx s' (by simpa using hB)
            simp only [Gh.back, if_pos hu]
            rw [← hl, h.hev.loc s' hu]
            rfl
          · rw [if_neg hB] at ho
            subst ho
            rw [(h.loc_new h1).1, h2, hl]
      | _ => rw [hg] at ho; cases ho
    rw [back_own] at hb
    cases ho : G.own b with
    | obj s =>
      rw [ho] at hb
      simp only at hb
      split at hb
      · exact key hb
      · cases hb
        have hl := h.hw.of_own b c ho
        have hu := (h.hw.lt c b hl).2
        simp only [Gh.back, if_pos hu]
        exact hl
    | _ => rw [ho] at hb; exact key hb
  · have h1 : G.own b = .junk := h.hw.past b (Nat.le_trans h.hev.size hb)
    rw [back_own, h1]
    simp only [ownB, h.hw'.past b hb]
  · obtain ⟨N, hN⟩ := h.hw.fin
    have : ∀ its : List (Nat × Nat × AObj), ∃ M, ∀ x ∈ its, f x.1 < M := by
      intro its
      induction its with
      | nil => exact ⟨0, by simp⟩
      | cons y its ih =>
        obtain ⟨M, hM⟩ := ih
        exact ⟨max M (f y.1 + 1), fun x hx => by
          rcases List.mem_cons.1 hx with e | e
          · subst e; omega
          · have := hM x e; omega⟩
    obtain ⟨M, hM⟩ := this its
    refine ⟨max N M, fun s hs => ?_⟩
    rcases hs with hs | ⟨x, hx, rfl⟩
    · have := hN s hs; omega
    · have := hM x hx; omega

theorem BackHyp.evol (h : BackHyp w w' G G' f pl fl vl Bx its) {U : Nat → Prop} (hU : ∀ s, s ∈ pl ∨ s ∈ fl → U s) : Evol U w G w' (G.back G' f pl fl Bx its) := by
  refine ⟨h.hev.os, h.hev.tape, h.hev.output, h.hev.size, fun s hs => .inl hs, fun s hs => by simp only [Gh.back, if_pos hs], fun s hs => by simp only [Gh.back, if_pos hs], fun b hb ho => ?_⟩
  have same : ∀ z, (z = .ext ∨ z = .bor ∨ z = .frz) → G.own b = z → (G.back G' f pl fl Bx its).own b = G.own b ∧ w'.heap[b]? = w.heap[b]? := by
    intro z hz hg
    have h1 : (G.toC pl fl vl).own b = z := by rw [toC_own, hg]; rcases hz with rfl | rfl | rfl <;> rfl
    have h2 := h.hev.kept b hb (by rw [h1]; rcases hz with h | h | h <;> simp [h])
    refine ⟨?_, h2.2⟩
    rw [h1] at h2
    rw [back_own, hg]
    rcases hz with rfl | rfl | rfl <;> simp only [ownB, h2.1]
  rcases ho with ho | ho | ho | ⟨s, ho, hn⟩
  · exact same _ (.inl rfl) ho
  · exact same _ (.inr (.inl rfl)) ho
  · exact same _ (.inr (.inr rfl)) ho
  · have hc1 : pl.contains s = false := by
      cases hc : pl.contains s with
      | false => rfl
      | true => exact (hn (hU s (.inl (by simpa using hc)))).elim
    have hc2 : fl.contains s = false := by
      cases hc : fl.contains s with
      | false => rfl
      | true => exact (hn (hU s (.inr (by simpa using hc)))).elim
    have h1 : (G.toC pl fl vl).own b = if vl.contains s then .bor else .ext := by
      rw [toC_own, ho]; simp only [hc1, hc2, Bool.false_eq_true, if_false]
    refine ⟨by rw [back_own, ho]; simp only [hc1, hc2, Bool.or_self, Bool.false_eq_true, if_false], ?_⟩
    refine (h.hev.kept b hb ?_).2
    rw [h1]
    split
    · exact .inr (.inl rfl)
    · exact .inl rfl

/-- A name there stands for a name here. -/
structure Rn (G' G2 : Gh) (s c : Nat) : Prop where
  used : G2.used c
  loc : G2.loc c = G'.loc s
  cap : G2.cap c = G'.cap s
  own : ∀ b, G'.own b = .obj s → G2.own b = .obj c

theorem BackHyp.rn (h : BackHyp w w' G G' f pl fl vl Bx its) {x : Nat × Nat × AObj} (hx : x ∈ its) (hb : x.2.1 ∉ Bx) : Rn G' (G.back G' f pl fl Bx its) x.2.1 (f x.1) := by
  refine ⟨.inr ⟨x, hx, rfl⟩, (h.loc_new hx).1, (h.loc_new hx).2, fun b ho => ?_⟩
  rw [back_own' h.hw h.hev (.inl ⟨_, ho⟩)]
  unfold ownB
  rw [ho]
  simp only [itS_mem h.sn hx]
  rw [if_neg (by simpa using hb)]

theorem BackHyp.rb (h : BackHyp w w' G G' f pl fl vl Bx its) {x : Nat × Nat × AObj} (hx : x ∈ its) (hb : x.2.1 ∈ Bx) : Rn G' (G.back G' f pl fl Bx its) x.2.1 x.2.1 := by
  have hu := h.bx _ hb
  refine ⟨.inl hu, ?_, ?_, fun b ho => ?_⟩
  · simp only [Gh.back, if_pos hu]; exact (h.hev.loc _ hu).symm
  · simp only [Gh.back, if_pos hu]; exact (h.hev.cap _ hu).symm
  · rw [back_own' h.hw h.hev (.inl ⟨_, ho⟩)]
    unfold ownB
    rw [ho]
    simp only [itS_mem h.sn hx]
    rw [if_pos (by simpa using hb)]

theorem BackHyp.frz (h : BackHyp w w' G G' f pl fl vl Bx its) {b : Nat} (ho : G'.own b = .frz) : (G.back G' f pl fl Bx its).own b = .frz := by
  rw [back_own' h.hw h.hev (.inr (.inl ho))]
  simp only [ownB, ho]

theorem BackHyp.bor (h : BackHyp w w' G G' f pl fl vl Bx its) (hv : vl = []) {b : Nat} (ho : G'.own b = .bor) : (G.back G' f pl fl Bx its).own b = .bor := by
  rw [back_own' h.hw h.hev (.inr (.inr ⟨hv, ho⟩))]
  simp only [ownB, ho]
end
end Go.Lap
