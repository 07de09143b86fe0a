/- The engine's seventeenth part: the rule for calls, joined. -/
import Derived.Test.YtihiganlkecbaaaEp
set_option linter.unusedVariables false
namespace Go.Lap
open Go.RowKit

/-- The arrays that are changed in place, as they come back. -/
def itM : List Cell → List Cell → List (Option (Nat × Nat)) → List (Nat × Nat × AObj)
  | p :: ps, c :: cs, x :: cl =>
    match p, c, x with
    | .sl .own _ _, .sl .own e rows, some (k, s) => (k, s, .arr e rows) :: itM ps cs cl
    | _, _, _ => itM ps cs cl
  | _, _, _ => []

/-- The boxes that went along, as they come back. -/
def outUB (K : Nat) (f : Nat → Nat) : Nat → List Par → List (List Cell) → List (List (Option (Nat × Nat)) × Option (Nat × Nat)) → List (Nat × Nat × AObj)
  | i, p :: ps, outs, (cl, bx) :: cls =>
    match p.k, outs, bx with
    | .val, outs, _ => outUB K f (i + 1) ps outs cls
    | .mt, cs :: outs, _ => itM p.cs cs cl ++ outUB K f (i + 1) ps outs cls
    | .mt, [], _ => []
    | .ptr, cs :: outs, some (k, s) => (k, s, .box (upC (K + 1000 * (i + 1)) (hk f i) 0 cs)) :: outUB K f (i + 1) ps outs cls
    | .ptr, _ :: outs, none => outUB K f (i + 1) ps outs cls
    | .ptr, [], _ => []
  | _, _, _, _ => []

def kills : List Par → List (List (Option (Nat × Nat)) × Option (Nat × Nat)) → List Nat
  | p :: ps, x :: cls => (match p.k with | .mt => [] | _ => (x.1.filterMap id).map (·.1)) ++ kills ps cls
  | _, _ => []

def callNew (K : Nat) (f : Nat → Nat) (rs : List RV) (ps : List Par) (outs : List (List Cell)) : List (Nat × Nat × AObj) := resOs K (gk f) 0 rs ++ outN K (hk f) 0 ps outs

def callUpd (K : Nat) (f : Nat → Nat) (rs : List RV) (ps : List Par) (outs : List (List Cell)) (cls : List (List (Option (Nat × Nat)) × Option (Nat × Nat))) (fr : List (Nat × Nat × AObj)) : List (Nat × Option (Nat × AObj)) :=
  ((callNew K f rs ps outs ++ outUB K f 0 ps outs cls) ++ fr).map (fun x => (x.1, some (x.2.1, x.2.2))) ++ (kills ps cls).map fun k => (k, none)

def callTch (ks : List Nat) (vw : List (Nat × Nat)) (rd : List Nat) : List (Nat × Bool) := ks.map (fun k => (k, true)) ++ (vw.map fun x => (x.1, false)) ++ rd.map fun k => (k, false)

/-- The keys that are written. -/
def callKeys (K : Nat) (rs : List RV) (ps : List Par) (outs : List (List Cell)) (cls : List (List (Option (Nat × Nat)) × Option (Nat × Nat))) (fr : List (Nat × Nat × AObj)) : List Nat :=
  (callUpd K (fun _ => 0) rs ps outs cls fr).map (·.1)

def callChk (K : Nat) (rs : List RV) (ps : List Par) (outs : List (List Cell)) (cls : List (List (Option (Nat × Nat)) × Option (Nat × Nat))) (vw : List (Nat × Nat)) (fr : List (Nat × Nat × AObj)) : Bool :=
  nodupB (callKeys K rs ps outs cls fr) && nodupB ((resOs 0 (fun _ _ => 0) 0 rs ++ outO (fun _ _ => 0) (fun _ _ => 0) ps outs).map (·.1)) && nodupB ((goes cls).map (·.1)) &&
    (goes cls).all (fun x => (callKeys K rs ps outs cls fr).contains x.1 && !(fr.map (·.1)).contains x.1) && vw.all (fun x => !(callKeys K rs ps outs cls fr).contains x.1) &&
    rs.all (fun r => r.cells.all (okC vw.isEmpty)) && outs.all (fun cs => cs.all (okC vw.isEmpty)) && cls.all fun x => Nat.ble x.1.length 99

theorem upO_keys (base : Nat) (f g : Nat → Nat) : ∀ (cs : List Cell) (j : Nat), (upO base f j cs).map (·.1) = (upO base g j cs).map (·.1)
  | [], j => rfl
  | y :: cs, j => by
    rw [upO_cons, upO_cons base g, List.map_append, List.map_append, upO_keys base f g cs (j + 1)]
    congr 1
    cases y with
    | sl t e rows => cases t <;> rfl
    | _ => rfl

theorem resOs_keys (base : Nat) (f g : Nat → Nat → Nat) : ∀ (rs : List RV) (j : Nat), (resOs base f j rs).map (·.1) = (resOs base g j rs).map (·.1)
  | [], j => rfl
  | r :: rs, j => by
    simp only [resOs, List.map_append, resOs_keys base f g rs (j + 1)]
    congr 1
    cases r with
    | c x => exact upO_keys _ _ _ _ _
    | ag cs => exact upO_keys _ _ _ _ _
    | ptr cs => simp only [resO, List.map_append, List.map_cons, List.map_nil]; rw [upO_keys]

theorem outN_keys (base : Nat) (f g : Nat → Nat → Nat) : ∀ (ps : List Par) (outs : List (List Cell)) (i : Nat), (outN base f i ps outs).map (·.1) = (outN base g i ps outs).map (·.1)
  | [], _, i => rfl
  | p :: ps, outs, i => by
    cases hp : p.k with
    | val => simp only [outN, hp]; exact outN_keys base f g ps outs (i + 1)
    | mt => cases outs with | nil => simp only [outN, hp] | cons cs outs => simp only [outN, hp]; exact outN_keys base f g ps outs (i + 1)
    | ptr =>
      cases outs with
      | nil => simp only [outN, hp]
      | cons cs outs => simp only [outN, hp, List.map_append, outN_keys base f g ps outs (i + 1)]; rw [upO_keys]

theorem upM_keys (base : Nat) (f g : Nat → Nat) : ∀ (ps cs : List Cell) (j : Nat), (upM base f j ps cs).map (·.1) = (upM base g j ps cs).map (·.1)
  | [], _, j => rfl
  | _ :: _, [], j => rfl
  | p :: ps, c :: cs, j => by
    have h := upM_keys base f g ps cs (j + 1)
    cases p with
    | sl t _ _ =>
      cases t with
      | own =>
        cases c with
        | sl t' _ _ => cases t' <;> simp only [upM, List.map_cons, h]
        | _ => simp only [upM, h]
      | _ => simp only [upM, h]
    | _ => simp only [upM, h]

theorem outB_keys (f h f' h' : Nat → Nat → Nat) : ∀ (ps : List Par) (outs : List (List Cell)) (i : Nat), (outB f h i ps outs).map (·.1) = (outB f' h' i ps outs).map (·.1)
  | [], _, i => rfl
  | p :: ps, outs, i => by
    cases hp : p.k with
    | val => simp only [outB, hp]; exact outB_keys f h f' h' ps outs (i + 1)
    | mt => cases outs with | nil => simp only [outB, hp] | cons cs outs => simp only [outB, hp, List.map_append, outB_keys f h f' h' ps outs (i + 1)]; rw [upM_keys]
    | ptr =>
      cases outs with
      | nil => simp only [outB, hp]
      | cons cs outs => simp only [outB, hp, List.map_cons, outB_keys f h f' h' ps outs (i + 1)]

theorem outUB_keys (K : Nat) (f g : Nat → Nat) : ∀ (ps : List Par) (outs : List (List Cell)) (cls : List (List (Option (Nat × Nat)) × Option (Nat × Nat))) (i : Nat), (outUB K f i ps outs cls).map (·.1) = (outUB K g i ps outs cls).map (·.1)
  | [], _, _, i => rfl
  | p :: ps, outs, [], i => rfl
  | p :: ps, outs, (cl, bx) :: cls, i => by
    cases hp : p.k with
    | val => simp only [outUB, hp]; exact outUB_keys K f g ps outs cls (i + 1)
    | mt => cases outs with | nil => simp only [outUB, hp] | cons cs outs => simp only [outUB, hp, List.map_append, outUB_keys K f g ps outs cls (i + 1)]
    | ptr =>
      cases outs with
      | nil => simp only [outUB, hp]
      | cons cs outs =>
        cases bx with
        | none => simp only [outUB, hp]; exact outUB_keys K f g ps outs cls (i + 1)
        | some ks => simp only [outUB, hp, List.map_cons, outUB_keys K f g ps outs cls (i + 1)]

theorem callUpd_keys (K : Nat) (f : Nat → Nat) (rs : List RV) (ps : List Par) (outs : List (List Cell)) (cls : List (List (Option (Nat × Nat)) × Option (Nat × Nat))) (fr : List (Nat × Nat × AObj)) :
    (callUpd K f rs ps outs cls fr).map (·.1) = callKeys K rs ps outs cls fr := by
  simp only [callKeys, callUpd, callNew, List.map_append, List.map_map, Function.comp_def]
  have h1 := resOs_keys K (gk f) (gk fun _ => 0) rs 0
  have h2 := outN_keys K (hk f) (hk fun _ => 0) ps outs 0
  have h3 := outUB_keys K f (fun _ => 0) ps outs cls 0
  rw [h1, h2, h3]

section
variable {ob : Nat → Option (Nat × AObj)} {ev : Operand → TV}

theorem PsC.ex {x y : Cell} {c : Option (Nat × Nat)} {vw : List (Nat × Nat)} {fr : List (Nat × Nat × AObj)} {rd : List Nat} (h : PsC ob x y c vw fr rd) :
    (∀ k s, c = some (k, s) → ∃ o, ob k = some (s, o)) ∧ (∀ k s, (k, s) ∈ vw → ∃ o, ob k = some (s, o)) ∧ ∀ k s z, (k, s, z) ∈ fr → ∃ o, ob k = some (s, o) ∧ ∃ e rows, o = .arr e rows ∧ z = .fz e rows := by
  cases h with
  | vw hO _ _ => exact ⟨by simp, fun k s h => by simp at h; obtain ⟨rfl, rfl⟩ := h; exact ⟨_, hO⟩, by simp⟩
  | fr hO _ _ => exact ⟨by simp, by simp, fun k s z h => by simp at h; obtain ⟨rfl, rfl, rfl⟩ := h; exact ⟨_, hO, _, _, rfl, rfl⟩⟩
  | own hO _ _ => exact ⟨fun k s h => by cases h; exact ⟨_, hO⟩, by simp, by simp⟩
  | _ => exact ⟨by simp, by simp, by simp⟩

theorem PsL.ex {xs ys : List Cell} {cl : List (Option (Nat × Nat))} {vw : List (Nat × Nat)} {fr : List (Nat × Nat × AObj)} {rd : List Nat} (h : PsL ob xs ys cl vw fr rd) :
    (∀ k s, some (k, s) ∈ cl → ∃ o, ob k = some (s, o)) ∧ (∀ k s, (k, s) ∈ vw → ∃ o, ob k = some (s, o)) ∧ ∀ k s z, (k, s, z) ∈ fr → ∃ o, ob k = some (s, o) ∧ ∃ e rows, o = .arr e rows ∧ z = .fz e rows := by
  induction h with
  | nil => exact ⟨by simp, by simp, by simp⟩
  | cons h _ ih =>
    obtain ⟨a1, a2, a3⟩ := h.ex
    obtain ⟨b1, b2, b3⟩ := ih
    refine ⟨fun k s h => ?_, fun k s h => ?_, fun k s z h => ?_⟩
    · rcases List.mem_cons.1 h with e | e
      · exact a1 k s e.symm
      · exact b1 k s e
    · rcases List.mem_append.1 h with e | e
      · exact a2 k s e
      · exact b2 k s e
    · rcases List.mem_append.1 h with e | e
      · exact a3 k s z e
      · exact b3 k s z e

theorem PsPs.ex {xs : List Operand} {ps : List Par} {cls : List (List (Option (Nat × Nat)) × Option (Nat × Nat))} {vw : List (Nat × Nat)} {fr : List (Nat × Nat × AObj)} {rd : List Nat} (h : PsPs ob ev xs ps cls vw fr rd) :
    (∀ k s, (k, s) ∈ goes cls → ∃ o, ob k = some (s, o)) ∧ (∀ k s, (k, s) ∈ vw → ∃ o, ob k = some (s, o)) ∧ ∀ k s z, (k, s, z) ∈ fr → ∃ o, ob k = some (s, o) ∧ ∃ e rows, o = .arr e rows ∧ z = .fz e rows := by
  induction h with
  | nil => exact ⟨by simp [goes], by simp, by simp⟩
  | @cons x xs p ps cl bx cls vw vws fr frs rd rds h _ ih =>
    obtain ⟨b1, b2, b3⟩ := ih
    have core : (∀ k s, some (k, s) ∈ cl → ∃ o, ob k = some (s, o)) ∧ (∀ k s, bx = some (k, s) → ∃ o, ob k = some (s, o)) ∧ (∀ k s, (k, s) ∈ vw → ∃ o, ob k = some (s, o)) ∧ ∀ k s z, (k, s, z) ∈ fr → ∃ o, ob k = some (s, o) ∧ ∃ e rows, o = .arr e rows ∧ z = .fz e rows := by
      generalize ev x = tv at h
      cases h with
      | c h => exact ⟨h.ex.1, by simp, h.ex.2⟩
      | ag h => exact ⟨h.ex.1, by simp, h.ex.2⟩
      | cm h => exact ⟨h.ex.1, by simp, h.ex.2⟩
      | am h => exact ⟨h.ex.1, by simp, h.ex.2⟩
      | pt hO h => exact ⟨h.ex.1, fun k s e => by cases e; exact ⟨_, hO⟩, h.ex.2⟩
    obtain ⟨a1, a4, a2, a3⟩ := core
    refine ⟨fun k s h => ?_, fun k s h => ?_, fun k s z h => ?_⟩
    · simp only [goes, List.flatMap_cons, List.mem_append] at h
      rcases h with (h | h) | h
      · refine a1 k s ?_
        obtain ⟨y, hy, e⟩ := List.mem_filterMap.1 h
        simp only [id] at e
        rw [← e]; exact hy
      · exact a4 k s (by simpa using h)
      · exact b1 k s h
    · rcases List.mem_append.1 h with e | e
      · exact a2 k s e
      · exact b2 k s e
    · rcases List.mem_append.1 h with e | e
      · exact a3 k s z e
      · exact b3 k s z e

/-- The boxes that come back are boxes that went. -/
theorem outB_arg (f h : Nat → Nat → Nat) : ∀ {ps : List Par} {outs : List (List Cell)} (i : Nat) {k s : Nat} {x : AObj}, (k, s, x) ∈ outB f h i ps outs → ∃ k' x', (k', s, x') ∈ argO f i ps
  | [], outs, i, k, s, x, hx => by simp [outB] at hx
  | p :: ps, outs, i, k, s, x, hx => by
    cases hp : p.k with
    | val =>
      simp only [outB, hp] at hx
      obtain ⟨k', x', h'⟩ := outB_arg f h (i + 1) hx
      exact ⟨k', x', by simp only [argO]; exact List.mem_append_right _ h'⟩
    | mt =>
      cases outs with
      | nil => simp only [outB, hp] at hx; simp at hx
      | cons cs outs =>
        simp only [outB, hp] at hx
        rcases List.mem_append.1 hx with e | e
        · obtain ⟨x', h'⟩ := upM_arg _ _ _ e
          exact ⟨k, x', by simp only [argO, parO, hp]; exact List.mem_append_left _ (List.mem_append_left _ h')⟩
        · obtain ⟨k', x', h'⟩ := outB_arg f h (i + 1) e
          exact ⟨k', x', by simp only [argO]; exact List.mem_append_right _ h'⟩
    | ptr =>
      cases outs with
      | nil => simp only [outB, hp] at hx; simp at hx
      | cons cs outs =>
        simp only [outB, hp] at hx
        rcases List.mem_cons.1 hx with e | e
        · simp only [Prod.mk.injEq] at e
          obtain ⟨rfl, rfl, rfl⟩ := e
          exact ⟨_, _, by simp only [argO, parO, hp]; exact List.mem_append_left _ (List.mem_append_right _ (List.mem_singleton.2 rfl))⟩
        · obtain ⟨k', x', h'⟩ := outB_arg f h (i + 1) e
          exact ⟨k', x', by simp only [argO]; exact List.mem_append_right _ h'⟩

theorem itM_upM (base : Nat) (f : Nat → Nat) : ∀ {pcs cs : List Cell} {cl : List (Option (Nat × Nat))} (j : Nat), (∀ (p k s : Nat), cl[p]? = some (some (k, s)) → f (j + p) = s) → ∀ {k s : Nat} {x : AObj}, (k, s, x) ∈ itM pcs cs cl →
    some (k, s) ∈ cl ∧ ∃ k', (k', s, x) ∈ upM base f j pcs cs
  | [], _, _, _, _, _, _, _, h => by simp [itM] at h
  | _ :: _, [], _, _, _, _, _, _, h => by simp [itM] at h
  | _ :: _, _ :: _, [], _, _, _, _, _, h => by simp [itM] at h
  | p :: ps, c :: cs, y :: cl, j, hf, k, s, x, h => by
    have hf' : ∀ (p k s : Nat), cl[p]? = some (some (k, s)) → f (j + 1 + p) = s := fun p k s e => by have := hf (p + 1) k s (by simpa using e); rw [show j + 1 + p = j + (p + 1) by omega]; exact this
    unfold itM at h
    split at h
    · rcases List.mem_cons.1 h with e | e
      · cases e
        have := hf 0 k s (by simp)
        exact ⟨by simp, base + j, by simp only [Nat.add_zero] at this; unfold upM; rw [this]; simp⟩
      · obtain ⟨h1, k', h2⟩ := itM_upM base f (j + 1) hf' e
        exact ⟨List.mem_cons_of_mem _ h1, k', by unfold upM; exact List.mem_cons_of_mem _ h2⟩
    · obtain ⟨h1, k', h2⟩ := itM_upM base f (j + 1) hf' h
      refine ⟨List.mem_cons_of_mem _ h1, k', ?_⟩
      unfold upM
      split
      · exact List.mem_cons_of_mem _ h2
      · exact h2

/-- The boxes, under the caller's names. -/
theorem Ren.boxes {w : World} {G' G2 : Gh} {vb : Bool} {f : Nat → Nat} {K : Nat} (h : Ren G' G2 vb) (fc hh : Nat → Nat → Nat) : ∀ {xs : List Operand} {ps : List Par} {outs : List (List Cell)} {cls : List (List (Option (Nat × Nat)) × Option (Nat × Nat))} {vw : List (Nat × Nat)} {fr : List (Nat × Nat × AObj)} {rd : List Nat} (i : Nat), PsPs ob ev xs ps cls vw fr rd →
    outs.all (fun cs => cs.all (okC vb)) = true → (∀ (i' : Nat) cl bx, cls[i']? = some (cl, bx) → (∀ (p k s : Nat), cl[p]? = some (some (k, s)) → fc (i + i') p = s) ∧ ∀ k s, bx = some (k, s) → fc (i + i') 999 = s) → (∀ k s x, (k, s, x) ∈ outN 0 hh i ps outs → Rn G' G2 s (f k)) → (∀ k s x, (k, s, x) ∈ outB fc hh i ps outs → RObj w G' s x ∧ Rn G' G2 s s) →
    ∀ k s x, (k, s, x) ∈ outUB K f i ps outs cls → RObj w G2 s x ∧ (k, s) ∈ goes cls ∧ G2.used s
  | _, _, outs, _, _, _, _, i, .nil, _, _, _, _, k, s, x, hx => by simp [outUB] at hx
  | _, p :: ps, outs, (cl, bx) :: cls, _, _, _, i, .cons hpp hs, hok, hfc, hN, hB, k, s, x, hx => by
    have rec' : ∀ {outs' : List (List Cell)}, outs'.all (fun cs => cs.all (okC vb)) = true → (∀ k s x, (k, s, x) ∈ outN 0 hh (i + 1) ps outs' → Rn G' G2 s (f k)) → (∀ k s x, (k, s, x) ∈ outB fc hh (i + 1) ps outs' → RObj w G' s x ∧ Rn G' G2 s s) → (k, s, x) ∈ outUB K f (i + 1) ps outs' cls → RObj w G2 s x ∧ (k, s) ∈ goes ((cl, bx) :: cls) ∧ G2.used s := by
      intro outs' hok' hN' hB' hx'
      obtain ⟨h1, h2, h4⟩ := Ren.boxes h fc hh (i + 1) hs hok' (fun i' cl bx hc => by have := hfc (i' + 1) cl bx (by simpa using hc); rw [show i + 1 + i' = i + (i' + 1) by omega]; exact this) hN' hB' k s x hx'
      exact ⟨h1, by simp only [goes, List.flatMap_cons] at h2 ⊢; exact List.mem_append_right _ h2, h4⟩
    cases hp : p.k with
    | val =>
      simp only [outUB, hp] at hx
      simp only [outN, outB, hp] at hN hB
      exact rec' hok hN hB hx
    | mt =>
      cases outs with
      | nil => simp only [outUB, hp] at hx; simp at hx
      | cons cs outs =>
        simp only [List.all_cons, Bool.and_eq_true] at hok
        simp only [outN, outB, hp] at hN hB
        simp only [outUB, hp] at hx
        rcases List.mem_append.1 hx with e | e
        · obtain ⟨h1, k', h2⟩ := itM_upM (1000 * (i + 1)) (fc i) 0 (fun p k s hc => by have := (hfc 0 cl bx (by simp)).1 p k s hc; rw [Nat.zero_add]; simpa using this) e
          obtain ⟨h3, h4⟩ := hB _ _ _ (List.mem_append_left _ h2)
          obtain ⟨e', rows, rfl⟩ := upM_arr _ _ _ h2
          refine ⟨h.arr h4 h3, ?_, h4.used⟩
          simp only [goes, List.flatMap_cons]
          exact List.mem_append_left _ (List.mem_append_left _ (List.mem_filterMap.2 ⟨_, h1, rfl⟩))
        · exact rec' hok.2 hN (fun k s x hx => hB k s x (List.mem_append_right _ hx)) e
    | ptr =>
      cases outs with
      | nil => simp only [outUB, hp] at hx; simp at hx
      | cons cs outs =>
        simp only [List.all_cons, Bool.and_eq_true] at hok
        simp only [outN, outB, hp] at hN hB
        cases bx with
        | none =>
          simp only [outUB, hp] at hx
          exact rec' hok.2 (fun k s x hx => hN k s x (List.mem_append_right _ hx)) (fun k s x hx => hB k s x (List.mem_cons_of_mem _ hx)) hx
        | some ks =>
          obtain ⟨k0, s0⟩ := ks
          simp only [outUB, hp] at hx
          rcases List.mem_cons.1 hx with e | e
          · simp only [Prod.mk.injEq] at e
            obtain ⟨rfl, rfl, rfl⟩ := e
            have hfs : fc i 999 = s := by have := (hfc 0 cl (some (k, s)) (by simp)).2 k s rfl; simpa using this
            obtain ⟨h1, h2⟩ := hB _ _ _ List.mem_cons_self
            rw [hfs] at h1 h2
            refine ⟨h.box h2 (fun hv => ?_) h1, by simp only [goes, List.flatMap_cons]; exact List.mem_append_left _ (List.mem_append_right _ (by simp)), h2.used⟩
            have := h.cells' (K := K) (f := f) (0 + 1000 * (i + 1)) (hh i) hok.1 (fun k s x hx => hN k s x (List.mem_append_left _ hx)) hv
            rw [show K + 1000 * (i + 1) = K + (0 + 1000 * (i + 1)) by omega, show hk f i = fun j => f (0 + 1000 * (i + 1) + j) from by funext j; simp [hk]]
            exact this
          · exact rec' hok.2 (fun k s x hx => hN k s x (List.mem_append_right _ hx)) (fun k s x hx => hB k s x (List.mem_cons_of_mem _ hx)) e
end
end Go.Lap
