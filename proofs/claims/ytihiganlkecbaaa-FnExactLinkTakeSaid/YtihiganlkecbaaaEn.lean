/- The engine's fourteenth part: calls of functions that are told by trees. -/
import Derived.Test.YtihiganlkecbaaaEm
set_option linter.unusedVariables false
namespace Go.Lap
open Go.RowKit

/-- A slice of one of the call's own arrays, read as a slice by value. -/
theorem mu_sl {w : World} {G G2 : Gh} (hw : Wf G w) (hev : Evol (fun _ => True) w G w G2) {t : Tag} (ht : t ≠ .own) {k s e off len : Nat} {rows rows' : List (List C1)} {cv : Value} (hrl : ∀ r ∈ rows, r.length = e)
    (hcase : (rows = [] ∧ G.loc s = none ∧ G.cap s = 0) ∨ ∃ b, G.loc s = some b ∧ G2.imm t b ∧ ArrAt w G s b e rows) (hle : off + len ≤ rows.length) (hp : (rows.drop off).take len = rows') (hr : RC w G (.mu k s e off len) cv) : RC w G2 (.sl t e rows') cv := by
  subst hp
  obtain ⟨A, cap, h1, h2, h3, h4, h5⟩ := hr
  have hlen : ((rows.drop off).take len).length = len := by simp; omega
  refine ⟨A, cap, by rw [hlen]; exact h1, by omega, fun r hr => hrl r (List.mem_of_mem_drop (List.mem_of_mem_take hr)), fun hne => ?_⟩
  have hpos : len ≠ 0 := fun e => hne (by rw [e]; simp)
  rcases h5 with h5 | ⟨b, hb, hA⟩
  · omega
  rcases hcase with ⟨h6, _⟩ | ⟨b', hb', himm, vs, T, g1, g2, g3, g4, g5⟩
  · subst h6; simp at hle; omega
  rw [hb] at hb'; cases hb'
  refine ⟨b, off * e, hA, himm, fun i y hy => ?_⟩
  rw [flatten_part hrl hle] at hy
  have h6 := (g5.drop (off * e)).take (len * e)
  obtain ⟨cv, h7, h8⟩ := h6.get i y hy
  refine ⟨cv, ?_, ?_⟩
  · rw [cell_of_row w b _ vs T (0, 0) g1]
    rw [List.getElem?_take] at h7
    split at h7
    · rw [List.getElem?_drop, List.getElem?_take] at h7
      split at h7
      · simpa using h7
      · cases h7
    · cases h7
  · have := h8.mono hw hev
    cases t with
    | own => exact (ht rfl).elim
    | frz => exact this
    | bor => exact this.bor

theorem sl_bor {w : World} {G : Gh} {e : Nat} {rows : List (List C1)} {cv : Value} (h : RC w G (.sl .frz e rows) cv) : RC w G (.sl .bor e rows) cv := by
  obtain ⟨A, cap, h1, h2, h3, h4⟩ := h
  refine ⟨A, cap, h1, h2, h3, fun hne => ?_⟩
  obtain ⟨b, o, h5, h6, h7⟩ := h4 hne
  exact ⟨b, o, h5, .inr h6, fun j x hx => by obtain ⟨cv, h8, h9⟩ := h7 j x hx; exact ⟨cv, h8, h9.bor⟩⟩

/-- The ghost as the callee sees it. -/
def Gh.toC (G : Gh) (pl fl vl : List Nat) : Gh :=
  ⟨G.loc, G.cap, fun b => match G.own b with | .obj s => if pl.contains s then .obj s else if fl.contains s then .frz else if vl.contains s then .bor else .ext | z => z, G.used⟩

theorem toC_own {G : Gh} {pl fl vl : List Nat} {b : Nat} : (G.toC pl fl vl).own b = match G.own b with | .obj s => if pl.contains s then .obj s else if fl.contains s then .frz else if vl.contains s then .bor else .ext | z => z := rfl

theorem toC_wf {G : Gh} {w : World} {pl fl vl : List Nat} (hw : Wf G w) : Wf (G.toC pl fl vl) w := by
  refine ⟨hw.lt, fun b x hx => ?_, fun b hb => ?_, hw.fin⟩
  · rw [toC_own] at hx
    cases ho : G.own b with
    | obj y =>
      rw [ho] at hx
      simp only at hx
      split at hx
      · cases hx; exact hw.of_own b x ho
      · split at hx
        · cases hx
        · split at hx <;> cases hx
    | _ => rw [ho] at hx; cases hx
  · rw [toC_own, hw.past b hb]

theorem toC_evol {G : Gh} {w : World} {pl fl vl : List Nat} : Evol (fun _ => True) w G w (G.toC pl fl vl) := by
  refine ⟨rfl, rfl, rfl, Nat.le_refl _, fun _ h => h, fun _ _ => rfl, fun _ _ => rfl, fun b _ ho => ⟨?_, rfl⟩⟩
  rw [toC_own]
  rcases ho with h | h | h | ⟨y, h, hn⟩
  · rw [h]
  · rw [h]
  · rw [h]
  · exact (hn trivial).elim

/-- How a held cell is passed: own arrays that go along, arrays that are looked at, arrays that are never written again, frozen arrays that are read. -/
inductive PsC (ob : Nat → Option (Nat × AObj)) : Cell → Cell → Option (Nat × Nat) → List (Nat × Nat) → List (Nat × Nat × AObj) → List Nat → Prop
  | v {x} : PsC ob (.v x) (.v x) none [] [] []
  | nl : PsC ob .nl .nl none [] [] []
  | nlb {e} : PsC ob .nl (.sl .bor e []) none [] [] []
  | nlf {e} : PsC ob .nl (.sl .frz e []) none [] [] []
  | slb {e rows} : PsC ob (.sl .bor e rows) (.sl .bor e rows) none [] [] []
  | slf {e rows} : PsC ob (.sl .frz e rows) (.sl .frz e rows) none [] [] []
  | fb {e rows} : PsC ob (.sl .frz e rows) (.sl .bor e rows) none [] [] []
  | vw {k s e off len rows rows'} : ob k = some (s, .arr e rows) → off + len ≤ rows.length → (rows.drop off).take len = rows' → PsC ob (.mu k s e off len) (.sl .bor e rows') none [(k, s)] [] []
  | fzb {k s e off len rows rows'} : ob k = some (s, .fz e rows) → off + len ≤ rows.length → (rows.drop off).take len = rows' → PsC ob (.mu k s e off len) (.sl .bor e rows') none [] [] [k]
  | fzf {k s e off len rows rows'} : ob k = some (s, .fz e rows) → off + len ≤ rows.length → (rows.drop off).take len = rows' → PsC ob (.mu k s e off len) (.sl .frz e rows') none [] [] [k]
  | fr {k s e off len rows rows'} : ob k = some (s, .arr e rows) → off + len ≤ rows.length → (rows.drop off).take len = rows' → PsC ob (.mu k s e off len) (.sl .frz e rows') none [] [(k, s, .fz e rows)] []
  | own {k s e len rows rows'} : ob k = some (s, .arr e rows) → len ≤ rows.length → rows.take len = rows' → PsC ob (.mu k s e 0 len) (.sl .own e rows') (some (k, s)) [] [] []

inductive PsL (ob : Nat → Option (Nat × AObj)) : List Cell → List Cell → List (Option (Nat × Nat)) → List (Nat × Nat) → List (Nat × Nat × AObj) → List Nat → Prop
  | nil : PsL ob [] [] [] [] [] []
  | cons {x y xs ys c cl vw vws fr frs rd rds} : PsC ob x y c vw fr rd → PsL ob xs ys cl vws frs rds → PsL ob (x :: xs) (y :: ys) (c :: cl) (vw ++ vws) (fr ++ frs) (rd ++ rds)

inductive PsP (ob : Nat → Option (Nat × AObj)) : TV → Par → List (Option (Nat × Nat)) → Option (Nat × Nat) → List (Nat × Nat) → List (Nat × Nat × AObj) → List Nat → Prop
  | c {x y cl vw fr rd} : PsL ob [x] [y] cl vw fr rd → PsP ob (.one (.c x)) ⟨.val, false, [y]⟩ cl none vw fr rd
  | ag {xs ys cl vw fr rd} : PsL ob xs ys cl vw fr rd → PsP ob (.one (.ag xs)) ⟨.val, true, ys⟩ cl none vw fr rd
  | cm {x y cl vw fr rd} : PsL ob [x] [y] cl vw fr rd → PsP ob (.one (.c x)) ⟨.mt, false, [y]⟩ cl none vw fr rd
  | am {xs ys cl vw fr rd} : PsL ob xs ys cl vw fr rd → PsP ob (.one (.ag xs)) ⟨.mt, true, ys⟩ cl none vw fr rd
  | pt {k s xs ys ag cl vw fr rd} : ob k = some (s, .box xs) → PsL ob xs ys cl vw fr rd → PsP ob (.one (.pt k s 0)) ⟨.ptr, ag, ys⟩ cl (some (k, s)) vw fr rd

inductive PsPs (ob : Nat → Option (Nat × AObj)) (ev : Operand → TV) : List Operand → List Par → List (List (Option (Nat × Nat)) × Option (Nat × Nat)) → List (Nat × Nat) → List (Nat × Nat × AObj) → List Nat → Prop
  | nil : PsPs ob ev [] [] [] [] [] []
  | cons {x xs p ps cl bx cls vw vws fr frs rd rds} : PsP ob (ev x) p cl bx vw fr rd → PsPs ob ev xs ps cls vws frs rds → PsPs ob ev (x :: xs) (p :: ps) ((cl, bx) :: cls) (vw ++ vws) (fr ++ frs) (rd ++ rds)

/-- The names that the callee knows what comes along by. -/
def fcO (cls : List (List (Option (Nat × Nat)) × Option (Nat × Nat))) (i j : Nat) : Nat :=
  match cls[i]? with
  | some (cl, bx) => if j = 999 then (match bx with | some (_, s) => s | none => 0) else match cl[j]? with | some (some (_, s)) => s | _ => 0
  | none => 0

/-- The arrays and boxes that go along. -/
def goes (cls : List (List (Option (Nat × Nat)) × Option (Nat × Nat))) : List (Nat × Nat) := cls.flatMap fun x => x.1.filterMap id ++ x.2.toList

section
variable {w : World} {G : Gh} {ob : Nat → Option (Nat × AObj)} {pl fl vl : List Nat}

theorem imm_toC {t : Tag} {b : Nat} (h : G.imm t b) : (G.toC pl fl vl).imm t b := by
  cases t with
  | own => exact h.elim
  | frz =>
    have h' : G.own b = .frz := h
    show (G.toC pl fl vl).own b = .frz
    rw [toC_own, h']
  | bor =>
    rcases h with h | h
    · refine .inl ?_; rw [toC_own, h]
    · refine .inr ?_; rw [toC_own, h]

theorem psc_R (hw : Wf G w) {x y : Cell} {c : Option (Nat × Nat)} {vw : List (Nat × Nat)} {fr : List (Nat × Nat × AObj)} {rd : List Nat} (h : PsC ob x y c vw fr rd)
    (hobj : ∀ k s o, ob k = some (s, o) → (k ∈ c.toList.map (·.1) ∨ k ∈ vw.map (·.1) ∨ k ∈ fr.map (·.1) ∨ k ∈ rd) → G.used s ∧ RObj w G s o)
    (hv : ∀ k s, (k, s) ∈ vw → s ∉ pl ∧ s ∉ fl ∧ s ∈ vl) (hf : ∀ k s z, (k, s, z) ∈ fr → s ∉ pl ∧ s ∈ fl)
    (base : Nat) (f : Nat → Nat) (j : Nat) (hfj : ∀ k s, c = some (k, s) → f j = s) {cv : Value} (hr : RC w G x cv) : ∃ z, upC base f j [y] = [z] ∧ RC w (G.toC pl fl vl) z cv := by
  have hev : Evol (fun _ => True) w G w (G.toC pl fl vl) := toC_evol
  cases h with
  | v => exact ⟨_, rfl, hr.mono hw hev⟩
  | nl => exact ⟨_, rfl, hr.mono hw hev⟩
  | nlb => refine ⟨_, rfl, ?_⟩; have hr' : cv = .slice none 0 0 := hr; subst hr'; exact ⟨none, 0, rfl, Nat.le_refl _, by simp, fun h => (h rfl).elim⟩
  | nlf => refine ⟨_, rfl, ?_⟩; have hr' : cv = .slice none 0 0 := hr; subst hr'; exact ⟨none, 0, rfl, Nat.le_refl _, by simp, fun h => (h rfl).elim⟩
  | slb => exact ⟨_, rfl, hr.mono hw hev⟩
  | slf => exact ⟨_, rfl, hr.mono hw hev⟩
  | fb => exact ⟨_, rfl, sl_bor (hr.mono hw hev)⟩
  | vw hO hle hp =>
    obtain ⟨hu, he, hrl, hcase⟩ := hobj _ _ _ hO (by simp)
    refine ⟨_, rfl, mu_sl hw hev (by simp) hrl (hcase.imp id fun ⟨b, h1, h2, h3⟩ => ⟨b, h1, .inl ?_, h3⟩) hle hp hr⟩
    obtain ⟨g1, g2, g3⟩ := hv _ _ (List.mem_singleton.2 rfl)
    rw [toC_own, h2]
    simp [g1, g2, g3]
  | fzb hO hle hp =>
    obtain ⟨hu, he, hrl, hcase⟩ := hobj _ _ _ hO (by simp)
    exact ⟨_, rfl, mu_sl hw hev (by simp) hrl (hcase.imp id fun ⟨b, h1, h2, h3⟩ => ⟨b, h1, imm_toC (.inr h2), h3⟩) hle hp hr⟩
  | fzf hO hle hp =>
    obtain ⟨hu, he, hrl, hcase⟩ := hobj _ _ _ hO (by simp)
    exact ⟨_, rfl, mu_sl hw hev (by simp) hrl (hcase.imp id fun ⟨b, h1, h2, h3⟩ => ⟨b, h1, imm_toC (t := .frz) h2, h3⟩) hle hp hr⟩
  | fr hO hle hp =>
    obtain ⟨hu, he, hrl, hcase⟩ := hobj _ _ _ hO (by simp)
    refine ⟨_, rfl, mu_sl hw hev (by simp) hrl (hcase.imp id fun ⟨b, h1, h2, h3⟩ => ⟨b, h1, ?_, h3⟩) hle hp hr⟩
    obtain ⟨g1, g2⟩ := hf _ _ _ (List.mem_singleton.2 rfl)
    show (G.toC pl fl vl).own b = _
    rw [toC_own, h2]
    simp [g1, g2]
  | own hO hle hp =>
    refine ⟨_, rfl, ?_⟩
    rename_i k s e len rows rows'
    have hlen : rows'.length = len := by rw [← hp]; simp; omega
    rw [hfj _ _ rfl, hlen]
    exact RC.mono (x := .mu k s e 0 len) hw hev hr

theorem cap_obj {s b : Nat} (hs : s ∈ pl) (h : G.own b = .obj s) : (G.toC pl fl vl).own b = .obj s := by rw [toC_own, h]; simp [hs]

theorem pso_R (hw : Wf G w) {x y : Cell} {c : Option (Nat × Nat)} {vw : List (Nat × Nat)} {fr : List (Nat × Nat × AObj)} {rd : List Nat} (h : PsC ob x y c vw fr rd)
    (hobj : ∀ k s o, ob k = some (s, o) → k ∈ c.toList.map (·.1) → G.used s ∧ RObj w G s o) (base : Nat) (f : Nat → Nat) (j : Nat) (hfj : ∀ k s, c = some (k, s) → f j = s ∧ s ∈ pl) :
    (∀ k s x, (k, s, x) ∈ upO base f j [y] → G.used s ∧ RObj w (G.toC pl fl vl) s x) ∧ (upO base f j [y]).map (·.2.1) = c.toList.map (·.2) := by
  have hev : Evol (fun _ => True) w G w (G.toC pl fl vl) := toC_evol
  cases h with
  | own hO hle hp =>
    rename_i k0 s0 e len rows rows'
    obtain ⟨hu, he, hrl, hcase⟩ := hobj _ _ _ hO (by simp)
    obtain ⟨g1, g2⟩ := hfj _ _ rfl
    refine ⟨fun k s x hx => ?_, by simp [upO, g1]⟩
    simp only [upO, List.mem_singleton] at hx
    cases hx
    rw [g1]
    subst hp
    refine ⟨hu, he, fun r hr => hrl r (List.mem_of_mem_take hr), ?_⟩
    rcases hcase with ⟨a, b, c⟩ | ⟨b, h1, h2, vs, T, h3, h4, h5, h6, h7⟩
    · exact .inl ⟨by rw [a]; simp, b, c⟩
    · refine .inr ⟨b, h1, cap_obj g2 h2, vs, T, h3, h4, by show _ ≤ G.cap s0; simp; omega, h6, ?_⟩
      have e2 := flatten_part (l := 0) (n := len) hrl (by omega)
      simp only [List.drop_zero, Nat.zero_mul] at e2
      rw [e2, show (rows.take len).length = len by simp; omega]
      have := h7.take (len * e)
      rw [List.take_take, Nat.min_eq_left (Nat.mul_le_mul_right _ hle)] at this
      exact this.mono fun _ _ _ r => r.mono hw hev
  | v => exact ⟨fun k s x hx => by simp [upO] at hx, rfl⟩
  | nl => exact ⟨fun k s x hx => by simp [upO] at hx, rfl⟩
  | nlb => exact ⟨fun k s x hx => by simp [upO] at hx, rfl⟩
  | nlf => exact ⟨fun k s x hx => by simp [upO] at hx, rfl⟩
  | slb => exact ⟨fun k s x hx => by simp [upO] at hx, rfl⟩
  | slf => exact ⟨fun k s x hx => by simp [upO] at hx, rfl⟩
  | fb => exact ⟨fun k s x hx => by simp [upO] at hx, rfl⟩
  | vw _ _ _ => exact ⟨fun k s x hx => by simp [upO] at hx, rfl⟩
  | fzb _ _ _ => exact ⟨fun k s x hx => by simp [upO] at hx, rfl⟩
  | fzf _ _ _ => exact ⟨fun k s x hx => by simp [upO] at hx, rfl⟩
  | fr _ _ _ => exact ⟨fun k s x hx => by simp [upO] at hx, rfl⟩
end

/-- The keys that are looked at. -/
def seen (cl : List (Option (Nat × Nat))) (vw : List (Nat × Nat)) (fr : List (Nat × Nat × AObj)) (rd : List Nat) (k : Nat) : Prop :=
  k ∈ (cl.filterMap id).map (·.1) ∨ k ∈ vw.map (·.1) ∨ k ∈ fr.map (·.1) ∨ k ∈ rd

theorem psl_R {w : World} {G : Gh} {ob : Nat → Option (Nat × AObj)} {pl fl vl : List Nat} (hw : Wf G w) (base : Nat) (f : Nat → Nat) : ∀ {xs ys : List Cell} {cl : List (Option (Nat × Nat))} {vw : List (Nat × Nat)} {fr : List (Nat × Nat × AObj)} {rd : List Nat} (j : Nat), PsL ob xs ys cl vw fr rd →
    (∀ k s o, ob k = some (s, o) → seen cl vw fr rd k → G.used s ∧ RObj w G s o) → (∀ k s, (k, s) ∈ vw → s ∉ pl ∧ s ∉ fl ∧ s ∈ vl) → (∀ k s z, (k, s, z) ∈ fr → s ∉ pl ∧ s ∈ fl) → (∀ (i k s : Nat), cl[i]? = some (some (k, s)) → f (j + i) = s ∧ s ∈ pl) →
    (∀ {vs : List Value}, All2 (RC w G) xs vs → All2 (RC w (G.toC pl fl vl)) (upC base f j ys) vs) ∧ (∀ k s x, (k, s, x) ∈ upO base f j ys → G.used s ∧ RObj w (G.toC pl fl vl) s x) ∧ (upO base f j ys).map (·.2.1) = (cl.filterMap id).map (·.2)
  | _, _, _, _, _, _, j, .nil, _, _, _, _ => ⟨fun h => by cases h; exact .nil, fun k s x h => by simp [upO] at h, rfl⟩
  | _, y :: ys, c :: cl, _, _, _, j, .cons (vw := vw) (vws := vws) (fr := fr) (frs := frs) (rd := rd) (rds := rds) h hs, hobj, hv, hf, hg => by
    obtain ⟨g1, g2, g3⟩ := psl_R (pl := pl) (fl := fl) (vl := vl) hw base f (j + 1) hs (fun k s o hk hse => hobj k s o hk (by
        rcases hse with h | h | h | h
        · refine .inl ?_; cases c <;> simp_all
        · exact .inr (.inl (by rw [List.map_append]; exact List.mem_append_right _ h))
        · exact .inr (.inr (.inl (by rw [List.map_append]; exact List.mem_append_right _ h)))
        · exact .inr (.inr (.inr (List.mem_append_right _ h)))))
      (fun k s h => hv k s (List.mem_append_right _ h)) (fun k s z h => hf k s z (List.mem_append_right _ h)) (fun i k s h => by
        have := hg (i + 1) k s (by simpa using h); rw [show j + 1 + i = j + (i + 1) by omega]; exact this)
    have hobj0 : ∀ k s o, ob k = some (s, o) → (k ∈ c.toList.map (·.1) ∨ k ∈ vw.map (·.1) ∨ k ∈ fr.map (·.1) ∨ k ∈ rd) → G.used s ∧ RObj w G s o := fun k s o hk hse => hobj k s o hk (by
        rcases hse with h | h | h | h
        · refine .inl ?_; cases c <;> simp_all
        · exact .inr (.inl (by rw [List.map_append]; exact List.mem_append_left _ h))
        · exact .inr (.inr (.inl (by rw [List.map_append]; exact List.mem_append_left _ h)))
        · exact .inr (.inr (.inr (List.mem_append_left _ h))))
    have hg0 : ∀ k s, c = some (k, s) → f j = s ∧ s ∈ pl := fun k s e => by have := hg 0 k s (by simp [e]); simpa using this
    obtain ⟨k1, k2⟩ := pso_R (fl := fl) (vl := vl) hw h (fun k s o hk hc => hobj0 k s o hk (.inl hc)) base f j hg0
    refine ⟨fun hvs => ?_, fun k s x hx => ?_, ?_⟩
    · cases hvs with
      | cons r rs =>
        obtain ⟨z, h1, h2⟩ := psc_R (pl := pl) (fl := fl) (vl := vl) hw h hobj0 (fun k s h => hv k s (List.mem_append_left _ h)) (fun k s z h => hf k s z (List.mem_append_left _ h)) base f j (fun k s e => (hg0 k s e).1) r
        rw [upC_cons, h1]
        exact .cons h2 (g1 rs)
    · rw [upO_cons] at hx
      rcases List.mem_append.1 hx with e | e
      · exact k1 k s x e
      · exact g2 k s x e
    · rw [upO_cons, List.map_append, k2, g3]
      cases c <;> simp

def seenP (cls : List (List (Option (Nat × Nat)) × Option (Nat × Nat))) (vw : List (Nat × Nat)) (fr : List (Nat × Nat × AObj)) (rd : List Nat) (k : Nat) : Prop :=
  k ∈ (goes cls).map (·.1) ∨ k ∈ vw.map (·.1) ∨ k ∈ fr.map (·.1) ∨ k ∈ rd

theorem psps_R {w : World} {G : Gh} {a : Act} {ob : Nat → Option (Nat × AObj)} {ev : Operand → TV} {pl fl vl : List Nat} (hw : Wf G w) (f : Nat → Nat → Nat) : ∀ {xs : List Operand} {ps : List Par} {cls : List (List (Option (Nat × Nat)) × Option (Nat × Nat))} {vw : List (Nat × Nat)} {fr : List (Nat × Nat × AObj)} {rd : List Nat} (i : Nat), PsPs ob ev xs ps cls vw fr rd →
    (∀ k s o, ob k = some (s, o) → seenP cls vw fr rd k → G.used s ∧ RObj w G s o) → (∀ k s, (k, s) ∈ vw → s ∉ pl ∧ s ∉ fl ∧ s ∈ vl) → (∀ k s z, (k, s, z) ∈ fr → s ∉ pl ∧ s ∈ fl) → (∀ k s, (k, s) ∈ goes cls → s ∈ pl) →
    (∀ (i' : Nat) cl bx, cls[i']? = some (cl, bx) → (∀ (p k s : Nat), cl[p]? = some (some (k, s)) → f (i + i') p = s) ∧ ∀ k s, bx = some (k, s) → f (i + i') 999 = s) → (∀ x ∈ xs, RTV w G (ev x) (a.eval x)) →
    All2 (RV0 w (G.toC pl fl vl)) (argV f i ps) (xs.map a.eval) ∧ (∀ k s x, (k, s, x) ∈ argO f i ps → G.used s ∧ RObj w (G.toC pl fl vl) s x) ∧ (argO f i ps).map (·.2.1) = (goes cls).map (·.2)
  | _, _, _, _, _, _, i, .nil, _, _, _, _, _, _ => ⟨.nil, fun k s x h => by simp [argO] at h, rfl⟩
  | x :: xs, p :: ps, (cl, bx) :: cls, _, _, _, i, .cons (vw := vw) (vws := vws) (fr := fr) (frs := frs) (rd := rd) (rds := rds) h hs, hobj, hv, hf, hgo, hg, hev => by
    obtain ⟨g1, g2, g3⟩ := psps_R (a := a) (pl := pl) (fl := fl) (vl := vl) hw f (i + 1) hs (fun k s o hk hse => hobj k s o hk (by
        rcases hse with h | h | h | h
        · refine .inl ?_; simp only [goes, List.flatMap_cons, List.map_append] at h ⊢; exact List.mem_append_right _ h
        · exact .inr (.inl (by rw [List.map_append]; exact List.mem_append_right _ h))
        · exact .inr (.inr (.inl (by rw [List.map_append]; exact List.mem_append_right _ h)))
        · exact .inr (.inr (.inr (List.mem_append_right _ h)))))
      (fun k s h => hv k s (List.mem_append_right _ h)) (fun k s z h => hf k s z (List.mem_append_right _ h)) (fun k s h => hgo k s (by simp only [goes, List.flatMap_cons] at h ⊢; exact List.mem_append_right _ h))
      (fun i' cl bx h => by have := hg (i' + 1) cl bx (by simpa using h); rw [show i + 1 + i' = i + (i' + 1) by omega]; exact this) (fun x hx => hev x (List.mem_cons_of_mem _ hx))
    obtain ⟨hg0, hgb⟩ := hg 0 cl bx (by simp)
    simp only [Nat.add_zero] at hg0 hgb
    have hin : ∀ {k s}, (k, s) ∈ cl.filterMap id ++ bx.toList → (k, s) ∈ goes ((cl, bx) :: cls) := fun h => by simp only [goes, List.flatMap_cons]; exact List.mem_append_left _ h
    have hobj0 : ∀ k s o, ob k = some (s, o) → (k ∈ (cl.filterMap id ++ bx.toList).map (·.1) ∨ k ∈ vw.map (·.1) ∨ k ∈ fr.map (·.1) ∨ k ∈ rd) → G.used s ∧ RObj w G s o := fun k s o hk hse => hobj k s o hk (by
        rcases hse with h | h | h | h
        · refine .inl ?_; simp only [goes, List.flatMap_cons, List.map_append] at h ⊢; exact List.mem_append_left _ (by simpa using h)
        · exact .inr (.inl (by rw [List.map_append]; exact List.mem_append_left _ h))
        · exact .inr (.inr (.inl (by rw [List.map_append]; exact List.mem_append_left _ h)))
        · exact .inr (.inr (.inr (List.mem_append_left _ h))))
    have core : ∀ {xs : List Cell}, PsL ob xs p.cs cl vw fr rd → (∀ {vs : List Value}, All2 (RC w G) xs vs → All2 (RC w (G.toC pl fl vl)) (upC (1000 * (i + 1)) (f i) 0 p.cs) vs) ∧ (∀ k s x, (k, s, x) ∈ upO (1000 * (i + 1)) (f i) 0 p.cs → G.used s ∧ RObj w (G.toC pl fl vl) s x) ∧ (upO (1000 * (i + 1)) (f i) 0 p.cs).map (·.2.1) = (cl.filterMap id).map (·.2) := by
      intro xs hp
      refine psl_R hw (1000 * (i + 1)) (f i) 0 hp (fun k s o hk hse => hobj0 k s o hk (by
        rcases hse with h | h
        · exact .inl (by rw [List.map_append]; exact List.mem_append_left _ h)
        · exact .inr h)) (fun k s h => hv k s (List.mem_append_left _ h)) (fun k s z h => hf k s z (List.mem_append_left _ h)) (fun q k s hq => ?_)
      rw [Nat.zero_add]
      exact ⟨hg0 q k s hq, hgo k s (hin (List.mem_append_left _ (List.mem_filterMap.2 ⟨some (k, s), List.mem_of_getElem? hq, rfl⟩)))⟩
    have hx := hev x (by simp)
    generalize ev x = tv at h hx
    cases h with
    | c hp =>
      rename_i x' y
      obtain ⟨c1, c2, c3⟩ := core hp
      have hcv := c1 (.cons hx .nil)
      refine ⟨.cons ?_ g1, fun k s x hx => ?_, ?_⟩
      · simp only [parV]
        generalize upC (1000 * (i + 1)) (f i) 0 [y] = l at hcv
        cases hcv with
        | cons r rs => cases rs; exact r
      · simp only [argO, parO, List.append_nil] at hx
        rcases List.mem_append.1 hx with e | e
        · exact c2 k s x e
        · exact g2 k s x e
      · simp only [argO, parO, List.append_nil, List.map_append, g3, c3, goes, List.flatMap_cons, Option.toList]
    | ag hp =>
      obtain ⟨c1, c2, c3⟩ := core hp
      obtain ⟨us, hu1, hu2⟩ := hx
      refine ⟨.cons ⟨us, hu1, c1 hu2⟩ g1, fun k s x hx => ?_, ?_⟩
      · simp only [argO, parO, List.append_nil] at hx
        rcases List.mem_append.1 hx with e | e
        · exact c2 k s x e
        · exact g2 k s x e
      · simp only [argO, parO, List.append_nil, List.map_append, g3, c3, goes, List.flatMap_cons, Option.toList]
    | cm hp =>
      rename_i x' y
      obtain ⟨c1, c2, c3⟩ := core hp
      have hcv := c1 (.cons hx .nil)
      refine ⟨.cons ?_ g1, fun k s x hx => ?_, ?_⟩
      · simp only [parV]
        generalize upC (1000 * (i + 1)) (f i) 0 [y] = l at hcv
        cases hcv with
        | cons r rs => cases rs; exact r
      · simp only [argO, parO, List.append_nil] at hx
        rcases List.mem_append.1 hx with e | e
        · exact c2 k s x e
        · exact g2 k s x e
      · simp only [argO, parO, List.append_nil, List.map_append, g3, c3, goes, List.flatMap_cons, Option.toList]
    | am hp =>
      obtain ⟨c1, c2, c3⟩ := core hp
      obtain ⟨us, hu1, hu2⟩ := hx
      refine ⟨.cons ⟨us, hu1, c1 hu2⟩ g1, fun k s x hx => ?_, ?_⟩
      · simp only [argO, parO, List.append_nil] at hx
        rcases List.mem_append.1 hx with e | e
        · exact c2 k s x e
        · exact g2 k s x e
      · simp only [argO, parO, List.append_nil, List.map_append, g3, c3, goes, List.flatMap_cons, Option.toList]
    | pt hO hp =>
      rename_i k0 s0 xs' ys ag
      obtain ⟨c1, c2, c3⟩ := core hp
      have hfs : f i 999 = s0 := hgb _ _ rfl
      have hbx : (k0, s0) ∈ cl.filterMap id ++ (some (k0, s0)).toList := by simp
      obtain ⟨hu, b, vs, T, h1, h2, h3, h4⟩ := hobj0 _ _ _ hO (.inl (List.mem_map.2 ⟨_, hbx, rfl⟩))
      refine ⟨.cons ?_ g1, fun k s x hx => ?_, ?_⟩
      · simp only [parV, hfs]
        obtain ⟨b, hb, hv⟩ := hx
        exact ⟨b, hb, hv⟩
      · simp only [argO, parO] at hx
        rcases List.mem_append.1 hx with e | e
        · rcases List.mem_append.1 e with e | e
          · exact c2 k s x e
          · simp at e
            obtain ⟨rfl, rfl, rfl⟩ := e
            rw [hfs]
            exact ⟨hu, b, vs, T, h1, cap_obj (hgo _ _ (hin hbx)) h2, h3, c1 h4⟩
        · exact g2 k s x e
      · simp only [argO, parO, List.map_append, g3, c3, goes, List.flatMap_cons, Option.toList, List.map_cons, List.map_nil, hfs]
end Go.Lap
