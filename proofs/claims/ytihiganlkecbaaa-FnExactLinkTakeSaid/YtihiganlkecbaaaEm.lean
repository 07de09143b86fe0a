/- The engine's thirteenth part: from a walk of a body to what the function hands back. -/
import Derived.Test.YtihiganlkecbaaaEl
set_option linter.unusedVariables false
namespace Go.Lap
open Go.RowKit

def RV.cells : RV → List Cell
  | .c x => [x]
  | .ag cs => cs
  | .ptr cs => cs

section
variable {P : Program} {tt : Nat → Option TD}

/-- What a result variable holds. -/
inductive RsV (tt : Nat → Option TD) (F : Nat → TV) (O : Nat → Option (Nat × AObj)) : ResultVar → V0 → Prop
  | tmp {t v} : F t = .one v → RsV tt F O (.tmp t) v
  | cell {a t k s cs d v} : F a = .one (.pt k s 0) → O k = some (s, .box cs) → tt t = some d → (d.agg || Nat.beq d.size 1) = true → Nat.beq d.size cs.length = true → ldV d.agg cs = some v → RsV tt F O (.cell a t) v

inductive RsVs (tt : Nat → Option TD) (F : Nat → TV) (O : Nat → Option (Nat × AObj)) : List ResultVar → List V0 → Prop
  | nil : RsVs tt F O [] []
  | cons {x v xs vs} : RsV tt F O x v → RsVs tt F O xs vs → RsVs tt F O (x :: xs) (v :: vs)

theorem RsV.run (hT : TyOK P tt) {F : Nat → TV} {O : Nat → Option (Nat × AObj)} {n : Nat} {G : Gh} {a : Act} {w : World} (hr : Rel F O n G a w) {x : ResultVar} {v : V0} (h : RsV tt F O x v) :
    ∃ cv, ((match x with | .tmp t => pure (a.tmps.getD t undef) | .cell b t => do loadVar t (← asAddr (a.tmps.getD b undef))) : Sem Value).run P w = .ok cv w ∧ RV0 w G v cv := by
  cases h with
  | tmp hF => 
    rename_i t
    have := hr.slots t
    rw [hF] at this
    exact ⟨_, rfl, this⟩
  | cell hF hO ht hz hl hv =>
    rename_i b t k s cs d
    have h1 := hr.slots b
    rw [hF] at h1
    obtain ⟨b', hb, h2⟩ := h1
    obtain ⟨b'', vs, T, h3, h4, h5, h6⟩ := (hr.objs k s _ hO).2
    rw [hb] at h3; cases h3
    have hlen := h6.length
    have hcv : CellsV w b' 0 vs.toList := by
      intro j y hj
      rw [cell_of_row w b' _ vs T (0, 0) h5]
      simpa using hj
    obtain ⟨cv, hrun, hcv'⟩ := run_loadVar_at hT ht (by rw [← hlen]; exact (Nat.eq_of_beq_eq_true hl).symm) hcv (fun e => by rw [e] at hz; exact Nat.eq_of_beq_eq_true (by simpa using hz))
    refine ⟨cv, ?_, ldV_R hv h6 hcv'⟩
    simp only [h2]
    simpa [Instr.loadAt, Instr.sureAddr, asAddr] using hrun

theorem RsVs.run (hT : TyOK P tt) {F : Nat → TV} {O : Nat → Option (Nat × AObj)} {n : Nat} {G : Gh} {a : Act} {w : World} (hr : Rel F O n G a w) : ∀ {xs : List ResultVar} {vs : List V0}, RsVs tt F O xs vs →
    ∃ cvs, ((xs.mapM fun x => (match x with | .tmp t => pure (a.tmps.getD t undef) | .cell b t => do loadVar t (← asAddr (a.tmps.getD b undef)) : Sem Value)) : Sem (List Value)).run P w = .ok cvs w ∧ All2 (RV0 w G) vs cvs
  | _, _, .nil => ⟨[], rfl, .nil⟩
  | _, _, .cons h hs => by
    obtain ⟨cv, h1, h2⟩ := h.run hT hr
    obtain ⟨cvs, h3, h4⟩ := RsVs.run hT hr hs
    refine ⟨cv :: cvs, ?_, .cons h2 h4⟩
    simp [List.mapM_cons, -Array.getD_eq_getD_getElem?, h1, h3]

/-- How a held value is told when it is handed back. -/
inductive PkV (O : Nat → Option (Nat × AObj)) : V0 → RV → List (Option (Nat × Nat)) → Option (Nat × Nat) → List (Nat × Nat × AObj) → Prop
  | c {x y cl fr} : PkL O [x] [y] cl fr → PkV O (.c x) (.c y) cl none fr
  | ag {xs ys cl fr} : PkL O xs ys cl fr → PkV O (.ag xs) (.ag ys) cl none fr
  | ptr {k s xs ys cl fr} : O k = some (s, .box xs) → PkL O xs ys cl fr → PkV O (.pt k s 0) (.ptr ys) cl (some (k, s)) fr

inductive PkVs (O : Nat → Option (Nat × AObj)) : List V0 → List RV → List (List (Option (Nat × Nat)) × Option (Nat × Nat)) → List (Nat × Nat × AObj) → Prop
  | nil : PkVs O [] [] [] []
  | cons {v r vs rs cl bx cls fr frs} : PkV O v r cl bx fr → PkVs O vs rs cls frs → PkVs O (v :: vs) (r :: rs) ((cl, bx) :: cls) (fr ++ frs)

inductive PkO (O : Nat → Option (Nat × AObj)) (f : Nat → Nat → Nat) : Nat → List Par → List (List Cell) → List (List (Option (Nat × Nat))) → List (Nat × Nat × AObj) → Prop
  | nil {i} : PkO O f i [] [] [] []
  | val {i p ps outs cls fr} : p.k = .val → PkO O f (i + 1) ps outs cls fr → PkO O f i (p :: ps) outs ([] :: cls) fr
  | ptr {i p ps xs cs outs cl cls fr frs} : p.k = .ptr → O (1000 * (i + 1) + 999) = some (f i 999, .box xs) → PkL O xs cs cl fr → PkO O f (i + 1) ps outs cls frs → PkO O f i (p :: ps) (cs :: outs) (cl :: cls) (fr ++ frs)
  | mt {i p ps cs outs cls fr} : p.k = .mt → (∀ y, y ∈ upM (1000 * (i + 1)) (f i) 0 p.cs cs → O y.1 = some y.2) → PkO O f (i + 1) ps outs cls fr → PkO O f i (p :: ps) (cs :: outs) ([] :: cls) fr

def bxI (bx : Option (Nat × Nat)) (m : Nat) : List (Option (Nat × Nat) × Nat) := match bx with | some x => [(some x, m)] | none => []

/-- Everything that is claimed by the results. -/
def itR : Nat → List RV → List (List (Option (Nat × Nat)) × Option (Nat × Nat)) → List (Option (Nat × Nat) × Nat)
  | j, r :: rs, (cl, bx) :: cls => (items r.cells cl (1000 * j) ++ bxI bx (1000 * j + 999)) ++ itR (j + 1) rs cls
  | _, _, _ => []

def itN : Nat → List Par → List (List Cell) → List (List (Option (Nat × Nat))) → List (Option (Nat × Nat) × Nat)
  | i, p :: ps, outs, cl :: cls =>
    match p.k, outs with
    | .val, outs => itN (i + 1) ps outs cls
    | .mt, _ :: outs => itN (i + 1) ps outs cls
    | .mt, [] => []
    | .ptr, cs :: outs => items cs cl (1000 * (i + 1000)) ++ itN (i + 1) ps outs cls
    | .ptr, [] => []
  | _, _, _, _ => []

def itB (f : Nat → Nat → Nat) : Nat → List Par → List (List Cell) → List (List (Option (Nat × Nat))) → List (Option (Nat × Nat) × Nat)
  | i, p :: ps, outs, cl :: cls =>
    match p.k, outs with
    | .val, outs => itB f (i + 1) ps outs cls
    | .mt, cs :: outs => (upM (1000 * (i + 1)) (f i) 0 p.cs cs).map (fun y => (some (y.1, y.2.1), 0)) ++ itB f (i + 1) ps outs cls
    | .mt, [] => []
    | .ptr, cs :: outs => (some (1000 * (i + 1) + 999, f i 999), 1000 * (i + 1000) + 999) :: itB f (i + 1) ps outs cls
    | .ptr, [] => []
  | _, _, _, _ => []

def itO (f : Nat → Nat → Nat) (ps : List Par) (outs : List (List Cell)) (cls : List (List (Option (Nat × Nat)))) : List (Option (Nat × Nat) × Nat) := itN 0 ps outs cls ++ itB f 0 ps outs cls

def keyI (x : Option (Nat × Nat) × Nat) : Nat := match x with | (some (k, _), _) => 2 * k | (none, m) => 2 * m + 1

def retChk (rs : List RV) (outs : List (List Cell)) (ps : List Par) (its : List Nat) (frs : List Nat) : Bool :=
  nodupB its && (frs.all fun k => !its.contains (2 * k)) && (rs.all fun r => Nat.ble r.cells.length 99) && (outs.all fun c => Nat.ble c.length 99) && Nat.ble rs.length 900 && Nat.ble ps.length 900

structure RetOK (tt : Nat → Option TD) (fn : Func) (f : Nat → Nat → Nat) (ps : List Par) (rs : List RV) (outs : List (List Cell)) (st : St) : Prop where
  ex : ∃ vs cls fr ocls ofr, RsVs tt (getF st.F) (getO st.O) fn.results.toList vs ∧ PkVs (getO st.O) vs rs cls fr ∧ PkO (getO st.O) f 0 ps outs ocls ofr ∧
    retChk rs outs ps ((itR 0 rs cls ++ itO f ps outs ocls).map keyI) ((fr ++ ofr).map (·.1)) = true

def RetQ (tt : Nat → Option TD) (fn : Func) (f : Nat → Nat → Nat) (ps : List Par) (rs : List RV) (outs : List (List Cell)) : Exit → St → Prop
  | .normal, st | .ret, st => RetOK tt fn f ps rs outs st
  | _, _ => False

def claim (N : Nat) (cls : List (List (Option (Nat × Nat)) × Option (Nat × Nat))) (j i : Nat) : Nat :=
  match cls[j]? with
  | some (cl, bx) => if i = 99 then (match bx with | some (_, s) => s | none => 0) else match cl[i]? with | some c => ownSt N c (1000 * j + i) | none => 0
  | none => 0

def claimO (N : Nat) (cls : List (List (Option (Nat × Nat)))) (j i : Nat) : Nat :=
  match cls[j]? with
  | some cl => match cl[i]? with | some c => ownSt N c (1000 * (j + 1000) + i) | none => 0
  | none => 0

theorem PkL.lens {O : Nat → Option (Nat × AObj)} {xs ys : List Cell} {cl : List (Option (Nat × Nat))} {fr : List (Nat × Nat × AObj)} (h : PkL O xs ys cl fr) : ys.length = xs.length ∧ cl.length = xs.length := by
  induction h with
  | nil => exact ⟨rfl, rfl⟩
  | cons _ _ ih => simp [ih]

theorem PkC.frO {O : Nat → Option (Nat × AObj)} {x y : Cell} {c : Option (Nat × Nat)} {fr : List (Nat × Nat × AObj)} (h : PkC O x y c fr) : ∀ k s z, (k, s, z) ∈ fr → ∃ z', O k = some (s, z') := by
  cases h with
  | arr hO _ _ => intro k s z hm; simp at hm; obtain ⟨rfl, rfl, rfl⟩ := hm; exact ⟨_, hO⟩
  | fz hO _ _ => intro k s z hm; simp at hm; obtain ⟨rfl, rfl, rfl⟩ := hm; exact ⟨_, hO⟩
  | _ => intro k s z hm; simp at hm

theorem PkL.frO {O : Nat → Option (Nat × AObj)} {xs ys : List Cell} {cl : List (Option (Nat × Nat))} {fr : List (Nat × Nat × AObj)} (h : PkL O xs ys cl fr) : ∀ k s z, (k, s, z) ∈ fr → ∃ z', O k = some (s, z') := by
  induction h with
  | nil => intro k s z hm; simp at hm
  | cons h _ ih => intro k s z hm; rcases List.mem_append.1 hm with e | e; exact h.frO k s z e; exact ih k s z e

theorem PkVs.frO {O : Nat → Option (Nat × AObj)} {vs : List V0} {rs : List RV} {cls : List (List (Option (Nat × Nat)) × Option (Nat × Nat))} {fr : List (Nat × Nat × AObj)} (h : PkVs O vs rs cls fr) : ∀ k s z, (k, s, z) ∈ fr → ∃ z', O k = some (s, z') := by
  induction h with
  | nil => intro k s z hm; simp at hm
  | cons h _ ih =>
    intro k s z hm
    rcases List.mem_append.1 hm with e | e
    · cases h with
      | c h => exact h.frO k s z e
      | ag h => exact h.frO k s z e
      | ptr _ h => exact h.frO k s z e
    · exact ih k s z e

theorem PkO.frO {O : Nat → Option (Nat × AObj)} {f : Nat → Nat → Nat} {i : Nat} {ps : List Par} {outs : List (List Cell)} {cls : List (List (Option (Nat × Nat)))} {fr : List (Nat × Nat × AObj)} (h : PkO O f i ps outs cls fr) : ∀ k s z, (k, s, z) ∈ fr → ∃ z', O k = some (s, z') := by
  induction h with
  | nil => intro k s z hm; simp at hm
  | val _ _ ih => exact ih
  | mt _ _ _ ih => exact ih
  | ptr _ _ h _ ih => intro k s z hm; rcases List.mem_append.1 hm with e | e; exact h.frO k s z e; exact ih k s z e

theorem nodup_stamps {O : Nat → Option (Nat × AObj)} {N : Nat} (hO : ∀ k s x, O k = some (s, x) → s < N) (hinj : ∀ k k' s x x', O k = some (s, x) → O k' = some (s, x') → k = k') : ∀ (its : List (Option (Nat × Nat) × Nat)), (∀ k s m, (some (k, s), m) ∈ its → ∃ x, O k = some (s, x)) →
    (its.map keyI).Nodup → (its.map fun c => ownSt N c.1 c.2).Nodup
  | [], _, _ => List.nodup_nil
  | x :: its, hex, h => by
    simp only [List.map_cons, List.nodup_cons] at h ⊢
    refine ⟨fun hm => h.1 ?_, nodup_stamps hO hinj its (fun k s m hk => hex k s m (List.mem_cons_of_mem _ hk)) h.2⟩
    obtain ⟨y, hy, e⟩ := List.mem_map.1 hm
    refine List.mem_map.2 ⟨y, hy, ?_⟩
    obtain ⟨c, m⟩ := x
    obtain ⟨c', m'⟩ := y
    cases c with
    | none =>
      cases c' with
      | none => simp only [ownSt] at e; simp only [keyI]; omega
      | some ks =>
        obtain ⟨k, s⟩ := ks
        obtain ⟨x, hx⟩ := hex k s m' (List.mem_cons_of_mem _ hy)
        have := hO k s x hx
        simp only [ownSt] at e; omega
    | some ks =>
      obtain ⟨k, s⟩ := ks
      obtain ⟨x, hx⟩ := hex k s m (by simp)
      cases c' with
      | none =>
        have := hO k s x hx
        simp only [ownSt] at e; omega
      | some ks' =>
        obtain ⟨k', s'⟩ := ks'
        obtain ⟨x', hx'⟩ := hex k' s' m' (List.mem_cons_of_mem _ hy)
        simp only [ownSt] at e
        subst e
        have := hinj k k' _ x x' hx hx'
        simp only [keyI, this]

theorem PkL.items {O : Nat → Option (Nat × AObj)} {xs ys : List Cell} {cl : List (Option (Nat × Nat))} {fr : List (Nat × Nat × AObj)} (h : PkL O xs ys cl fr) : ∀ (m k s : Nat), some (k, s) ∈ cl → ∃ m', (some (k, s), m') ∈ items ys cl m := by
  induction h with
  | nil => intro m k s hm; simp at hm
  | @cons x y xs ys c cs fr frs h _ ih =>
    intro m k s hm
    rcases List.mem_cons.1 hm with e | e
    · subst e
      cases h with
      | own => exact ⟨m, by simp [Lap.items]⟩
    · obtain ⟨m', h'⟩ := ih (m + 1) k s e
      refine ⟨m', ?_⟩
      cases y with
      | sl t e rows => cases t <;> first | exact h' | exact List.mem_cons_of_mem _ h'
      | _ => exact h'

theorem box_back {w : World} {G : Gh} {S : Nat → Prop} {N : Nat} (hw : Wf G w) {s : Nat} {xs ys : List Cell} (h : RObj w G s (.box xs)) (hs : ¬ S s) (hc : ∀ {vs : List Value}, All2 (RC w G) xs vs → All2 (RC w ((G.fr S).rs N)) ys vs) :
    RObj w ((G.fr S).rs N) s (.box ys) := by
  obtain ⟨b, vs, T, h1, h2, h3, h4⟩ := h
  refine ⟨b, vs, T, h1, ?_, h3, hc h4⟩
  show (G.fr S).own b = _
  rw [fr_own, h2]; exact if_neg hs

theorem PkVs.R {w : World} {G : Gh} {O : Nat → Option (Nat × AObj)} {S : Nat → Prop} {N : Nat} (hw : Wf G w) (hobj : ∀ k s o, O k = some (s, o) → G.used s ∧ RObj w G s o) (hN : ∀ s, G.used s → s < N) (gg : Nat → Nat → Nat) :
    ∀ {vs : List V0} {rs : List RV} {cls : List (List (Option (Nat × Nat)) × Option (Nat × Nat))} {fr : List (Nat × Nat × AObj)} (base j : Nat), PkVs O vs rs cls fr → (∀ k s z, (k, s, z) ∈ fr → S s) → (∀ k s m, (some (k, s), m) ∈ itR j rs cls → ¬ S s) → (∀ r ∈ rs, r.cells.length ≤ 99) → j + rs.length ≤ 900 →
    (∀ i cl bx, cls[i]? = some (cl, bx) → (∀ p c, p < 99 → cl[p]? = some c → gg (j + i) p = ownSt N c (1000 * (j + i) + p)) ∧ ∀ k s, bx = some (k, s) → gg (j + i) 99 = s) → ∀ {cvs : List Value}, All2 (RV0 w G) vs cvs →
    All2 (RV0 w ((G.fr S).rs N)) (resVs base gg j rs) cvs ∧ (∀ k s x, (k, s, x) ∈ resOs base gg j rs → ((G.fr S).rs N).used s ∧ RObj w ((G.fr S).rs N) s x) ∧ (resOs base gg j rs).map (·.2.1) = (itR j rs cls).map (fun c => ownSt N c.1 c.2) ∧ (∀ k s m, (some (k, s), m) ∈ itR j rs cls → ∃ x, O k = some (s, x))
  | _, _, _, _, base, j, .nil, _, _, _, _, _, _, .nil => ⟨.nil, fun k s x h => by simp [resOs] at h, rfl, fun k s m h => by simp [itR] at h⟩
  | v :: vs, r :: rs, (cl, bx) :: cls, _, base, j, .cons (fr := fr) (frs := frs) h hs, hS, hnS, hlen, hj, hg, _, .cons hv hvs => by
    obtain ⟨g1, g2, g3, g4⟩ := PkVs.R (S := S) hw hobj hN gg base (j + 1) hs (fun k s z hz => hS k s z (List.mem_append_right _ hz)) (fun k s m hm => hnS k s m (by simp only [itR]; exact List.mem_append_right _ hm)) (fun r hr => hlen r (List.mem_cons_of_mem _ hr)) (by simp at hj; omega)
      (fun i cl bx hc => by have := hg (i + 1) cl bx (by simpa using hc); rw [show j + 1 + i = j + (i + 1) by omega]; exact this) hvs
    have hS0 : ∀ k s z, (k, s, z) ∈ fr → S s := fun k s z hz => hS k s z (List.mem_append_left _ hz)
    obtain ⟨hg0, hgb⟩ := hg 0 cl bx (by simp)
    simp only [Nat.add_zero] at hg0 hgb
    have hl0 := hlen r (by simp)
    simp only [List.length_cons] at hj
    have hit : ∀ k s m, (some (k, s), m) ∈ items r.cells cl (1000 * j) ++ bxI bx (1000 * j + 999) → ¬ S s := fun k s m hm => hnS k s m (by simp only [itR]; exact List.mem_append_left _ hm)
    -- the cells
    have core : ∀ {xs : List Cell}, PkL O xs r.cells cl fr → (∀ {vs : List Value}, All2 (RC w G) xs vs → All2 (RC w ((G.fr S).rs N)) (upC (base + 100 * j) (gg j) 0 r.cells) vs) ∧
        (∀ k s x, (k, s, x) ∈ upO (base + 100 * j) (gg j) 0 r.cells → ((G.fr S).rs N).used s ∧ RObj w ((G.fr S).rs N) s x) ∧ (upO (base + 100 * j) (gg j) 0 r.cells).map (·.2.1) = (items r.cells cl (1000 * j)).map (fun c => ownSt N c.1 c.2) ∧ (∀ k s m', (some (k, s), m') ∈ items r.cells cl (1000 * j) → ∃ x, O k = some (s, x)) := by
      intro xs hp
      obtain ⟨l1, l2⟩ := hp.lens
      have hf : ∀ (i : Nat) c, cl[i]? = some c → gg j (0 + i) = ownSt N c (1000 * j + i) := fun i c hc => by
        have : i < cl.length := (List.getElem?_eq_some_iff.1 hc).1
        rw [Nat.zero_add]
        exact hg0 i c (by omega) hc
      obtain ⟨k1, k2, k3, _⟩ := pko_R (S := S) hw hobj hN (base + 100 * j) (gg j) 0 (1000 * j) hp (fun k s hk => by
        obtain ⟨m', h'⟩ := hp.items (1000 * j) k s hk
        exact hit k s m' (List.mem_append_left _ h')) (by omega) hf
      exact ⟨fun hvs => pkl_R (S := S) hw hobj hN (base + 100 * j) (gg j) 0 (1000 * j) hp hS0 (by omega) hf hvs, k1, k2, k3⟩
    cases h with
    | c hp =>
      rename_i x y
      obtain ⟨c1, c2, c3, c4⟩ := core hp
      have hcv := c1 (.cons hv .nil)
      refine ⟨.cons ?_ g1, fun k s x hx => ?_, ?_, fun k s m hm => ?_⟩
      · simp only [resV]
        simp only [RV.cells] at hcv
        generalize upC (base + 100 * j) (gg j) 0 [y] = l at hcv
        cases hcv with
        | cons r rs => cases rs; exact r
      · simp only [resOs, resO] at hx
        rcases List.mem_append.1 hx with e | e
        · exact c2 k s x e
        · exact g2 k s x e
      · simp only [resOs, resO, itR, bxI, List.append_nil, List.map_append, g3]
        rw [show (upO (base + 100 * j) (gg j) 0 [y]).map (·.2.1) = _ from c3]
      · simp only [itR, bxI, List.append_nil] at hm
        rcases List.mem_append.1 hm with e | e
        · exact c4 k s m e
        · exact g4 k s m e
    | ag hp =>
      rename_i xs ys
      obtain ⟨c1, c2, c3, c4⟩ := core hp
      obtain ⟨us, hu1, hu2⟩ := hv
      refine ⟨.cons ⟨us, hu1, c1 hu2⟩ g1, fun k s x hx => ?_, ?_, fun k s m hm => ?_⟩
      · simp only [resOs, resO] at hx
        rcases List.mem_append.1 hx with e | e
        · exact c2 k s x e
        · exact g2 k s x e
      · simp only [resOs, resO, itR, bxI, List.append_nil, List.map_append, g3]
        rw [show (upO (base + 100 * j) (gg j) 0 ys).map (·.2.1) = _ from c3]
      · simp only [itR, bxI, List.append_nil] at hm
        rcases List.mem_append.1 hm with e | e
        · exact c4 k s m e
        · exact g4 k s m e
    | ptr hO hp =>
      rename_i k0 s0 xs ys
      obtain ⟨c1, c2, c3, c4⟩ := core hp
      have hgs : gg j 99 = s0 := hgb _ _ rfl
      have hns : ¬ S s0 := hit k0 s0 (1000 * j + 999) (List.mem_append_right _ (by simp [bxI]))
      refine ⟨.cons ?_ g1, fun k s x hx => ?_, ?_, fun k s m hm => ?_⟩
      · obtain ⟨b, hb, hv⟩ := hv
        simp only [resV, hgs]
        exact ⟨b, hb, hv⟩
      · simp only [resOs, resO] at hx
        rcases List.mem_append.1 hx with e | e
        · rcases List.mem_append.1 e with e | e
          · exact c2 k s x e
          · simp at e
            obtain ⟨rfl, rfl, rfl⟩ := e
            rw [hgs]
            obtain ⟨hu, ho⟩ := hobj _ _ _ hO
            exact ⟨.inl hu, box_back hw ho hns c1⟩
        · exact g2 k s x e
      · simp only [resOs, resO, itR, bxI, List.map_append, g3, List.map_cons, List.map_nil, hgs, ownSt]
        rw [show (upO (base + 100 * j) (gg j) 0 ys).map (·.2.1) = _ from c3]
        rfl
      · simp only [itR] at hm
        rcases List.mem_append.1 hm with e | e
        · rcases List.mem_append.1 e with e | e
          · exact c4 k s m e
          · simp [bxI] at e
            obtain ⟨⟨rfl, rfl⟩, rfl⟩ := e
            exact ⟨_, hO⟩
        · exact g4 k s m e

theorem upM_arr (base : Nat) (f : Nat → Nat) : ∀ {ps cs : List Cell} (j : Nat) {k s : Nat} {x : AObj}, (k, s, x) ∈ upM base f j ps cs → ∃ e rows, x = .arr e rows
  | [], _, _, _, _, _, h => by simp [upM] at h
  | _ :: _, [], _, _, _, _, h => by simp [upM] at h
  | p :: ps, c :: cs, j, k, s, x, h => by
    unfold upM at h
    split at h
    · rcases List.mem_cons.1 h with e | e
      · cases e; exact ⟨_, _, rfl⟩
      · exact upM_arr base f (j + 1) e
    · exact upM_arr base f (j + 1) h

theorem upM_arg (base : Nat) (f : Nat → Nat) : ∀ {ps cs : List Cell} (j : Nat) {k s : Nat} {x : AObj}, (k, s, x) ∈ upM base f j ps cs → ∃ x', (k, s, x') ∈ upO base f j ps
  | [], _, _, _, _, _, h => by simp [upM] at h
  | _ :: _, [], _, _, _, _, h => by simp [upM] at h
  | p :: ps, c :: cs, j, k, s, x, h => by
    unfold upM at h
    rw [upO_cons]
    split at h
    · rcases List.mem_cons.1 h with e | e
      · cases e; exact ⟨_, List.mem_append_left _ (by simp [upO]; rfl)⟩
      · obtain ⟨x', h'⟩ := upM_arg base f (j + 1) e; exact ⟨x', List.mem_append_right _ h'⟩
    · obtain ⟨x', h'⟩ := upM_arg base f (j + 1) h; exact ⟨x', List.mem_append_right _ h'⟩

theorem arr_back {w : World} {G : Gh} {S : Nat → Prop} {N : Nat} (hw : Wf G w) (hN : ∀ s, G.used s → s < N) {s e : Nat} {rows : List (List C1)} (ho : RObj w G s (.arr e rows)) (hns : ¬ S s) (hlt : s < N) : RObj w ((G.fr S).rs N) s (.arr e rows) := by
  obtain ⟨he, hrl, hcase⟩ := ho
  have hev : Evol (fun _ => True) w G w (G.fr S) := fr_evol fun _ _ => trivial
  have hwf := fr_wf (S := S) hw
  have hev2 := rs_evol (G := G.fr S) (w := w) (N := N) hN (fun _ => True)
  have hcap : ((G.fr S).rs N).cap s = G.cap s := by simp [Gh.rs, Gh.fr]; omega
  refine ⟨he, hrl, ?_⟩
  rcases hcase with ⟨a, b, c⟩ | ⟨b, h1, h2, vs, T, h3, h4, h5, h6, h7⟩
  · exact .inl ⟨a, b, by rw [hcap]; exact c⟩
  · exact .inr ⟨b, h1, by show (G.fr S).own b = _; rw [fr_own, h2]; exact if_neg hns, vs, T, h3, by rw [hcap]; exact h4, by rw [hcap]; exact h5, by rw [hcap]; exact h6, h7.mono fun _ _ _ r => (r.mono hw hev).mono hwf hev2⟩

theorem PkO.R {w : World} {G : Gh} {O : Nat → Option (Nat × AObj)} {S : Nat → Prop} {N : Nat} (hw : Wf G w) (hobj : ∀ k s o, O k = some (s, o) → G.used s ∧ RObj w G s o) (hN : ∀ s, G.used s → s < N) (f hh : Nat → Nat → Nat) :
    ∀ {ps : List Par} {outs : List (List Cell)} {cls : List (List (Option (Nat × Nat)))} {fr : List (Nat × Nat × AObj)} (i : Nat), PkO O f i ps outs cls fr → (∀ k s z, (k, s, z) ∈ fr → S s) → (∀ k s m, (some (k, s), m) ∈ itN i ps outs cls ++ itB f i ps outs cls → ¬ S s) → (∀ r ∈ outs, r.length ≤ 99) → i + ps.length ≤ 900 →
    (∀ j cl, cls[j]? = some cl → ∀ p c, p < 99 → cl[p]? = some c → hh (i + j) p = ownSt N c (1000 * (i + j + 1000) + p)) →
    (∀ k s x, (k, s, x) ∈ outN 0 hh i ps outs ++ outB f hh i ps outs → ((G.fr S).rs N).used s ∧ RObj w ((G.fr S).rs N) s x) ∧ (outN 0 hh i ps outs).map (·.2.1) = (itN i ps outs cls).map (fun c => ownSt N c.1 c.2) ∧ (outB f hh i ps outs).map (·.2.1) = (itB f i ps outs cls).map (fun c => ownSt N c.1 c.2)
  | _, _, _, _, i, .nil, _, _, _, _, _ => ⟨fun k s x h => by simp [outN, outB] at h, rfl, rfl⟩
  | p :: ps, outs, _ :: cls, fr, i, .val hk h, hS, hnS, hlen, hi, hg => by
    obtain ⟨g2, g3, g4⟩ := PkO.R (S := S) hw hobj hN f hh (i + 1) h hS (fun k s m hm => hnS k s m (by simp only [itN, itB, hk]; exact hm)) hlen (by simp at hi; omega)
      (fun j cl hc => by have := hg (j + 1) cl (by simpa using hc); rw [show i + 1 + j = i + (j + 1) by omega]; exact this)
    refine ⟨fun k s x hx => g2 k s x (by simp only [outN, outB, hk] at hx; exact hx), by simp only [outN, itN, hk]; exact g3, by simp only [outB, itB, hk]; exact g4⟩
  | p :: ps, cs :: outs, _ :: cls, fr, i, .mt hk hO h, hS, hnS, hlen, hi, hg => by
    obtain ⟨g2, g3, g4⟩ := PkO.R (S := S) hw hobj hN f hh (i + 1) h hS (fun k s m hm => hnS k s m (by
        simp only [itN, itB, hk]
        rcases List.mem_append.1 hm with e | e
        · exact List.mem_append_left _ e
        · exact List.mem_append_right _ (List.mem_append_right _ e))) (fun r hr => hlen r (List.mem_cons_of_mem _ hr)) (by simp at hi; omega)
      (fun j cl hc => by have := hg (j + 1) cl (by simpa using hc); rw [show i + 1 + j = i + (j + 1) by omega]; exact this)
    refine ⟨fun k s x hx => ?_, by simp only [outN, itN, hk]; exact g3, ?_⟩
    · simp only [outN, outB, hk] at hx
      rcases List.mem_append.1 hx with e | e
      · exact g2 k s x (List.mem_append_left _ e)
      · rcases List.mem_append.1 e with e | e
        · obtain ⟨hu, ho⟩ := hobj _ _ _ (hO _ e)
          have hns : ¬ S s := hnS k s 0 (by simp only [itB, hk]; exact List.mem_append_right _ (List.mem_append_left _ (List.mem_map.2 ⟨_, e, rfl⟩)))
          obtain ⟨e', rows, rfl⟩ := upM_arr _ _ _ e
          exact ⟨.inl hu, arr_back hw hN ho hns (hN _ hu)⟩
        · exact g2 k s x (List.mem_append_right _ e)
    · simp only [outB, itB, hk, List.map_append, g4, List.map_map]
      rfl
  | p :: ps, cs :: outs, cl :: cls, _, i, .ptr (fr := fr) hk hO hp h, hS, hnS, hlen, hi, hg => by
    obtain ⟨g2, g3, g4⟩ := PkO.R (S := S) hw hobj hN f hh (i + 1) h (fun k s z hz => hS k s z (List.mem_append_right _ hz)) (fun k s m hm => hnS k s m (by
        simp only [itN, itB, hk]
        rcases List.mem_append.1 hm with e | e
        · exact List.mem_append_left _ (List.mem_append_right _ e)
        · exact List.mem_append_right _ (List.mem_cons_of_mem _ e))) (fun r hr => hlen r (List.mem_cons_of_mem _ hr)) (by simp at hi; omega)
      (fun j cl hc => by have := hg (j + 1) cl (by simpa using hc); rw [show i + 1 + j = i + (j + 1) by omega]; exact this)
    have hl0 := hlen cs (by simp)
    have hg0 := hg 0 cl (by simp)
    simp only [Nat.add_zero] at hg0
    obtain ⟨l1, l2⟩ := hp.lens
    simp only [List.length_cons] at hi
    have hit : ∀ k s m, (some (k, s), m) ∈ items cs cl (1000 * (i + 1000)) → ¬ S s := fun k s m hm => hnS k s m (by simp only [itN, hk]; exact List.mem_append_left _ (List.mem_append_left _ hm))
    have hf : ∀ (j : Nat) c, cl[j]? = some c → hh i (0 + j) = ownSt N c (1000 * (i + 1000) + j) := fun j c hc => by
      have : j < cl.length := (List.getElem?_eq_some_iff.1 hc).1
      rw [Nat.zero_add]
      exact hg0 j c (by omega) hc
    obtain ⟨c2, c3, c4, _⟩ := pko_R (S := S) hw hobj hN (0 + 1000 * (i + 1)) (hh i) 0 (1000 * (i + 1000)) hp (fun k s hk => by
      obtain ⟨m', h'⟩ := hp.items (1000 * (i + 1000)) k s hk
      exact hit k s m' h') (by omega) hf
    have hns : ¬ S (f i 999) := hnS (1000 * (i + 1) + 999) (f i 999) (1000 * (i + 1000) + 999) (by simp only [itB, hk]; exact List.mem_append_right _ (by simp))
    refine ⟨fun k s x hx => ?_, ?_, ?_⟩
    · simp only [outN, outB, hk] at hx
      rcases List.mem_append.1 hx with e | e
      · rcases List.mem_append.1 e with e | e
        · exact c2 k s x e
        · exact g2 k s x (List.mem_append_left _ e)
      · rcases List.mem_cons.1 e with e | e
        · simp only [Prod.mk.injEq] at e
          obtain ⟨rfl, rfl, rfl⟩ := e
          obtain ⟨hu, ho⟩ := hobj _ _ _ hO
          exact ⟨.inl hu, box_back hw ho hns fun hv => pkl_R (S := S) hw hobj hN (0 + 1000 * (i + 1)) (hh i) 0 (1000 * (i + 1000)) hp (fun k s z hz => hS k s z (List.mem_append_left _ hz)) (by omega) hf hv⟩
        · exact g2 k s x (List.mem_append_right _ e)
    · simp only [outN, itN, hk, List.map_append, g3, c3]
    · simp only [outB, itB, hk, List.map_cons, g4, ownSt]
end

section
variable {P : Program} {tt : Nat → Option TD}

theorem PkL.itemsO {O : Nat → Option (Nat × AObj)} {xs ys : List Cell} {cl : List (Option (Nat × Nat))} {fr : List (Nat × Nat × AObj)} (h : PkL O xs ys cl fr) : ∀ (m k s m' : Nat), (some (k, s), m') ∈ Lap.items ys cl m → ∃ x, O k = some (s, x) := by
  induction h with
  | nil => intro m k s m' hm; simp [Lap.items] at hm
  | @cons x y xs ys c cs fr frs h _ ih =>
    intro m k s m' hm
    cases y with
    | sl t e rows =>
      cases t with
      | own =>
        rcases List.mem_cons.1 hm with e | e
        · cases h with
          | own hO => cases e; exact ⟨_, hO⟩
          | nlo => cases e
          | _ => cases e
        · exact ih (m + 1) k s m' e
      | bor => exact ih (m + 1) k s m' hm
      | frz => exact ih (m + 1) k s m' hm
    | v x => exact ih (m + 1) k s m' hm
    | nl => exact ih (m + 1) k s m' hm
    | mu => exact ih (m + 1) k s m' hm

theorem PkVs.itO {O : Nat → Option (Nat × AObj)} : ∀ {vs : List V0} {rs : List RV} {cls : List (List (Option (Nat × Nat)) × Option (Nat × Nat))} {fr : List (Nat × Nat × AObj)}, PkVs O vs rs cls fr → ∀ (j k s m : Nat), (some (k, s), m) ∈ itR j rs cls → ∃ x, O k = some (s, x)
  | _, _, _, _, .nil, _, _, _, _, hm => by simp [itR] at hm
  | _, _, _, _, .cons h hs, j, k, s, m, hm => by
    simp only [itR] at hm
    rcases List.mem_append.1 hm with e | e
    · cases h with
      | c hp => simp only [bxI, List.append_nil] at e; exact hp.itemsO _ k s m e
      | ag hp => simp only [bxI, List.append_nil] at e; exact hp.itemsO _ k s m e
      | ptr hO hp =>
        rcases List.mem_append.1 e with e | e
        · exact hp.itemsO _ k s m e
        · simp [bxI] at e
          obtain ⟨⟨rfl, rfl⟩, rfl⟩ := e
          exact ⟨_, hO⟩
    · exact hs.itO (j + 1) k s m e

theorem PkO.itO {O : Nat → Option (Nat × AObj)} {f : Nat → Nat → Nat} : ∀ {i : Nat} {ps : List Par} {outs : List (List Cell)} {cls : List (List (Option (Nat × Nat)))} {fr : List (Nat × Nat × AObj)}, PkO O f i ps outs cls fr → ∀ (k s m : Nat), (some (k, s), m) ∈ itN i ps outs cls ++ itB f i ps outs cls → ∃ x, O k = some (s, x)
  | _, _, _, _, _, .nil, _, _, _, hm => by simp [itN, itB] at hm
  | _, _, _, _, _, .val hk h, k, s, m, hm => by simp only [itN, itB, hk] at hm; exact h.itO k s m hm
  | _, _, _, _, _, .mt hk hO h, k, s, m, hm => by
    simp only [itN, itB, hk] at hm
    rcases List.mem_append.1 hm with e | e
    · exact h.itO k s m (List.mem_append_left _ e)
    · rcases List.mem_append.1 e with e | e
      · obtain ⟨y, hy, e⟩ := List.mem_map.1 e
        cases e
        exact ⟨_, hO _ hy⟩
      · exact h.itO k s m (List.mem_append_right _ e)
  | _, _, _, _, _, .ptr hk hO hp h, k, s, m, hm => by
    simp only [itN, itB, hk] at hm
    rcases List.mem_append.1 hm with e | e
    · rcases List.mem_append.1 e with e | e
      · exact hp.itemsO _ k s m e
      · exact h.itO k s m (List.mem_append_left _ e)
    · rcases List.mem_cons.1 e with e | e
      · simp only [Prod.mk.injEq, Option.some.injEq] at e
        obtain ⟨⟨rfl, rfl⟩, rfl⟩ := e
        exact ⟨_, hO⟩
      · exact h.itO k s m (List.mem_append_right _ e)

theorem argV_length (f : Nat → Nat → Nat) : ∀ (i : Nat) (ps : List Par), (argV f i ps).length = ps.length
  | _, [] => rfl
  | i, _ :: ps => by simp [argV, argV_length f (i + 1) ps]

theorem resTV_R {w : World} {G : Gh} {g : Nat → Nat → Nat} {rs : List RV} {vs : List Value} (h : All2 (RV0 w G) (resVs 0 g 0 rs) vs) :
    RTV w G (resTV 0 g rs) (if h : vs.toArray.size = 1 then vs.toArray[0] else .tuple vs.toArray) := by
  unfold resTV
  generalize resVs 0 g 0 rs = l at h
  cases h with
  | nil => exact ⟨[], rfl, .nil⟩
  | cons r rs =>
    cases rs with
    | nil => exact r
    | cons r' rs' => exact ⟨_, by simp, .cons r (.cons r' rs')⟩

/-- **A walk of the body tells the function.** -/
theorem fn_intro (hT : TyOK P tt) {n : Nat} {fn : Func} {c : Code} {ps : List Par} {rs : List RV} {outs : List (List Cell)} (hf : P.funcs[n]? = some fn) (hb : fn.body = some c) (hn : Nat.ble ps.length fn.ntmps = true)
    (h : ∀ f, WP P c (RetQ tt fn f ps rs outs) (entrySt f ps fn.ntmps)) : FnOK P n ps rs outs := by
  intro f G w args hw hargs
  have hal : args.length = ps.length := by rw [← hargs.v.length, argV_length]
  have hn' : ps.length ≤ fn.ntmps := Nat.le_of_ble_eq_true hn
  refine calls_of_wp hf hb ?_
  have hrel := entry_rel (n := fn.ntmps) hw hargs (by omega)
  rw [show args.toArray.size = args.length from rfl]
  refine wp_mono (h f G _ w hrel) fun e a w1 ⟨st, G1, hq, hr, hev⟩ => ?_
  have key : RetOK tt fn f ps rs outs st → bodyPost P fn (fun e w' => ∃ v G' g h, e = .returned v ∧ RTV w' G' (resTV 0 g rs) v ∧ Wf G' w' ∧ Evol (fun _ => True) w G w' G' ∧
      (∀ k s x, (k, s, x) ∈ resOs 0 g 0 rs ++ outO f h ps outs → G'.used s ∧ RObj w' G' s x) ∧ ((resOs 0 g 0 rs ++ outO f h ps outs).map (·.2.1)).Nodup) .normal a w1 := by
    intro ⟨vs, cls, fr, ocls, ofr, k1, k2, k3, k4⟩
    simp only [retChk, Bool.and_eq_true] at k4
    obtain ⟨⟨⟨⟨⟨c1, c2⟩, c3⟩, c4⟩, c5⟩, c6⟩ := k4
    have c1' := nodupB_spec c1
    have c3' : ∀ r ∈ rs, r.cells.length ≤ 99 := fun r hr => Nat.le_of_ble_eq_true (List.all_eq_true.1 c3 r hr)
    have c4' : ∀ r ∈ outs, r.length ≤ 99 := fun r hr => Nat.le_of_ble_eq_true (List.all_eq_true.1 c4 r hr)
    have c5' := Nat.le_of_ble_eq_true c5
    have c6' := Nat.le_of_ble_eq_true c6
    obtain ⟨N, hN⟩ := hr.wf.fin
    obtain ⟨cvs, r1, r2⟩ := RsVs.run hT hr k1
    let S : Nat → Prop := frS (fr ++ ofr)
    have hex : ∀ k s m, (some (k, s), m) ∈ itR 0 rs cls ++ itO f ps outs ocls → (∃ x, getO st.O k = some (s, x)) → ¬ S s := by
      intro k s m hm ⟨x, hx⟩ ⟨k', z, hz⟩
      have hz' : ∃ z', getO st.O k' = some (s, z') := by
        rcases List.mem_append.1 hz with e | e
        · exact k2.frO k' s z e
        · exact k3.frO k' s z e
      obtain ⟨z', hz'⟩ := hz'
      have e := hr.inj k k' s x z' hx hz'
      subst e
      have h1 := List.all_eq_true.1 c2 k (List.mem_map.2 ⟨_, hz, rfl⟩)
      have h2 : 2 * k ∈ (itR 0 rs cls ++ itO f ps outs ocls).map keyI := List.mem_map.2 ⟨_, hm, rfl⟩
      simp only [Bool.not_eq_true', List.contains_eq_mem, decide_eq_false_iff_not] at h1
      exact h1 h2
    have hexR : ∀ k s m, (some (k, s), m) ∈ itR 0 rs cls ++ itO f ps outs ocls → ∃ x, getO st.O k = some (s, x) := by
      intro k s m hm
      rcases List.mem_append.1 hm with e | e
      · exact k2.itO 0 k s m e
      · exact k3.itO k s m e
    have hns : ∀ k s m, (some (k, s), m) ∈ itR 0 rs cls ++ itO f ps outs ocls → ¬ S s := fun k s m hm => hex k s m hm (hexR k s m hm)
    obtain ⟨p1, p2, p3, _⟩ := PkVs.R (S := S) hr.wf hr.objs hN (claim N cls) 0 0 k2 (fun k s z hz => ⟨k, z, List.mem_append_left _ hz⟩) (fun k s m hm => hns k s m (List.mem_append_left _ hm)) c3' (by omega)
      (fun i cl bx hc => by
        simp only [Nat.zero_add]
        refine ⟨fun p c hp hcl => ?_, fun k s hb => ?_⟩
        · simp only [claim, hc, hcl, if_neg (show p ≠ 99 by omega)]
        · simp only [claim, hc, hb, if_true]) r2
    obtain ⟨q2, q3, q4⟩ := PkO.R (S := S) hr.wf hr.objs hN f (claimO N ocls) 0 k3 (fun k s z hz => ⟨k, z, List.mem_append_right _ hz⟩) (fun k s m hm => hns k s m (List.mem_append_right _ hm)) c4' (by omega)
      (fun j cl hc p c hp hcl => by simp only [Nat.zero_add]; simp only [claimO, hc, hcl])
    have hev1 : Evol (fun _ => True) w1 G1 w1 (G1.fr S) := fr_evol fun _ _ => trivial
    have hwf1 := fr_wf (S := S) hr.wf
    refine ⟨hr.dfr, _, ?_, _, (G1.fr S).rs N, claim N cls, claimO N ocls, rfl, resTV_R p1, rs_wf hwf1, (hev.trans hev1).trans (rs_evol (G := G1.fr S) hN _), fun k s x hx => ?_, ?_⟩
    · simp only [results, Array.mapM_eq_mapM_toList]
      simp [-Array.getD_eq_getD_getElem?]
      exact congrArg (fun r => Result.andThen r (fun (a : List Value) w' => Result.ok (if h : a.length = 1 then a[0] else Value.tuple a.toArray) w')) r1
    · rcases List.mem_append.1 hx with e | e
      · exact p2 k s x e
      · exact q2 k s x e
    · rw [List.map_append, p3, show (outO f (claimO N ocls) ps outs).map (·.2.1) = (itO f ps outs ocls).map (fun c => ownSt N c.1 c.2) from by
        simp only [outO, itO, List.map_append, q3, q4], ← List.map_append]
      exact nodup_stamps (fun k s x hk => hN s (hr.objs k s x hk).1) hr.inj _ hexR c1'
  cases e with
  | normal => exact key hq
  | ret => exact key hq
  | _ => exact hq.elim
end
end Go.Lap
