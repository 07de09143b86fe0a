/- The engine's twelfth part: functions, told by trees. -/
import Derived.Test.YtihiganlkecbaaaEk
namespace Go.Lap
open Go.RowKit

inductive PK where
  | val | ptr | mt
  deriving DecidableEq

/-- A parameter: how it comes, is it a struct, its cells ('own': an array that comes along with it). -/
structure Par where
  k : PK
  ag : Bool
  cs : List Cell

inductive RV where
  | c (x : Cell)
  | ag (cs : List Cell)
  | ptr (cs : List Cell)

/-- The cells of a tree, its own arrays by name. -/
def upC (base : Nat) (f : Nat → Nat) : Nat → List Cell → List Cell
  | _, [] => []
  | j, .sl .own e rows :: r => .mu (base + j) (f j) e 0 rows.length :: upC base f (j + 1) r
  | j, x :: r => x :: upC base f (j + 1) r

def upO (base : Nat) (f : Nat → Nat) : Nat → List Cell → List (Nat × Nat × AObj)
  | _, [] => []
  | j, .sl .own e rows :: r => (base + j, f j, .arr e rows) :: upO base f (j + 1) r
  | j, _ :: r => upO base f (j + 1) r

def cV (ag : Bool) (cs : List Cell) : V0 :=
  match ag, cs with
  | true, cs => .ag cs
  | false, [x] => .c x
  | false, _ => .c .nl

def parV (f : Nat → Nat) (i : Nat) (p : Par) : V0 :=
  match p.k with
  | .ptr => .pt (1000 * (i + 1) + 999) (f 999) 0
  | .val => cV p.ag (upC (1000 * (i + 1)) f 0 p.cs)
  | .mt => cV p.ag (upC (1000 * (i + 1)) f 0 p.cs)

def parO (f : Nat → Nat) (i : Nat) (p : Par) : List (Nat × Nat × AObj) :=
  upO (1000 * (i + 1)) f 0 p.cs ++ match p.k with | .ptr => [(1000 * (i + 1) + 999, f 999, .box (upC (1000 * (i + 1)) f 0 p.cs))] | .val => [] | .mt => []

def argV (f : Nat → Nat → Nat) : Nat → List Par → List V0
  | _, [] => []
  | i, p :: ps => parV (f i) i p :: argV f (i + 1) ps

def argO (f : Nat → Nat → Nat) : Nat → List Par → List (Nat × Nat × AObj)
  | _, [] => []
  | i, p :: ps => parO (f i) i p ++ argO f (i + 1) ps

def resV (base : Nat) (g : Nat → Nat) : RV → V0
  | .c x => cV false (upC base g 0 [x])
  | .ag cs => .ag (upC base g 0 cs)
  | .ptr _ => .pt (base + 99) (g 99) 0

def resO (base : Nat) (g : Nat → Nat) : RV → List (Nat × Nat × AObj)
  | .c x => upO base g 0 [x]
  | .ag cs => upO base g 0 cs
  | .ptr cs => upO base g 0 cs ++ [(base + 99, g 99, .box (upC base g 0 cs))]

def resVs (base : Nat) (g : Nat → Nat → Nat) : Nat → List RV → List V0
  | _, [] => []
  | j, r :: rs => resV (base + 100 * j) (g j) r :: resVs base g (j + 1) rs

def resOs (base : Nat) (g : Nat → Nat → Nat) : Nat → List RV → List (Nat × Nat × AObj)
  | _, [] => []
  | j, r :: rs => resO (base + 100 * j) (g j) r ++ resOs base g (j + 1) rs

def resTV (base : Nat) (g : Nat → Nat → Nat) (rs : List RV) : TV :=
  match resVs base g 0 rs with
  | [x] => .one x
  | xs => .tu xs

/-- The arrays of a parameter that are changed in place, as they come back. -/
def upM (base : Nat) (f : Nat → Nat) : Nat → List Cell → List Cell → List (Nat × Nat × AObj)
  | j, p :: ps, c :: cs =>
    match p, c with
    | .sl .own _ _, .sl .own e rows => (base + j, f j, .arr e rows) :: upM base f (j + 1) ps cs
    | _, _ => upM base f (j + 1) ps cs
  | _, _, _ => []

/-- What comes back of the parameters: the arrays in the boxes, and the boxes. -/
def outN (base : Nat) (h : Nat → Nat → Nat) : Nat → List Par → List (List Cell) → List (Nat × Nat × AObj)
  | _, [], _ => []
  | i, p :: ps, outs =>
    match p.k, outs with
    | .val, outs => outN base h (i + 1) ps outs
    | _, [] => []
    | .mt, _ :: outs => outN base h (i + 1) ps outs
    | .ptr, cs :: outs => upO (base + 1000 * (i + 1)) (h i) 0 cs ++ outN base h (i + 1) ps outs

def outB (f h : Nat → Nat → Nat) : Nat → List Par → List (List Cell) → List (Nat × Nat × AObj)
  | _, [], _ => []
  | i, p :: ps, outs =>
    match p.k, outs with
    | .val, outs => outB f h (i + 1) ps outs
    | _, [] => []
    | .mt, cs :: outs => upM (1000 * (i + 1)) (f i) 0 p.cs cs ++ outB f h (i + 1) ps outs
    | .ptr, cs :: outs => (1000 * (i + 1) + 999, f i 999, .box (upC (0 + 1000 * (i + 1)) (h i) 0 cs)) :: outB f h (i + 1) ps outs

def outO (f h : Nat → Nat → Nat) (ps : List Par) (outs : List (List Cell)) : List (Nat × Nat × AObj) := outN 0 h 0 ps outs ++ outB f h 0 ps outs

/-- The stamps that come along. -/
def PS (f : Nat → Nat → Nat) (ps : List Par) (s : Nat) : Prop := ∃ k x, (k, s, x) ∈ argO f 0 ps

structure RArgs (w : World) (G : Gh) (f : Nat → Nat → Nat) (ps : List Par) (args : List Value) : Prop where
  v : All2 (RV0 w G) (argV f 0 ps) args
  o : ∀ k s x, (k, s, x) ∈ argO f 0 ps → G.used s ∧ RObj w G s x
  inj : ∀ k k' s x x', (k, s, x) ∈ argO f 0 ps → (k', s, x') ∈ argO f 0 ps → k = k'
  own : ∀ b s, G.own b = .obj s → PS f ps s

/-- **A function, told by trees**: with these parameters it hands back these results, and leaves these in what came along. -/
def FnOK (P : Program) (n : Nat) (ps : List Par) (rs : List RV) (outs : List (List Cell)) : Prop :=
  ∀ (f : Nat → Nat → Nat) (G : Gh) (w : World) (args : List Value), Wf G w → RArgs w G f ps args →
    Calls P n args.toArray w fun e w' => ∃ v G' g h, e = .returned v ∧ RTV w' G' (resTV 0 g rs) v ∧ Wf G' w' ∧ Evol (fun _ => True) w G w' G' ∧
      (∀ k s x, (k, s, x) ∈ resOs 0 g 0 rs ++ outO f h ps outs → G'.used s ∧ RObj w' G' s x) ∧
      ((resOs 0 g 0 rs ++ outO f h ps outs).map (·.2.1)).Nodup

def entrySt (f : Nat → Nat → Nat) (ps : List Par) (n : Nat) : St :=
  ⟨((argV f 0 ps).zipIdx 0).map fun x => (x.2, .one x.1), (argO f 0 ps).map fun x => (x.1, some (x.2.1, x.2.2)), n⟩

theorem getF_zip : ∀ (vs : List V0) (k d : Nat), getF ((vs.zipIdx k).map fun x => (x.2, TV.one x.1)) d = if k ≤ d then (match vs[d - k]? with | some v => .one v | none => .dead) else .dead
  | [], k, d => by simp [getF]
  | v :: vs, k, d => by
    simp only [List.zipIdx_cons, List.map_cons, getF]
    by_cases e : k = d
    · subst e; simp
    · have h1 : (k == d) = false := by simpa using e
      simp only [h1, cond_false]
      rw [getF_zip vs (k + 1) d]
      by_cases hle : k ≤ d
      · have h2 : k + 1 ≤ d := by omega
        have h3 : d - k = (d - (k + 1)) + 1 := by omega
        simp only [hle, h2, if_true, h3, List.getElem?_cons_succ]
      · have h2 : ¬ k + 1 ≤ d := by omega
        simp only [hle, h2, if_false]

theorem mem_getO {l : List (Nat × Nat × AObj)} {k : Nat} {x : Nat × AObj} (h : getO (l.map fun x => (x.1, some (x.2.1, x.2.2))) k = some x) : (k, x.1, x.2) ∈ l := by
  have := getO_mem h
  obtain ⟨⟨k', s, o⟩, hm, e⟩ := List.mem_map.1 this
  simp at e
  obtain ⟨rfl, rfl⟩ := e
  exact hm

theorem entry_rel {f : Nat → Nat → Nat} {ps : List Par} {n : Nat} {G : Gh} {w : World} {args : List Value} (hw : Wf G w) (h : RArgs w G f ps args) (hn : args.length ≤ n) :
    RelSt (entrySt f ps n) G { tmps := args.toArray ++ Array.replicate (n - args.length) undef, defers := [] } w := by
  refine ⟨rfl, by simp [entrySt]; omega, hw, fun d => ?_, fun k s o hk => ?_, fun k k' s o o' hk hk' => ?_⟩
  · rw [show getF (entrySt f ps n).F d = _ from getF_zip _ 0 d]
    simp only [Nat.zero_le, if_true, Nat.sub_zero]
    cases hv : (argV f 0 ps)[d]? with
    | none => trivial
    | some v =>
      obtain ⟨y, hy, hr⟩ := h.v.get d v hv
      have hlt : d < args.length := (List.getElem?_eq_some_iff.1 hy).1
      have : (args.toArray ++ Array.replicate (n - args.length) undef).getD d undef = y := by
        rw [Array.getD_eq_getD_getElem?, Array.getElem?_append_left (by simpa using hlt)]
        simp [hy]
      rw [this]; exact hr
  · exact h.o k s o (mem_getO hk)
  · exact h.inj k k' s o o' (mem_getO hk) (mem_getO hk')

/-! ### What is handed back -/
inductive PkC (O : Nat → Option (Nat × AObj)) : Cell → Cell → Option (Nat × Nat) → List (Nat × Nat × AObj) → Prop
  | v {x} : PkC O (.v x) (.v x) none []
  | nl : PkC O .nl .nl none []
  | nlo {e} : Nat.ble 1 e = true → PkC O .nl (.sl .own e []) none []
  | nlf {e} : PkC O .nl (.sl .frz e []) none []
  | frz {e rows} : PkC O (.sl .frz e rows) (.sl .frz e rows) none []
  | bor {e rows} : PkC O (.sl .bor e rows) (.sl .bor e rows) none []
  | emp {t e e'} : PkC O (.sl t e []) (.sl .frz e' []) none []
  | own {k s e len rows rows'} : O k = some (s, .arr e rows) → len ≤ rows.length → rows.take len = rows' → PkC O (.mu k s e 0 len) (.sl .own e rows') (some (k, s)) []
  | arr {k s e off len rows rows'} : O k = some (s, .arr e rows) → off + len ≤ rows.length → (rows.drop off).take len = rows' → PkC O (.mu k s e off len) (.sl .frz e rows') none [(k, s, .fz e rows)]
  | fz {k s e off len rows rows'} : O k = some (s, .fz e rows) → off + len ≤ rows.length → (rows.drop off).take len = rows' → PkC O (.mu k s e off len) (.sl .frz e rows') none [(k, s, .fz e rows)]

inductive PkL (O : Nat → Option (Nat × AObj)) : List Cell → List Cell → List (Option (Nat × Nat)) → List (Nat × Nat × AObj) → Prop
  | nil : PkL O [] [] [] []
  | cons {x y xs ys c cs fr frs} : PkC O x y c fr → PkL O xs ys cs frs → PkL O (x :: xs) (y :: ys) (c :: cs) (fr ++ frs)

/-- Ranges of names that are set aside. -/
def Gh.rs (G : Gh) (N : Nat) : Gh := ⟨G.loc, fun x => if N ≤ x then 0 else G.cap x, G.own, fun x => G.used x ∨ (N ≤ x ∧ x < N + 10000000)⟩

theorem rs_wf {G : Gh} {w : World} {N : Nat} (hw : Wf G w) : Wf (G.rs N) w :=
  ⟨fun s b h => ⟨(hw.lt s b h).1, .inl (hw.lt s b h).2⟩, hw.of_own, hw.past, by
    obtain ⟨M, hM⟩ := hw.fin
    exact ⟨max M (N + 10000000), fun x hx => by
      rcases hx with h | h
      · have := hM x h; omega
      · omega⟩⟩

theorem rs_evol {G : Gh} {w : World} {N : Nat} (hN : ∀ s, G.used s → s < N) (U : Nat → Prop) : Evol U w G w (G.rs N) :=
  ⟨rfl, rfl, rfl, Nat.le_refl _, fun _ h => .inl h, fun _ _ => rfl, fun x hx => by have := hN x hx; simp [Gh.rs]; omega, fun _ _ _ => ⟨rfl, rfl⟩⟩

/-- The name of a cell's array, as it is handed back. -/
def ownSt (N : Nat) (c : Option (Nat × Nat)) (j : Nat) : Nat := match c with | some (_, s) => s | none => N + j

section
variable {w : World} {G : Gh} {O : Nat → Option (Nat × AObj)} {S : Nat → Prop} {N : Nat}

theorem pkc_R (hw : Wf G w) (hobj : ∀ k s o, O k = some (s, o) → G.used s ∧ RObj w G s o) (hN : ∀ s, G.used s → s < N) {x y : Cell} {c : Option (Nat × Nat)} {fr : List (Nat × Nat × AObj)} (h : PkC O x y c fr) (hS : ∀ k s z, (k, s, z) ∈ fr → S s) {j m : Nat} (hj : m < 10000000)
    (base : Nat) (f : Nat → Nat) (hf : f j = ownSt N c m) {cv : Value} (hr : RC w G x cv) : ∃ z, upC base f j [y] = [z] ∧ RC w ((G.fr S).rs N) z cv := by
  have hev : Evol (fun _ => True) w G w (G.fr S) := fr_evol fun _ _ => trivial
  have hwf := fr_wf (S := S) hw
  have hN' : ∀ s, (G.fr S).used s → s < N := hN
  have hev2 := rs_evol (w := w) hN' (fun _ => True)
  have up : ∀ {z : Cell}, RC w G z cv → RC w ((G.fr S).rs N) z cv := fun h => (h.mono hw hev).mono hwf hev2
  have cells : ∀ {k s e off len rows rows'}, G.used s → (∀ r ∈ rows, r.length = e) → ((rows = [] ∧ G.loc s = none ∧ G.cap s = 0) ∨ ∃ b, G.loc s = some b ∧ (G.own b = .obj s ∧ S s ∨ G.own b = .frz) ∧ ArrAt w G s b e rows) →
      off + len ≤ rows.length → (rows.drop off).take len = rows' → RC w G (.mu k s e off len) cv → RC w ((G.fr S).rs N) (.sl .frz e rows') cv := by
    intro k s e off len rows rows' hu hrl hcase hle hp hr
    subst hp
    obtain ⟨A, cap, h1, h2, h3, h4, h5⟩ := hr
    have hlen : ((rows.drop off).take len).length = len := by simp; omega
    refine ⟨A, cap, by rw [hlen]; exact h1, by omega, fun r hr => hrl r (List.mem_of_mem_drop (List.mem_of_mem_take hr)), fun hne => ?_⟩
    have hpos : len ≠ 0 := fun e => hne (by rw [e]; simp)
    rcases h5 with h5 | ⟨b, hb, hA⟩
    · omega
    rcases hcase with ⟨h6, _⟩ | ⟨b', hb', hown, vs, T, g1, g2, g3, g4, g5⟩
    · subst h6; simp at hle; omega
    rw [hb] at hb'; cases hb'
    refine ⟨b, off * e, hA, ?_, fun i y hy => ?_⟩
    · show (G.fr S).own b = .frz
      rw [fr_own]
      rcases hown with ⟨h, hs⟩ | h
      · rw [h]; exact if_pos hs
      · rw [h]
    · rw [flatten_part hrl hle] at hy
      have h6 := (g5.drop (off * e)).take (len * e)
      obtain ⟨cv, h7, h8⟩ := h6.get i y hy
      refine ⟨cv, ?_, (h8.mono hw hev).mono hwf hev2⟩
      rw [cell_of_row w b _ vs T (0, 0) g1]
      rw [List.getElem?_take] at h7
      split at h7
      · rw [List.getElem?_drop, List.getElem?_take] at h7
        split at h7
        · simpa using h7
        · cases h7
      · cases h7
  cases h with
  | v => exact ⟨_, rfl, up hr⟩
  | nl => exact ⟨_, rfl, up hr⟩
  | nlo he =>
    refine ⟨_, rfl, ?_⟩
    have hr' : cv = .slice none 0 0 := hr
    subst hr'
    simp only [ownSt] at hf
    rw [hf]
    exact ⟨none, 0, rfl, Nat.le_refl _, .inr ⟨by omega, by omega⟩, by simp [Gh.rs], .inl rfl⟩
  | nlf => refine ⟨_, rfl, ?_⟩; have hr' : cv = .slice none 0 0 := hr; subst hr'; exact ⟨none, 0, rfl, Nat.le_refl _, by simp, fun h => (h rfl).elim⟩
  | frz => exact ⟨_, rfl, up hr⟩
  | bor => exact ⟨_, rfl, up hr⟩
  | emp =>
    refine ⟨_, rfl, ?_⟩
    obtain ⟨A, cap, h1, h2, h3, h4⟩ := hr
    exact ⟨A, cap, h1, by simp, by simp, fun h => (h rfl).elim⟩
  | own hO hle hp =>
    rename_i k s e len rows rows'
    refine ⟨_, rfl, ?_⟩
    simp only [ownSt] at hf
    rw [hf]
    have hlen : rows'.length = len := by rw [← hp]; simp; omega
    rw [hlen]
    have := up hr
    exact this
  | arr hO hle hp =>
    obtain ⟨hu, he, hrl, hcase⟩ := hobj _ _ _ hO
    exact ⟨_, rfl, cells hu hrl (hcase.imp id fun ⟨b, h1, h2, h3⟩ => ⟨b, h1, .inl ⟨h2, hS _ _ _ (List.mem_singleton.2 rfl)⟩, h3⟩) hle hp hr⟩
  | fz hO hle hp =>
    obtain ⟨hu, he, hrl, hcase⟩ := hobj _ _ _ hO
    exact ⟨_, rfl, cells hu hrl (hcase.imp id fun ⟨b, h1, h2, h3⟩ => ⟨b, h1, .inr h2, h3⟩) hle hp hr⟩

theorem upC_cons (base : Nat) (f : Nat → Nat) (j : Nat) (y : Cell) (ys : List Cell) : upC base f j (y :: ys) = upC base f j [y] ++ upC base f (j + 1) ys := by
  cases y with
  | sl t e rows => cases t <;> rfl
  | _ => rfl

theorem upO_cons (base : Nat) (f : Nat → Nat) (j : Nat) (y : Cell) (ys : List Cell) : upO base f j (y :: ys) = upO base f j [y] ++ upO base f (j + 1) ys := by
  cases y with
  | sl t e rows => cases t <;> rfl
  | _ => rfl

theorem pkl_R {w : World} {G : Gh} {O : Nat → Option (Nat × AObj)} {S : Nat → Prop} {N : Nat} (hw : Wf G w) (hobj : ∀ k s o, O k = some (s, o) → G.used s ∧ RObj w G s o) (hN : ∀ s, G.used s → s < N) (base : Nat) (f : Nat → Nat) : ∀ {xs ys : List Cell} {cl : List (Option (Nat × Nat))} {fr : List (Nat × Nat × AObj)} (j m : Nat), PkL O xs ys cl fr → (∀ k s z, (k, s, z) ∈ fr → S s) → m + xs.length ≤ 10000000 →
    (∀ (i : Nat) c, cl[i]? = some c → f (j + i) = ownSt N c (m + i)) → ∀ {vs : List Value}, All2 (RC w G) xs vs → All2 (RC w ((G.fr S).rs N)) (upC base f j ys) vs
  | _, _, _, _, _, _, .nil, _, _, _, _, .nil => .nil
  | _, _, _, _, j, m, .cons h hs, hS, hm, hf, _, .cons r rs => by
    obtain ⟨z, h1, h2⟩ := pkc_R (S := S) hw hobj hN h (fun k s z hz => hS k s z (List.mem_append_left _ hz)) (j := j) (m := m) (by simp at hm; omega) base f (by simpa using hf 0 _ (by simp)) r
    rw [upC_cons, h1]
    exact .cons h2 (pkl_R hw hobj hN base f (j + 1) (m + 1) hs (fun k s z hz => hS k s z (List.mem_append_right _ hz)) (by simp at hm; omega) (fun i c hc => by
      have := hf (i + 1) c (by simpa using hc)
      rw [show j + 1 + i = j + (i + 1) by omega, show m + 1 + i = m + (i + 1) by omega]; exact this) rs)

/-- What is claimed: a key's array, or a new name. -/
def items : List Cell → List (Option (Nat × Nat)) → Nat → List (Option (Nat × Nat) × Nat)
  | .sl .own _ _ :: ys, c :: cl, m => (c, m) :: items ys cl (m + 1)
  | _ :: ys, _ :: cl, m => items ys cl (m + 1)
  | _, _, _ => []

theorem pko_R {w : World} {G : Gh} {O : Nat → Option (Nat × AObj)} {S : Nat → Prop} {N : Nat} (hw : Wf G w) (hobj : ∀ k s o, O k = some (s, o) → G.used s ∧ RObj w G s o) (hN : ∀ s, G.used s → s < N) (base : Nat) (f : Nat → Nat) : ∀ {xs ys : List Cell} {cl : List (Option (Nat × Nat))} {fr : List (Nat × Nat × AObj)} (j m : Nat), PkL O xs ys cl fr → (∀ k s, some (k, s) ∈ cl → ¬ S s) → m + xs.length ≤ 10000000 →
    (∀ (i : Nat) c, cl[i]? = some c → f (j + i) = ownSt N c (m + i)) →
    (∀ k s x, (k, s, x) ∈ upO base f j ys → ((G.fr S).rs N).used s ∧ RObj w ((G.fr S).rs N) s x) ∧ (upO base f j ys).map (·.2.1) = (items ys cl m).map (fun c => ownSt N c.1 c.2) ∧ (∀ k s m', (some (k, s), m') ∈ items ys cl m → ∃ x, O k = some (s, x)) ∧ ∀ c m', (c, m') ∈ items ys cl m → m ≤ m' ∧ m' < m + xs.length
  | _, _, _, _, j, m, .nil, _, _, _ => ⟨fun k s x h => by simp [upO] at h, rfl, fun k s m' h => by simp [items] at h, fun c m' h => by simp [items] at h⟩
  | x :: xs, y :: ys, c :: cl, _, j, m, .cons h hs, hS, hm, hf => by
    obtain ⟨g1, g2, g3, g4⟩ := pko_R (S := S) hw hobj hN base f (j + 1) (m + 1) hs (fun k s hk => hS k s (List.mem_cons_of_mem _ hk)) (by simp at hm; omega) (fun i c hc => by
      have := hf (i + 1) c (by simpa using hc)
      rw [show j + 1 + i = j + (i + 1) by omega, show m + 1 + i = m + (i + 1) by omega]; exact this)
    have hf0 : f j = ownSt N c m := by simpa using hf 0 _ (by simp)
    have rest : ∀ {t e rows}, y = .sl t e rows → t ≠ .own → (∀ k s x, (k, s, x) ∈ upO base f j (y :: ys) → ((G.fr S).rs N).used s ∧ RObj w ((G.fr S).rs N) s x) ∧ (upO base f j (y :: ys)).map (·.2.1) = (items (y :: ys) (c :: cl) m).map (fun c => ownSt N c.1 c.2) ∧ (∀ k s m', (some (k, s), m') ∈ items (y :: ys) (c :: cl) m → ∃ x, O k = some (s, x)) ∧ ∀ c' m', (c', m') ∈ items (y :: ys) (c :: cl) m → m ≤ m' ∧ m' < m + (x :: xs).length := by
      intro t e rows hy ht
      subst hy
      cases t with
      | own => exact (ht rfl).elim
      | bor => exact ⟨g1, g2, g3, fun c' m' hc => by have := g4 c' m' hc; simp; omega⟩
      | frz => exact ⟨g1, g2, g3, fun c' m' hc => by have := g4 c' m' hc; simp; omega⟩
    have hev : Evol (fun _ => True) w G w (G.fr S) := fr_evol fun _ _ => trivial
    have hwf := fr_wf (S := S) hw
    have hev2 := rs_evol (G := G.fr S) (w := w) (N := N) hN (fun _ => True)
    cases h with
    | v => exact ⟨g1, g2, g3, fun c' m' hc => by have := g4 c' m' hc; simp; omega⟩
    | nl => exact ⟨g1, g2, g3, fun c' m' hc => by have := g4 c' m' hc; simp; omega⟩
    | nlf => exact rest rfl (by simp)
    | frz => exact rest rfl (by simp)
    | bor => exact rest rfl (by simp)
    | emp => exact rest rfl (by simp)
    | arr _ _ _ => exact rest rfl (by simp)
    | fz _ _ _ => exact rest rfl (by simp)
    | nlo he =>
      refine ⟨fun k s x hx => ?_, by simp only [upO, items, List.map_cons, g2, hf0], fun k s m' hk => ?_, fun c' m' hc => ?_⟩
      · simp only [upO] at hx
        rcases List.mem_cons.1 hx with e | e
        · cases e
          rw [hf0]
          have hun : ¬ G.used (N + m) := fun h => by have := hN _ h; omega
          exact ⟨.inr ⟨by simp [ownSt], by simp [ownSt]; simp at hm; omega⟩, Nat.le_of_ble_eq_true he, by simp, .inl ⟨rfl, show G.loc (N + m) = none from loc_unused hw hun, by simp [Gh.rs, ownSt]⟩⟩
        · exact g1 k s x e
      · simp only [items] at hk
        rcases List.mem_cons.1 hk with e | e
        · cases e
        · exact g3 k s m' e
      · simp only [items] at hc
        rcases List.mem_cons.1 hc with e | e
        · cases e; simp
        · have := g4 c' m' e; simp; omega
    | own hO hle hp =>
      rename_i k0 s0 e0 len0 rows0 rows0'
      obtain ⟨hu, he, hrl, hcase⟩ := hobj _ _ _ hO
      have hns : ¬ S s0 := hS k0 s0 (by simp)
      refine ⟨fun k s x hx => ?_, by simp only [upO, items, List.map_cons, g2, hf0], fun k s m' hk => ?_, fun c' m' hc => ?_⟩
      · simp only [upO] at hx
        rcases List.mem_cons.1 hx with e | e
        · cases e
          rw [hf0]
          simp only [ownSt]
          subst hp
          refine ⟨.inl hu, he, fun r hr => hrl r (List.mem_of_mem_take hr), ?_⟩
          have hlt := hN _ hu
          have hcap : ((G.fr S).rs N).cap s0 = G.cap s0 := by simp [Gh.rs, Gh.fr]; omega
          rcases hcase with ⟨a, b, c⟩ | ⟨b, h1, h2, vs, T, h3, h4, h5, h6, h7⟩
          · exact .inl ⟨by rw [a]; simp, b, by rw [hcap]; exact c⟩
          · refine .inr ⟨b, h1, ?_, vs, T, h3, by rw [hcap]; exact h4, by rw [hcap]; simp; omega, by rw [hcap]; exact h6, ?_⟩
            · show (G.fr S).own b = _
              rw [fr_own, h2]; exact if_neg hns
            · have e2 := flatten_part (l := 0) (n := len0) hrl (by omega)
              simp only [List.drop_zero, Nat.zero_mul] at e2
              rw [e2, show (rows0.take len0).length = len0 by simp; omega]
              have := h7.take (len0 * e0)
              rw [List.take_take, Nat.min_eq_left (Nat.mul_le_mul_right _ hle)] at this
              exact this.mono fun _ _ _ r => (r.mono hw hev).mono hwf hev2
        · exact g1 k s x e
      · simp only [items] at hk
        rcases List.mem_cons.1 hk with e | e
        · cases e; exact ⟨_, hO⟩
        · exact g3 k s m' e
      · simp only [items] at hc
        rcases List.mem_cons.1 hc with e | e
        · cases e; simp
        · have := g4 c' m' e; simp; omega
end
end Go.Lap
