/- The engine's tenth part: make, literals, elements written, structs built. -/
import Derived.Test.YtihiganlkecbaaaEi
namespace Go.Lap
open Go.RowKit

/-- A cell, as it goes into an element: what was one's own is never written again. -/
inductive DnC (ob : Nat → Option (Nat × AObj)) : Cell → C1 → List (Nat × Nat × AObj) → Prop
  | v {x} : isPlain x = true → DnC ob (.v x) (.v x) []
  | nl {e} : DnC ob .nl (.sl e []) []
  | frz {e rows rows'} : rows = rows'.map (fun r => r.map C1.v) → DnC ob (.sl .frz e rows) (.sl e rows') []
  | emp {t e e'} : DnC ob (.sl t e []) (.sl e' []) []
  | arr {k s e off len rows rows'} : ob k = some (s, .arr e rows) → off + len ≤ rows.length → (rows.drop off).take len = rows'.map (fun r => r.map C1.v) → DnC ob (.mu k s e off len) (.sl e rows') [(k, s, .fz e rows)]
  | fz {k s e off len rows rows'} : ob k = some (s, .fz e rows) → off + len ≤ rows.length → (rows.drop off).take len = rows'.map (fun r => r.map C1.v) → DnC ob (.mu k s e off len) (.sl e rows') [(k, s, .fz e rows)]

inductive DnL (ob : Nat → Option (Nat × AObj)) : List Cell → List C1 → List (Nat × Nat × AObj) → Prop
  | nil : DnL ob [] [] []
  | cons {x y xs ys fr frs} : DnC ob x y fr → DnL ob xs ys frs → DnL ob (x :: xs) (y :: ys) (fr ++ frs)

def downs : List Cell → Option (List C1)
  | [] => some []
  | .v x :: r => if isPlain x then (downs r).map (C1.v x :: ·) else none
  | _ => none

theorem DnL.of_downs {ob : Nat → Option (Nat × AObj)} : ∀ {xs : List Cell} {ys : List C1}, downs xs = some ys → DnL ob xs ys []
  | [], ys, h => by simp [downs] at h; subst h; exact .nil
  | .v x :: r, ys, h => by
    simp only [downs] at h
    split at h
    · rename_i hp
      simp only [Option.map_eq_some_iff] at h
      obtain ⟨ys', h1, rfl⟩ := h
      exact .cons (.v hp) (DnL.of_downs h1)
    · cases h
  | .nl :: _, _, h => by simp [downs] at h
  | .sl .. :: _, _, h => by simp [downs] at h
  | .mu .. :: _, _, h => by simp [downs] at h

/-- The names in a list of frozen arrays. -/
def frU (fr : List (Nat × Nat × AObj)) : List (Nat × Option (Nat × AObj)) := fr.map fun x => (x.1, some (x.2.1, x.2.2))
def frT (fr : List (Nat × Nat × AObj)) : List (Nat × Bool) := fr.map fun x => (x.1, true)
def frS (fr : List (Nat × Nat × AObj)) (s : Nat) : Prop := ∃ k x, (k, s, x) ∈ fr

theorem mem_map_v {rows : List (List Value)} {x : C1} (h : x ∈ (rows.map fun r => r.map C1.v).flatten) : ∃ v ∈ rows.flatten, x = C1.v v := by
  rw [← List.map_flatten] at h
  obtain ⟨v, hv, rfl⟩ := List.mem_map.1 h
  exact ⟨v, hv, rfl⟩

/-- All plain cells of what is read are plain. -/
theorem plain_of_all2 {w : World} {G : Gh} {t : Tag} {rows : List (List Value)} {vs : List Value} (h : All2 (R1 w G t) (rows.map fun r => r.map C1.v).flatten vs) : vs = rows.flatten ∧ ∀ x ∈ rows.flatten, isPlain x = true := by
  rw [← List.map_flatten] at h
  generalize rows.flatten = l at h
  induction l generalizing vs with
  | nil => cases h; exact ⟨rfl, by simp⟩
  | cons x l ih =>
    cases h with
    | cons r h' =>
      obtain ⟨h1, h2⟩ := ih h'
      obtain ⟨h3, h4⟩ := r
      exact ⟨by rw [h1, h3], fun y hy => by
        rcases List.mem_cons.1 hy with e | e
        · rw [e]; exact h4
        · exact h2 y e⟩

section
variable {P : Program} {tt : Nat → Option TD} {o : Oper} {ev : Operand → TV} {ob : Nat → Option (Nat × AObj)} {f : Nat → Nat}

theorem ArrAt.part {w : World} {G : Gh} {s b e off len : Nat} {rows : List (List C1)} {rows' : List (List Value)} (hrl : ∀ r ∈ rows, r.length = e) (h : ArrAt w G s b e rows) (hle : off + len ≤ rows.length) (hp : (rows.drop off).take len = rows'.map fun r => r.map C1.v) :
    (∀ x ∈ rows'.flatten, isPlain x = true) ∧ CellsV w b (off * e) rows'.flatten := by
  obtain ⟨vs, T, h1, h2, h3, h4, h5⟩ := h
  have e1 := flatten_part hrl hle
  have h6 := (h5.drop (off * e)).take (len * e)
  rw [← e1, hp] at h6
  obtain ⟨h7, h8⟩ := plain_of_all2 h6
  refine ⟨h8, fun j x hj => ?_⟩
  rw [← h7] at hj
  rw [cell_of_row w b _ vs T (0, 0) h1]
  rw [List.getElem?_take] at hj
  split at hj
  · rw [List.getElem?_drop, List.getElem?_take] at hj
    split at hj
    · simpa using hj
    · cases hj
  · cases hj

theorem rows_len {len off : Nat} {rows : List (List C1)} {rows' : List (List Value)} (hle : off + len ≤ rows.length) (hp : (rows.drop off).take len = rows'.map fun r => r.map C1.v) : rows'.length = len := by
  have := congrArg List.length hp
  simp at this; omega

theorem DnC.R {w : World} {G : Gh} {x : Cell} {y : C1} {fr : List (Nat × Nat × AObj)} (h : DnC ob x y fr) (hw : Wf G w) (hobs : ∀ k s z, (k, s, z) ∈ fr → ∀ s' z', ob k = some (s', z') → G.used s' ∧ RObj w G s' z') {S : Nat → Prop} (hS : ∀ s, frS fr s → S s)
    {cv : Value} (hr : RC w G x cv) : R1 w (G.fr S) .frz y cv := by
  cases h with
  | v hp => exact ⟨hr, hp⟩
  | nl => have hr' : cv = .slice none 0 0 := hr; exact ⟨none, 0, hr', Nat.le_refl _, ⟨by simp, by simp⟩, fun h => (h rfl).elim⟩
  | frz hrows =>
    rename_i e rows rows'
    subst hrows
    obtain ⟨A, cap, h1, h2, h3, h4⟩ := hr
    by_cases hne : rows' = []
    · subst hne
      exact ⟨A, cap, by simpa using h1, by simp, ⟨by simp, by simp⟩, fun h => (h rfl).elim⟩
    · obtain ⟨b, q, hA, hi, hc⟩ := h4 (by simpa using hne)
      obtain ⟨news, hn, hcv⟩ := cells1_list hc
      obtain ⟨h5, h6⟩ := plain_of_all2 hn
      refine ⟨A, cap, by simpa using h1, by simpa using h2, ⟨fun r hr => ?_, h6⟩, fun _ => ⟨b, q, hA, ?_, h5 ▸ hcv⟩⟩
      · have := h3 (r.map C1.v) (List.mem_map.2 ⟨r, hr, rfl⟩)
        simpa using this
      · show (G.fr S).own b = .frz
        rw [fr_own, show G.own b = .frz from hi]
  | emp =>
    obtain ⟨A, cap, h1, h2, h3, h4⟩ := hr
    exact ⟨A, cap, by simpa using h1, by simp, ⟨by simp, by simp⟩, fun h => (h rfl).elim⟩
  | arr hO hle hp =>
    rename_i k s e off len rows rows'
    obtain ⟨A, cap, h1, h2, h3, h4, h5⟩ := hr
    obtain ⟨he, hrl, hcase⟩ := (hobs k s (.fz e rows) (by simp) s _ hO).2
    have hlen := rows_len hle hp
    have hrl' : ∀ r ∈ rows', r.length = e := fun r hr => by
      have : r.map C1.v ∈ (rows.drop off).take len := by rw [hp]; exact List.mem_map.2 ⟨r, hr, rfl⟩
      have := hrl _ (List.mem_of_mem_drop (List.mem_of_mem_take this))
      simpa using this
    by_cases hl0 : len = 0
    · have : rows' = [] := List.eq_nil_of_length_eq_zero (by omega)
      subst this
      exact ⟨A, cap, by simpa [hl0] using h1, by simp, ⟨by simp, by simp⟩, fun h => (h rfl).elim⟩
    · rcases h5 with h5 | ⟨b, hb, hA⟩
      · omega
      · rcases hcase with ⟨h6, _⟩ | ⟨b', hb', hown, harr⟩
        · subst h6; simp at hle; omega
        · rw [hb] at hb'; cases hb'
          obtain ⟨h7, h8⟩ := harr.part hrl hle hp
          refine ⟨A, cap, by rw [hlen]; exact h1, by omega, ⟨hrl', h7⟩, fun _ => ⟨b, off * e, hA, ?_, h8⟩⟩
          show (G.fr S).own b = .frz
          rw [fr_own, hown]
          exact if_pos (hS s ⟨k, .fz e rows, by simp⟩)
  | fz hO hle hp =>
    rename_i k s e off len rows rows'
    obtain ⟨A, cap, h1, h2, h3, h4, h5⟩ := hr
    obtain ⟨he, hrl, hcase⟩ := (hobs k s (.fz e rows) (by simp) s _ hO).2
    have hlen := rows_len hle hp
    have hrl' : ∀ r ∈ rows', r.length = e := fun r hr => by
      have : r.map C1.v ∈ (rows.drop off).take len := by rw [hp]; exact List.mem_map.2 ⟨r, hr, rfl⟩
      have := hrl _ (List.mem_of_mem_drop (List.mem_of_mem_take this))
      simpa using this
    by_cases hl0 : len = 0
    · have : rows' = [] := List.eq_nil_of_length_eq_zero (by omega)
      subst this
      exact ⟨A, cap, by simpa [hl0] using h1, by simp, ⟨by simp, by simp⟩, fun h => (h rfl).elim⟩
    · rcases h5 with h5 | ⟨b, hb, hA⟩
      · omega
      · rcases hcase with ⟨h6, _⟩ | ⟨b', hb', hown, harr⟩
        · subst h6; simp at hle; omega
        · rw [hb] at hb'; cases hb'
          obtain ⟨h7, h8⟩ := harr.part hrl hle hp
          refine ⟨A, cap, by rw [hlen]; exact h1, by omega, ⟨hrl', h7⟩, fun _ => ⟨b, off * e, hA, ?_, h8⟩⟩
          show (G.fr S).own b = .frz
          rw [fr_own, hown]

theorem DnL.R {w : World} {G : Gh} {S : Nat → Prop} (hw : Wf G w) : ∀ {xs : List Cell} {ys : List C1} {fr : List (Nat × Nat × AObj)}, DnL ob xs ys fr → (∀ k s z, (k, s, z) ∈ fr → ∀ s' z', ob k = some (s', z') → G.used s' ∧ RObj w G s' z') → (∀ s, frS fr s → S s) →
    ∀ {vs : List Value}, All2 (RC w G) xs vs → All2 (R1 w (G.fr S) .frz) ys vs
  | _, _, _, .nil, _, _, _, .nil => .nil
  | _, _, _, .cons h hs, hobs, hS, _, .cons r rs =>
    .cons (h.R hw (fun k s z hm => hobs k s z (List.mem_append_left _ hm)) (fun s ⟨k, z, hm⟩ => hS s ⟨k, z, List.mem_append_left _ hm⟩) r)
      (DnL.R hw hs (fun k s z hm => hobs k s z (List.mem_append_right _ hm)) (fun s ⟨k, z, hm⟩ => hS s ⟨k, z, List.mem_append_right _ hm⟩) rs)

/-- What is frozen is told so, and was the array of its key. -/
theorem DnC.fr_eq {x : Cell} {y : C1} {fr : List (Nat × Nat × AObj)} (h : DnC ob x y fr) : ∀ k s z, (k, s, z) ∈ fr → ∃ e rows, z = .fz e rows ∧ (ob k = some (s, .arr e rows) ∨ ob k = some (s, .fz e rows)) := by
  cases h <;> intro k s z hm <;> simp at hm
  · obtain ⟨rfl, rfl, rfl⟩ := hm; exact ⟨_, _, rfl, .inl (by assumption)⟩
  · obtain ⟨rfl, rfl, rfl⟩ := hm; exact ⟨_, _, rfl, .inr (by assumption)⟩

theorem DnL.fr_eq : ∀ {xs : List Cell} {ys : List C1} {fr : List (Nat × Nat × AObj)}, DnL ob xs ys fr → ∀ k s z, (k, s, z) ∈ fr → ∃ e rows, z = .fz e rows ∧ (ob k = some (s, .arr e rows) ∨ ob k = some (s, .fz e rows))
  | _, _, _, .nil, k, s, z, hm => by simp at hm
  | _, _, _, .cons h hs, k, s, z, hm => by
    rcases List.mem_append.1 hm with hm | hm
    · exact h.fr_eq k s z hm
    · exact DnL.fr_eq hs k s z hm

/-- The frozen arrays, as they are told. -/
theorem frz_obj {w : World} {G : Gh} {S : Nat → Prop} {s : Nat} (hw : Wf G w) (hS : S s) {e : Nat} {rows : List (List C1)} (h : RObj w G s (.arr e rows) ∨ RObj w G s (.fz e rows)) (hu : G.used s) : RObj w (G.fr S) s (.fz e rows) := by
  have hev : Evol (fun _ => True) w G w (G.fr S) := fr_evol fun _ _ => trivial
  rcases h with ⟨he, hrl, h⟩ | ⟨he, hrl, h⟩
  · refine ⟨he, hrl, h.imp (fun ⟨a, b, c⟩ => ⟨a, b, c⟩) fun ⟨b, h1, h2, h3⟩ => ⟨b, h1, ?_, h3.mono hw hev hu rfl⟩⟩
    rw [fr_own, h2]; exact if_pos hS
  · refine ⟨he, hrl, h.imp (fun ⟨a, b, c⟩ => ⟨a, b, c⟩) fun ⟨b, h1, h2, h3⟩ => ⟨b, h1, ?_, h3.mono hw hev hu rfl⟩⟩
    rw [fr_own, h2]

/-! ### make -/
inductive Z1 : Value → C1 → Prop
  | v {x} : isPlain x = true → Z1 x (.v x)
  | nl {e} : Z1 (.slice none 0 0) (.sl e [])

theorem Z1.R (w : World) (G : Gh) {v : Value} {c : C1} (h : Z1 v c) : R1 w G .frz c v := by
  cases h with
  | v h => exact ⟨rfl, h⟩
  | nl => exact ⟨none, 0, rfl, Nat.le_refl _, ⟨by simp, by simp⟩, fun h => (h rfl).elim⟩

theorem Z1.all (w : World) (G : Gh) : ∀ {l : List Value} {zr : List C1}, All2 Z1 l zr → All2 (R1 w G .frz) zr l
  | _, _, .nil => .nil
  | _, _, .cons h hs => .cons (h.R w G) (Z1.all w G hs)

theorem made_flat (z : Array Value) (hz : 0 < z.size) : ∀ n, (madeCells z (n * z.size)).toList = (List.replicate n z.toList).flatten := by
  intro n
  apply List.ext_getElem?
  intro j
  have e1 : (madeCells z (n * z.size)).toList[j]? = if j < n * z.size then some (z[j % z.size]!) else none := by
    unfold madeCells
    by_cases h : j < n * z.size
    · simp [h]
    · simp [h]
  rw [e1]
  by_cases h : j < n * z.size
  · rw [if_pos h]
    have hd : j / z.size < n := (Nat.div_lt_iff_lt_mul hz).2 h
    have hm : j % z.size < z.size := Nat.mod_lt _ hz
    have h1 : (List.replicate n z.toList)[j / z.size]? = some z.toList := by simp [hd]
    have h2 : z.toList[j % z.size]? = some (z[j % z.size]!) := by simp [hm]
    have := flatten_get (e := z.size) (fun r hr => by rw [List.eq_of_mem_replicate hr]; simp) h1 h2
    rw [Nat.div_add_mod'] at this
    exact this.symm
  · rw [if_neg h]
    symm
    apply List.getElem?_eq_none
    rw [flatten_length (e := z.size) (fun r hr => by rw [List.eq_of_mem_replicate hr]; simp)]
    simp; omega

theorem op_make (hT : TyOK P tt) {zr : List C1} {t el e key n : Nat} {x y : Operand} {kl kc : IntKind} {d de : TD} (ho : o.op = .makeSlice t x y) (hx : ev x = .one (.c (.v (.int kl (n : Int))))) (hy : ev y = .one (.c (.v (.int kc (n : Int)))))
    (ht : tt t = some d) (hk : d.k = .slc el) (hte : tt el = some de) (hsz : Nat.beq de.size e = true) (he : Nat.ble 1 e = true) (hby : Nat.ble 1 de.bytes = true) (hb : n * de.bytes ≤ 140737488355328) (hzr : All2 Z1 de.zero zr) :
    OpOK P o ev ob f ⟨.one (.c (.mu key (f 0) e 0 n)), [(key, some (f 0, .arr e (List.replicate n zr)))], [(key, true)]⟩ := by
  refine ⟨⟨by simp, fun k => by simp⟩, fun G a w hw hev _ hf => ?_⟩
  have h1 := hev x (by simp [ho, Op.operands])
  have h2 := hev y (by simp [ho, Op.operands])
  rw [hx] at h1; rw [hy] at h2
  have h1' : a.eval x = .int kl (n : Int) := h1
  have h2' : a.eval y = .int kc (n : Int) := h2
  have hsz' : de.size = e := Nat.eq_of_beq_eq_true hsz
  have he' : 1 ≤ e := Nat.le_of_ble_eq_true he
  obtain ⟨i, z, hi, hs1, hs2, hz, hzc⟩ := (hT el de hte).info
  have hd := hT el de hte
  have hn : n ≤ 140737488355328 := Nat.le_trans (Nat.le_mul_of_pos_right _ (Nat.le_of_ble_eq_true hby)) hb
  have hbi : (i.bytes : Int) * (n : Int) ≤ 281474976710656 := by
    have : n * i.bytes ≤ 140737488355328 := by rw [hs2]; exact hb
    have h : ((n * i.bytes : Nat) : Int) ≤ 140737488355328 := by omega
    rw [Int.natCast_mul] at h
    rw [Int.mul_comm]; omega
  have hrun := run_make (P := P) w t el i z (hT t d ht |>.und_slice hk) hi hz kl kc n n (by omega) (by omega) hbi (by omega)
  simp only [Int.toNat_natCast] at hrun
  have hzs : z.cells.size = e := by rw [← hsz', ← hd.zlen, ← hzc]; simp
  have hcells : (madeCells z.cells (n * i.size)).toList = (List.replicate n de.zero).flatten := by
    rw [hs1, hsz', ← hzs, made_flat z.cells (by omega), hzc]
  have hex : (execOp a.eval o).run P w = .ok (.value (.slice (some ⟨w.heap.size, 0, none⟩) n n)) (w.alloc (.cells (madeCells z.cells (n * i.size)).toList.toArray el)) := by
    simp [execOp, ho, h1', h2', hrun]
  have hrl : ∀ r ∈ List.replicate n zr, r.length = e := fun r hr => by rw [List.eq_of_mem_replicate hr, ← hzr.length, hd.zlen, hsz']
  have hs := hf.un 0
  obtain ⟨k1, k2, k3⟩ := newArr (U := TW ob [(key, true)]) (T := el) (rows := List.replicate n zr) (cells := (madeCells z.cells (n * i.size)).toList) (cap := n) hw hs he' hrl (by simp) (by simp only [maxLen]; omega)
    (by rw [hcells, flatten_length (e := e) (fun r hr => by rw [List.eq_of_mem_replicate hr, hd.zlen, hsz'])]; simp)
    (by
      rw [hcells, List.length_replicate, List.take_of_length_le (by rw [flatten_length (e := e) (fun r hr => by rw [List.eq_of_mem_replicate hr, hd.zlen, hsz'])]; simp)]
      have : ∀ n, All2 (R1 w G .frz) (List.replicate n zr).flatten (List.replicate n de.zero).flatten := by
        intro n
        induction n with
        | zero => exact .nil
        | succ n ih => simp only [List.replicate_succ, List.flatten_cons]; exact (Z1.all w G hzr).append ih
      exact this n) w (.inl rfl)
  unfold Oper.wp
  rw [hex]
  refine ⟨_, G.put (f 0) w.heap.size n (.obj (f 0)), rfl, ⟨_, n, rfl, Nat.le_refl _, .inr rfl, by simp [Gh.put], .inr ⟨w.heap.size, by simp [Gh.put], by simp⟩⟩, k1, k2, fun s h => h.imp id fun h => ⟨0, h⟩, ?_, ?_⟩
  · intro k' s' x' hx'
    simp at hx'
    obtain ⟨rfl, rfl, rfl⟩ := hx'
    exact ⟨k3, .inr rfl, .inl ⟨0, rfl⟩⟩
  · intro k1 k2 s' x' x'' hx' hx''
    simp at hx' hx''
    rw [hx'.1, hx''.1]

/-! ### Slice literals -/
theorem op_bs0 (hT : TyOK P tt) {t el e key : Nat} {d de : TD} (ho : o.op = .buildSlice t 0 #[]) (ht : tt t = some d) (hk : d.k = .slc el) (hte : tt el = some de) (hsz : Nat.beq de.size e = true) (he : Nat.ble 1 e = true) :
    OpOK P o ev ob f ⟨.one (.c (.mu key (f 0) e 0 0)), [(key, some (f 0, .arr e []))], [(key, true)]⟩ := by
  refine ⟨⟨by simp, fun k => by simp⟩, fun G a w hw hev _ hf => ?_⟩
  have hd := hT el de hte
  have h1 := (hT t d ht).run_slice hk w
  have h2 := hd.run_size w
  have hex : (execOp a.eval o).run P w = .ok (.value (.slice (some ⟨w.heap.size, 0, none⟩) 0 0)) (w.alloc (.cells ([] : List Value).toArray el)) := by
    simp [execOp, ho, Instr.buildSlice, h1, h2, Instr.fill, newRow, Array.range_zero']
  have hs := hf.un 0
  obtain ⟨k1, k2, k3⟩ := newArr (U := TW ob [(key, true)]) (T := el) (rows := []) (cells := []) (cap := 0) hw hs (Nat.le_of_ble_eq_true he) (by simp) (by simp) (by simp [maxLen]) (by simp) (by simpa using All2.nil) w (.inl rfl)
  unfold Oper.wp
  rw [hex]
  refine ⟨_, G.put (f 0) w.heap.size 0 (.obj (f 0)), rfl, ⟨_, 0, rfl, Nat.le_refl _, .inr rfl, by simp [Gh.put], .inl rfl⟩, k1, k2, fun s h => h.imp id fun h => ⟨0, h⟩, ?_, ?_⟩
  · intro k' s' x' hx'
    simp at hx'
    obtain ⟨rfl, rfl, rfl⟩ := hx'
    exact ⟨k3, .inr rfl, .inl ⟨0, rfl⟩⟩
  · intro k1 k2 s' x' x'' hx' hx''
    simp at hx' hx''
    rw [hx'.1, hx''.1]

/-- The elements of a literal, as rows. -/
inductive LRows (ob : Nat → Option (Nat × AObj)) (ev : Operand → TV) (e : Nat) : List Operand → List (List C1) → List (Nat × Nat × AObj) → Prop
  | nil : LRows ob ev e [] [] []
  | cons {x xs v cs r rows fr frs} : ev x = .one v → valCells v = some cs → DnL ob cs r fr → Nat.beq r.length e = true → LRows ob ev e xs rows frs → LRows ob ev e (x :: xs) (r :: rows) (fr ++ frs)

theorem LRows.R {w : World} {G : Gh} {a : Act} {e : Nat} {S : Nat → Prop} (hw : Wf G w) : ∀ {xs : List Operand} {rows : List (List C1)} {fr : List (Nat × Nat × AObj)}, LRows ob ev e xs rows fr → (∀ x ∈ xs, RTV w G (ev x) (a.eval x)) →
    (∀ k s z, (k, s, z) ∈ fr → ∀ s' z', ob k = some (s', z') → G.used s' ∧ RObj w G s' z') → (∀ s, frS fr s → S s) →
    rows.length = xs.length ∧ (∀ r ∈ rows, r.length = e) ∧ (∀ v ∈ xs.map a.eval, v.cells.size = e) ∧ All2 (R1 w (G.fr S) .frz) rows.flatten ((xs.map a.eval).flatMap fun v => v.cells.toList)
  | _, _, _, .nil, _, _, _ => ⟨rfl, by simp, by simp, .nil⟩
  | _, _, _, .cons (x := x) (r := r) h1 h2 h3 h4 h5, hev, hobs, hS => by
    obtain ⟨g1, g2, g3, g4⟩ := LRows.R (a := a) (S := S) hw h5 (fun y hy => hev y (by simp [hy])) (fun k s z hm => hobs k s z (List.mem_append_right _ hm)) (fun s ⟨k, z, hm⟩ => hS s ⟨k, z, List.mem_append_right _ hm⟩)
    have hx := hev x (by simp)
    rw [h1] at hx
    have hc := valCells_R h2 hx
    have hr := DnL.R (S := S) hw h3 (fun k s z hm => hobs k s z (List.mem_append_left _ hm)) (fun s ⟨k, z, hm⟩ => hS s ⟨k, z, List.mem_append_left _ hm⟩) hc
    have he : r.length = e := Nat.eq_of_beq_eq_true h4
    refine ⟨by simp [g1], ?_, ?_, ?_⟩
    · intro y hy
      rcases List.mem_cons.1 hy with e' | e'
      · rw [e']; exact he
      · exact g2 y e'
    · intro v hv
      simp only [List.map_cons, List.mem_cons] at hv
      rcases hv with e' | e'
      · rw [e']; have := hr.length; rw [he] at this; simpa using this.symm
      · exact g3 v e'
    · simp only [List.flatten_cons, List.map_cons, List.flatMap_cons]
      exact hr.append g4

theorem LRows.fr_eq {e : Nat} : ∀ {xs : List Operand} {rows : List (List C1)} {fr : List (Nat × Nat × AObj)}, LRows ob ev e xs rows fr → ∀ k s z, (k, s, z) ∈ fr → ∃ e rows, z = .fz e rows ∧ (ob k = some (s, .arr e rows) ∨ ob k = some (s, .fz e rows))
  | _, _, _, .nil, k, s, z, hm => by simp at hm
  | _, _, _, .cons _ _ h3 _ h5, k, s, z, hm => by
    rcases List.mem_append.1 hm with hm | hm
    · exact h3.fr_eq k s z hm
    · exact LRows.fr_eq h5 k s z hm

def nodupB : List Nat → Bool
  | [] => true
  | x :: l => !l.contains x && nodupB l

theorem nodupB_spec : ∀ {l : List Nat}, nodupB l = true → l.Nodup
  | [], _ => List.nodup_nil
  | x :: l, h => by
    simp only [nodupB, Bool.and_eq_true, Bool.not_eq_true'] at h
    exact List.nodup_cons.2 ⟨fun hm => by have := h.1; simp [hm] at this, nodupB_spec h.2⟩

theorem op_bs (hT : TyOK P tt) {t el e key n : Nat} {parts : Array (Nat × Operand)} {xs : List Operand} {rows : List (List C1)} {fr : List (Nat × Nat × AObj)} {d de : TD} (ho : o.op = .buildSlice t n parts) (hxs : parts.toList.map (·.2) = xs) (hparts : parts.toList = (xs.zipIdx 0).map fun x => (x.2, x.1)) (hn : Nat.beq xs.length n = true)
    (hr : LRows ob ev e xs rows fr) (ht : tt t = some d) (hk : d.k = .slc el) (hte : tt el = some de) (hsz : Nat.beq de.size e = true) (he : Nat.ble 1 e = true) (hn1 : Nat.ble 1 n = true) (hsmall : Nat.ble (n * e) 16777216 = true) (hnd : nodupB (key :: fr.map (·.1)) = true) :
    OpOK P o ev ob f ⟨.one (.c (.mu key (f 0) e 0 n)), (key, some (f 0, .arr e rows)) :: frU fr, (key, true) :: frT fr⟩ := by
  have hnd' := nodupB_spec hnd
  have hkeys : ((key, some (f 0, AObj.arr e rows)) :: frU fr).map (·.1) = key :: fr.map (·.1) := by simp [frU, List.map_map, Function.comp_def]
  refine ⟨⟨by rw [hkeys]; exact hnd', fun k => ?_⟩, fun G a w hw hev hobs hf => ?_⟩
  · rw [hkeys]
    simp [frT]
  have hsz' : de.size = e := Nat.eq_of_beq_eq_true hsz
  have he' : 1 ≤ e := Nat.le_of_ble_eq_true he
  have hn' : xs.length = n := Nat.eq_of_beq_eq_true hn
  have hn1' : 1 ≤ n := Nat.le_of_ble_eq_true hn1
  have hsm : n * e ≤ 16777216 := Nat.le_of_ble_eq_true hsmall
  have hd := hT el de hte
  obtain ⟨i, z, hi, hs1, hs2, hz, hzc⟩ := hd.info
  have hev' : ∀ x ∈ xs, RTV w G (ev x) (a.eval x) := fun x hx => hev x (by
    subst hxs
    simp only [ho, Op.operands]
    simpa using hx)
  have hfrm : ∀ k s z, (k, s, z) ∈ fr → (k, true) ∈ (key, true) :: frT fr := fun k s z hm => List.mem_cons_of_mem _ (List.mem_map.2 ⟨_, hm, rfl⟩)
  have hobs' : ∀ k s z, (k, s, z) ∈ fr → ∀ s' z', ob k = some (s', z') → G.used s' ∧ RObj w G s' z' := fun k s z hm s' z' h => hobs.objs k true (hfrm k s z hm) s' z' h
  obtain ⟨g1, g2, g3, g4⟩ := LRows.R (a := a) (S := frS fr) hw hr hev' hobs' (fun s h => h)
  have hfill := Great.fill_whole (s := e) (by omega) (xs.map a.eval) ((Array.range (n * i.size)).map (z.cells[· % z.cells.size]!)) g3 (by simp [hn', hs1, hsz'])
  have hrun := run_buildSlice (P := P) w t el n (parts.map fun (i, x) => (i, a.eval x)) _ i z ((hT t d ht).und_slice hk) hi hz (by rw [hs1, hsz']; omega) (by rw [hs1, hsz']; have := Nat.mul_pos hn1' he'; omega)
    (by
      have : (parts.map fun (i, x) => (i, a.eval x)).toList = ((xs.map a.eval).zipIdx 0).map fun x => (x.2, x.1) := by
        rw [Array.toList_map, hparts, List.zipIdx_map, List.map_map, List.map_map]; rfl
      rw [this, hs1, hsz']; rw [hs1, hsz'] at hfill; exact hfill)
  have hex : (execOp a.eval o).run P w = .ok (.value (.slice (some ⟨w.heap.size, 0, none⟩) n n)) (w.alloc (.cells ((xs.map a.eval).flatMap fun v => v.cells.toList).toArray el)) := by
    simp only [execOp, ho, Sem.run_bind, hrun, Result.andThen_ok, Sem.run_pure]
  have hs := hf.un 0
  have hTW : ∀ s, frS fr s → TW ob ((key, true) :: frT fr) s := fun s ⟨k, z, hm⟩ => by
    obtain ⟨e', rows', _, h⟩ := hr.fr_eq k s z hm
    rcases h with h | h
    · exact ⟨k, _, hfrm k s z hm, h⟩
    · exact ⟨k, _, hfrm k s z hm, h⟩
  have hwf1 := fr_wf (S := frS fr) hw
  have hev1 : Evol (TW ob ((key, true) :: frT fr)) w G w (G.fr (frS fr)) := fr_evol hTW
  obtain ⟨k1, k2, k3⟩ := newArr (U := fun _ => False) (T := el) (rows := rows) (cells := (xs.map a.eval).flatMap fun v => v.cells.toList) (cap := n) hwf1 hs he' g2 (by omega) (by simp only [maxLen]; have := Nat.le_mul_of_pos_right n he'; omega)
    (by rw [← g4.length, flatten_length g2, g1, hn']) (by rw [List.take_of_length_le (by rw [← g4.length, flatten_length g2]; exact Nat.le_refl _)]; exact g4) w (.inl rfl)
  unfold Oper.wp
  rw [hex]
  refine ⟨_, (G.fr (frS fr)).put (f 0) w.heap.size n (.obj (f 0)), rfl, ⟨_, n, rfl, Nat.le_refl _, .inr rfl, by simp [Gh.put], .inr ⟨w.heap.size, by simp [Gh.put], by simp⟩⟩, k1, hev1.trans (k2.mono fun _ h => h.elim), fun s h => h.imp id fun h => ⟨0, h⟩, ?_, ?_⟩
  · intro k' s' x' hx'
    rcases List.mem_cons.1 hx' with e | e
    · cases e; exact ⟨k3, .inr rfl, .inl ⟨0, rfl⟩⟩
    · obtain ⟨⟨k2', s2, z2⟩, hm, e⟩ := List.mem_map.1 e
      simp at e
      obtain ⟨rfl, rfl, rfl⟩ := e
      obtain ⟨e', rows', rfl, h⟩ := hr.fr_eq k2' s2 z2 hm
      have ho1 : G.used s2 ∧ (RObj w G s2 (.arr e' rows') ∨ RObj w G s2 (.fz e' rows')) := by
        rcases h with h | h
        · have := hobs' k2' s2 _ hm s2 _ h; exact ⟨this.1, .inl this.2⟩
        · have := hobs' k2' s2 _ hm s2 _ h; exact ⟨this.1, .inr this.2⟩
      have ho2 := frz_obj (S := frS fr) hw ⟨k2', _, hm⟩ ho1.2 ho1.1
      exact ⟨ho2.mono hwf1 k2 ho1.1 (fun h => h), .inl ho1.1, .inr (hTW _ ⟨k2', _, hm⟩)⟩
  · intro k1' k2' s' x' x'' hx' hx''
    have hfr : ∀ k s x, (k, some (s, x)) ∈ frU fr → G.used s ∧ (k, true) ∈ (key, true) :: frT fr ∧ ∃ z, ob k = some (s, z) := by
      intro k s x hx
      obtain ⟨⟨k2', s2, z2⟩, hm, e⟩ := List.mem_map.1 hx
      simp at e
      obtain ⟨rfl, rfl, rfl⟩ := e
      obtain ⟨e', rows', rfl, h⟩ := hr.fr_eq k2' s2 z2 hm
      rcases h with h | h
      · exact ⟨(hobs' k2' s2 _ hm s2 _ h).1, hfrm _ _ _ hm, _, h⟩
      · exact ⟨(hobs' k2' s2 _ hm s2 _ h).1, hfrm _ _ _ hm, _, h⟩
    rcases List.mem_cons.1 hx' with e | e <;> rcases List.mem_cons.1 hx'' with e' | e'
    · cases e; cases e'; rfl
    · cases e; exact (hs (hfr _ _ _ e').1).elim
    · cases e'; exact (hs (hfr _ _ _ e).1).elim
    · obtain ⟨_, m1, z1, h1⟩ := hfr _ _ _ e
      obtain ⟨_, m2, z2, h2⟩ := hfr _ _ _ e'
      exact hobs.inj k1' k2' true true m1 m2 s' z1 z2 h1 h2
end
end Go.Lap
