/- The engine's sixth part: memory: new boxes, loads, stores. -/
import Derived.Test.YtihiganlkecbaaaEe
import Derived.Laws.Tables
import Derived.Laws.CopyRow
import Derived.Great.BuildSlice
namespace Go.Lap
open Go.RowKit

/-! ### Lists -/
def setL {α : Type} : Nat → List α → List α → List α
  | 0, xs, cs => xs ++ cs.drop xs.length
  | n + 1, xs, c :: cs => c :: setL n xs cs
  | _ + 1, _, [] => []

theorem setL_eq {α : Type} : ∀ (n : Nat) (xs cs : List α), n ≤ cs.length → setL n xs cs = cs.take n ++ xs ++ cs.drop (n + xs.length)
  | 0, xs, cs, _ => by simp [setL]
  | n + 1, xs, c :: cs, h => by
    simp only [setL, setL_eq n xs cs (by simpa using h), List.take_succ_cons, List.cons_append]
    rw [show n + 1 + xs.length = (n + xs.length) + 1 by omega, List.drop_succ_cons]
  | n + 1, xs, [], h => by simp at h

theorem setL_length {α : Type} (n : Nat) (xs cs : List α) (h : n + xs.length ≤ cs.length) : (setL n xs cs).length = cs.length := by
  rw [setL_eq n xs cs (by omega)]
  simp only [List.length_append, List.length_take, List.length_drop]
  omega

theorem setL_cons {α : Type} : ∀ (n : Nat) (c : α) (xs cs : List α), n + 1 + xs.length ≤ cs.length → setL n (c :: xs) cs = setL (n + 1) xs (cs.set n c)
  | 0, c, xs, [], h => by simp at h
  | 0, c, xs, d :: cs, _ => by simp [setL]
  | n + 1, c, xs, [], h => by simp at h
  | n + 1, c, xs, d :: cs, h => by
    simp only [setL, List.set_cons_succ, List.cons.injEq, true_and]
    exact setL_cons n c xs cs (by simp at h; omega)

theorem All2.setL {α β : Type} {R : α → β → Prop} : ∀ (n : Nat) {xs cs : List α} {us vs : List β}, All2 R xs us → All2 R cs vs → All2 R (setL n xs cs) (setL n us vs)
  | 0, xs, cs, us, vs, h, h' => by
    simp only [Lap.setL]
    rw [h.length]
    exact h.append (h'.drop _)
  | n + 1, xs, _, us, _, h, .nil => .nil
  | n + 1, xs, _, us, _, h, .cons r h' => .cons r (All2.setL n h h')

theorem flatten_length {α : Type} {e : Nat} : ∀ {rows : List (List α)}, (∀ r ∈ rows, r.length = e) → rows.flatten.length = rows.length * e
  | [], _ => by simp
  | r :: rows, h => by
    have h1 := h r (by simp)
    have h2 := flatten_length (rows := rows) fun x hx => h x (by simp [hx])
    simp only [List.flatten_cons, List.length_append, List.length_cons, h1, h2, Nat.add_mul]
    omega

theorem flatten_get {α : Type} {e : Nat} : ∀ {rows : List (List α)} {i j : Nat} {r : List α} {x : α}, (∀ r ∈ rows, r.length = e) → rows[i]? = some r → r[j]? = some x → rows.flatten[i * e + j]? = some x
  | [], _, _, _, _, _, h, _ => by simp at h
  | r0 :: rows, i, j, r, x, hl, hi, hj => by
    have h0 := hl r0 (by simp)
    cases i with
    | zero =>
      simp at hi; subst hi
      have : j < r0.length := (List.getElem?_eq_some_iff.1 hj).1
      simpa [List.getElem?_append, this] using hj
    | succ i =>
      have := flatten_get (rows := rows) (i := i) (j := j) (fun x hx => hl x (by simp [hx])) (by simpa using hi) hj
      rw [List.flatten_cons, List.getElem?_append_right (by rw [h0, Nat.add_mul]; omega), h0, show (i + 1) * e + j - e = i * e + j by rw [Nat.add_mul]; omega]
      exact this

theorem setL_append_left {α : Type} : ∀ (n : Nat) (ys r t : List α), n + ys.length ≤ r.length → setL n ys (r ++ t) = setL n ys r ++ t
  | 0, ys, r, t, h => by simp only [setL, List.append_assoc]; congr 1; rw [List.drop_append_of_le_length (by omega)]
  | n + 1, ys, [], t, h => by simp at h
  | n + 1, ys, c :: r, t, h => by simp only [setL, List.cons_append]; rw [setL_append_left n ys r t (by simp at h; omega)]

theorem setL_append_right {α : Type} (m : Nat) (ys t : List α) : ∀ (r : List α), setL (r.length + m) ys (r ++ t) = r ++ setL m ys t
  | [] => by simp
  | c :: r => by
    simp only [List.length_cons, List.cons_append]
    rw [show r.length + 1 + m = (r.length + m) + 1 by omega]
    simp only [setL, setL_append_right m ys t r]

theorem flatten_set {α : Type} {e : Nat} : ∀ {rows : List (List α)} {i off : Nat} {r ys : List α}, (∀ r ∈ rows, r.length = e) → rows[i]? = some r → off + ys.length ≤ e →
    (rows.set i (setL off ys r)).flatten = setL (i * e + off) ys rows.flatten
  | [], _, _, _, _, _, h, _ => by simp at h
  | r0 :: rows, 0, off, r, ys, hl, hi, ho => by
    simp at hi; subst hi
    simp only [List.set_cons_zero, List.flatten_cons, Nat.zero_mul, Nat.zero_add]
    rw [setL_append_left off ys r0 _ (by rw [hl r0 (by simp)]; exact ho)]
  | r0 :: rows, i + 1, off, r, ys, hl, hi, ho => by
    have h0 := hl r0 (by simp)
    simp only [List.set_cons_succ, List.flatten_cons]
    rw [flatten_set (rows := rows) (fun x hx => hl x (by simp [hx])) (by simpa using hi) ho]
    rw [show (i + 1) * e + off = r0.length + (i * e + off) by rw [h0, Nat.add_mul]; omega, setL_append_right]

/-! ### New boxes -/
theorem alloc_old (w : World) (o : Obj) {b : Nat} (hb : b < w.heap.size) : (w.alloc o).heap[b]? = w.heap[b]? := by
  show (w.heap.push o)[b]? = _
  rw [Array.getElem?_push, if_neg (by omega)]
theorem alloc_new (w : World) (o : Obj) : (w.alloc o).heap[w.heap.size]? = some o := by
  show (w.heap.push o)[w.heap.size]? = _
  simp
def Gh.put (G : Gh) (s b c : Nat) (ow : Owner) : Gh :=
  ⟨fun x => if x = s then some b else G.loc x, fun x => if x = s then c else G.cap x, fun x => if x = b then ow else G.own x, fun x => G.used x ∨ x = s⟩

theorem put_wf {G : Gh} {w w' : World} {s c : Nat} (hw : Wf G w) (hs : ¬ G.used s) (hz : w'.heap.size = w.heap.size + 1) : Wf (G.put s w.heap.size c (.obj s)) w' := by
  refine ⟨?_, ?_, ?_, ?_⟩
  · intro x b hx
    simp only [Gh.put] at hx ⊢
    split at hx
    · rename_i e; cases hx; exact ⟨by omega, .inr e⟩
    · have := hw.lt x b hx; exact ⟨by omega, .inl this.2⟩
  · intro b x hx
    simp only [Gh.put] at hx ⊢
    split at hx
    · rename_i e; cases hx; simp [e]
    · rename_i e
      have h1 := hw.of_own b x hx
      have : x ≠ s := fun h => hs (h ▸ (hw.lt x b h1).2)
      rw [if_neg this]; exact h1
  · intro b hb
    simp only [Gh.put]
    rw [if_neg (by omega)]
    exact hw.past b (by omega)
  · obtain ⟨N, hN⟩ := hw.fin
    exact ⟨max N (s + 1), fun x hx => by
      rcases hx with h | h
      · have := hN x h; omega
      · omega⟩

theorem put_evol {G : Gh} {w w' : World} {s c : Nat} {ow : Owner} (hs : ¬ G.used s) (h1 : w'.os = w.os) (h2 : w'.tape = w.tape) (h3 : w'.output = w.output) (hz : w.heap.size ≤ w'.heap.size) (hb : ∀ b, b < w.heap.size → w'.heap[b]? = w.heap[b]?)
    (U : Nat → Prop) : Evol U w G w' (G.put s w.heap.size c ow) := by
  refine ⟨h1, h2, h3, hz, fun x hx => .inl hx, ?_, ?_, ?_⟩
  · intro x hx
    have : x ≠ s := fun h => hs (h ▸ hx)
    simp [Gh.put, this]
  · intro x hx
    have : x ≠ s := fun h => hs (h ▸ hx)
    simp [Gh.put, this]
  · intro b hb' _
    have : b ≠ w.heap.size := by omega
    exact ⟨by simp [Gh.put, this], hb b hb'⟩

def valCells : V0 → Option (List Cell)
  | .c (.v x) => if isPlain x then some [.v x] else none
  | .c x => some [x]
  | .ag xs => some xs
  | _ => none

theorem isPlain_cells {x : Value} (h : isPlain x = true) : x.cells = #[x] := by cases x <;> first | rfl | simp [isPlain] at h

theorem valCells_R {w : World} {G : Gh} {v : V0} {xs : List Cell} {cv : Value} (h : valCells v = some xs) (hr : RV0 w G v cv) : All2 (RC w G) xs cv.cells.toList := by
  cases v with
  | c x =>
    have hr' : RC w G x cv := hr
    cases x with
    | v x =>
      simp only [valCells] at h
      split at h
      · rename_i hp
        cases h
        have e : cv = x := hr'
        subst e
        rw [isPlain_cells hp]; exact .cons rfl .nil
      · cases h
    | nl => simp [valCells] at h; subst h; have e : cv = .slice none 0 0 := hr'; subst e; exact .cons rfl .nil
    | sl t e rows =>
      simp [valCells] at h; subst h
      have hr2 := hr'
      obtain ⟨A, cap, e1, _⟩ := hr2
      subst e1
      exact .cons hr' .nil
    | mu k s e off len =>
      simp [valCells] at h; subst h
      have hr2 := hr'
      obtain ⟨A, cap, e1, _⟩ := hr2
      subst e1
      exact .cons hr' .nil
  | ag ys =>
    simp [valCells] at h; subst h
    obtain ⟨vs, e, h2⟩ := hr
    subst e
    simpa [Value.cells] using h2
  | pt k s off => simp [valCells] at h
  | pa k s e i off => simp [valCells] at h
  | pi t xs => simp [valCells] at h
  | mp k s => simp [valCells] at h

section
variable {P : Program} {tt : Nat → Option TD} {o : Oper} {ev : Operand → TV} {ob : Nat → Option (Nat × AObj)} {f : Nat → Nat}

/-- A new box. -/
theorem op_new {key : Nat} {cs : List Cell}
    (h : ∀ (G : Gh) (a : Act) (w : World), Wf G w → (∀ x ∈ o.op.operands.toList, RTV w G (ev x) (a.eval x)) → ∃ vs T, (execOp a.eval o).run P w = .ok (.value (.pointer (some ⟨w.heap.size, 0, none⟩))) (w.alloc (.cells vs T)) ∧ All2 (RC w G) cs vs.toList) :
    OpOK P o ev ob f ⟨.one (.pt key (f 0) 0), [(key, some (f 0, .box cs))], [(key, true)]⟩ := by
  refine ⟨⟨by simp, fun k => by simp⟩, fun G a w hw hev _ hf => ?_⟩
  obtain ⟨vs, T, hr, hvs⟩ := h G a w hw hev
  unfold Oper.wp
  rw [hr]
  have hs := hf.un 0
  have hz : (w.alloc (.cells vs T)).heap.size = w.heap.size + 1 := by show (w.heap.push _).size = _; simp
  have hev' : Evol (TW ob [(key, true)]) w G (w.alloc (.cells vs T)) (G.put (f 0) w.heap.size 0 (.obj (f 0))) :=
    put_evol (w := w) (w' := w.alloc (.cells vs T)) hs rfl rfl rfl (by omega) (fun b hb => alloc_old w _ hb) _
  refine ⟨_, G.put (f 0) w.heap.size 0 (.obj (f 0)), rfl, ⟨w.heap.size, by simp [Gh.put], rfl⟩, put_wf hw hs hz, hev', fun s h => h.imp id fun h => ⟨0, h⟩, ?_, ?_⟩
  · intro k s x hx
    simp at hx
    obtain ⟨rfl, rfl, rfl⟩ := hx
    refine ⟨⟨w.heap.size, vs, T, by simp [Gh.put], by simp [Gh.put], alloc_new w _, RCs.mono hw hev' hvs⟩, .inr rfl, .inl ⟨0, rfl⟩⟩
  · intro k k' s x x' hx hx'
    simp at hx hx'
    rw [hx.1, hx'.1]

theorem op_box {key t : Nat} {x : Operand} {v : V0} {cs : List Cell} (ho : o.op = .box t x) (hx : ev x = .one v) (hv : valCells v = some cs) :
    OpOK P o ev ob f ⟨.one (.pt key (f 0) 0), [(key, some (f 0, .box cs))], [(key, true)]⟩ :=
  op_new fun G a w _ hev => by
    have h1 := hev x (by simp [ho, Op.operands])
    rw [hx] at h1
    exact ⟨(a.eval x).cells, t, by simp [execOp, ho, Instr.box, newVar, newRow], valCells_R hv h1⟩

theorem cellOf_all (w : World) (G : Gh) : ∀ l : List Value, All2 (RC w G) (l.map cellOf) l
  | [] => .nil
  | x :: l => .cons (cellOf_R w G x) (cellOf_all w G l)

theorem op_alloc (hT : TyOK P tt) {key t : Nat} {d : TD} (ho : o.op = .alloc t) (ht : tt t = some d) :
    OpOK P o ev ob f ⟨.one (.pt key (f 0) 0), [(key, some (f 0, .box (d.zero.map cellOf)))], [(key, true)]⟩ :=
  op_new fun G a w _ hev => by
    obtain ⟨z, hz, hzc⟩ := (hT t d ht).run_zero w
    exact ⟨z.cells, t, by simp [execOp, ho, Instr.alloc, newVar, newRow, hz], by rw [hzc]; exact cellOf_all w G _⟩

/-! ### Loads -/
def ldV : Bool → List Cell → Option V0
  | true, cs => some (.ag cs)
  | false, [x] => some (.c x)
  | false, _ => none

theorem run_loadVar_at (hT : TyOK P tt) {t : Nat} {d : TD} (ht : tt t = some d) {w : World} {b q : Nat} {cs : List Value} (hl : cs.length = d.size) (hc : CellsV w b q cs) (hz : d.agg = false → d.size = 1) :
    ∃ v, (Instr.loadAt t (.pointer (some ⟨b, q, none⟩))).run P w = .ok v w ∧ (if d.agg then v = .agg cs.toArray else cs = [v]) := by
  have h1 := (hT t d ht).run_agg w
  have h2 := (hT t d ht).run_size w
  have hc' : ∀ j v, cs[j]? = some v → w.cell? ((⟨b, q, none⟩ : Addr).add j) = some v := fun j v hj => by rw [Addr.add_lit]; exact hc j v hj
  cases hag : d.agg with
  | true =>
    rw [hag] at h1
    have h3 := run_loadCells_list (P := P) w ⟨b, q, none⟩ cs hc'
    rw [hl] at h3
    exact ⟨.agg cs.toArray, by simp [Instr.loadAt, Instr.sureAddr, loadVar, h1, h2, h3], by simp⟩
  | false =>
    rw [hag] at h1
    have hz1 := hz hag
    rw [hz1] at hl
    match cs, hl with
    | [v], _ =>
      have : w.cell? ⟨b, q, none⟩ = some v := by simpa using hc 0 v (by simp)
      exact ⟨v, by simp [Instr.loadAt, Instr.sureAddr, loadVar, h1, load, Sem.run, this], by simp⟩

/-- The value that is loaded out of cells. -/
theorem ldV_R {w : World} {G : Gh} {ag : Bool} {cs : List Cell} {vs : List Value} {x : V0} {v : Value} (h : ldV ag cs = some x) (hr : All2 (RC w G) cs vs) (hv : if ag then v = .agg vs.toArray else vs = [v]) : RV0 w G x v := by
  cases ag with
  | true => simp [ldV] at h; subst h; simp at hv; exact ⟨vs, hv, hr⟩
  | false =>
    simp at hv
    subst hv
    cases hr with
    | cons r h' => cases h'; simp [ldV] at h; subst h; exact r

theorem op_ld_b (hT : TyOK P tt) {t : Nat} {x : Operand} {k s off : Nat} {cs : List Cell} {d : TD} {v : V0} (ho : o.op = .load t x) (hx : ev x = .one (.pt k s off)) (hO : ob k = some (s, .box cs)) (ht : tt t = some d)
    (hz : (d.agg || Nat.beq d.size 1) = true) (hl : Nat.ble (off + d.size) cs.length = true) (hv : ldV d.agg ((cs.drop off).take d.size) = some v) : OpOK P o ev ob f ⟨.one v, [], [(k, false)]⟩ :=
  op_val [(k, false)] (one_tch k) fun G a w hw hev hobs => by
    have h1 := hev x (by simp [ho, Op.operands])
    rw [hx] at h1
    obtain ⟨b, hb, h2⟩ := h1
    obtain ⟨b', vs, T, h3, h4, h5, h6⟩ := (hobs.objs k false (by simp) s _ hO).2
    rw [hb] at h3; cases h3
    have hl' : off + d.size ≤ cs.length := Nat.le_of_ble_eq_true hl
    have hlen := h6.length
    have hr : All2 (RC w G) ((cs.drop off).take d.size) ((vs.toList.drop off).take d.size) := (h6.drop off).take _
    have hcv : CellsV w b off ((vs.toList.drop off).take d.size) := by
      intro j y hj
      rw [cell_of_row w b _ vs T (0, 0) h5]
      rw [List.getElem?_take] at hj
      split at hj
      · simpa [List.getElem?_drop] using hj
      · cases hj
    obtain ⟨cv, hrun, hcv'⟩ := run_loadVar_at hT ht (by simp only [List.length_take, List.length_drop, ← hlen]; omega) hcv (fun e => by rw [e] at hz; exact Nat.eq_of_beq_eq_true (by simpa using hz))
    exact ⟨cv, by simp [execOp, ho, h2, hrun], ldV_R hv hr hcv'⟩

def up1 (t : Tag) : C1 → Cell
  | .v x => .v x
  | .sl e rows => .sl t e (rows.map fun r => r.map C1.v)

theorem up1_R {w : World} {G : Gh} {t : Tag} {x : C1} {cv : Value} (h : R1 w G t x cv) : RC w G (up1 t x) cv := by
  cases x with
  | v x => exact h.1
  | sl e rows =>
    obtain ⟨A, cap, h1, h2, h3, h4⟩ := h
    refine ⟨A, cap, by simpa using h1, by simpa using h2, ?_, ?_⟩
    · intro r hr
      obtain ⟨r', hr', rfl⟩ := List.mem_map.1 hr
      simpa using h3.1 r' hr'
    · intro hne
      obtain ⟨b, q, hA, hi, hc⟩ := h4 (fun e => hne (by simp [e]))
      refine ⟨b, q, hA, hi, fun j y hj => ?_⟩
      rw [← List.map_flatten] at hj
      simp only [List.getElem?_map, Option.map_eq_some_iff] at hj
      obtain ⟨y', hy, rfl⟩ := hj
      exact ⟨y', hc j y' hy, rfl, h3.2 y' (List.mem_of_getElem? hy)⟩

theorem up1_all {w : World} {G : Gh} {t : Tag} {xs : List C1} {vs : List Value} (h : All2 (R1 w G t) xs vs) : All2 (RC w G) (xs.map (up1 t)) vs := by
  induction h with
  | nil => exact .nil
  | cons r _ ih => exact .cons (up1_R r) ih

theorem cells1_list {w : World} {G : Gh} {t : Tag} {b q : Nat} : ∀ {xs : List C1}, Cells1 w G t b q xs → ∃ vs, All2 (R1 w G t) xs vs ∧ CellsV w b q vs
  | [], _ => ⟨[], .nil, fun j x h => by simp at h⟩
  | x :: xs, h => by
    obtain ⟨cv, h1, h2⟩ := h 0 x (by simp)
    obtain ⟨vs, h3, h4⟩ := cells1_list (q := q + 1) (xs := xs) fun j y hj => by
      have := h (j + 1) y (by simpa using hj)
      simpa [Nat.add_assoc, Nat.add_comm 1 j] using this
    refine ⟨cv :: vs, .cons h2 h3, fun j y hj => ?_⟩
    cases j with
    | zero => simp at hj; subst hj; simpa using h1
    | succ j => have := h4 j y (by simpa using hj); simpa [Nat.add_assoc, Nat.add_comm 1 j] using this

theorem op_ld_i (hT : TyOK P tt) {t : Nat} {x : Operand} {tg : Tag} {xs : List C1} {d : TD} {v : V0} (ho : o.op = .load t x) (hx : ev x = .one (.pi tg xs)) (ht : tt t = some d)
    (hz : (d.agg || Nat.beq d.size 1) = true) (hl : Nat.ble d.size xs.length = true) (hv : ldV d.agg ((xs.take d.size).map (up1 tg)) = some v) : OpOK P o ev ob f ⟨.one v, [], []⟩ :=
  op_val [] nil_tch fun G a w hw hev hobs => by
    have h1 := hev x (by simp [ho, Op.operands])
    rw [hx] at h1
    obtain ⟨b, q, h2, h3, h4⟩ := h1
    have hl' : d.size ≤ xs.length := Nat.le_of_ble_eq_true hl
    obtain ⟨vs, h5, h6⟩ := cells1_list h4
    have h7 := h5.take d.size
    obtain ⟨cv, hrun, hcv'⟩ := run_loadVar_at hT ht (cs := vs.take d.size) (by have := h5.length; simp only [List.length_take]; omega) (fun j y hj => h6 j y (by rw [List.getElem?_take] at hj; split at hj <;> simp_all)) (fun e => by rw [e] at hz; exact Nat.eq_of_beq_eq_true (by simpa using hz))
    exact ⟨cv, by simp [execOp, ho, h2, hrun], ldV_R hv (up1_all h7) hcv'⟩

/-- An element of one's own array is read. -/
theorem op_ld_a (hT : TyOK P tt) {t : Nat} {x : Operand} {k s e i off : Nat} {ao : AObj} {rows : List (List C1)} {r : List C1} {d : TD} {v : V0} (ho : o.op = .load t x) (hx : ev x = .one (.pa k s e i off)) (hO : ob k = some (s, ao)) (hao : ao = .arr e rows ∨ ao = .fz e rows) (hr : rows[i]? = some r) (ht : tt t = some d)
    (hz : (d.agg || Nat.beq d.size 1) = true) (hl : Nat.ble (off + d.size) r.length = true) (hv : ldV d.agg (((r.drop off).take d.size).map (up1 .frz)) = some v) : OpOK P o ev ob f ⟨.one v, [], [(k, false)]⟩ :=
  op_val [(k, false)] (one_tch k) fun G a w hw hev hobs => by
    have h1 := hev x (by simp [ho, Op.operands])
    rw [hx] at h1
    obtain ⟨b, hb, h2⟩ := h1
    have hobj := (hobs.objs k false (by simp) s _ hO).2
    have hob : 0 < e ∧ (∀ r ∈ rows, r.length = e) ∧ ArrAt w G s b e rows := by
      have hne : rows ≠ [] := fun h => by subst h; simp at hr
      rcases hao with h | h <;> subst h
      · obtain ⟨he, hrl, ⟨h3, _⟩ | ⟨b', h3, h4, h5⟩⟩ := hobj
        · exact (hne h3).elim
        · rw [hb] at h3; cases h3; exact ⟨he, hrl, h5⟩
      · obtain ⟨he, hrl, ⟨h3, _⟩ | ⟨b', h3, h4, h5⟩⟩ := hobj
        · exact (hne h3).elim
        · rw [hb] at h3; cases h3; exact ⟨he, hrl, h5⟩
    obtain ⟨he, hrl, vs, T, h5, h6, h7, h8, h9⟩ := hob
    have hl' : off + d.size ≤ r.length := Nat.le_of_ble_eq_true hl
    have hre : r.length = e := hrl r (List.mem_of_getElem? hr)
    have hil : i < rows.length := (List.getElem?_eq_some_iff.1 hr).1
    have hcells : Cells1 w G .frz b (i * e + off) ((r.drop off).take d.size) := by
      intro j y hj
      rw [List.getElem?_take] at hj
      split at hj
      · rename_i hjd
        rw [List.getElem?_drop] at hj
        have hf := flatten_get hrl hr hj
        obtain ⟨cv, h10, h11⟩ := h9.get _ _ hf
        refine ⟨cv, ?_, h11⟩
        rw [cell_of_row w b _ vs T (0, 0) h5]
        rw [List.getElem?_take] at h10
        split at h10
        · rw [Nat.add_assoc]; simpa using h10
        · cases h10
      · cases hj
    obtain ⟨us, h10, h11⟩ := cells1_list hcells
    obtain ⟨cv, hrun, hcv'⟩ := run_loadVar_at hT ht (cs := us) (by have := h10.length; simp only [List.length_take, List.length_drop] at this; omega) h11 (fun e => by rw [e] at hz; exact Nat.eq_of_beq_eq_true (by simpa using hz))
    exact ⟨cv, by simp [execOp, ho, h2, hrun], ldV_R hv (up1_all h10) hcv'⟩

/-! ### Stores into boxes -/
def plainCs : List Cell → Bool
  | [] => true
  | .v x :: r => isPlain x && plainCs r
  | _ :: r => plainCs r

theorem oneCell_of_R {w : World} {G : Gh} : ∀ {xs : List Cell} {vs : List Value}, plainCs xs = true → All2 (RC w G) xs vs → ∀ v ∈ vs, v.oneCell' = true
  | _, _, _, .nil, v, hv => by simp at hv
  | x :: xs, u :: vs, hp, .cons r h, v, hv => by
    have hp' : plainCs xs = true := by cases x <;> simp_all [plainCs]
    rcases List.mem_cons.1 hv with e | e
    · subst e
      cases x with
      | v x =>
        have e : v = x := r
        subst e
        simp only [plainCs, Bool.and_eq_true] at hp
        cases v <;> first | rfl | simp [isPlain] at hp
      | nl => have e : v = .slice none 0 0 := r; subst e; rfl
      | sl t e rows => obtain ⟨A, cap, e, _⟩ := r; subst e; rfl
      | mu k s e off len => obtain ⟨A, cap, e, _⟩ := r; subst e; rfl
    · exact oneCell_of_R hp' h v e

theorem run_storeVar_at (hT : TyOK P tt) {t : Nat} {d : TD} (ht : tt t = some d) {w : World} {b q : Nat} {cur : Array Value} {T : Nat} {v : Value} (hg : w.heap[b]? = some (.cells cur T (0, 0))) (hl : v.cells.size = d.size) (hfit : q + d.size ≤ cur.size) (h1 : ∀ x ∈ v.cells.toList, x.oneCell' = true) :
    (Instr.storeAt t (.pointer (some ⟨b, q, none⟩)) v).run P w = .ok () (w.setRow b (setL q v.cells.toList cur.toList).toArray) := by
  have h2 := (hT t d ht).run_size w
  have h3 := run_storeCells_at P b q T v.cells.toList 0 cur w hg (by simpa [hl] using hfit) h1
  simp only [Nat.add_zero] at h3
  rw [setL_eq q _ _ (by simp; omega)]
  simp only [Instr.storeAt, Sem.run_bind, Instr.sureAddr, Sem.run_pure, Result.andThen_ok, storeVar, h2, hl]
  simp only [ne_eq, not_true_eq_false, if_false]
  exact h3

theorem setRow_heap' {w : World} {g : Nat} {cur new : Array Value} {T : Nat} (hg : w.heap[g]? = some (.cells cur T (0, 0))) : (w.setRow g new).heap[g]? = some (.cells new T (0, 0)) := setRow_heap w g cur new T (0, 0) hg

theorem op_st_b (hT : TyOK P tt) {t : Nat} {x y : Operand} {k s off : Nat} {cs xs : List Cell} {d : TD} {v : V0} (ho : o.op = .store t x y) (hx : ev x = .one (.pt k s off)) (hO : ob k = some (s, .box cs)) (hy : ev y = .one v) (hv : valCells v = some xs) (ht : tt t = some d)
    (hlx : Nat.beq xs.length d.size = true) (hl : Nat.ble (off + d.size) cs.length = true) (hp : plainCs xs = true) :
    OpOK P o ev ob f ⟨.ud, [(k, some (s, .box (setL off xs cs)))], [(k, true)]⟩ := by
  refine ⟨⟨by simp, fun k => by simp⟩, fun G a w hw hev hobs hf => ?_⟩
  have h1 := hev x (by simp [ho, Op.operands])
  have hy1 := hev y (by simp [ho, Op.operands])
  rw [hx] at h1; rw [hy] at hy1
  obtain ⟨b, hb, h2⟩ := h1
  have hus := (hobs.objs k true (by simp) s _ hO).1
  obtain ⟨b', vs, T, h3, h4, h5, h6⟩ := (hobs.objs k true (by simp) s _ hO).2
  rw [hb] at h3; cases h3
  have hl' : off + d.size ≤ cs.length := Nat.le_of_ble_eq_true hl
  have hlx' : xs.length = d.size := Nat.eq_of_beq_eq_true hlx
  have hxs := valCells_R hv hy1
  have hsz : (a.eval y).cells.size = d.size := by rw [← hlx', hxs.length]; simp
  have hrun := run_storeVar_at hT ht (w := w) (b := b) (q := off) (v := a.eval y) h5 hsz (by have := h6.length; simp at this; omega) (oneCell_of_R hp hxs)
  unfold Oper.wp
  have he : (execOp a.eval o).run P w = .ok .skip (w.setRow b (setL off (a.eval y).cells.toList vs.toList).toArray) := by simp [execOp, ho, h2, hrun]
  rw [he]
  have htw : TW ob [(k, true)] s := ⟨k, _, by simp, hO⟩
  have hevol : Evol (TW ob [(k, true)]) w G (w.setRow b (setL off (a.eval y).cells.toList vs.toList).toArray) G := by
    refine ⟨rfl, rfl, rfl, by simp, fun _ h => h, fun _ _ => rfl, fun _ _ => rfl, fun c hc ho => ⟨rfl, setRow_other w b c _ fun e => ?_⟩⟩
    subst e
    rw [h4] at ho
    rcases ho with h | h | h | ⟨s', h, hn⟩
    · cases h
    · cases h
    · cases h
    · cases h; exact hn htw
  refine ⟨_, G, rfl, rfl, ⟨fun s b h => by have := hw.lt s b h; simpa using this, hw.of_own, fun b hb => hw.past b (by simpa using hb), hw.fin⟩, hevol, fun s h => .inl h, ?_, ?_⟩
  · intro k' s' x' hx'
    simp at hx'
    obtain ⟨rfl, rfl, rfl⟩ := hx'
    exact ⟨⟨b, _, T, hb, h4, setRow_heap' h5, by simpa using RCs.mono hw hevol (All2.setL off hxs h6)⟩, hus, .inr htw⟩
  · intro k1 k2 s' x' x'' hx' hx''
    simp at hx' hx''
    rw [hx'.1, hx''.1]
end
end Go.Lap
