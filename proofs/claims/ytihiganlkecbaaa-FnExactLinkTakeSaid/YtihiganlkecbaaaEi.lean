/- The engine's ninth part: append, make, literals, elements written. -/
import Derived.Test.YtihiganlkecbaaaEh
namespace Go.Lap
open Go.RowKit

/-- An array without a block. -/
def Gh.em (G : Gh) (s : Nat) : Gh := ⟨G.loc, fun x => if x = s then 0 else G.cap x, G.own, fun x => G.used x ∨ x = s⟩

theorem em_wf {G : Gh} {w : World} {s : Nat} (hw : Wf G w) : Wf (G.em s) w :=
  ⟨fun x b h => ⟨(hw.lt x b h).1, .inl (hw.lt x b h).2⟩, hw.of_own, hw.past, by
    obtain ⟨N, hN⟩ := hw.fin
    exact ⟨max N (s + 1), fun x hx => by
      rcases hx with h | h
      · have := hN x h; omega
      · omega⟩⟩

theorem em_evol {G : Gh} {w : World} {s : Nat} (hs : ¬ G.used s) (U : Nat → Prop) : Evol U w G w (G.em s) :=
  ⟨rfl, rfl, rfl, Nat.le_refl _, fun _ h => .inl h, fun _ _ => rfl, fun x hx => by
    have : x ≠ s := fun h => hs (h ▸ hx)
    simp [Gh.em, this], fun _ _ _ => ⟨rfl, rfl⟩⟩

theorem loc_unused {G : Gh} {w : World} {s : Nat} (hw : Wf G w) (hs : ¬ G.used s) : G.loc s = none := by
  cases h : G.loc s with
  | none => rfl
  | some b => exact (hs (hw.lt s b h).2).elim

theorem drew_evol {G : Gh} {w : World} (U : Nat → Prop) : Evol U w G w.drew G := ⟨rfl, rfl, rfl, Nat.le_refl _, fun _ h => h, fun _ _ => rfl, fun _ _ => rfl, fun _ _ _ => ⟨rfl, rfl⟩⟩

/-- Some arrays are never written again from now on. -/
noncomputable def Gh.fr (G : Gh) (S : Nat → Prop) : Gh :=
  open Classical in ⟨G.loc, G.cap, fun b => match G.own b with | .obj y => if S y then .frz else .obj y | z => z, G.used⟩

theorem fr_own {G : Gh} {S : Nat → Prop} {b : Nat} : (G.fr S).own b = match G.own b with | .obj y => (open Classical in if S y then .frz else .obj y) | z => z := rfl

theorem fr_wf {G : Gh} {w : World} {S : Nat → Prop} (hw : Wf G w) : Wf (G.fr S) w := by
  refine ⟨hw.lt, fun b x hx => ?_, fun b hb => ?_, hw.fin⟩
  · rw [fr_own] at hx
    cases ho : G.own b with
    | obj y =>
      rw [ho] at hx
      simp only at hx
      split at hx
      · cases hx
      · cases hx; exact hw.of_own b x ho
    | ext => rw [ho] at hx; cases hx
    | bor => rw [ho] at hx; cases hx
    | frz => rw [ho] at hx; cases hx
    | junk => rw [ho] at hx; cases hx
  · rw [fr_own, hw.past b hb]

theorem fr_evol {G : Gh} {w : World} {S U : Nat → Prop} (hU : ∀ s, S s → U s) : Evol U w G w (G.fr S) := by
  refine ⟨rfl, rfl, rfl, Nat.le_refl _, fun _ h => h, fun _ _ => rfl, fun _ _ => rfl, fun b _ ho => ⟨?_, rfl⟩⟩
  rw [fr_own]
  rcases ho with h | h | h | ⟨y, h, hn⟩
  · rw [h]
  · rw [h]
  · rw [h]
  · rw [h]; exact if_neg fun e => hn (hU y e)

theorem all2_in_place {w : World} {G : Gh} {e len m : Nat} {rows0 rows rows' : List (List C1)} {cur news : List Value} (hrl : ∀ r ∈ rows0, r.length = e) (hrows : rows0.take len = rows) (hlen : len ≤ rows0.length) (hc : rows0.length * e ≤ cur.length)
    (h0 : All2 (R1 w G .frz) rows0.flatten (cur.take (rows0.length * e))) (h1 : All2 (R1 w G .frz) rows'.flatten news) (hn : news.length = m * e) :
    All2 (R1 w G .frz) (rows ++ rows').flatten ((setL (len * e) news cur).take ((len + m) * e)) := by
  have hle : len * e ≤ rows0.length * e := Nat.mul_le_mul_right _ hlen
  rw [setL_eq _ _ _ (by omega), List.append_assoc, List.flatten_append]
  have e1 : (cur.take (len * e)).length = len * e := by rw [List.length_take]; omega
  rw [show (len + m) * e = (cur.take (len * e)).length + news.length by rw [e1, hn, Nat.add_mul], List.take_length_add_append, List.take_left]
  refine All2.append ?_ h1
  have := h0.take (len * e)
  rw [List.take_take, Nat.min_eq_left hle] at this
  have e2 := flatten_part (l := 0) (n := len) hrl (by omega)
  simp only [List.drop_zero, Nat.zero_mul] at e2
  rw [← hrows, e2]; exact this

section
variable {P : Program} {tt : Nat → Option TD} {o : Oper} {ev : Operand → TV} {ob : Nat → Option (Nat × AObj)} {f : Nat → Nat}

theorem mem_true_cons {k : Nat} {tch : List (Nat × Bool)} (h : ∀ k wr, (k, wr) ∈ tch → wr = false) (j : Nat) : (j, true) ∈ (k, true) :: tch ↔ j ∈ [k] := by
  constructor
  · intro hj
    rcases List.mem_cons.1 hj with e | e
    · cases e; simp
    · have := h j true e; simp at this
  · intro hj
    simp at hj; subst hj; simp

theorem Src.tch_false {e : Nat} {v : V0} {rows : List (List C1)} {tch : List (Nat × Bool)} (h : Src ob e v rows tch) : ∀ k wr, (k, wr) ∈ tch → wr = false := by
  cases h <;> intro k wr hk <;> simp at hk
  · exact hk.2
  · exact hk.2

theorem Obs.sub {w : World} {G : Gh} {t t' : List (Nat × Bool)} (h : Obs w G ob t) (hs : ∀ x ∈ t', x ∈ t) : Obs w G ob t' :=
  ⟨fun k wr hk => h.objs k wr (hs _ hk), fun k k' wr wr' hk hk' => h.inj k k' wr wr' (hs _ hk) (hs _ hk')⟩

/-- A new array, of whatever rows. -/
theorem newArr {w : World} {G : Gh} {U : Nat → Prop} {s e cap : Nat} {rows : List (List C1)} {cells : List Value} {T : Nat} (hw : Wf G w) (hs : ¬ G.used s) (he : 0 < e) (hrl : ∀ r ∈ rows, r.length = e) (hle : rows.length ≤ cap) (hcm : cap ≤ maxLen) (hcl : cells.length = cap * e)
    (h : All2 (R1 w G .frz) rows.flatten (cells.take (rows.length * e))) (w1 : World) (hw1 : w1 = w ∨ w1 = w.drew) :
    Wf (G.put s w.heap.size cap (.obj s)) (w1.alloc (.cells cells.toArray T)) ∧ Evol U w G (w1.alloc (.cells cells.toArray T)) (G.put s w.heap.size cap (.obj s)) ∧
      RObj (w1.alloc (.cells cells.toArray T)) (G.put s w.heap.size cap (.obj s)) s (.arr e rows) := by
  have hheap : w1.heap = w.heap := by rcases hw1 with h | h <;> subst h <;> rfl
  have hz : (w1.alloc (.cells cells.toArray T)).heap.size = w.heap.size + 1 := by show (w1.heap.push _).size = _; rw [hheap]; simp
  have hold : ∀ b, b < w.heap.size → (w1.alloc (.cells cells.toArray T)).heap[b]? = w.heap[b]? := fun b hb => by rw [alloc_old w1 _ (by rw [hheap]; exact hb), hheap]
  have hev : ∀ U, Evol U w G (w1.alloc (.cells cells.toArray T)) (G.put s w.heap.size cap (.obj s)) := fun U => by
    refine put_evol hs ?_ ?_ ?_ (by omega) hold U <;> rcases hw1 with h | h <;> subst h <;> rfl
  refine ⟨put_wf hw hs hz, hev U, he, hrl, .inr ⟨w.heap.size, by simp [Gh.put], by simp [Gh.put], cells.toArray, T, ?_, by simp [Gh.put, hcl], by simpa [Gh.put] using hle, by simpa [Gh.put] using hcm, ?_⟩⟩
  · have := alloc_new w1 (.cells cells.toArray T); rw [hheap] at this; exact this
  · exact h.mono fun _ _ _ r => r.mono hw (hev (fun _ => True))

theorem op_app_n (hT : TyOK P tt) {t el e n key : Nat} {x y : Operand} {v : V0} {rows : List (List C1)} {tch : List (Nat × Bool)} {d de : TD} (ho : o.op = .call { callee := .builtin .append, args := #[x, y], argTypes := #[t, t] }) (hx : ev x = .one (.c .nl)) (hy : ev y = .one v) (hsrc : Src ob e v rows tch)
    (ht : tt t = some d) (hk : d.k = .slc el) (hte : tt el = some de) (hsz : Nat.beq de.size e = true) (he : Nat.ble 1 e = true) (hby : Nat.ble 1 de.bytes = true) (hb : rows.length * de.bytes ≤ 140737488355328) (hn : rows.length = n) :
    OpOK P o ev ob f ⟨.one (.c (.mu key (f 0) e 0 n)), [(key, some (f 0, .arr e rows))], (key, true) :: tch⟩ := by
  refine ⟨⟨by simp, mem_true_cons hsrc.tch_false⟩, fun G a w hw hev hobs hf => ?_⟩
  have hx1 := hev x (by simp [ho, Op.operands, Call.operands])
  have hy1 := hev y (by simp [ho, Op.operands, Call.operands])
  rw [hx] at hx1; rw [hy] at hy1
  have hx2 : a.eval x = .slice none 0 0 := hx1
  have hsz' : de.size = e := Nat.eq_of_beq_eq_true hsz
  have he' : 1 ≤ e := Nat.le_of_ble_eq_true he
  obtain ⟨hrl, B, m, c, news, h1, h2, h3, h4, h5⟩ := hsrc.R (hobs.sub fun x hx => by simp [hx]) hy1
  have hnl : news.length = m * e := by rw [← h3.length, flatten_length hrl, h2]
  obtain ⟨r1, r2⟩ := run_app hT (ty := o.type) ht hk hte (A := none) (B := B) (len := 0) (cap := 0) (m := m) (c := c) (olds := []) (news := news) w (by simp) (by rw [hsz']; exact hnl) (fun _ => rfl) h4 (by simp)
    (fun h => h5 (fun e => by subst e; simp at h2; subst h2; simp at hnl; exact h hnl)) (fun v hv => by obtain ⟨x, _, hr⟩ := h3.mem_right v hv; exact R1_plain hr) (Nat.le_of_ble_eq_true hby) (by rw [Nat.zero_add, h2]; exact hb)
  have hs := hf.un 0
  unfold Oper.wp
  by_cases hm : m = 0
  · subst hm
    have hr0 : rows = [] := List.eq_nil_of_length_eq_zero h2.symm
    subst hr0
    have hrun := r1 (by simp) 0 0 #[] 0 (.inl rfl)
    have hex : (execOp a.eval o).run P w = .ok (.value (.slice none 0 0)) w := by simp [execOp, ho, resolve, invoke, builtin, hx2, h1, hrun]
    rw [hex]
    subst hn
    refine ⟨_, G.em (f 0), rfl, ⟨none, 0, rfl, Nat.le_refl _, .inr rfl, by simp [Gh.em], .inl rfl⟩, em_wf hw, em_evol hs _, fun s h => h.imp id fun h => ⟨0, h⟩, ?_, ?_⟩
    · intro k' s' x' hx'
      simp at hx'
      obtain ⟨rfl, rfl, rfl⟩ := hx'
      exact ⟨⟨he', by simp, .inl ⟨rfl, show G.loc (f 0) = none from loc_unused hw hs, by simp [Gh.em]⟩⟩, .inr rfl, .inl ⟨0, rfl⟩⟩
    · intro k1 k2 s' x' x'' hx' hx''
      simp at hx' hx''
      rw [hx'.1, hx''.1]
  · obtain ⟨cap', rest, hrun, g1, g2, g3⟩ := r2 (by omega)
    simp only [List.nil_append, Nat.zero_add] at hrun g1 g3
    have hex : (execOp a.eval o).run P w = .ok (.value (.slice (some ⟨w.heap.size, 0, none⟩) m cap')) (w.drew.alloc (.cells (news ++ rest).toArray el)) := by simp [execOp, ho, resolve, invoke, builtin, hx2, h1, hrun]
    rw [hex]
    obtain ⟨k1, k2, k3⟩ := newArr (U := TW ob ((key, true) :: tch)) (T := el) hw hs he' hrl (by omega) g2 (by rw [g3, hsz']) (by rw [← h2, ← hnl, List.take_left]; exact h3) w.drew (.inr rfl)
    refine ⟨_, G.put (f 0) w.heap.size cap' (.obj (f 0)), rfl, ⟨_, cap', by rw [← hn, ← h2], by omega, .inr rfl, by simp [Gh.put], .inr ⟨w.heap.size, by simp [Gh.put], by simp⟩⟩, k1, k2, fun s h => h.imp id fun h => ⟨0, h⟩, ?_, ?_⟩
    · intro k' s' x' hx'
      simp at hx'
      obtain ⟨rfl, rfl, rfl⟩ := hx'
      exact ⟨k3, .inr rfl, .inl ⟨0, rfl⟩⟩
    · intro k1 k2 s' x' x'' hx' hx''
      simp at hx' hx''
      rw [hx'.1, hx''.1]

theorem op_app_m (hT : TyOK P tt) {t el e n k s len : Nat} {x y : Operand} {v : V0} {rows0 rows rows' : List (List C1)} {tch : List (Nat × Bool)} {d de : TD} (ho : o.op = .call { callee := .builtin .append, args := #[x, y], argTypes := #[t, t] }) (hx : ev x = .one (.c (.mu k s e 0 len))) (hO : ob k = some (s, .arr e rows0))
    (hlen : len ≤ rows0.length) (hrows : rows0.take len = rows) (hy : ev y = .one v) (hsrc : Src ob e v rows' tch)
    (ht : tt t = some d) (hk : d.k = .slc el) (hte : tt el = some de) (hsz : Nat.beq de.size e = true) (hby : Nat.ble 1 de.bytes = true) (hb : (len + rows'.length) * de.bytes ≤ 140737488355328) (hn : len + rows'.length = n) :
    OpOK P o ev ob f ⟨.one (.c (.mu k (f 0) e 0 n)), [(k, some (f 0, .arr e (rows ++ rows')))], (k, true) :: tch⟩ := by
  refine ⟨⟨by simp, mem_true_cons hsrc.tch_false⟩, fun G a w hw hev hobs hf => ?_⟩
  have hx1 := hev x (by simp [ho, Op.operands, Call.operands])
  have hy1 := hev y (by simp [ho, Op.operands, Call.operands])
  rw [hx] at hx1; rw [hy] at hy1
  obtain ⟨A, cap, hx2, hlc, hus, hoc, hA⟩ := hx1
  simp only [Nat.zero_add, Nat.zero_mul] at hoc hA
  have hsz' : de.size = e := Nat.eq_of_beq_eq_true hsz
  obtain ⟨he', hrl0, hcase⟩ := (hobs.objs k true (by simp) s _ hO).2
  obtain ⟨hrl, B, m, c, news, h1, h2, h3, h4, h5⟩ := hsrc.R (hobs.sub fun x hx => by simp [hx]) hy1
  have hnl : news.length = m * e := by rw [← h3.length, flatten_length hrl, h2]
  have hs := hf.un 0
  have htw : TW ob ((k, true) :: tch) s := ⟨k, _, by simp, hO⟩
  have hrl' : ∀ r ∈ rows ++ rows', r.length = e := fun r hr => by
    rcases List.mem_append.1 hr with h | h
    · rw [← hrows] at h; exact hrl0 r (List.mem_of_mem_take h)
    · exact hrl r h
  have hrowsl : rows.length = len := by rw [← hrows]; simp; omega
  have hlenn : (rows ++ rows').length = n := by rw [List.length_append, hrowsl, hn]
  -- what was there
  obtain ⟨olds, hol, holdc, hold2⟩ : ∃ olds : List Value, olds.length = len * e ∧ (olds ≠ [] → ∃ b q, A = some ⟨b, q, none⟩ ∧ CellsV w b q olds) ∧ All2 (R1 w G .frz) rows.flatten olds := by
    rcases hcase with ⟨g1, _⟩ | ⟨b, hb', hown, vs, T, g1, g2, g3, g4, g5⟩
    · subst g1
      simp at hlen hrows; subst hlen; subst hrows
      exact ⟨[], by simp, fun h => (h rfl).elim, .nil⟩
    · have hle : len * e ≤ rows0.length * e := Nat.mul_le_mul_right _ hlen
      have hvl : vs.toList.length = G.cap s * e := by rw [← g2]; simp
      have hvs : rows0.length * e ≤ vs.toList.length := by rw [hvl]; exact Nat.mul_le_mul_right _ g3
      refine ⟨vs.toList.take (len * e), by rw [List.length_take]; omega, fun hne => ?_, ?_⟩
      · have hpos : 0 < len := by rcases Nat.eq_zero_or_pos len with h | h; · subst h; simp at hne
                                  · exact h
        rcases hA with hA | ⟨b', hb'', rfl⟩
        · omega
        · rw [hb'] at hb''; cases hb''
          refine ⟨b, 0, rfl, fun j y hj => ?_⟩
          rw [Nat.zero_add, cell_of_row w b j vs T (0, 0) g1]
          rw [List.getElem?_take] at hj
          split at hj
          · simpa using hj
          · cases hj
      · have := g5.take (len * e)
        rw [List.take_take, Nat.min_eq_left hle] at this
        have e2 := flatten_part (l := 0) (n := len) hrl0 (by omega)
        simp only [List.drop_zero, Nat.zero_mul] at e2
        rw [← hrows, e2]; exact this
  have hAnone : A = none → len = 0 := fun h => by
    rcases hA with hA | ⟨b', _, hA⟩
    · omega
    · rw [h] at hA; cases hA
  obtain ⟨r1, r2⟩ := run_app hT (ty := o.type) ht hk hte (A := A) (B := B) (len := len) (cap := cap) (m := m) (c := c) (olds := olds) (news := news) w (by rw [hsz']; exact hol) (by rw [hsz']; exact hnl) hAnone h4 holdc
    (fun h => h5 (fun e => by subst e; simp at h2; subst h2; simp at hnl; exact h hnl)) (fun v hv => by obtain ⟨x, _, hr⟩ := h3.mem_right v hv; exact R1_plain hr) (Nat.le_of_ble_eq_true hby) (by rw [h2]; exact hb)
  have finish : ∀ (v : Value) (w' : World) (G' : Gh), (execOp a.eval o).run P w = .ok (.value v) w' → RC w' G' (.mu k (f 0) e 0 n) v → Wf G' w' → Evol (TW ob ((k, true) :: tch)) w G w' G' → (∀ x, G'.used x → G.used x ∨ x = f 0) → RObj w' G' (f 0) (.arr e (rows ++ rows')) → G'.used (f 0) →
      o.wp P a w (OpPost o ob f ⟨.one (.c (.mu k (f 0) e 0 n)), [(k, some (f 0, .arr e (rows ++ rows')))], (k, true) :: tch⟩ G a w) (fun _ _ _ => False) := by
    intro v w' G' hex hv hwf hevol hu hobj huse
    unfold Oper.wp
    rw [hex]
    refine ⟨v, G', rfl, hv, hwf, hevol, fun x hx => (hu x hx).imp id fun h => ⟨0, h⟩, ?_, ?_⟩
    · intro k' s' x' hx'
      simp at hx'
      obtain ⟨rfl, rfl, rfl⟩ := hx'
      exact ⟨hobj, huse, .inl ⟨0, rfl⟩⟩
    · intro k1 k2 s' x' x'' hx' hx''
      simp at hx' hx''
      rw [hx'.1, hx''.1]
  by_cases hroom : len + m ≤ cap
  · rcases hcase with ⟨g1, g2, g3⟩ | ⟨b, hb', hown, vs, T, g1, g2, g3, g4, g5⟩
    · -- no block
      have hm : m = 0 := by omega
      have hl0 : len = 0 := by omega
      have hc0 : cap = 0 := by omega
      subst hm
      have hr0 : rows' = [] := List.eq_nil_of_length_eq_zero h2.symm
      subst hr0
      have hrun := r1 hroom 0 0 #[] 0 (.inl rfl)
      simp only [if_true] at hrun
      have hn0 : n = 0 := by simp at hn; omega
      refine finish (.slice A (len + 0) cap) w (G.em (f 0)) (by simp [execOp, ho, resolve, invoke, builtin, hx2, h1, hrun]) ⟨A, cap, by rw [hn0, hl0], by omega, .inr rfl, by simp [Gh.em]; omega, .inl hc0⟩ (em_wf hw) (em_evol hs _) (fun x hx => hx) ?_ (.inr rfl)
      have : rows = [] := List.eq_nil_of_length_eq_zero (by omega)
      subst this
      exact ⟨he', by simp, .inl ⟨rfl, show G.loc (f 0) = none from loc_unused hw hs, by simp [Gh.em]⟩⟩
    · have hvl : vs.toList.length = G.cap s * e := by rw [← g2]; simp
      by_cases hm : m = 0
      · subst hm
        have hr0 : rows' = [] := List.eq_nil_of_length_eq_zero h2.symm
        subst hr0
        have hrun := r1 hroom 0 0 #[] 0 (.inl rfl)
        simp only [if_true] at hrun
        have hevol : Evol (TW ob ((k, true) :: tch)) w G w (G.mv s (f 0)) := mv_evol hs rfl rfl rfl (Nat.le_refl _) htw (fun _ _ _ => rfl)
        refine finish (.slice A (len + 0) cap) w (G.mv s (f 0)) (by simp [execOp, ho, resolve, invoke, builtin, hx2, h1, hrun]) ⟨A, cap, by simp at hn; rw [← hn]; simp, by simp at hn; omega, .inr rfl, by simp [Gh.mv]; exact hoc, ?_⟩ (mv_wf hw hs rfl) hevol (fun x hx => hx) ?_ (.inr rfl)
        · rcases hA with hA | ⟨b', hb'', hA⟩
          · exact .inl hA
          · exact .inr ⟨b', by simp [Gh.mv, hb''], by simp [hA]⟩
        · refine ⟨he', hrl', .inr ⟨b, by simp [Gh.mv, hb'], by rw [mv_own, hown]; simp, vs, T, g1, by simp [Gh.mv, g2], by simp [Gh.mv]; omega, by simpa [Gh.mv] using g4, ?_⟩⟩
          have := all2_in_place (m := 0) (rows' := []) (news := []) hrl0 hrows hlen (by rw [hvl]; exact Nat.mul_le_mul_right _ g3) g5 .nil (by simp)
          have e3 : setL (len * e) [] vs.toList = vs.toList := by
            rw [setL_eq _ _ _ (by rw [hvl]; exact Nat.mul_le_mul_right _ (by omega))]; simp
          rw [e3] at this
          simp only [Nat.add_zero] at this
          rw [hlenn, ← hn]
          simp only [List.length_nil, Nat.add_zero]
          exact this.mono fun _ _ _ r => r.mono hw hevol
      · rcases hA with hA | ⟨b', hb'', rfl⟩
        · omega
        · rw [hb'] at hb''; cases hb''
          have hfit : 0 + (len + m) * de.size ≤ vs.size := by rw [hsz', g2, Nat.zero_add]; exact Nat.mul_le_mul_right _ (by omega)
          have hrun := r1 hroom b 0 vs T (.inr ⟨rfl, g1, hfit⟩)
          rw [if_neg hm] at hrun
          simp only [Nat.zero_add, hsz'] at hrun
          have hevol : Evol (TW ob ((k, true) :: tch)) w G (w.setRow b (setL (len * e) news vs.toList).toArray) (G.mv s (f 0)) :=
            mv_evol (w := w) (w' := w.setRow b (setL (len * e) news vs.toList).toArray) hs rfl rfl rfl (by simp) htw (fun b' _ hne => setRow_other w b b' _ fun h => hne (h ▸ hown))
          have hsl : (setL (len * e) news vs.toList).length = vs.size := by
            rw [setL_length _ _ _ (by rw [hnl, Array.length_toList]; simp only [hsz', Nat.zero_add, Nat.add_mul] at hfit; omega)]; simp
          refine finish (.slice (some ⟨b, 0, none⟩) (len + m) cap) _ (G.mv s (f 0)) (by simp [execOp, ho, resolve, invoke, builtin, hx2, h1, hrun]) ⟨_, cap, by rw [← hn, h2], by omega, .inr rfl, by simp [Gh.mv]; exact hoc, .inr ⟨b, by simp [Gh.mv, hb'], by simp⟩⟩ (mv_wf hw hs (by simp)) hevol (fun x hx => hx) ?_ (.inr rfl)
          refine ⟨he', hrl', .inr ⟨b, by simp [Gh.mv, hb'], by rw [mv_own, hown]; simp, _, T, setRow_heap' g1, by simp [Gh.mv, hsl, g2], by simp [Gh.mv]; omega, by simpa [Gh.mv] using g4, ?_⟩⟩
          rw [hlenn, ← hn, ← h2]
          exact (all2_in_place hrl0 hrows hlen (by rw [hvl]; exact Nat.mul_le_mul_right _ g3) g5 h3 hnl).mono fun _ _ _ r => r.mono hw hevol
  · obtain ⟨cap', rest, hrun, g1, g2, g3⟩ := r2 (by omega)
    obtain ⟨k1, k2, k3⟩ := newArr (U := TW ob ((k, true) :: tch)) (T := el) (rows := rows ++ rows') (cells := olds ++ news ++ rest) hw hs he' hrl' (by omega) g2 (by rw [g3, hsz'])
      (by
        have : (rows ++ rows').length * e = (olds ++ news).length := by rw [hlenn, ← hn, List.length_append, hol, hnl, h2, Nat.add_mul]
        rw [this, List.take_left, List.flatten_append]
        exact hold2.append h3) w.drew (.inr rfl)
    exact finish (.slice (some ⟨w.heap.size, 0, none⟩) (len + m) cap') _ (G.put (f 0) w.heap.size cap' (.obj (f 0))) (by simp [execOp, ho, resolve, invoke, builtin, hx2, h1, hrun]) ⟨_, cap', by rw [← hn, h2], by omega, .inr rfl, by simp [Gh.put], .inr ⟨w.heap.size, by simp [Gh.put], by simp⟩⟩ k1 k2 (fun x hx => hx) k3 (.inr rfl)
end
end Go.Lap
