/- The engine's eleventh part: elements written, structs built, bytes to a string. -/
import Derived.Test.YtihiganlkecbaaaEj
namespace Go.Lap
open Go.RowKit

section
variable {P : Program} {tt : Nat → Option TD} {o : Oper} {ev : Operand → TV} {ob : Nat → Option (Nat × AObj)} {f : Nat → Nat}

theorem op_st_a (hT : TyOK P tt) {t : Nat} {x y : Operand} {k s e i off : Nat} {rows : List (List C1)} {r : List C1} {xs : List Cell} {ys : List C1} {fr : List (Nat × Nat × AObj)} {d : TD} {v : V0} (ho : o.op = .store t x y) (hx : ev x = .one (.pa k s e i off)) (hO : ob k = some (s, .arr e rows)) (hr : rows[i]? = some r)
    (hy : ev y = .one v) (hv : valCells v = some xs) (hdn : DnL ob xs ys fr) (ht : tt t = some d) (hlx : Nat.beq ys.length d.size = true) (hl : Nat.ble (off + d.size) e = true) (hnd : nodupB (k :: fr.map (·.1)) = true) :
    OpOK P o ev ob f ⟨.ud, (k, some (s, .arr e (rows.set i (setL off ys r)))) :: frU fr, (k, true) :: frT fr⟩ := by
  have hnd' := nodupB_spec hnd
  have hkeys : ((k, some (s, AObj.arr e (rows.set i (setL off ys r)))) :: frU fr).map (·.1) = k :: fr.map (·.1) := by simp [frU, List.map_map, Function.comp_def]
  refine ⟨⟨by rw [hkeys]; exact hnd', fun k => ?_⟩, fun G a w hw hev hobs hf => ?_⟩
  · rw [hkeys]
    simp [frT]
  have h1 := hev x (by simp [ho, Op.operands])
  have hy1 := hev y (by simp [ho, Op.operands])
  rw [hx] at h1; rw [hy] at hy1
  obtain ⟨b, hb, h2⟩ := h1
  have hus := (hobs.objs k true (by simp) s _ hO).1
  obtain ⟨he, hrl, hcase⟩ := (hobs.objs k true (by simp) s _ hO).2
  have hil : i < rows.length := (List.getElem?_eq_some_iff.1 hr).1
  have hre : r.length = e := hrl r (List.mem_of_getElem? hr)
  have hlx' : ys.length = d.size := Nat.eq_of_beq_eq_true hlx
  have hl' : off + d.size ≤ e := Nat.le_of_ble_eq_true hl
  have hfrm : ∀ k' s z, (k', s, z) ∈ fr → (k', true) ∈ (k, true) :: frT fr := fun k s z hm => List.mem_cons_of_mem _ (List.mem_map.2 ⟨_, hm, rfl⟩)
  have hobs' : ∀ k s z, (k, s, z) ∈ fr → ∀ s' z', ob k = some (s', z') → G.used s' ∧ RObj w G s' z' := fun k s z hm s' z' h => hobs.objs k true (hfrm k s z hm) s' z' h
  have hTW : ∀ s, frS fr s → TW ob ((k, true) :: frT fr) s := fun s ⟨k, z, hm⟩ => by
    obtain ⟨e', rows', _, h⟩ := hdn.fr_eq k s z hm
    rcases h with h | h
    · exact ⟨k, _, hfrm k s z hm, h⟩
    · exact ⟨k, _, hfrm k s z hm, h⟩
  have hTWs : TW ob ((k, true) :: frT fr) s := ⟨k, _, by simp, hO⟩
  have hnot : ¬ frS fr s := fun ⟨k2, z, hm⟩ => by
    have hk2 : k2 ∈ fr.map (·.1) := List.mem_map.2 ⟨_, hm, rfl⟩
    have hne := (List.nodup_cons.1 hnd').1
    obtain ⟨e', rows', _, h⟩ := hdn.fr_eq k2 s z hm
    rcases h with h | h
    · exact hne ((hobs.inj k k2 true true (by simp) (hfrm _ _ _ hm) s _ _ hO h) ▸ hk2)
    · exact hne ((hobs.inj k k2 true true (by simp) (hfrm _ _ _ hm) s _ _ hO h) ▸ hk2)
  have hxs := valCells_R hv hy1
  have hwf1 := fr_wf (S := frS fr) hw
  have hev1 : Evol (TW ob ((k, true) :: frT fr)) w G w (G.fr (frS fr)) := fr_evol hTW
  have hys := DnL.R (S := frS fr) hw hdn hobs' (fun s h => h) hxs
  rcases hcase with ⟨h3, _⟩ | ⟨b', hb', hown, vs, T, h5, h6, h7, h8, h9⟩
  · subst h3; simp at hil
  rw [hb] at hb'; cases hb'
  have hsz : (a.eval y).cells.size = d.size := by rw [← hlx', hys.length]; simp
  have hfit : i * e + off + d.size ≤ vs.size := by
    rw [h6]
    have : (i + 1) * e ≤ G.cap s * e := Nat.mul_le_mul_right _ (by omega)
    rw [Nat.add_mul] at this; omega
  have hrun := run_storeVar_at hT ht (w := w) (b := b) (q := i * e + off) (v := a.eval y) h5 hsz hfit (fun z hz => by obtain ⟨c, _, hc⟩ := hys.mem_right z hz; exact R1_plain hc)
  unfold Oper.wp
  have hexe : (execOp a.eval o).run P w = .ok .skip (w.setRow b (setL (i * e + off) (a.eval y).cells.toList vs.toList).toArray) := by simp [execOp, ho, h2, hrun]
  rw [hexe]
  have hown1 : (G.fr (frS fr)).own b = .obj s := by rw [fr_own, hown]; exact if_neg hnot
  have hev2 : Evol (fun x => x = s) w (G.fr (frS fr)) (w.setRow b (setL (i * e + off) (a.eval y).cells.toList vs.toList).toArray) (G.fr (frS fr)) := by
    refine ⟨rfl, rfl, rfl, by simp, fun _ h => h, fun _ _ => rfl, fun _ _ => rfl, fun c hc ho => ⟨rfl, setRow_other w b c _ fun e => ?_⟩⟩
    subst e
    rw [hown1] at ho
    rcases ho with h | h | h | ⟨s', h, hn⟩
    · cases h
    · cases h
    · cases h
    · cases h; exact hn rfl
  have hwf2 : Wf (G.fr (frS fr)) (w.setRow b (setL (i * e + off) (a.eval y).cells.toList vs.toList).toArray) := ⟨fun s b h => by have := hwf1.lt s b h; simpa using this, hwf1.of_own, fun b hb => hwf1.past b (by simpa using hb), hwf1.fin⟩
  have hset : ∀ r' ∈ rows.set i (setL off ys r), r'.length = e := fun r' hr' => by
    rcases List.mem_or_eq_of_mem_set hr' with h | h
    · exact hrl r' h
    · rw [h, setL_length _ _ _ (by omega), hre]
  refine ⟨_, G.fr (frS fr), rfl, rfl, hwf2, hev1.trans (hev2.mono fun x hx => hx ▸ hTWs), fun s h => .inl h, ?_, ?_⟩
  · intro k' s' x' hx'
    rcases List.mem_cons.1 hx' with e1 | e1
    · cases e1
      refine ⟨⟨he, hset, .inr ⟨b, hb, hown1, _, T, setRow_heap' h5, ?_, ?_, h8, ?_⟩⟩, hus, .inr hTWs⟩
      · rw [List.size_toArray, setL_length _ _ _ (by simp; omega)]; show vs.toList.length = G.cap s * e; rw [← h6]; simp
      · rw [List.length_set]; exact h7
      · rw [List.length_set, flatten_set hrl hr (by omega)]
        have hvl : vs.toList.length = G.cap s * e := by rw [← h6]; simp
        have hN : i * e + off + ys.length ≤ rows.length * e := by
          have : (i + 1) * e ≤ rows.length * e := Nat.mul_le_mul_right _ (by omega)
          rw [Nat.add_mul] at this; omega
        have e2 : (setL (i * e + off) (a.eval y).cells.toList vs.toList).take (rows.length * e) = setL (i * e + off) (a.eval y).cells.toList (vs.toList.take (rows.length * e)) := by
          have hce : (a.eval y).cells.toList.length = ys.length := by rw [Array.length_toList, hsz, hlx']
          have hsp : vs.toList = vs.toList.take (rows.length * e) ++ vs.toList.drop (rows.length * e) := (List.take_append_drop _ _).symm
          have hle : rows.length * e ≤ vs.toList.length := by rw [hvl]; exact Nat.mul_le_mul_right _ h7
          have htl : (vs.toList.take (rows.length * e)).length = rows.length * e := by rw [List.length_take]; omega
          conv => lhs; rw [hsp]
          rw [setL_append_left _ _ _ _ (by rw [htl, hce]; exact hN)]
          have hsl : (setL (i * e + off) (a.eval y).cells.toList (vs.toList.take (rows.length * e))).length = rows.length * e := by rw [setL_length _ _ _ (by rw [htl, hce]; exact hN), htl]
          exact List.take_left' hsl
        rw [List.toList_toArray, e2]
        exact All2.setL _ (hys.mono fun _ _ _ r => r.mono hwf1 hev2) (h9.mono fun _ _ _ r => (r.mono hw hev1).mono hwf1 hev2)
    · obtain ⟨⟨k2', s2, z2⟩, hm, e2⟩ := List.mem_map.1 e1
      simp at e2
      obtain ⟨rfl, rfl, rfl⟩ := e2
      obtain ⟨e', rows', rfl, h⟩ := hdn.fr_eq k2' s2 z2 hm
      have ho1 : G.used s2 ∧ (RObj w G s2 (.arr e' rows') ∨ RObj w G s2 (.fz e' rows')) := by
        rcases h with h | h
        · have := hobs' k2' s2 _ hm s2 _ h; exact ⟨this.1, .inl this.2⟩
        · have := hobs' k2' s2 _ hm s2 _ h; exact ⟨this.1, .inr this.2⟩
      have ho2 := frz_obj (S := frS fr) hw ⟨k2', _, hm⟩ ho1.2 ho1.1
      exact ⟨ho2.mono hwf1 hev2 ho1.1 (fun e => hnot (e ▸ ⟨k2', _, hm⟩)), ho1.1, .inr (hTW _ ⟨k2', _, hm⟩)⟩
  · intro k1' k2' s' x' x'' hx' hx''
    have hfr : ∀ k s x, (k, some (s, x)) ∈ frU fr → (k, true) ∈ (k, true) :: frT fr ∧ frS fr s ∧ ∃ k2, k2 = k ∧ ((k2, true) ∈ frT fr) ∧ ∃ z, ob k = some (s, z) := by
      intro k s x hx
      obtain ⟨⟨k2', s2, z2⟩, hm, e⟩ := List.mem_map.1 hx
      simp at e
      obtain ⟨rfl, rfl, rfl⟩ := e
      obtain ⟨e', rows', rfl, h⟩ := hdn.fr_eq k2' s2 z2 hm
      rcases h with h | h
      · exact ⟨by simp, ⟨_, _, hm⟩, _, rfl, List.mem_map.2 ⟨_, hm, rfl⟩, _, h⟩
      · exact ⟨by simp, ⟨_, _, hm⟩, _, rfl, List.mem_map.2 ⟨_, hm, rfl⟩, _, h⟩
    rcases List.mem_cons.1 hx' with e | e <;> rcases List.mem_cons.1 hx'' with e' | e'
    · cases e; cases e'; rfl
    · cases e; exact (hnot (hfr _ _ _ e').2.1).elim
    · cases e'; exact (hnot (hfr _ _ _ e).2.1).elim
    · obtain ⟨_, _, _, rfl, m1, z1, h1⟩ := hfr _ _ _ e
      obtain ⟨_, _, _, rfl, m2, z2, h2⟩ := hfr _ _ _ e'
      exact hobs.inj _ _ true true (List.mem_cons_of_mem _ m1) (List.mem_cons_of_mem _ m2) s' z1 z2 h1 h2

/-! ### Structs built -/
theorem foldl_set (off : Nat) : ∀ (l : List Value) (k : Nat) (cs : Array Value), off + k + l.length ≤ cs.size →
    ((l.zipIdx k).foldl (fun cs (c : Value × Nat) => cs.setIfInBounds (off + c.2) c.1) cs).toList = setL (off + k) l cs.toList
  | [], k, cs, h => by simp [setL_eq _ _ _ (show off + k ≤ cs.toList.length by simpa using h)]
  | c :: l, k, cs, h => by
    simp only [List.zipIdx_cons, List.foldl_cons]
    simp only [List.length_cons] at h
    rw [foldl_set off l (k + 1) _ (by simp; omega), Array.toList_setIfInBounds, setL_cons _ _ _ _ (by simp; omega)]
    rfl

def bldC (tt : Nat → Option TD) (fs : List (Nat × Nat)) : List Cell → List (Nat × V0) → Option (List Cell)
  | cs, [] => some cs
  | cs, (i, v) :: r =>
    match fs[i]? with
    | none => none
    | some (off, ft) =>
      match tt ft, valCells v with
      | some d, some xs => bif Nat.beq xs.length d.size && Nat.ble (off + d.size) cs.length then bldC tt fs (setL off xs cs) r else none
      | _, _ => none

def partsV (ev : Operand → TV) : List (Nat × Operand) → Option (List (Nat × V0))
  | [] => some []
  | (i, x) :: r => match ev x with | .one v => (partsV ev r).map ((i, v) :: ·) | _ => none

theorem fill_R {w : World} {G : Gh} {a : Act} {fs : List (Nat × Nat)} {places : List (Nat × Nat)} (hpl : ∀ (i off ft : Nat), fs[i]? = some (off, ft) → ∀ d, tt ft = some d → places[i]? = some (off, d.size)) : ∀ (ps : List (Nat × Operand)) (pv : List (Nat × V0)) (cs cs' : List Cell) (vs : Array Value), partsV ev ps = some pv → bldC tt fs cs pv = some cs' →
    (∀ x ∈ ps, RTV w G (ev x.2) (a.eval x.2)) → All2 (RC w G) cs vs.toList → ∃ vs', Instr.fill (places[·]?) vs (ps.map fun x => (x.1, a.eval x.2)) = some vs' ∧ All2 (RC w G) cs' vs'.toList
  | [], pv, cs, cs', vs, h1, h2, _, h4 => by
    simp [partsV] at h1; subst h1
    simp [bldC] at h2; subst h2
    exact ⟨vs, by simp [Instr.fill], h4⟩
  | (i, x) :: ps, pv, cs, cs', vs, h1, h2, h3, h4 => by
    simp only [partsV] at h1
    have hx := h3 (i, x) (by simp)
    split at h1
    · rename_i v hv
      simp only [Option.map_eq_some_iff] at h1
      obtain ⟨pv', h5, rfl⟩ := h1
      simp only [bldC] at h2
      split at h2
      · cases h2
      · rename_i off ft hfi
        split at h2
        · rename_i d xs hd hxs
          cases hb : (Nat.beq xs.length d.size && Nat.ble (off + d.size) cs.length) with
          | false => rw [hb] at h2; cases h2
          | true =>
            rw [hb] at h2
            simp only [cond_true] at h2
            simp only [Bool.and_eq_true] at hb
            have hl1 : xs.length = d.size := Nat.eq_of_beq_eq_true hb.1
            have hl2 : off + d.size ≤ cs.length := Nat.le_of_ble_eq_true hb.2
            have hx' : RTV w G (ev x) (a.eval x) := hx
            rw [hv] at hx'
            have hcx := valCells_R hxs hx'
            have hcl : (a.eval x).cells.size = d.size := by rw [← hl1, hcx.length]; simp
            have hvl : vs.size = cs.length := by rw [h4.length]; simp
            have hfold := foldl_set off (a.eval x).cells.toList 0 vs (by rw [Array.length_toList, hcl]; omega)
            simp only [Nat.add_zero] at hfold
            have hR := All2.setL off hcx h4
            rw [← hfold] at hR
            obtain ⟨vs', h6, h7⟩ := fill_R hpl ps pv' _ cs' _ h5 h2 (fun y hy => h3 y (by simp [hy])) hR
            refine ⟨vs', ?_, h7⟩
            simp only [List.map_cons, Instr.fill]
            have hp : (places[i]? : Option (Nat × Nat)) = some (off, d.size) := hpl i off ft hfi d hd
            have hc1 : ¬ ((a.eval x).cells.size ≠ d.size ∨ off + (a.eval x).cells.size > vs.size) := by rw [hcl]; omega
            have hz : (a.eval x).cells.zipIdx.foldl (fun cs (c, j) => cs.setIfInBounds (off + j) c) vs = ((a.eval x).cells.toList.zipIdx 0).foldl (fun cs (c : Value × Nat) => cs.setIfInBounds (off + c.2) c.1) vs := by
              rw [← Array.foldl_toList]; simp [Array.toList_zipIdx]
            simp only [hp]
            rw [if_neg (by simpa using hc1)]
            have hz' := hz
            rw [hz']
            exact h6
        · cases h2
    · cases h1

theorem places_of (hT : TyOK P tt) : ∀ (fields : List Field), (∀ f ∈ fields, (tt f.type).isSome = true) → ∃ places, fields.mapM (fun f => (P.info? f.type).map fun i => (f.offset, i.size)) = some places ∧
    ∀ (i off ft : Nat), (fields.map fun f => (f.offset, f.type))[i]? = some (off, ft) → ∀ d, tt ft = some d → places[i]? = some (off, d.size)
  | [], _ => ⟨[], by simp, fun i off ft h => by simp at h⟩
  | x :: fields, h => by
    obtain ⟨places, h1, h2⟩ := places_of hT fields fun y hy => h y (by simp [hy])
    obtain ⟨d, hd⟩ := Option.isSome_iff_exists.1 (h x (by simp))
    obtain ⟨i0, z, hi, hs, _⟩ := (hT _ d hd).info
    refine ⟨(x.offset, i0.size) :: places, by simp [List.mapM_cons, hi, h1], fun i off ft hi' d' hd' => ?_⟩
    cases i with
    | zero =>
      simp at hi'
      obtain ⟨rfl, rfl⟩ := hi'
      rw [hd] at hd'; cases hd'
      simp [hs]
    | succ i => simpa using h2 i off ft (by simpa using hi') d' hd'

theorem op_build (hT : TyOK P tt) {t : Nat} {parts : Array (Nat × Operand)} {pv : List (Nat × V0)} {cs : List Cell} {fs : List (Nat × Nat)} {d : TD} (ho : o.op = .build t parts) (ht : tt t = some d) (hk : d.k = .st fs) (hfs : fs.all (fun x => (tt x.2).isSome) = true)
    (hp : partsV ev parts.toList = some pv) (hc : bldC tt fs (d.zero.map cellOf) pv = some cs) : OpOK P o ev ob f ⟨.one (.ag cs), [], []⟩ :=
  op_val [] nil_tch fun G a w hw hev _ => by
    obtain ⟨fields, h1, h2⟩ := (hT t d ht).und_struct hk
    obtain ⟨it, z, hi, _, _, hz, hzc⟩ := (hT t d ht).info
    have hfl : ∀ g ∈ fields.toList, (tt g.type).isSome = true := fun g hg => by
      rw [List.all_eq_true] at hfs
      exact hfs (g.offset, g.type) (by rw [← h2]; exact List.mem_map.2 ⟨g, hg, rfl⟩)
    obtain ⟨places, h3, h4⟩ := places_of hT fields.toList hfl
    rw [h2] at h4
    obtain ⟨vs', h5, h6⟩ := fill_R (w := w) (G := G) (a := a) (places := places) h4 parts.toList pv _ cs z.cells hp hc (fun x hx => hev x.2 (by
      simp only [ho, Op.operands]
      simp only [List.mem_map]
      exact ⟨x, hx, rfl⟩)) (by rw [hzc]; exact cellOf_all w G _)
    have hb : P.built t (parts.map fun (i, x) => (i, a.eval x)).toList = some vs' := by
      unfold Program.built
      rw [hi, h1]
      simp only [hz, h3]
      rw [Array.toList_map]
      simpa using h5
    have hrun := run_build (P := P) w t _ _ hb
    exact ⟨.agg vs', by simp only [execOp, ho, Sem.run_bind, hrun, Result.andThen_ok, Sem.run_pure], vs'.toList, by simp, h6⟩

theorem op_field (hT : TyOK P tt) {t i off ft : Nat} {x : Operand} {xs : List Cell} {fs : List (Nat × Nat)} {d d' : TD} {v : V0} (ho : o.op = .field t x i) (hx : ev x = .one (.ag xs)) (ht : tt t = some d) (hk : d.k = .st fs) (hi : fs[i]? = some (off, ft)) (hft : tt ft = some d')
    (hl : Nat.ble (off + d'.size) xs.length = true) (hz : (d'.agg || Nat.beq d'.size 1) = true) (hv : ldV d'.agg ((xs.drop off).take d'.size) = some v) : OpOK P o ev ob f ⟨.one v, [], []⟩ :=
  op_val [] nil_tch fun G a w hw hev _ => by
    have h1 := hev x (by simp [ho, Op.operands])
    rw [hx] at h1
    obtain ⟨vs, h2, h3⟩ := h1
    obtain ⟨fields, g, h4, h5, h6, h7⟩ := und_fields (hT t d ht) hk hi
    have h8 := (hT ft d' hft).run_agg w
    have h9 := (hT ft d' hft).run_size w
    have hl' : off + d'.size ≤ xs.length := Nat.le_of_ble_eq_true hl
    have hlen := h3.length
    have hR : All2 (RC w G) ((xs.drop off).take d'.size) ((vs.drop off).take d'.size) := (h3.drop off).take _
    cases hag : d'.agg with
    | true =>
      rw [hag] at h8 hv
      refine ⟨.agg ((vs.drop off).take d'.size).toArray, ?_, ldV_R hv hR (by simp)⟩
      have e1 : (vs.toArray.extract off (off + d'.size)) = ((vs.drop off).take d'.size).toArray := by
        apply Array.ext'; simp
      simp only [execOp, ho, Instr.field, h2, Sem.run_bind, run_underlying h4, Result.andThen_ok, h5, asAgg, Sem.run_pure, part, h7, h8, if_true, h9, h6, e1]
    | false =>
      rw [hag] at h8 hv hz
      have hz1 : d'.size = 1 := Nat.eq_of_beq_eq_true (by simpa using hz)
      rw [hz1] at hR hv hl'
      have hlt : off < vs.length := by omega
      have e1 : (vs.drop off).take 1 = [vs[off]] := by
        rw [List.drop_eq_getElem_cons hlt]; rfl
      rw [e1] at hR
      refine ⟨vs[off], ?_, ldV_R hv hR (by simp)⟩
      have e2 : vs.toArray[off]? = some vs[off] := by simp [hlt]
      simp only [execOp, ho, Instr.field, h2, Sem.run_bind, run_underlying h4, Result.andThen_ok, h5, asAgg, Sem.run_pure, part, h7, h8, Bool.false_eq_true, if_false, h6, e2]

/-- One byte, as a string. -/
theorem op_byte (hT : TyOK P tt) {src dst el k s : Nat} {x : Operand} {n : Int} {d : TD} (ho : o.op = .convert src dst x) (hs : tt src = some d) (hk : d.k = .slc el) (hel : P.underlying el = some (.int .u8)) (hd : P.underlying dst = some .string) (hx : ev x = .one (.c (.mu k s 1 0 1))) (hO : ob k = some (s, .arr 1 [[.v (.int .u8 n)]])) :
    OpOK P o ev ob f ⟨.one (.c (.v (.string ⟨#[UInt8.ofNat n.toNat]⟩))), [], [(k, false)]⟩ :=
  op_val [(k, false)] (one_tch k) fun G a w hw hev hobs => by
    have h1 := hev x (by simp [ho, Op.operands])
    rw [hx] at h1
    obtain ⟨A, cap, h2, h3, h4, h5, h6⟩ := h1
    obtain ⟨_, _, hcase⟩ := (hobs.objs k false (by simp) s _ hO).2
    rcases h6 with h6 | ⟨b, hb, rfl⟩
    · omega
    rcases hcase with ⟨h7, _⟩ | ⟨b', hb', hown, vs, T, h8, h9, h10, h11, h12⟩
    · simp at h7
    rw [hb] at hb'; cases hb'
    have hu := (hT src d hs).run_slice hk w
    obtain ⟨cv, hc1, hc2⟩ := h12.get 0 (.v (.int .u8 n)) (by simp)
    have hc3 : cv = .int .u8 n := hc2.1
    subst hc3
    have hcell : w.cell? ⟨b, 0, none⟩ = some (.int .u8 n) := by
      rw [cell_of_row w b _ vs T (0, 0) h8]
      rw [List.getElem?_take] at hc1
      split at hc1
      · simpa using hc1
      · cases hc1
    have hld : (loadCells ⟨b, 0, none⟩ 1).run P w = .ok #[.int .u8 n] w := by
      have := run_loadCells_list (P := P) w ⟨b, 0, none⟩ [.int .u8 n] (fun j v hj => by
        cases j with
        | zero => simp at hj; subst hj; rw [Addr.add_zero']; exact hcell
        | succ j => simp at hj)
      simpa using this
    refine ⟨.string ⟨#[UInt8.ofNat n.toNat]⟩, ?_, rfl⟩
    simp only [Nat.zero_mul] at h2
    simp [execOp, ho, h2, convert, hu, run_underlying hd, run_underlying hel, Conv.bytesToString, hld]
    rfl
end
end Go.Lap
