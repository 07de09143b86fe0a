/- The engine's maps: sets of whole numbers. -/
import Derived.Test.YtihiganlkecbaaaEz
import Derived.MapKept
set_option linter.unusedVariables false
namespace Go.Lap
open Go.RowKit Go.MapKept

/-- A key put into a set. -/
def insK (ks : List Int) (k : Int) : List Int := if k ∈ ks then ks else ks ++ [k]
def MapAt (es : Array MapEntry) (ks : List Int) : Prop := es.toList.map (fun e => (e.key, e.val)) = ks.map fun k => (Value.int .i64 k, Value.bool true)

theorem MapAt.key {es : Array MapEntry} {ks : List Int} (h : MapAt es ks) {x : MapEntry} (hx : x ∈ es.toList) : ∃ n ∈ ks, x.key = .int .i64 n ∧ x.val = .bool true := by
  have h1 : (x.key, x.val) ∈ es.toList.map (fun e => (e.key, e.val)) := List.mem_map.2 ⟨x, hx, rfl⟩
  rw [h] at h1
  obtain ⟨n, hn, e⟩ := List.mem_map.1 h1
  simp only [Prod.mk.injEq] at e
  exact ⟨n, hn, e.1.symm, e.2.symm⟩
theorem MapAt.mem {es : Array MapEntry} {ks : List Int} (h : MapAt es ks) {n : Int} (hn : n ∈ ks) : ∃ x ∈ es.toList, x.key = .int .i64 n := by
  have h1 : (Value.int .i64 n, Value.bool true) ∈ ks.map fun k => (Value.int .i64 k, Value.bool true) := List.mem_map.2 ⟨n, hn, rfl⟩
  rw [← h] at h1
  obtain ⟨x, hx, e⟩ := List.mem_map.1 h1
  simp only [Prod.mk.injEq] at e
  exact ⟨x, hx, e.1⟩
theorem MapAt.find {es : Array MapEntry} {ks : List Int} (h : MapAt es ks) (n : Int) :
    (Instr.findNow (.int .i64) (.int .i64 n) es.toList 0 = some none ∧ n ∉ ks) ∨ ∃ j e, Instr.findNow (.int .i64) (.int .i64 n) es.toList 0 = some (some (j, .bool true)) ∧ es.toList[j]? = some e ∧ e.key = .int .i64 n ∧ e.val = .bool true ∧ n ∈ ks := by
  have hk : ∀ x ∈ es.toList, IsKey (.int .i64) x.key := fun x hx => by obtain ⟨m, _, e, _⟩ := h.key hx; rw [e]; exact rfl
  rcases findNow_spec (d := .int .i64) (k := .int .i64 n) rfl es.toList 0 hk with ⟨h1, h2⟩ | ⟨j, e, h1, h2, h3⟩
  · exact .inl ⟨h1, fun hn => by obtain ⟨x, hx, e⟩ := h.mem hn; exact h2 x hx e⟩
  · obtain ⟨m, hm, e1, e2⟩ := h.key (List.mem_of_getElem? h2)
    rw [e2] at h1
    have : m = n := by rw [e1] at h3; cases h3; rfl
    subst this
    exact .inr ⟨j, e, by simpa using h1, h2, h3, e2, hm⟩

section
variable {P : Program} {tt : Nat → Option TD} {o : Oper} {ev : Operand → TV} {ob : Nat → Option (Nat × AObj)} {f : Nat → Nat} {c : Bool}

theorem op_mkmap {key t : Nat} (ho : o.op = .makeMap t none) : OpOK P o ev ob f ⟨.one (.mp key (f 0)), [(key, some (f 0, .mp []))], [(key, true)]⟩ := by
  refine ⟨⟨by simp, fun k => by simp⟩, fun G a w hw hev _ hf => ?_⟩
  have hr : (execOp a.eval o).run P w = .ok (.value (.map (some w.heap.size))) (w.alloc (.map #[] 0)) := by
    simp [execOp, ho, Instr.makeMap, newObj, Result.andThen]
    rfl
  unfold Oper.wp
  rw [hr]
  have hs := hf.un 0
  have hz : (w.alloc (.map #[] 0)).heap.size = w.heap.size + 1 := by show (w.heap.push _).size = _; simp
  have hev' : Evol (TW ob [(key, true)]) w G (w.alloc (.map #[] 0)) (G.put (f 0) w.heap.size 0 (.obj (f 0))) :=
    put_evol (w := w) (w' := w.alloc (.map #[] 0)) hs rfl rfl rfl (by omega) (fun b hb => alloc_old w _ hb) _
  refine ⟨_, G.put (f 0) w.heap.size 0 (.obj (f 0)), rfl, ⟨w.heap.size, by simp [Gh.put], rfl⟩, put_wf hw hs hz, hev', fun s h => h.imp id fun h => ⟨0, h⟩, ?_, ?_⟩
  · intro k s x hx
    simp at hx
    obtain ⟨rfl, rfl, rfl⟩ := hx
    refine ⟨⟨w.heap.size, #[], 0, by simp [Gh.put], by simp [Gh.put], alloc_new w _, rfl⟩, .inr rfl, .inl ⟨0, rfl⟩⟩
  · intro k k' s x x' hx hx'
    simp at hx hx'
    rw [hx.1, hx'.1]

theorem op_look {t kt et k s : Nat} {x i : Operand} {n : Int} {ks : List Int} (ho : o.op = .lookup t x i false) (hx : ev x = .one (.mp k s)) (hi : ev i = .one (.c (.v (.int .i64 n)))) (hO : ob k = some (s, .mp ks))
    (ht : P.underlying t = some (.map kt et)) (hk : P.underlying kt = some (.int .i64)) (hz : (P.info? et).bind (fun i => i.zero) = some (.bool false)) :
    OpOK P o ev ob f ⟨.one (.c (.v (.bool (decide (n ∈ ks))))), [], [(k, false)]⟩ :=
  op_val [(k, false)] (one_tch k) fun G a w hw hev hobs => by
    have h1 := hev x (by simp [ho, Op.operands])
    have h2 := hev i (by simp [ho, Op.operands])
    rw [hx] at h1; rw [hi] at h2
    obtain ⟨b, hb, h3⟩ := h1
    have h4 : a.eval i = .int .i64 n := h2
    obtain ⟨b', es, clock, g1, g2, g3, g4⟩ := (hobs.objs k false (by simp) s _ hO).2
    rw [hb] at g1; cases g1
    have hzr : (zeroValue et).run P w = .ok (.bool false) w := by
      cases hq : P.info? et with
      | none => rw [hq] at hz; cases hz
      | some inf => rw [hq] at hz; have hz' : inf.zero = some (.bool false) := hz; simp [zeroValue, typeInfo, hq, hz']
    refine ⟨.bool (decide (n ∈ ks)), ?_, rfl⟩
    have hck := MapKept.run_checkKey (P := P) (w := w) hk (show IsKey (.int .i64) (.int .i64 n) from rfl) es.isEmpty 9999
    have hL : (Instr.lookup t (.map (some b)) (.int .i64 n) false).run P w = .ok (.bool (decide (n ∈ ks))) w := by
      unfold Instr.lookup
      rcases MapAt.find g4 n with ⟨h5, h6⟩ | ⟨j, e, h5, _, _, _, h6⟩
      · simp [run_underlying ht, Result.andThen, MapKept.run_getObj_map g3, hck, MapKept.run_findKey hk h5, hzr, h6]
      · simp [run_underlying ht, Result.andThen, MapKept.run_getObj_map g3, hck, MapKept.run_findKey hk h5, h6]
    simp [execOp, ho, h3, h4, hL]

theorem op_mup {t kt et k s : Nat} {m x v : Operand} {n : Int} {ks : List Int} (ho : o.op = .mapUpdate t m x v) (hm : ev m = .one (.mp k s)) (hx : ev x = .one (.c (.v (.int .i64 n)))) (hv : ev v = .one (.c (.v (.bool true)))) (hO : ob k = some (s, .mp ks))
    (ht : P.underlying t = some (.map kt et)) (hk : P.underlying kt = some (.int .i64)) :
    OpOK P o ev ob f ⟨.ud, [(k, some (s, .mp (insK ks n)))], [(k, true)]⟩ := by
  refine ⟨⟨by simp, fun k => by simp⟩, fun G a w hw hev hobs hf => ?_⟩
  have h1 := hev m (by simp [ho, Op.operands])
  have h2 := hev x (by simp [ho, Op.operands])
  have h3 := hev v (by simp [ho, Op.operands])
  rw [hm] at h1; rw [hx] at h2; rw [hv] at h3
  obtain ⟨b, hb, h4⟩ := h1
  have h5 : a.eval x = .int .i64 n := h2
  have h6 : a.eval v = .bool true := h3
  have hus := (hobs.objs k true (by simp) s _ hO).1
  obtain ⟨b', es, clock, g1, g2, g3, g4⟩ := (hobs.objs k true (by simp) s _ hO).2
  rw [hb] at g1; cases g1
  have hck := MapKept.run_checkKey (P := P) (w := w) hk (show IsKey (.int .i64) (.int .i64 n) from rfl) false 9999
  have hL : ∃ es' clock', (Instr.mapUpdate t (.map (some b)) (.int .i64 n) (.bool true)).run P w = .ok () { w with heap := w.heap.setIfInBounds b (.map es' clock') } ∧ MapAt es' (insK ks n) := by
    unfold Instr.mapUpdate
    rcases MapAt.find g4 n with ⟨q1, q2⟩ | ⟨j, e, q1, q2, q3, q4, q5⟩
    · refine ⟨es.push { key := .int .i64 n, val := .bool true, born := clock }, clock + 1, ?_, ?_⟩
      · simp [run_underlying ht, Result.andThen, MapKept.run_getObj_map g3, hck, MapKept.run_findKey hk q1, MapKept.run_setObj_map _ g3]
      · unfold MapAt insK
        rw [if_neg q2]
        simp only [Array.toList_push, List.map_append, List.map_cons, List.map_nil]
        rw [show es.toList.map (fun e => (e.key, e.val)) = _ from g4]
    · refine ⟨es.modify j fun e => { e with key := .int .i64 n, val := .bool true }, clock, ?_, ?_⟩
      · have hes : es[j]? = some e := by simpa using q2
        simp [run_underlying ht, Result.andThen, MapKept.run_getObj_map g3, hck, MapKept.run_findKey hk q1, MapKept.run_setObj_map _ g3, hes, q3, Instr.keyThatStays, Instr.sameBits]
      · unfold MapAt insK
        rw [if_pos q5, ← show es.toList.map (fun e => (e.key, e.val)) = _ from g4]
        refine List.ext_getElem? fun i => ?_
        rw [Array.toList_modify, List.getElem?_map, List.getElem?_map, List.getElem?_modify]
        by_cases hij : j = i
        · subst hij
          rw [q2]
          simp [q3, q4]
        · simp [hij]
  obtain ⟨es', clock', hrun, hat⟩ := hL
  unfold Oper.wp
  have he : (execOp a.eval o).run P w = .ok .skip { w with heap := w.heap.setIfInBounds b (.map es' clock') } := by simp [execOp, ho, h4, h5, h6, hrun]
  rw [he]
  obtain ⟨hs1, hs2⟩ := MapKept.heap_set (o' := .map es' clock') g3
  have htw : TW ob [(k, true)] s := ⟨k, _, by simp, hO⟩
  have hevol : Evol (TW ob [(k, true)]) w G { w with heap := w.heap.setIfInBounds b (.map es' clock') } G := by
    refine ⟨rfl, rfl, rfl, by simp, fun _ h => h, fun _ _ => rfl, fun _ _ => rfl, fun c hc ho => ⟨rfl, hs2 c fun e => ?_⟩⟩
    subst e
    rw [g2] at ho
    rcases ho with h | h | h | ⟨s', h, hn⟩
    · cases h
    · cases h
    · cases h
    · cases h; exact hn htw
  refine ⟨_, G, rfl, rfl, ⟨fun s b h => by have := hw.lt s b h; simpa using this, hw.of_own, fun b hb => hw.past b (by simpa using hb), hw.fin⟩, hevol, fun s h => .inl h, ?_, ?_⟩
  · intro k' s' x' hx'
    simp at hx'
    obtain ⟨rfl, rfl, rfl⟩ := hx'
    exact ⟨⟨b, es', clock', hb, g2, hs1, hat⟩, hus, .inr htw⟩
  · intro k1 k2 s' x' x'' hx' hx''
    simp at hx' hx''
    rw [hx'.1, hx''.1]

theorem mp_und (hT : TyOK P tt) {t kt et : Nat} {d : TD} (ht : tt t = some d) (hk : d.k = .mp kt et) : P.underlying t = some (.map kt et) := by
  obtain ⟨u, h1, h2⟩ := (hT t d ht).und
  rw [hk] at h2
  simp only at h2
  rw [h1, h2]

def s_mkmap (f : Nat → Nat) (key : Nat) (hs : List (Hint P)) : Out P := some (⟨.one (.mp key (f 0)), [(key, some (f 0, .mp []))], [(key, true)]⟩, [], hs)
theorem s_mkmap_w {t key : Nat} (ho : o.op = .makeMap t none) (hs : List (Hint P)) : Worth P o ev ob f c (s_mkmap f key hs) := .some fun _ _ => op_mkmap ho

def mpOf (tt : Nat → Option TD) (t : Nat) : Option (Nat × Nat) := match tt t with
  | some d => match d.k with | .mp kt et => some (kt, et) | _ => none
  | none => none
theorem mpOf_s (hT : TyOK P tt) {t kt et : Nat} (h : mpOf tt t = some (kt, et)) : P.underlying t = some (.map kt et) := by
  unfold mpOf at h
  split at h
  · rename_i d ht
    split at h
    · rename_i kt' et' hk; cases h; exact mp_und hT ht hk
    · cases h
  · cases h
def mpAt : Option (AObj × List EqP) → Option (List Int × List EqP)
  | some (.mp ks, eqs) => some (ks, eqs)
  | _ => none
theorem mpAt_s {k s : Nat} {ks : List Int} {eqs : List EqP} (h : mpAt (objAt ob k s) = some (ks, eqs)) (he : EqsOk eqs) : ob k = some (s, .mp ks) := by
  unfold mpAt at h
  split at h
  · rename_i ks' eqs' hO; cases h; exact objAt_s hO he
  · cases h

def s_look (tt : Nat → Option TD) (ob : Nat → Option (Nat × AObj)) (t : Nat) (u i : TV) (hs : List (Hint P)) : Out P :=
  match u, i with
  | .one (.mp k s), .one (.c (.v (.int .i64 n))) => match hs with
    | .und (t := kt') (u := .int .i64) _ :: .mpz (t := et') _ :: hs => match mpOf tt t, mpAt (objAt ob k s) with
      | some (kt, et), some (ks, eqs) => some (⟨.one (.c (.v (.bool (decide (n ∈ ks))))), [], [(k, false)]⟩, ⟨Nat, kt', kt⟩ :: ⟨Nat, et', et⟩ :: eqs, hs)
      | _, _ => none
    | _ => none
  | _, _ => none
theorem s_look_w (hT : TyOK P tt) {t : Nat} {x i : Operand} (ho : o.op = .lookup t x i false) (hs : List (Hint P)) : Worth P o ev ob f c (s_look tt ob t (ev x) (ev i) hs) := by
  unfold s_look
  split
  · rename_i k s n hx hi
    split
    · rename_i kt' h1 et' h2 hs'
      split
      · rename_i kt et ks eqs hm hO
        refine .some fun he _ => ?_
        have e1 : kt' = kt := he.hd
        have e2 : et' = et := he.tl.hd
        subst e1 e2
        exact op_look ho hx hi (mpAt_s hO he.tl.tl) (mpOf_s hT hm) h1 h2
      · exact .none
    · exact .none
  · exact .none

def s_mup (tt : Nat → Option TD) (ob : Nat → Option (Nat × AObj)) (t : Nat) (u x v : TV) (hs : List (Hint P)) : Out P :=
  match u, x, v with
  | .one (.mp k s), .one (.c (.v (.int .i64 n))), .one (.c (.v (.bool true))) => match hs with
    | .und (t := kt') (u := .int .i64) _ :: hs => match mpOf tt t, mpAt (objAt ob k s) with
      | some (kt, _), some (ks, eqs) => some (⟨.ud, [(k, some (s, .mp (insK ks n)))], [(k, true)]⟩, ⟨Nat, kt', kt⟩ :: eqs, hs)
      | _, _ => none
    | _ => none
  | _, _, _ => none
theorem s_mup_w (hT : TyOK P tt) {t : Nat} {m x v : Operand} (ho : o.op = .mapUpdate t m x v) (hs : List (Hint P)) : Worth P o ev ob f c (s_mup tt ob t (ev m) (ev x) (ev v) hs) := by
  unfold s_mup
  split
  · rename_i k s n hm hx hv
    split
    · rename_i kt' h1 hs'
      split
      · rename_i kt et ks eqs hq hO
        refine .some fun he _ => ?_
        have e1 : kt' = kt := he.hd
        subst e1
        exact op_mup ho hm hx hv (mpAt_s hO he.tl) (mpOf_s hT hq) h1
      · exact .none
    · exact .none
  · exact .none
end
end Go.Lap
