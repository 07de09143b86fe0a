/- The engine's twenty-sixth part: the other operations, computed. -/
import Derived.Test.YtihiganlkecbaaaEy
set_option linter.unusedVariables false
namespace Go.Lap
open Go.RowKit

section
variable {P : Program} {tt : Nat → Option TD} {o : Oper} {ev : Operand → TV} {ob : Nat → Option (Nat × AObj)} {f : Nat → Nat} {c : Bool}

/-- The element type of a slice type: its size. -/
def slO (tt : Nat → Option TD) (t : Nat) : Option TD :=
  match tt t with
  | some d => match d.k with
    | .slc el => tt el
    | _ => none
  | none => none
theorem slO_s {t : Nat} {de : TD} (h : slO tt t = some de) : ∃ d el, tt t = some d ∧ d.k = .slc el ∧ tt el = some de := by
  unfold slO at h
  split at h
  · rename_i d h1
    split at h
    · rename_i el h2; exact ⟨d, el, h1, h2, h⟩
    · cases h
  · cases h

def s_ixa (tt : Nat → Option TD) (t : Nat) (u v : TV) (c : Bool) (hs : List (Hint P)) : Out P :=
  match slO tt t, v, hs with
  | some de, .one (.c (.v (.int _ n))), .ix (α := α) ih c' g xs n' k _ :: hs =>
    match u with
    | .one (.c (.sl tg e rows)) => bif Nat.beq de.size e then some (⟨.one (.pi tg (g (@List.getD α xs k ih.default))), [], []⟩, [⟨Bool, c, c'⟩, ⟨Int, n, n'⟩, ⟨List (List C1), rows, xs.map g⟩], hs) else none
    | .one (.c (.mu kk s e 0 len)) => bif Nat.beq de.size e then some (⟨.one (.pa kk s e k 0), [], []⟩, [⟨Bool, c, c'⟩, ⟨Int, n, n'⟩, ⟨Nat, len, (xs.map g).length⟩], hs) else none
    | _ => none
  | _, _, _ => none
theorem s_ixa_w (hT : TyOK P tt) {t : Nat} {x y : Operand} (ho : o.op = .indexAddr t x y) (hs : List (Hint P)) : Worth P o ev ob f c (s_ixa tt t (ev x) (ev y) c hs) := by
  unfold s_ixa
  split
  · rename_i de kk n α ih c' g xs n' k hk hs' hte hi
    obtain ⟨d, el, h1, h2, h3⟩ := slO_s hte
    split
    · rename_i tg e rows hx
      cases hz : Nat.beq de.size e with
      | false => exact .none
      | true =>
        refine .some fun he hc => ?_
        have e0 : c = c' := he.hd
        have e1 : n = n' := he.tl.hd
        have e2 : rows = xs.map g := he.tl.tl.hd
        obtain ⟨q1, q2⟩ := hk (e0 ▸ hc)
        have q3 : n.toNat = k := by rw [e1, q1]; simp
        exact op_ix_i hT ho hx hi h1 h2 h3 hz (by rw [e1, q1]; omega) (by rw [q3, e2]; exact row_get g q2)
    · rename_i kk s e len hx
      cases hz : Nat.beq de.size e with
      | false => exact .none
      | true =>
        refine .some fun he hc => ?_
        have e0 : c = c' := he.hd
        have e1 : n = n' := he.tl.hd
        have e2 : len = (xs.map g).length := he.tl.tl.hd
        obtain ⟨q1, q2⟩ := hk (e0 ▸ hc)
        have q3 : n.toNat = k := by rw [e1, q1]; simp
        have := op_ix_m (P := P) (ob := ob) (f := f) hT ho hx hi h1 h2 h3 hz (by rw [e1, q1]; omega) (by rw [q3, e2, List.length_map]; exact q2)
        rw [q3, Nat.zero_add] at this
        exact this
    · exact .none
  · exact .none

def s_ixs (t : Nat) (u v : TV) (c : Bool) (hs : List (Hint P)) : Out P :=
  match u, v, hs with
  | .one (.c (.v (.string s))), .one (.c (.v (.int _ n))), .und (t := t') (u := .string) _ :: .bg c' s' n' k _ :: hs =>
    some (⟨.one (.c (.v (.int .u8 ((bget s k).toNat : Int)))), [], []⟩, [⟨Nat, t', t⟩, ⟨Bool, c, c'⟩, ⟨ByteArray, s, s'⟩, ⟨Int, n, n'⟩], hs)
  | _, _, _ => none
theorem s_ixs_w {t : Nat} {x y : Operand} (ho : o.op = .index t x y) (hs : List (Hint P)) : Worth P o ev ob f c (s_ixs t (ev x) (ev y) c hs) := by
  unfold s_ixs
  split
  · rename_i s kk n t' hu c' s' n' k hk hs' hx hy
    refine .some fun he hc => ?_
    have e0 : t' = t := he.hd
    have e1 : c = c' := he.tl.hd
    have e2 : s = s' := he.tl.tl.hd
    have e3 : n = n' := he.tl.tl.tl.hd
    obtain ⟨q1, q2⟩ := hk (e1 ▸ hc)
    subst e0
    have q3 : n.toNat = k := by rw [e3, q1]; simp
    exact op_idx_s ho hx hy hu (by rw [e3, q1]; omega) (by rw [q3]; exact bget_eq (by rw [e2]; exact q2))
  · exact .none

def s_len (tt : Nat → Option TD) (t : Nat) (u : TV) (hs : List (Hint P)) : Out P :=
  match u with
  | .one (.c (.sl _ _ rows)) => match slO tt t, hs with
    | some _, .ln (α := α) g xs :: hs => some (⟨.one (.c (.v (.int .i64 (xs.length : Int)))), [], []⟩, [⟨List (List C1), rows, xs.map g⟩], hs)
    | _, _ => none
  | .one (.c (.mu _ _ _ _ len)) => match slO tt t, hs with
    | some _, .ln (α := α) g xs :: hs => some (⟨.one (.c (.v (.int .i64 (xs.length : Int)))), [], []⟩, [⟨Nat, len, (xs.map g).length⟩], hs)
    | _, _ => none
  | .one (.c .nl) => match slO tt t with
    | some _ => some (⟨.one (.c (.v (.int .i64 0))), [], []⟩, [], hs)
    | _ => none
  | .one (.c (.v (.string s))) => match hs with
    | .und (t := t') (u := .string) _ :: hs => some (⟨.one (.c (.v (.int .i64 (s.size : Int)))), [], []⟩, [⟨Nat, t', t⟩], hs)
    | _ => none
  | _ => none
theorem s_len_w (hT : TyOK P tt) {t : Nat} {x : Operand} (ho : o.op = .call { callee := .builtin .len, args := #[x], argTypes := #[t] }) (hs : List (Hint P)) : Worth P o ev ob f c (s_len tt t (ev x) hs) := by
  unfold s_len
  split
  · rename_i tg e rows hx
    split
    · rename_i de α g xs hs' hte
      obtain ⟨d, el, h1, h2, h3⟩ := slO_s hte
      exact .some fun he _ => by
        have e2 : rows = xs.map g := he.hd
        exact op_len hT ho hx (by rw [e2]; exact len_map) h1 h2
    · exact .none
  · rename_i k s e off len hx
    split
    · rename_i de α g xs hs' hte
      obtain ⟨d, el, h1, h2, h3⟩ := slO_s hte
      exact .some fun he _ => by
        have e2 : len = (xs.map g).length := he.hd
        exact op_len hT ho hx (by rw [e2]; exact len_mu) h1 h2
    · exact .none
  · rename_i hx
    split
    · rename_i de hte
      obtain ⟨d, el, h1, h2, h3⟩ := slO_s hte
      exact .some fun _ _ => op_len hT ho hx rfl h1 h2
    · exact .none
  · rename_i s hx
    split
    · rename_i t' hu hs'
      exact .some fun he _ => by
        have e0 : t' = t := he.hd
        subst e0
        exact op_len_s ho hx hu
    · exact .none
  · exact .none

def s_mm (b : Builtin) (u v : TV) (hs : List (Hint P)) : Out P :=
  match b, u, v with
  | .max, .one (.c (.v (.int k p))), .one (.c (.v (.int k' q))) => some (⟨.one (.c (.v (.int k (max p q)))), [], []⟩, [⟨IntKind, k, k'⟩], hs)
  | .min, .one (.c (.v (.int k p))), .one (.c (.v (.int k' q))) => some (⟨.one (.c (.v (.int k (min p q)))), [], []⟩, [⟨IntKind, k, k'⟩], hs)
  | _, _, _ => none
theorem s_mm_w {b : Builtin} {x y : Operand} {ts : Array Nat} (ho : o.op = .call { callee := .builtin b, args := #[x, y], argTypes := ts }) (hs : List (Hint P)) : Worth P o ev ob f c (s_mm b (ev x) (ev y) hs) := by
  unfold s_mm
  split
  · rename_i k p k' q hx hy
    exact .some fun he _ => by have e : k = k' := he.hd; subst e; exact op_max ho hx hy
  · rename_i k p k' q hx hy
    exact .some fun he _ => by have e : k = k' := he.hd; subst e; exact op_min ho hx hy
  · exact .none

/-- What is appended. -/
def srcF (ob : Nat → Option (Nat × AObj)) (e : Nat) (u : TV) (hs : List (Hint P)) : Option (V0 × List (List C1) × List (Nat × Bool) × List EqP × List (Hint P)) :=
  match u with
  | .one (.c .nl) => some (.c .nl, [], [], [], hs)
  | .one (.c (.sl .frz e' rows)) => bif Nat.beq e' e then some (.c (.sl .frz e' rows), rows, [], [], hs) else none
  | .one (.c (.sl .bor e' rows)) => match hs with
    | .pl (a := a) _ :: hs => bif Nat.beq e' e then some (.c (.sl .bor e' rows), rows, [], [⟨List (List C1), rows, a⟩], hs) else none
    | _ => none
  | .one (.c (.mu k s e' 0 len)) => match objAt ob k s with
    | some (x, eqs) => match rowsOf e x with
      | some (rows, e2) => bif Nat.beq e' e && Nat.beq e2 e then some (.c (.mu k s e' 0 len), rows, [(k, false)], ⟨Nat, len, rows.length⟩ :: eqs, hs) else none
      | none => none
    | none => none
  | _ => none

theorem srcF_s {e : Nat} {u : TV} {hs hs' : List (Hint P)} {v : V0} {rows : List (List C1)} {tch : List (Nat × Bool)} {eqs : List EqP} (h : srcF ob e u hs = some (v, rows, tch, eqs, hs')) (he : EqsOk eqs) : u = .one v ∧ Src ob e v rows tch := by
  unfold srcF at h
  split at h
  · cases h; exact ⟨rfl, .nl⟩
  · rename_i e' rows'
    cases hz : Nat.beq e' e with
    | false => rw [hz] at h; cases h
    | true =>
      rw [hz] at h; cases h
      have := Nat.eq_of_beq_eq_true hz
      subst this
      exact ⟨rfl, .frz⟩
  · rename_i e' rows'
    split at h
    · rename_i a b hab hs1
      cases hz : Nat.beq e' e with
      | false => rw [hz] at h; cases h
      | true =>
        rw [hz] at h; cases h
        have := Nat.eq_of_beq_eq_true hz
        subst this
        have q : rows = a := he.hd
        refine ⟨rfl, .bor ?_⟩
        rw [q, hab]
        intro r hr x hx
        obtain ⟨y, _, rfl⟩ := List.mem_map.1 hr
        obtain ⟨z, _, rfl⟩ := List.mem_map.1 hx
        exact ⟨z, rfl⟩
    · cases h
  · rename_i k s e' len
    split at h
    · rename_i x eqs0 hO
      split at h
      · rename_i rows' e2 hro
        cases hz : (Nat.beq e' e && Nat.beq e2 e) with
        | false => rw [hz] at h; cases h
        | true =>
          rw [hz] at h; cases h
          simp only [Bool.and_eq_true] at hz
          have h1 := Nat.eq_of_beq_eq_true hz.1
          have h2 := Nat.eq_of_beq_eq_true hz.2
          subst h1
          have q : len = rows.length := he.hd
          have hO' := objAt_s hO he.tl
          refine ⟨rfl, ?_⟩
          rcases rowsOf_s hro with rfl | rfl
          · have := Src.arr (off := 0) (len := len) (e := e') (h2 ▸ hO') (by omega)
            rwa [List.drop_zero, q, List.take_length, ← q] at this
          · have := Src.fz (off := 0) (len := len) (e := e') (h2 ▸ hO') (by omega)
            rwa [List.drop_zero, q, List.take_length, ← q] at this
      · cases h
    · cases h
  · cases h

def s_app (tt : Nat → Option TD) (ob : Nat → Option (Nat × AObj)) (f : Nat → Nat) (key t t' : Nat) (u v : TV) (c : Bool) (hs : List (Hint P)) : Out P :=
  match slO tt t, hs with
  | some de, .app (α := α) c' g xs ys m _ :: hs =>
    bif Nat.beq t t' && Nat.beq m de.bytes && Nat.ble 1 de.size && Nat.ble 1 de.bytes then
      match srcF ob de.size v hs with
      | some (_, rows, tch, eqs, hs') =>
        match u with
        | .one (.c .nl) => some (⟨.one (.c (.mu key (f 0) de.size 0 (ys.map g).length)), [(key, some (f 0, .arr de.size (ys.map g)))], (key, true) :: tch⟩, ⟨Bool, c, c'⟩ :: ⟨List (List C1), rows, ys.map g⟩ :: eqs, hs')
        | .one (.c (.mu k s e 0 len)) =>
          match objAt ob k s with
          | some (.arr e' rows0, eqs0) =>
            bif Nat.beq e de.size && Nat.beq e' e then
              some (⟨.one (.c (.mu k (f 0) e 0 ((xs ++ ys).map g).length)), [(k, some (f 0, .arr e ((xs ++ ys).map g)))], (k, true) :: tch⟩, ⟨Bool, c, c'⟩ :: ⟨List (List C1), rows, ys.map g⟩ :: ⟨Nat, len, (xs.map g).length⟩ :: ⟨List (List C1), rows0, xs.map g⟩ :: (eqs0 ++ eqs), hs')
            else none
          | _ => none
        | _ => none
      | none => none
    else none
  | _, _ => none

theorem s_app_w (hT : TyOK P tt) {t t' key : Nat} {x y : Operand} (ho : o.op = .call { callee := .builtin .append, args := #[x, y], argTypes := #[t, t'] }) (hs : List (Hint P)) : Worth P o ev ob f c (s_app tt ob f key t t' (ev x) (ev y) c hs) := by
  unfold s_app
  split
  · rename_i de α c' g xs ys m hk hs' hte
    obtain ⟨d, el, h1, h2, h3⟩ := slO_s hte
    cases hz : (Nat.beq t t' && Nat.beq m de.bytes && Nat.ble 1 de.size && Nat.ble 1 de.bytes) with
    | false => exact .none
    | true =>
      simp only [cond_true]
      simp only [Bool.and_eq_true] at hz
      obtain ⟨⟨⟨z1, z2⟩, z3⟩, z4⟩ := hz
      have z1' := Nat.eq_of_beq_eq_true z1
      have z2' := Nat.eq_of_beq_eq_true z2
      subst z1' z2'
      split
      · rename_i v rows tch eqs hs'' hsrc
        split
        · rename_i hx
          refine .some fun he hc => ?_
          have e0 : c = c' := he.hd
          have e1 : rows = ys.map g := he.tl.hd
          obtain ⟨hy, hsr⟩ := srcF_s hsrc he.tl.tl
          have hb := hk (e0 ▸ hc)
          exact op_app_nl hT g ys ho hx hy hsr e1 h1 h2 h3 (Nat.beq_refl _) z3 z4 (Nat.le_trans (Nat.mul_le_mul_right _ (Nat.le_add_left _ _)) hb)
        · rename_i k s e len hx
          split
          · rename_i e' rows0 eqs0 hO
            cases hz : (Nat.beq e de.size && Nat.beq e' e) with
            | false => exact .none
            | true =>
              simp only [cond_true]
              simp only [Bool.and_eq_true] at hz
              have z5 := Nat.eq_of_beq_eq_true hz.1
              have z6 := Nat.eq_of_beq_eq_true hz.2
              refine .some fun he hc => ?_
              have e0 : c = c' := he.hd
              have e1 : rows = ys.map g := he.tl.hd
              have e2 : len = (xs.map g).length := he.tl.tl.hd
              have e3 : rows0 = xs.map g := he.tl.tl.tl.hd
              have hO' := objAt_s hO he.tl.tl.tl.tl.l
              obtain ⟨hy, hsr⟩ := srcF_s hsrc he.tl.tl.tl.tl.r
              have hb := hk (e0 ▸ hc)
              subst z6 z5 e3 e2
              exact op_app_ml hT g xs ys ho hx hO' hy hsr e1 h1 h2 h3 (Nat.beq_refl _) z4 hb
          · exact .none
        · exact .none
      · exact .none
  · exact .none

def s_conv (src dst : Nat) (u : TV) (c : Bool) (hs : List (Hint P)) : Out P :=
  match u, hs with
  | .one (.c (.v (.int _ a))), .und (t := t1) _ :: .und (t := t2) (u := .int k) _ :: hs => s_ar k a c [⟨Nat, t1, src⟩, ⟨Nat, t2, dst⟩] hs
  | _, _ => none
theorem s_conv_w {src dst : Nat} {x : Operand} (ho : o.op = .convert src dst x) (hs : List (Hint P)) : Worth P o ev ob f c (s_conv src dst (ev x) c hs) := by
  unfold s_conv
  split
  · rename_i k' a t1 u1 hu1 t2 k hu2 hs' hx
    exact s_ar_w fun r he _ hr => by
      have e1 : t1 = src := he.hd
      have e2 : t2 = dst := he.tl.hd
      subst e1 e2
      exact op_conv ho (by rw [hu1]; rfl) hu2 hx hr
  · exact .none

def s_bytes (tt : Nat → Option TD) (ob : Nat → Option (Nat × AObj)) (src dst : Nat) (u : TV) (hs : List (Hint P)) : Out P :=
  match tt src, u with
  | some d, .one (.c (.mu k s 1 0 1)) => match d.k, objAt ob k s, hs with
    | .slc el, some (.arr 1 [[.v (.int .u8 n)]], eqs), .und (t := t1) (u := .int .u8) _ :: .und (t := t2) (u := .string) _ :: hs => some (⟨.one (.c (.v (.string ⟨#[UInt8.ofNat n.toNat]⟩))), [], [(k, false)]⟩, ⟨Nat, t1, el⟩ :: ⟨Nat, t2, dst⟩ :: eqs, hs)
    | _, _, _ => none
  | _, _ => none
theorem s_bytes_w (hT : TyOK P tt) {src dst : Nat} {x : Operand} (ho : o.op = .convert src dst x) (hs : List (Hint P)) : Worth P o ev ob f c (s_bytes tt ob src dst (ev x) hs) := by
  unfold s_bytes
  split
  · rename_i d k s hd hx
    split
    · rename_i el n eqs t1 hu1 t2 hu2 hs' hk hO
      refine .some fun he _ => ?_
      have e1 : t1 = el := he.hd
      have e2 : t2 = dst := he.tl.hd
      subst e1 e2
      exact op_byte hT ho hd hk hu1 hu2 hx (objAt_s hO he.tl.tl)
    · exact .none
  · exact .none

def s_ext (u : TV) (i : Nat) (hs : List (Hint P)) : Out P :=
  match u with
  | .tu xs => match xs[i]? with
    | some v => some (⟨.one v, [], []⟩, [], hs)
    | none => none
  | _ => none
theorem s_ext_w {x : Operand} {i : Nat} (ho : o.op = .extract x i) (hs : List (Hint P)) : Worth P o ev ob f c (s_ext (ev x) i hs) := by
  unfold s_ext
  split
  · rename_i xs hx
    split
    · rename_i v hi; exact .some fun _ _ => op_extract ho hx hi
    · exact .none
  · exact .none

def s_nil (u : TV) (hs : List (Hint P)) : Out P :=
  match u with
  | .one (.pt k s off) => some (⟨.one (.pt k s off), [], []⟩, [], hs)
  | .one (.pa k s e i off) => some (⟨.one (.pa k s e i off), [], []⟩, [], hs)
  | _ => none
theorem s_nil_w {x : Operand} (ho : o.op = .nilCheck x) (hs : List (Hint P)) : Worth P o ev ob f c (s_nil (ev x) hs) := by
  unfold s_nil
  split
  · rename_i hx; exact .some fun _ _ => op_nilp ho hx
  · rename_i hx; exact .some fun _ _ => op_nila ho hx
  · exact .none

def s_build (tt : Nat → Option TD) (ev : Operand → TV) (t : Nat) (parts : List (Nat × Operand)) (hs : List (Hint P)) : Out P :=
  match tt t with
  | some d => match d.k with
    | .st fs => bif fs.all (fun x => (tt x.2).isSome) then
        match partsV ev parts with
        | some pv => match bldC tt fs (d.zero.map cellOf) pv with
          | some cs => some (⟨.one (.ag cs), [], []⟩, [], hs)
          | none => none
        | none => none
      else none
    | _ => none
  | none => none
theorem s_build_w (hT : TyOK P tt) {t : Nat} {parts : Array (Nat × Operand)} (ho : o.op = .build t parts) (hs : List (Hint P)) : Worth P o ev ob f c (s_build tt ev t parts.toList hs) := by
  unfold s_build
  split
  · rename_i d ht
    split
    · rename_i fs hk
      cases hz : fs.all (fun x => (tt x.2).isSome) with
      | false => exact .none
      | true =>
        simp only [cond_true]
        split
        · rename_i pv hp
          split
          · rename_i cs hc; exact .some fun _ _ => op_build hT ho ht hk hz hp hc
          · exact .none
        · exact .none
    · exact .none
  · exact .none

def s_field (tt : Nat → Option TD) (t i : Nat) (u : TV) (hs : List (Hint P)) : Out P :=
  match stO tt t i, u with
  | some (off, _, d'), .one (.ag xs) => bif Nat.ble (off + d'.size) xs.length && (d'.agg || Nat.beq d'.size 1) then
      match ldV d'.agg ((xs.drop off).take d'.size) with
      | some v => some (⟨.one v, [], []⟩, [], hs)
      | none => none
    else none
  | _, _ => none
theorem s_field_w (hT : TyOK P tt) {t i : Nat} {x : Operand} (ho : o.op = .field t x i) (hs : List (Hint P)) : Worth P o ev ob f c (s_field tt t i (ev x) hs) := by
  unfold s_field
  split
  · rename_i off d d' xs h hx
    obtain ⟨fs, ft, h1, h2, h3, h4, h5⟩ := stO_s h
    cases hz : (Nat.ble (off + d'.size) xs.length && (d'.agg || Nat.beq d'.size 1)) with
    | false => exact .none
    | true =>
      simp only [cond_true]
      simp only [Bool.and_eq_true] at hz
      split
      · rename_i v hv; exact .some fun _ _ => op_field hT ho hx h1 h2 h3 h4 hz.1 hz.2 hv
      · exact .none
  · exact .none

/-- Rows out of operands. -/
def lrF (ob : Nat → Option (Nat × AObj)) (ev : Operand → TV) (e : Nat) : List Operand → List (List C1) → List (Hint P) → Option (List (Nat × Nat × AObj) × List EqP × List (Hint P))
  | [], [], hs => some ([], [], hs)
  | x :: xs, r :: rows, hs => match ev x with
    | .one v => match valCells v with
      | some cs => match dnF ob cs r hs with
        | some (fr, eqs, hs1) => bif Nat.beq r.length e then match lrF ob ev e xs rows hs1 with
            | some (frs, eqs', hs2) => some (fr ++ frs, eqs ++ eqs', hs2)
            | none => none
          else none
        | none => none
      | none => none
    | _ => none
  | _, _, _ => none
theorem lrF_s {e : Nat} : ∀ {xs : List Operand} {rows : List (List C1)} {hs hs' : List (Hint P)} {fr : List (Nat × Nat × AObj)} {eqs : List EqP}, lrF ob ev e xs rows hs = some (fr, eqs, hs') → EqsOk eqs → LRows ob ev e xs rows fr
  | [], [], hs, hs', fr, eqs, h, he => by simp only [lrF, Option.some.injEq, Prod.mk.injEq] at h; obtain ⟨rfl, _, _⟩ := h; exact .nil
  | [], _ :: _, hs, hs', fr, eqs, h, he => by simp [lrF] at h
  | _ :: _, [], hs, hs', fr, eqs, h, he => by simp [lrF] at h
  | x :: xs, r :: rows, hs, hs', fr, eqs, h, he => by
    unfold lrF at h
    split at h
    · rename_i v hv
      split at h
      · rename_i cs hcs
        split at h
        · rename_i fr1 eqs1 hs1 hd
          cases hz : Nat.beq r.length e with
          | false => rw [hz] at h; cases h
          | true =>
            rw [hz] at h; simp only [cond_true] at h
            split at h
            · rename_i frs eqs2 hs2 hl
              cases h
              exact .cons hv hcs (dnF_s hd he.l) hz (lrF_s hl he.r)
            · cases h
        · cases h
      · cases h
    · cases h

def idxOk : Nat → List (Nat × Operand) → Bool
  | _, [] => true
  | k, (i, _) :: r => Nat.beq i k && idxOk (k + 1) r
theorem idxOk_s : ∀ {k : Nat} {l : List (Nat × Operand)}, idxOk k l = true → l = ((l.map (·.2)).zipIdx k).map fun x => (x.2, x.1)
  | _, [], _ => rfl
  | k, (i, x) :: r, h => by
    simp only [idxOk, Bool.and_eq_true] at h
    have := Nat.eq_of_beq_eq_true h.1
    subst this
    simp only [List.map_cons, List.zipIdx_cons]
    rw [← idxOk_s h.2]

def s_bs (tt : Nat → Option TD) (ob : Nat → Option (Nat × AObj)) (ev : Operand → TV) (f : Nat → Nat) (key t n : Nat) (parts : List (Nat × Operand)) (hs : List (Hint P)) : Out P :=
  match slO tt t with
  | some de => bif parts.isEmpty && Nat.beq n 0 then bif Nat.ble 1 de.size then some (⟨.one (.c (.mu key (f 0) de.size 0 0)), [(key, some (f 0, .arr de.size []))], [(key, true)]⟩, [], hs) else none
    else match hs with
      | .rows (α := α) g xs :: hs => match lrF ob ev de.size (parts.map (·.2)) (xs.map g) hs with
        | some (fr, eqs, hs') =>
          bif idxOk 0 parts && Nat.beq (parts.map (·.2)).length n && Nat.ble 1 de.size && Nat.ble 1 n && Nat.ble (n * de.size) 16777216 && nodupB (key :: fr.map (·.1)) then
            some (⟨.one (.c (.mu key (f 0) de.size 0 n)), (key, some (f 0, .arr de.size (xs.map g))) :: frU fr, (key, true) :: frT fr⟩, eqs, hs')
          else none
        | none => none
      | _ => none
  | none => none
theorem s_bs_w (hT : TyOK P tt) {t n key : Nat} {parts : Array (Nat × Operand)} (ho : o.op = .buildSlice t n parts) (hs : List (Hint P)) : Worth P o ev ob f c (s_bs tt ob ev f key t n parts.toList hs) := by
  unfold s_bs
  split
  · rename_i de hte
    obtain ⟨d, el, h1, h2, h3⟩ := slO_s hte
    cases hp : (parts.toList.isEmpty && Nat.beq n 0) with
    | true =>
      simp only [cond_true]
      cases hz : Nat.ble 1 de.size with
      | false => exact .none
      | true =>
        simp only [Bool.and_eq_true] at hp
        have hp' : parts = #[] := by cases parts; simp_all
        have hn := Nat.eq_of_beq_eq_true hp.2
        subst hp' hn
        exact .some fun _ _ => op_bs0 hT ho h1 h2 h3 (Nat.beq_refl _) hz
    | false =>
      simp only [cond_false]
      split
      · rename_i α g xs hs'
        split
        · rename_i fr eqs hs'' hl
          cases hz : (idxOk 0 parts.toList && Nat.beq (parts.toList.map (·.2)).length n && Nat.ble 1 de.size && Nat.ble 1 n && Nat.ble (n * de.size) 16777216 && nodupB (key :: fr.map (·.1))) with
          | false => exact .none
          | true =>
            simp only [cond_true]
            simp only [Bool.and_eq_true] at hz
            obtain ⟨⟨⟨⟨⟨z1, z2⟩, z3⟩, z4⟩, z5⟩, z6⟩ := hz
            exact .some fun he _ => op_bs hT ho rfl (idxOk_s z1) z2 (lrF_s hl he) h1 h2 h3 (Nat.beq_refl _) z3 z4 z5 z6
        · exact .none
      · exact .none
  · exact .none

def z1F : List Value → List C1 → Option (List EqP)
  | [], [] => some []
  | x :: xs, .v y :: ys => bif isPlain x then (z1F xs ys).map (⟨Value, x, y⟩ :: ·) else none
  | .slice none 0 0 :: xs, .sl _ [] :: ys => z1F xs ys
  | _, _ => none
theorem z1F_s : ∀ {xs : List Value} {ys : List C1} {eqs : List EqP}, z1F xs ys = some eqs → EqsOk eqs → All2 Z1 xs ys := by
  intro xs
  induction xs with
  | nil =>
    intro ys eqs h he
    cases ys with
    | nil => exact .nil
    | cons y ys => simp [z1F] at h
  | cons x xs ih =>
    intro ys eqs h he
    unfold z1F at h
    split at h
    · rename_i heq; cases heq
    · rename_i x1 xs1 y1 ys1 heq
      cases heq
      cases hp : isPlain x with
      | false => rw [hp] at h; cases h
      | true =>
        rw [hp] at h
        simp only [cond_true, Option.map_eq_some_iff] at h
        obtain ⟨eqs1, h1, rfl⟩ := h
        have e : x = y1 := he.hd
        subst e
        exact .cons (.v hp) (ih h1 he.tl)
    · rename_i xs1 e1 ys1 heq
      cases heq
      exact .cons .nl (ih h he)
    · cases h

def s_mk (tt : Nat → Option TD) (f : Nat → Nat) (key t : Nat) (u v : TV) (c : Bool) (hs : List (Hint P)) : Out P :=
  match slO tt t, u, v, hs with
  | some de, .one (.c (.v (.int _ a))), .one (.c (.v (.int _ b))), .mk (α := α) c' g z n k m _ :: hs =>
    bif Nat.beq m de.bytes && Nat.ble 1 de.size && Nat.ble 1 de.bytes then
      match z1F de.zero (g z) with
      | some eqs => some (⟨.one (.c (.mu key (f 0) de.size 0 ((List.replicate k z).map g).length)), [(key, some (f 0, .arr de.size ((List.replicate k z).map g)))], [(key, true)]⟩, ⟨Bool, c, c'⟩ :: ⟨Int, a, n⟩ :: ⟨Int, b, n⟩ :: eqs, hs)
      | none => none
    else none
  | _, _, _, _ => none
theorem s_mk_w (hT : TyOK P tt) {t key : Nat} {x y : Operand} (ho : o.op = .makeSlice t x y) (hs : List (Hint P)) : Worth P o ev ob f c (s_mk tt f key t (ev x) (ev y) c hs) := by
  unfold s_mk
  split
  · rename_i de k1 a k2 b α c' g z n k m hk hs' hte hx hy
    obtain ⟨d, el, h1, h2, h3⟩ := slO_s hte
    cases hz : (Nat.beq m de.bytes && Nat.ble 1 de.size && Nat.ble 1 de.bytes) with
    | false => exact .none
    | true =>
      simp only [cond_true]
      simp only [Bool.and_eq_true] at hz
      obtain ⟨⟨z1, z2⟩, z3⟩ := hz
      have z1' := Nat.eq_of_beq_eq_true z1
      subst z1'
      split
      · rename_i eqs hzr
        refine .some fun he hc => ?_
        have e0 : c = c' := he.hd
        have e1 : a = n := he.tl.hd
        have e2 : b = n := he.tl.tl.hd
        obtain ⟨q1, q2⟩ := hk (e0 ▸ hc)
        subst e1 e2 q1
        exact op_make_l hT g z ho hx hy h1 h2 h3 (Nat.beq_refl _) z2 z3 q2 (z1F_s hzr he.tl.tl.tl)
      · exact .none
  · exact .none

/-- A bound of a slice. -/
def bdF (ev : Operand → TV) (x : Option Operand) (dflt n : Int) (l : Nat) : Option (List EqP) :=
  match bnd ev x dflt with
  | some m => some [⟨Int, m, n⟩]
  | none => none

def s_sl (tt : Nat → Option TD) (ev : Operand → TV) (t : Nat) (u : TV) (lo hi : Option Operand) (c : Bool) (hs : List (Hint P)) : Out P :=
  match slO tt t, u, hs with
  | some de, .one (.c (.sl tg e rows)), .sl (α := α) c' g xs nl nh l h _ :: hs =>
    match bnd ev lo 0, bnd ev hi xs.length with
    | some a, some b => bif Nat.beq de.size e then some (⟨.one (.c (.sl tg e (((xs.drop l).take (h - l)).map g))), [], []⟩, [⟨Bool, c, c'⟩, ⟨Int, a, nl⟩, ⟨Int, b, nh⟩, ⟨List (List C1), rows, xs.map g⟩], hs) else none
    | _, _ => none
  | _, _, _ => none
theorem s_sl_w (hT : TyOK P tt) {t : Nat} {x : Operand} {lo hi : Option Operand} (ho : o.op = .slice t x lo hi none) (hs : List (Hint P)) : Worth P o ev ob f c (s_sl tt ev t (ev x) lo hi c hs) := by
  unfold s_sl
  split
  · rename_i de tg e rows α c' g xs nl nh l h hk hs' hte hx
    obtain ⟨d, el, h1, h2, h3⟩ := slO_s hte
    split
    · rename_i a b hlo hhi
      cases hz : Nat.beq de.size e with
      | false => exact .none
      | true =>
        refine .some fun he hc => ?_
        have e0 : c = c' := he.hd
        have e1 : a = nl := he.tl.hd
        have e2 : b = nh := he.tl.tl.hd
        have e3 : rows = xs.map g := he.tl.tl.tl.hd
        obtain ⟨q1, q2, q3, q4⟩ := hk (e0 ▸ hc)
        subst e1 e2 e3 q1 q2
        exact op_sl_l hT ho hx hlo hhi h1 h2 h3 hz q3 q4
    · exact .none
  · exact .none

def s_box (f : Nat → Nat) (key : Nat) (u : TV) (hs : List (Hint P)) : Out P :=
  match u with
  | .one v => match valCells v with
    | some cs => some (⟨.one (.pt key (f 0) 0), [(key, some (f 0, .box cs))], [(key, true)]⟩, [], hs)
    | none => none
  | _ => none
theorem s_box_w {t key : Nat} {x : Operand} (ho : o.op = .box t x) (hs : List (Hint P)) : Worth P o ev ob f c (s_box f key (ev x) hs) := by
  unfold s_box
  split
  · rename_i v hx
    split
    · rename_i cs hv; exact .some fun _ _ => op_box ho hx hv
    · exact .none
  · exact .none

def s_alloc (tt : Nat → Option TD) (f : Nat → Nat) (key t : Nat) (hs : List (Hint P)) : Out P :=
  match tt t with
  | some d => some (⟨.one (.pt key (f 0) 0), [(key, some (f 0, .box (d.zero.map cellOf)))], [(key, true)]⟩, [], hs)
  | none => none
theorem s_alloc_w (hT : TyOK P tt) {t key : Nat} (ho : o.op = .alloc t) (hs : List (Hint P)) : Worth P o ev ob f c (s_alloc tt f key t hs) := by
  unfold s_alloc
  split
  · rename_i d ht; exact .some fun _ _ => op_alloc hT ho ht
  · exact .none
end
end Go.Lap
