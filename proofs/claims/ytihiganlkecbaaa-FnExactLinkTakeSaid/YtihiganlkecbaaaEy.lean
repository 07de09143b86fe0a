/- The engine's twenty-fifth part: operations, computed: what each does to a state, with what must be one and what is asked told beside. -/
import Derived.Test.YtihiganlkecbaaaEx
set_option linter.unusedVariables false
namespace Go.Lap
open Go.RowKit

/-- Two terms that are to be one. -/
structure EqP where
  α : Type
  a : α
  b : α
def EqP.dup (e : EqP) : EqP := ⟨e.α, e.a, e.a⟩
def EqsOk (l : List EqP) : Prop := ∀ e ∈ l, e.a = e.b
theorem eqs_ok : ∀ {l : List EqP}, l.map EqP.dup = l → EqsOk l
  | [], _ => fun e he => by simp at he
  | ⟨α, a, b⟩ :: l, h => fun e he => by
    simp only [List.map_cons, EqP.dup, List.cons.injEq, EqP.mk.injEq, heq_eq_eq, true_and] at h
    rcases List.mem_cons.1 he with rfl | he
    · exact h.1
    · exact eqs_ok h.2 e he
theorem EqsOk.hd {α : Type} {a b : α} {l : List EqP} (h : EqsOk (⟨α, a, b⟩ :: l)) : a = b := h ⟨α, a, b⟩ (by simp)
theorem EqsOk.tl {e : EqP} {l : List EqP} (h : EqsOk (e :: l)) : EqsOk l := fun x hx => h x (by simp [hx])
theorem EqsOk.l {l l' : List EqP} (h : EqsOk (l ++ l')) : EqsOk l := fun x hx => h x (by simp [hx])
theorem EqsOk.r {l l' : List EqP} (h : EqsOk (l ++ l')) : EqsOk l' := fun x hx => h x (by simp [hx])

/-- What an operation is told besides. -/
inductive Hint (P : Program) : Type 1 where
  | ix {α : Type} (i : Inhabited α) (c : Bool) (g : α → List C1) (xs : List α) (n : Int) (k : Nat) (h : c = true → n = (k : Int) ∧ k < xs.length)
  | ln {α : Type} (g : α → List C1) (xs : List α)
  | sl {α : Type} (c : Bool) (g : α → List C1) (xs : List α) (nl nh : Int) (l h : Nat) (p : c = true → nl = (l : Int) ∧ nh = (h : Int) ∧ l ≤ h ∧ h ≤ xs.length)
  | nz (c : Bool) (b : Int) (h : c = true → b ≠ 0)
  | wr
  | ex (c : Bool) (a r : Int) (h : c = true → IntKind.i64.wrap a = r)
  | cat (c : Bool) (a b : ByteArray) (h : c = true → a.size + b.size ≤ 9223372036854775807)
  | bg (c : Bool) (s : ByteArray) (n : Int) (k : Nat) (h : c = true → n = (k : Int) ∧ k < s.size)
  | rw {a b : List (List C1)} (h : a = b)
  | pl {a : List (List C1)} {b : List (List Value)} (h : a = b.map fun r => r.map C1.v)
  | und {t : Nat} {u : TypeDesc} (h : P.underlying t = some u)
  | mpz {t : Nat} (h : (P.info? t).bind (fun i => i.zero) = some (.bool false))
  | app {α : Type} (c : Bool) (g : α → List C1) (xs ys : List α) (m : Nat) (h : c = true → (xs.length + ys.length) * m ≤ 140737488355328)
  | mk {α : Type} (c : Bool) (g : α → List C1) (z : α) (n : Int) (k m : Nat) (h : c = true → n = (k : Int) ∧ k * m ≤ 140737488355328)
  | rows {α : Type} (g : α → List C1) (xs : List α)
  | st {α : Type} (i : Inhabited α) (c : Bool) (g : α → List C1) (xs : List α) (k : Nat) (z : α) (h : c = true → k < xs.length)
  | eqs {t : Nat} {us vs : List Value} {r : Bool} (h : EqS P t us vs r)
  | call (c : Bool) (n : Nat) (ps : List Par) (rs : List RV) (outs : List (List Cell)) (h : c = true → Fn P n ps rs outs)

abbrev Out (P : Program) := Option (Upd × List EqP × List (Hint P))

section
variable {P : Program} {tt : Nat → Option TD} {o : Oper} {ev : Operand → TV} {ob : Nat → Option (Nat × AObj)} {f : Nat → Nat} {c : Bool}

/-- What a computed operation is worth. -/
def Worth (P : Program) (o : Oper) (ev : Operand → TV) (ob : Nat → Option (Nat × AObj)) (f : Nat → Nat) (c : Bool) (x : Out P) : Prop :=
  ∀ U eqs hs, x = some (U, eqs, hs) → EqsOk eqs → c = true → OpOK P o ev ob f U

theorem Worth.none : Worth P o ev ob f c none := fun _ _ _ h => by cases h
theorem Worth.some {U : Upd} {eqs : List EqP} {hs : List (Hint P)} (h : EqsOk eqs → c = true → OpOK P o ev ob f U) : Worth P o ev ob f c (some (U, eqs, hs)) := fun _ _ _ e he hc => by
  cases e; exact h he hc

/-! #### Arithmetic -/
def s_ar (k : IntKind) (v : Int) (c : Bool) (eqs : List EqP) : List (Hint P) → Out P
  | .wr :: hs => some (⟨.one (.c (.v (.int k (k.wrap v)))), [], []⟩, eqs, hs)
  | .ex c' a r _ :: hs => match k with
    | .i64 => some (⟨.one (.c (.v (.int .i64 r))), [], []⟩, ⟨Bool, c, c'⟩ :: ⟨Int, v, a⟩ :: eqs, hs)
    | _ => none
  | _ => none

def isK : IntKind → IntKind → Bool := fun a b => decide (a = b)

def s_bin (op : BinOp) (t : Nat) (u v : TV) (c : Bool) (hs : List (Hint P)) : Out P :=
  match u, v with
  | .one (.c (.v (.int k a))), .one (.c (.v (.int k' b))) =>
    match op with
    | .add => s_ar k (a + b) c [⟨IntKind, k, k'⟩] hs
    | .sub => s_ar k (a - b) c [⟨IntKind, k, k'⟩] hs
    | .mul => s_ar k (a * b) c [⟨IntKind, k, k'⟩] hs
    | .quo => match hs with
      | .nz c' b' _ :: hs => s_ar k (a.tdiv b) c [⟨IntKind, k, k'⟩, ⟨Bool, c, c'⟩, ⟨Int, b, b'⟩] hs
      | _ => none
    | .rem => match hs with
      | .nz c' b' _ :: hs => some (⟨.one (.c (.v (.int k (a.tmod b)))), [], []⟩, [⟨IntKind, k, k'⟩, ⟨Bool, c, c'⟩, ⟨Int, b, b'⟩], hs)
      | _ => none
    | .xor => some (⟨.one (.c (.v (.int k (bits .xor k a b)))), [], []⟩, [⟨IntKind, k, k'⟩], hs)
    | .lss => some (⟨.one (.c (.v (.bool (decide (a < b))))), [], []⟩, [⟨IntKind, k, k'⟩], hs)
    | .leq => some (⟨.one (.c (.v (.bool (decide (a ≤ b))))), [], []⟩, [⟨IntKind, k, k'⟩], hs)
    | .gtr => some (⟨.one (.c (.v (.bool (decide (b < a))))), [], []⟩, [⟨IntKind, k, k'⟩], hs)
    | .geq => some (⟨.one (.c (.v (.bool (decide (b ≤ a))))), [], []⟩, [⟨IntKind, k, k'⟩], hs)
    | .eql => some (⟨.one (.c (.v (.bool (decide (a = b))))), [], []⟩, [⟨IntKind, k, k'⟩], hs)
    | .neq => some (⟨.one (.c (.v (.bool (!decide (a = b))))), [], []⟩, [⟨IntKind, k, k'⟩], hs)
    | _ => none
  | .one (.c (.v (.string a))), .one (.c (.v (.string b))) =>
    match op with
    | .eql => some (⟨.one (.c (.v (.bool (a.toList == b.toList)))), [], []⟩, [], hs)
    | .neq => some (⟨.one (.c (.v (.bool (!(a.toList == b.toList))))), [], []⟩, [], hs)
    | .lss => some (⟨.one (.c (.v (.bool (Op.bytesLess a.toList b.toList)))), [], []⟩, [], hs)
    | .geq => some (⟨.one (.c (.v (.bool (!Op.bytesLess a.toList b.toList)))), [], []⟩, [], hs)
    | .add => match hs with
      | .cat c' a' b' _ :: hs => some (⟨.one (.c (.v (.string (a ++ b)))), [], []⟩, [⟨Bool, c, c'⟩, ⟨ByteArray, a, a'⟩, ⟨ByteArray, b, b'⟩], hs)
      | _ => none
    | _ => none
  | .one (.c (.v (.bool a))), .one (.c (.v (.bool b))) =>
    match op, hs with
    | .eql, .und (t := t') (u := .bool) _ :: hs => some (⟨.one (.c (.v (.bool (a == b)))), [], []⟩, [⟨Nat, t', t⟩], hs)
    | .neq, .und (t := t') (u := .bool) _ :: hs => some (⟨.one (.c (.v (.bool (!(a == b))))), [], []⟩, [⟨Nat, t', t⟩], hs)
    | _, _ => none
  | .one (.ag xs), .one (.ag ys) =>
    match op, hs, valsC xs, valsC ys with
    | .eql, .eqs (t := t') (us := us) (vs := vs) (r := r) _ :: hs, some us', some vs' => some (⟨.one (.c (.v (.bool r))), [], []⟩, [⟨Nat, t', t⟩, ⟨List Value, us', us⟩, ⟨List Value, vs', vs⟩], hs)
    | .neq, .eqs (t := t') (us := us) (vs := vs) (r := r) _ :: hs, some us', some vs' => some (⟨.one (.c (.v (.bool (!r)))), [], []⟩, [⟨Nat, t', t⟩, ⟨List Value, us', us⟩, ⟨List Value, vs', vs⟩], hs)
    | _, _, _, _ => none
  | _, _ => none

theorem s_ar_w {k : IntKind} {v : Int} {eqs : List EqP} {hs : List (Hint P)} (h : ∀ r, EqsOk eqs → c = true → k.wrap v = r → OpOK P o ev ob f ⟨.one (.c (.v (.int k r))), [], []⟩) : Worth P o ev ob f c (s_ar k v c eqs hs) := by
  unfold s_ar
  split
  · exact .some fun he hc => h _ he hc rfl
  · split
    · refine .some fun he hc => h _ he.tl.tl hc ?_
      rename_i hr _ _
      have e1 : c = _ := he.hd
      have e2 : v = _ := he.tl.hd
      rw [e2]; exact hr (e1 ▸ hc)
    · exact .none
  · exact .none

theorem s_bin_w {op : BinOp} {t t' : Nat} {x y : Operand} (ho : o.op = .binOp op t x y t') (hs : List (Hint P)) : Worth P o ev ob f c (s_bin op t (ev x) (ev y) c hs) := by
  unfold s_bin
  split
  · rename_i k a k' b hx hy
    split
    · exact s_ar_w fun r he _ hr => by have e : k = k' := he.hd; subst e; exact op_add ho hx hy hr
    · exact s_ar_w fun r he _ hr => by have e : k = k' := he.hd; subst e; exact op_sub ho hx hy hr
    · exact s_ar_w fun r he _ hr => by have e : k = k' := he.hd; subst e; exact op_mul ho hx hy hr
    · split
      · rename_i c' b' hb hs'
        exact s_ar_w fun r he hc hr => by
          have e : k = k' := he.hd; subst e
          have e1 : c = c' := he.tl.hd
          have e2 : b = b' := he.tl.tl.hd
          exact op_quo ho hx hy (by rw [e2]; exact hb (e1 ▸ hc)) hr
      · exact .none
    · split
      · rename_i c' b' hb hs'
        exact .some fun he hc => by
          have e : k = k' := he.hd; subst e
          have e1 : c = c' := he.tl.hd
          have e2 : b = b' := he.tl.tl.hd
          exact op_rem ho hx hy (by rw [e2]; exact hb (e1 ▸ hc)) rfl
      · exact .none
    · exact .some fun he _ => by have e : k = k' := he.hd; subst e; exact op_xor ho hx hy rfl
    · exact .some fun he _ => by have e : k = k' := he.hd; subst e; exact op_lss ho hx hy
    · exact .some fun he _ => by have e : k = k' := he.hd; subst e; exact op_leq ho hx hy
    · exact .some fun he _ => by have e : k = k' := he.hd; subst e; exact op_gtr ho hx hy
    · exact .some fun he _ => by have e : k = k' := he.hd; subst e; exact op_geq ho hx hy
    · exact .some fun he _ => by have e : k = k' := he.hd; subst e; exact op_eql ho hx hy
    · exact .some fun he _ => by have e : k = k' := he.hd; subst e; exact op_neq ho hx hy
    · exact .none
  · rename_i a b hx hy
    split
    · exact .some fun _ _ => op_seq ho hx hy
    · exact .some fun _ _ => op_sne ho hx hy
    · exact .some fun _ _ => op_slt ho hx hy
    · exact .some fun _ _ => op_sge ho hx hy
    · split
      · rename_i c' a' b' hb hs'
        exact .some fun he hc => by
          have e1 : c = c' := he.hd
          have e2 : a = a' := he.tl.hd
          have e3 : b = b' := he.tl.tl.hd
          exact op_cat ho hx hy (by rw [e2, e3]; exact hb (e1 ▸ hc))
      · exact .none
    · exact .none
  · rename_i a b hx hy
    split
    · rename_i t'' hu hs'
      exact .some fun he _ => by have e : t'' = t := he.hd; subst e; exact op_beq ho hu hx hy
    · rename_i t'' hu hs'
      exact .some fun he _ => by have e : t'' = t := he.hd; subst e; exact op_bne ho hu hx hy
    · exact .none
  · rename_i xs ys hx hy
    split
    · rename_i t'' us vs r hr hs' us' vs' h1 h2
      exact .some fun he _ => by
        have e : t'' = t := he.hd; subst e
        have e1 : us' = us := he.tl.hd; subst e1
        have e2 : vs' = vs := he.tl.tl.hd; subst e2
        exact op_eqs ho hx hy h1 h2 hr
    · rename_i t'' us vs r hr hs' us' vs' h1 h2
      exact .some fun he _ => by
        have e : t'' = t := he.hd; subst e
        have e1 : us' = us := he.tl.hd; subst e1
        have e2 : vs' = vs := he.tl.tl.hd; subst e2
        exact op_nes ho hx hy h1 h2 hr
    · exact .none
  · exact .none

def s_un (op : UnOp) (u : TV) (c : Bool) (hs : List (Hint P)) : Out P :=
  match op, u with
  | .not, .one (.c (.v (.bool a))) => some (⟨.one (.c (.v (.bool (!a)))), [], []⟩, [], hs)
  | .neg, .one (.c (.v (.int k a))) => s_ar k (0 - a) c [] hs
  | _, _ => none
theorem s_un_w {op : UnOp} {t : Nat} {x : Operand} (ho : o.op = .unOp op t x) (hs : List (Hint P)) : Worth P o ev ob f c (s_un op (ev x) c hs) := by
  unfold s_un
  split
  · rename_i a hx; exact .some fun _ _ => op_not ho hx
  · rename_i k a hx; exact s_ar_w fun r _ _ hr => op_neg ho hx hr
  · exact .none

/-! #### Memory -/
def stO (tt : Nat → Option TD) (t i : Nat) : Option (Nat × TD × TD) :=
  match tt t with
  | some d => match d.k with
    | .st fs => match fs[i]? with
      | some (off, ft) => match tt ft with
        | some d' => bif Nat.beq d'.size 0 then none else some (off, d, d')
        | none => none
      | none => none
    | _ => none
  | none => none
theorem stO_s {t i off : Nat} {d d' : TD} (h : stO tt t i = some (off, d, d')) : ∃ fs ft, tt t = some d ∧ d.k = .st fs ∧ fs[i]? = some (off, ft) ∧ tt ft = some d' ∧ Nat.beq d'.size 0 = false := by
  unfold stO at h
  split at h
  · rename_i d1 h1
    split at h
    · rename_i fs h2
      split at h
      · rename_i off' ft h3
        split at h
        · rename_i d2 h4
          cases hz : Nat.beq d2.size 0 with
          | true => rw [hz] at h; cases h
          | false => rw [hz] at h; cases h; exact ⟨fs, ft, h1, h2, h3, h4, hz⟩
        · cases h
      · cases h
    · cases h
  · cases h

def s_fa (tt : Nat → Option TD) (t i : Nat) (u : TV) (hs : List (Hint P)) : Out P :=
  match stO tt t i, u with
  | some (off, _, _), .one (.pt k s p) => some (⟨.one (.pt k s (p + off)), [], []⟩, [], hs)
  | some (off, _, _), .one (.pa k s e j p) => some (⟨.one (.pa k s e j (p + off)), [], []⟩, [], hs)
  | some (off, _, _), .one (.pi tg xs) => some (⟨.one (.pi tg (xs.drop off)), [], []⟩, [], hs)
  | _, _ => none
theorem s_fa_w (hT : TyOK P tt) {t i : Nat} {x : Operand} (ho : o.op = .fieldAddr t x i) (hs : List (Hint P)) : Worth P o ev ob f c (s_fa tt t i (ev x) hs) := by
  unfold s_fa
  split
  · rename_i off d d' k s p h hx
    obtain ⟨fs, ft, h1, h2, h3, h4, h5⟩ := stO_s h
    exact .some fun _ _ => op_fa_b hT ho hx h1 h2 h3 h4 h5
  · rename_i off d d' k s e j p h hx
    obtain ⟨fs, ft, h1, h2, h3, h4, h5⟩ := stO_s h
    exact .some fun _ _ => op_fa_a hT ho hx h1 h2 h3 h4 h5
  · rename_i off d d' tg xs h hx
    obtain ⟨fs, ft, h1, h2, h3, h4, h5⟩ := stO_s h
    exact .some fun _ _ => op_fa_i hT ho hx h1 h2 h3 h4 h5
  · exact .none

/-- The cells of an element, its lists in the form that is told. -/
def upH (tg : Tag) : List C1 → List (Hint P) → Option (List Cell × List EqP × List (Hint P))
  | [], hs => some ([], [], hs)
  | .v x :: r, hs => match upH tg r hs with
    | some (cs, eqs, hs') => some (.v x :: cs, eqs, hs')
    | none => none
  | .sl e rows :: r, .rw (a := a) (b := b) _ :: hs => match upH tg r hs with
    | some (cs, eqs, hs') => some (.sl tg e a :: cs, ⟨List (List C1), b, rows.map fun r => r.map C1.v⟩ :: eqs, hs')
    | none => none
  | _, _ => none
theorem upH_s {tg : Tag} : ∀ {l : List C1} {hs hs' : List (Hint P)} {cs : List Cell} {eqs : List EqP}, upH tg l hs = some (cs, eqs, hs') → EqsOk eqs → cs = l.map (up1 tg)
  | [], hs, hs', cs, eqs, h, _ => by simp only [upH, Option.some.injEq, Prod.mk.injEq] at h; exact h.1.symm ▸ rfl
  | .v x :: r, hs, hs', cs, eqs, h, he => by
    unfold upH at h
    split at h
    · rename_i cs1 eqs1 hs1 h1
      cases h
      rw [upH_s h1 he]; rfl
    · cases h
  | .sl e rows :: r, [], hs', cs, eqs, h, he => by simp [upH] at h
  | .sl e rows :: r, x :: hs, hs', cs, eqs, h, he => by
    unfold upH at h
    split at h
    · rename_i heq; cases heq
    · rename_i heq; cases heq
    · rename_i hab hs1 heq1 heq
      cases heq1; cases heq
      split at h
      · rename_i cs1 eqs1 hs1 h1
        cases h
        rw [upH_s h1 he.tl, hab]
        have : _ = _ := he.hd
        rw [this]; rfl
      · cases h
    · cases h

def objAt (ob : Nat → Option (Nat × AObj)) (k s : Nat) : Option (AObj × List EqP) := match ob k with | some (s', x) => some (x, [⟨Nat, s', s⟩]) | none => none
theorem objAt_s {k s : Nat} {x : AObj} {eqs : List EqP} (h : objAt ob k s = some (x, eqs)) (he : EqsOk eqs) : ob k = some (s, x) := by
  unfold objAt at h
  split at h
  · rename_i s' y h1
    cases h
    have e : s' = s := he.hd
    rw [h1, e]
  · cases h

def rowsOf (e : Nat) : AObj → Option (List (List C1) × Nat)
  | .arr e' rows => some (rows, e')
  | .fz e' rows => some (rows, e')
  | _ => none
theorem rowsOf_s {e : Nat} {x : AObj} {rows : List (List C1)} {e' : Nat} (h : rowsOf e x = some (rows, e')) : x = .arr e' rows ∨ x = .fz e' rows := by
  unfold rowsOf at h; split at h <;> cases h; exact .inl rfl; exact .inr rfl

def s_ld (tt : Nat → Option TD) (ob : Nat → Option (Nat × AObj)) (t : Nat) (u : TV) (c : Bool) (hs : List (Hint P)) : Out P :=
  match tt t with
  | none => none
  | some d =>
    bif d.agg || Nat.beq d.size 1 then
      match u with
      | .one (.pt k s off) =>
        match objAt ob k s with
        | some (.box cs, eqs) =>
          bif Nat.ble (off + d.size) cs.length then
            match ldV d.agg ((cs.drop off).take d.size) with
            | some v => some (⟨.one v, [], [(k, false)]⟩, eqs, hs)
            | none => none
          else none
        | _ => none
      | .one (.pi tg xs) =>
        bif Nat.ble d.size xs.length then
          match upH tg (xs.take d.size) hs with
          | some (cs, eqs, hs') => match ldV d.agg cs with
            | some v => some (⟨.one v, [], []⟩, eqs, hs')
            | none => none
          | none => none
        else none
      | .one (.pa k s e i off) =>
        match objAt ob k s, hs with
        | some (x, eqs), .ix (α := α) ih c' g xs n k' _ :: hs =>
          match rowsOf e x with
          | some (rows, e') =>
            bif Nat.ble (off + d.size) (g (@List.getD α xs k' ih.default)).length then
              match upH .frz (((g (@List.getD α xs k' ih.default)).drop off).take d.size) hs with
              | some (cs, eqs', hs') => match ldV d.agg cs with
                | some v => some (⟨.one v, [], [(k, false)]⟩, (⟨Bool, c, c'⟩ :: ⟨Nat, e', e⟩ :: ⟨Nat, i, k'⟩ :: ⟨List (List C1), rows, xs.map g⟩ :: eqs) ++ eqs', hs')
                | none => none
              | none => none
            else none
          | none => none
        | _, _ => none
      | _ => none
    else none

theorem s_ld_w (hT : TyOK P tt) {t : Nat} {x : Operand} (ho : o.op = .load t x) (hs : List (Hint P)) : Worth P o ev ob f c (s_ld tt ob t (ev x) c hs) := by
  unfold s_ld
  split
  · exact .none
  rename_i d ht
  cases hz : (d.agg || Nat.beq d.size 1) with
  | false => exact .none
  | true =>
    simp only [cond_true]
    split
    · rename_i k s off hx
      split
      · rename_i cs eqs hO
        cases hl : Nat.ble (off + d.size) cs.length with
        | false => exact .none
        | true =>
          simp only [cond_true]
          split
          · rename_i v hv; exact .some fun he _ => op_ld_b hT ho hx (objAt_s hO he) ht hz hl hv
          · exact .none
      · exact .none
    · rename_i tg xs hx
      cases hl : Nat.ble d.size xs.length with
      | false => exact .none
      | true =>
        simp only [cond_true]
        split
        · rename_i cs eqs hs' hu
          split
          · rename_i v hv; exact .some fun he _ => op_ld_i hT ho hx ht hz hl (by rw [← upH_s hu he]; exact hv)
          · exact .none
        · exact .none
    · rename_i k s e i off hx
      split
      · rename_i x' eqs α ih c' g xs n k' hk hs' hO
        split
        · rename_i rows e' hro
          cases hl : Nat.ble (off + d.size) (g (@List.getD α xs k' ih.default)).length with
          | false => simp only [cond_false]; exact .none
          | true =>
            simp only [cond_true]
            split
            · rename_i cs eqs' hs'' hu
              split
              · rename_i v hv
                refine .some fun he hc => ?_
                have e0 : c = c' := he.l.hd
                have e1 : e' = e := he.l.tl.hd
                have e2 : i = k' := he.l.tl.tl.hd
                have e3 : rows = xs.map g := he.l.tl.tl.tl.hd
                have hO' := objAt_s hO he.l.tl.tl.tl.tl
                have hk2 := (hk (e0 ▸ hc)).2
                subst e1 e2
                refine op_ld_a hT ho hx hO' (rowsOf_s hro) (r := g (@List.getD α xs i ih.default)) ?_ ht hz hl (by rw [← upH_s hu he.r]; exact hv)
                rw [e3]; exact row_get g hk2
              · exact .none
            · exact .none
        · exact .none
      · exact .none
    · exact .none

/-- A cell that goes into an element. -/
def dnF (ob : Nat → Option (Nat × AObj)) : List Cell → List C1 → List (Hint P) → Option (List (Nat × Nat × AObj) × List EqP × List (Hint P))
  | [], [], hs => some ([], [], hs)
  | .v x :: xs, .v y :: ys, hs => bif isPlain x then match dnF ob xs ys hs with
      | some (fr, eqs, hs') => some (fr, ⟨Value, x, y⟩ :: eqs, hs')
      | none => none
    else none
  | .nl :: xs, .sl e rows :: ys, hs => match dnF ob xs ys hs with
      | some (fr, eqs, hs') => some (fr, ⟨List (List Value), rows, []⟩ :: eqs, hs')
      | none => none
  | .sl .frz e rows :: xs, .sl e' rows' :: ys, .rw (a := a) (b := b) _ :: hs => match dnF ob xs ys hs with
      | some (fr, eqs, hs') => some (fr, ⟨Nat, e', e⟩ :: ⟨List (List C1), rows, a⟩ :: ⟨List (List C1), b, rows'.map fun r => r.map C1.v⟩ :: eqs, hs')
      | none => none
  | .mu k s e off len :: xs, .sl e' rows' :: ys, .rw (a := a) (b := b) _ :: hs =>
    match objAt ob k s, dnF ob xs ys hs with
    | some (x, eqs0), some (fr, eqs, hs') => match rowsOf e x, off with
      | some (rows, e2), 0 => some ((k, s, .fz e rows) :: fr, ⟨Nat, e', e⟩ :: ⟨Nat, e2, e⟩ :: ⟨Nat, len, rows.length⟩ :: ⟨List (List C1), rows, a⟩ :: ⟨List (List C1), b, rows'.map fun r => r.map C1.v⟩ :: (eqs0 ++ eqs), hs')
      | _, _ => none
    | _, _ => none
  | _, _, _ => none

theorem dnF_s : ∀ {xs : List Cell} {ys : List C1} {hs hs' : List (Hint P)} {fr : List (Nat × Nat × AObj)} {eqs : List EqP}, dnF ob xs ys hs = some (fr, eqs, hs') → EqsOk eqs → DnL ob xs ys fr := by
  intro xs
  induction xs with
  | nil =>
    intro ys hs hs' fr eqs h he
    cases ys with
    | nil => simp only [dnF, Option.some.injEq, Prod.mk.injEq] at h; obtain ⟨rfl, _, _⟩ := h; exact .nil
    | cons y ys => simp [dnF] at h
  | cons x xs ih =>
    intro ys hs hs' fr eqs h he
    unfold dnF at h
    split at h
    · rename_i heq; cases heq
    · rename_i x1 xs1 y1 ys1 e1
      cases e1
      cases hp : isPlain x1 with
      | false => rw [hp] at h; cases h
      | true =>
        rw [hp] at h; simp only [cond_true] at h
        split at h
        · rename_i fr1 eqs1 hs1 h1
          cases h
          have e : x1 = y1 := he.hd
          subst e
          exact .cons (fr := []) (.v hp) (ih h1 he.tl)
        · cases h
    · rename_i xs1 e rows ys1 e1
      cases e1
      split at h
      · rename_i fr1 eqs1 hs1 h1
        cases h
        have e : rows = [] := he.hd
        subst e
        exact .cons (fr := []) .nl (ih h1 he.tl)
      · cases h
    · rename_i xs1 e rows e' rows' ys1 a b hab hs1 e1
      cases e1
      split at h
      · rename_i fr1 eqs1 hs2 h1
        cases h
        have e2 : _ = _ := he.hd
        have e3 : _ = _ := he.tl.hd
        have e4 : _ = _ := he.tl.tl.hd
        subst e2
        exact .cons (fr := []) (.frz (by rw [e3, hab, e4])) (ih h1 he.tl.tl.tl)
      · cases h
    · rename_i k s e off len xs1 e' rows' ys1 a b hab hs1 e1
      cases e1
      split at h
      · rename_i x' eqs0 fr1 eqs1 hs2 hO h1
        split at h
        · rename_i rows e2 hro
          cases h
          have q1 : _ = _ := he.hd
          have q2 : _ = _ := he.tl.hd
          have q3 : _ = _ := he.tl.tl.hd
          have q4 : _ = _ := he.tl.tl.tl.hd
          have q5 : _ = _ := he.tl.tl.tl.tl.hd
          have hO' := objAt_s hO he.tl.tl.tl.tl.tl.l
          subst q1 q2
          have hp : (rows.drop 0).take len = rows'.map fun r => r.map C1.v := by rw [List.drop_zero, q3, List.take_length, q4, hab, q5]
          rcases rowsOf_s hro with rfl | rfl
          · exact .cons (fr := [_]) (.arr hO' (by omega) hp) (ih h1 he.tl.tl.tl.tl.tl.r)
          · exact .cons (fr := [_]) (.fz hO' (by omega) hp) (ih h1 he.tl.tl.tl.tl.tl.r)
        · cases h
      · cases h
    · cases h

def s_st (tt : Nat → Option TD) (ob : Nat → Option (Nat × AObj)) (t : Nat) (u v : TV) (c : Bool) (hs : List (Hint P)) : Out P :=
  match tt t, v with
  | some d, .one v =>
    match valCells v with
    | some ys =>
      match u with
      | .one (.pt k s off) =>
        match objAt ob k s with
        | some (.box cs, eqs) => bif Nat.beq ys.length d.size && Nat.ble (off + d.size) cs.length && plainCs ys then some (⟨.ud, [(k, some (s, .box (setL off ys cs)))], [(k, true)]⟩, eqs, hs) else none
        | _ => none
      | .one (.pa k s e i off) =>
        match objAt ob k s, hs with
        | some (.arr e' rows, eqs), .st (α := α) ih c' g xs k' z _ :: hs =>
          match dnF ob ys (((g z).drop off).take d.size) hs with
          | some (fr, eqs', hs') =>
            bif Nat.beq (((g z).drop off).take d.size).length d.size && Nat.ble (off + d.size) e && nodupB (k :: fr.map (·.1)) then
              some (⟨.ud, (k, some (s, .arr e ((xs.set k' z).map g))) :: frU fr, (k, true) :: frT fr⟩, (⟨Bool, c, c'⟩ :: ⟨Nat, e', e⟩ :: ⟨Nat, i, k'⟩ :: ⟨List (List C1), rows, xs.map g⟩ :: ⟨List C1, setL off (((g z).drop off).take d.size) (g (@List.getD α xs k' ih.default)), g z⟩ :: eqs) ++ eqs', hs')
            else none
          | none => none
        | _, _ => none
      | _ => none
    | none => none
  | _, _ => none

theorem s_st_w (hT : TyOK P tt) {t : Nat} {x y : Operand} (ho : o.op = .store t x y) (hs : List (Hint P)) : Worth P o ev ob f c (s_st tt ob t (ev x) (ev y) c hs) := by
  unfold s_st
  split
  · rename_i d v ht hy
    split
    · rename_i ys hv
      split
      · rename_i k s off hx
        split
        · rename_i cs eqs hO
          cases hz : (Nat.beq ys.length d.size && Nat.ble (off + d.size) cs.length && plainCs ys) with
          | false => exact .none
          | true =>
            simp only [cond_true]
            simp only [Bool.and_eq_true] at hz
            exact .some fun he _ => op_st_b hT ho hx (objAt_s hO he) hy hv ht hz.1.1 hz.1.2 hz.2
        · exact .none
      · rename_i k s e i off hx
        split
        · rename_i e' rows eqs α ih c' g xs k' z hk hs' hO
          split
          · rename_i fr eqs' hs'' hd
            cases hz : (Nat.beq (((g z).drop off).take d.size).length d.size && Nat.ble (off + d.size) e && nodupB (k :: fr.map (·.1))) with
            | false => simp only [cond_false]; exact .none
            | true =>
              simp only [cond_true]
              simp only [Bool.and_eq_true] at hz
              refine .some fun he hc => ?_
              have e0 : c = c' := he.l.hd
              have e1 : e' = e := he.l.tl.hd
              have e2 : i = k' := he.l.tl.tl.hd
              have e3 : rows = xs.map g := he.l.tl.tl.tl.hd
              have e4 : _ = g z := he.l.tl.tl.tl.tl.hd
              have hO' := objAt_s hO he.l.tl.tl.tl.tl.tl
              subst e1 e2 e3
              exact @op_st_al P tt o ev ob f α ih hT t x y k s e' i off ys _ fr d v g xs z ho hx hO' (hk (e0 ▸ hc)) hy hv (dnF_s hd he.r) ht hz.1.1 hz.1.2 hz.2 e4
          · exact .none
        · exact .none
      · exact .none
    · exact .none
  · exact .none
end
end Go.Lap
