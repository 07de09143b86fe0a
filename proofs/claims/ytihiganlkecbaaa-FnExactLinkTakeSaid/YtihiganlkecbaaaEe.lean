/- The engine's fifth part: operations that only tell a value. -/
import Derived.Test.YtihiganlkecbaaaEd
import Derived.Laws.StructEq
namespace Go.Lap
open Go.RowKit

section
variable {P : Program} {tt : Nat → Option TD} {o : Oper} {ev : Operand → TV} {ob : Nat → Option (Nat × AObj)} {f : Nat → Nat}

/-- An operation that leaves memory alone. -/
theorem op_val {x : TV} (tch : List (Nat × Bool)) (ht : ∀ k wr, (k, wr) ∈ tch → wr = false)
    (h : ∀ (G : Gh) (a : Act) (w : World), Wf G w → (∀ x ∈ o.op.operands.toList, RTV w G (ev x) (a.eval x)) → Obs w G ob tch → ∃ v, (execOp a.eval o).run P w = .ok (.value v) w ∧ RTV w G x v) :
    OpOK P o ev ob f ⟨x, [], tch⟩ := by
  refine ⟨⟨by simp, fun k => ⟨fun hk => by have := ht k true hk; simp at this, fun hk => by simp at hk⟩⟩, fun G a w hw hev hobs _ => ?_⟩
  obtain ⟨v, hr, hv⟩ := h G a w hw hev hobs
  unfold Oper.wp
  rw [hr]
  exact ⟨v, G, rfl, hv, hw, Evol.refl _ w G, fun s hs => .inl hs, fun k s x hx => by simp at hx, fun k k' s x x' hx => by simp at hx⟩

theorem nil_tch : ∀ (k : Nat) (wr : Bool), (k, wr) ∈ ([] : List (Nat × Bool)) → wr = false := fun _ _ h => by simp at h
theorem one_tch (j : Nat) : ∀ (k : Nat) (wr : Bool), (k, wr) ∈ [(j, false)] → wr = false := fun _ _ h => by simp at h; exact h.2

theorem op_move {x : Operand} {v : TV} (ho : o.op = .move x) (hx : ev x = v) : OpOK P o ev ob f ⟨v, [], []⟩ :=
  op_val [] nil_tch fun G a w _ hev _ => ⟨a.eval x, by simp [execOp, ho], by rw [← hx]; exact hev x (by simp [ho, Op.operands])⟩

theorem op_assign {x : Operand} {v : TV} (ho : o.op = .assign x) (hx : ev x = v) : OpOK P o ev ob f ⟨v, [], []⟩ :=
  op_val [] nil_tch fun G a w _ hev _ => ⟨a.eval x, by simp [execOp, ho], by rw [← hx]; exact hev x (by simp [ho, Op.operands])⟩

def pickTV (b : Bool) : TV → TV → TV
  | .one (.c (.v (.bool x))), .one (.c (.v (.bool y))) => .one (.c (.v (.bool (bif b then x else y))))
  | x, y => bif b then x else y

theorem pickTV_eq (b : Bool) (x y : TV) : pickTV b x y = bif b then x else y := by
  unfold pickTV
  split
  · cases b <;> rfl
  · rfl

theorem op_pick {c x y : Operand} {b : Bool} {u v : TV} (ho : o.op = .pick c x y) (hc : ev c = .one (.c (.v (.bool b)))) (hx : ev x = u) (hy : ev y = v) : OpOK P o ev ob f ⟨pickTV b u v, [], []⟩ :=
  op_val [] nil_tch fun G a w _ hev _ => by
    have h1 := hev c (by simp [ho, Op.operands])
    rw [hc] at h1
    have h1' : a.eval c = .bool b := h1
    refine ⟨if b then a.eval x else a.eval y, by simp [execOp, ho, h1', asBool], ?_⟩
    rw [pickTV_eq]
    cases b
    · simp only [cond_false, Bool.false_eq_true, if_false]; rw [← hy]; exact hev y (by simp [ho, Op.operands])
    · simp only [cond_true, if_true]; rw [← hx]; exact hev x (by simp [ho, Op.operands])

/-- Arithmetic and comparisons. -/
theorem op_bin {op : BinOp} {t t' : Nat} {x y : Operand} {a b r : Value} (ho : o.op = .binOp op t x y t') (hx : ev x = .one (.c (.v a))) (hy : ev y = .one (.c (.v b)))
    (hr : ∀ w, (do eqGuard op t x y a b; binOp op t a b : Sem Value).run P w = .ok r w) : OpOK P o ev ob f ⟨.one (.c (.v r)), [], []⟩ :=
  op_val [] nil_tch fun G A w _ hev _ => by
    have h1 := hev x (by simp [ho, Op.operands])
    have h2 := hev y (by simp [ho, Op.operands])
    rw [hx] at h1
    rw [hy] at h2
    have h1' : A.eval x = a := h1
    have h2' : A.eval y = b := h2
    refine ⟨r, ?_, rfl⟩
    simp only [execOp, ho, h1', h2']
    rw [Sem.run_bind, hr]
    rfl

section
variable {t t' : Nat} {x y : Operand} {k : IntKind} {a b c : Int}
theorem op_add (ho : o.op = .binOp .add t x y t') (hx : ev x = .one (.c (.v (.int k a)))) (hy : ev y = .one (.c (.v (.int k b)))) (hc : k.wrap (a + b) = c) : OpOK P o ev ob f ⟨.one (.c (.v (.int k c))), [], []⟩ :=
  op_bin ho hx hy fun w => by subst hc; simp [binOp, Op.intArith, eqGuard]
theorem op_sub (ho : o.op = .binOp .sub t x y t') (hx : ev x = .one (.c (.v (.int k a)))) (hy : ev y = .one (.c (.v (.int k b)))) (hc : k.wrap (a - b) = c) : OpOK P o ev ob f ⟨.one (.c (.v (.int k c))), [], []⟩ :=
  op_bin ho hx hy fun w => by subst hc; simp [binOp, Op.intArith, eqGuard]
theorem op_mul (ho : o.op = .binOp .mul t x y t') (hx : ev x = .one (.c (.v (.int k a)))) (hy : ev y = .one (.c (.v (.int k b)))) (hc : k.wrap (a * b) = c) : OpOK P o ev ob f ⟨.one (.c (.v (.int k c))), [], []⟩ :=
  op_bin ho hx hy fun w => by subst hc; simp [binOp, Op.intArith, eqGuard]
theorem op_quo (ho : o.op = .binOp .quo t x y t') (hx : ev x = .one (.c (.v (.int k a)))) (hy : ev y = .one (.c (.v (.int k b)))) (hb : b ≠ 0) (hc : k.wrap (a.tdiv b) = c) : OpOK P o ev ob f ⟨.one (.c (.v (.int k c))), [], []⟩ :=
  op_bin ho hx hy fun w => by subst hc; simp [binOp, Op.intDiv, eqGuard, hb]
theorem op_rem (ho : o.op = .binOp .rem t x y t') (hx : ev x = .one (.c (.v (.int k a)))) (hy : ev y = .one (.c (.v (.int k b)))) (hb : b ≠ 0) (hc : a.tmod b = c) : OpOK P o ev ob f ⟨.one (.c (.v (.int k c))), [], []⟩ :=
  op_bin ho hx hy fun w => by subst hc; simp [binOp, Op.intDiv, eqGuard, hb]
theorem op_xor (ho : o.op = .binOp .xor t x y t') (hx : ev x = .one (.c (.v (.int k a)))) (hy : ev y = .one (.c (.v (.int k b)))) (hc : bits .xor k a b = c) : OpOK P o ev ob f ⟨.one (.c (.v (.int k c))), [], []⟩ :=
  op_bin ho hx hy fun w => by subst hc; simp [binOp, intBits_xor, eqGuard]
theorem op_lss (ho : o.op = .binOp .lss t x y t') (hx : ev x = .one (.c (.v (.int k a)))) (hy : ev y = .one (.c (.v (.int k b)))) : OpOK P o ev ob f ⟨.one (.c (.v (.bool (decide (a < b))))), [], []⟩ :=
  op_bin ho hx hy fun w => by simp [binOp, Op.intCmp, eqGuard]
theorem op_leq (ho : o.op = .binOp .leq t x y t') (hx : ev x = .one (.c (.v (.int k a)))) (hy : ev y = .one (.c (.v (.int k b)))) : OpOK P o ev ob f ⟨.one (.c (.v (.bool (decide (a ≤ b))))), [], []⟩ :=
  op_bin ho hx hy fun w => by simp [binOp, Op.intCmp, eqGuard]
theorem op_gtr (ho : o.op = .binOp .gtr t x y t') (hx : ev x = .one (.c (.v (.int k a)))) (hy : ev y = .one (.c (.v (.int k b)))) : OpOK P o ev ob f ⟨.one (.c (.v (.bool (decide (b < a))))), [], []⟩ :=
  op_bin ho hx hy fun w => by simp [binOp, Op.intCmp, eqGuard]
theorem op_geq (ho : o.op = .binOp .geq t x y t') (hx : ev x = .one (.c (.v (.int k a)))) (hy : ev y = .one (.c (.v (.int k b)))) : OpOK P o ev ob f ⟨.one (.c (.v (.bool (decide (b ≤ a))))), [], []⟩ :=
  op_bin ho hx hy fun w => by simp [binOp, Op.intCmp, eqGuard]
theorem op_eql (ho : o.op = .binOp .eql t x y t') (hx : ev x = .one (.c (.v (.int k a)))) (hy : ev y = .one (.c (.v (.int k b)))) : OpOK P o ev ob f ⟨.one (.c (.v (.bool (decide (a = b))))), [], []⟩ :=
  op_bin ho hx hy fun w => by simp [binOp, Op.intCmp, eqGuard]; rfl
theorem op_neq (ho : o.op = .binOp .neq t x y t') (hx : ev x = .one (.c (.v (.int k a)))) (hy : ev y = .one (.c (.v (.int k b)))) : OpOK P o ev ob f ⟨.one (.c (.v (.bool (!decide (a = b))))), [], []⟩ :=
  op_bin ho hx hy fun w => by simp [binOp, Op.intCmp, eqGuard]; rfl
end

section
variable {t t' : Nat} {x y : Operand} {a b : ByteArray}
theorem op_seq (ho : o.op = .binOp .eql t x y t') (hx : ev x = .one (.c (.v (.string a)))) (hy : ev y = .one (.c (.v (.string b)))) : OpOK P o ev ob f ⟨.one (.c (.v (.bool (a.toList == b.toList)))), [], []⟩ :=
  op_bin ho hx hy fun w => by simp [binOp, Op.stringOp, eqGuard]
theorem op_sne (ho : o.op = .binOp .neq t x y t') (hx : ev x = .one (.c (.v (.string a)))) (hy : ev y = .one (.c (.v (.string b)))) : OpOK P o ev ob f ⟨.one (.c (.v (.bool (!(a.toList == b.toList))))), [], []⟩ :=
  op_bin ho hx hy fun w => by simp [binOp, Op.stringOp, eqGuard]
theorem op_sge (ho : o.op = .binOp .geq t x y t') (hx : ev x = .one (.c (.v (.string a)))) (hy : ev y = .one (.c (.v (.string b)))) : OpOK P o ev ob f ⟨.one (.c (.v (.bool (!Op.bytesLess a.toList b.toList)))), [], []⟩ :=
  op_bin ho hx hy fun w => by simp [binOp, Op.stringOp, eqGuard]
theorem op_slt (ho : o.op = .binOp .lss t x y t') (hx : ev x = .one (.c (.v (.string a)))) (hy : ev y = .one (.c (.v (.string b)))) : OpOK P o ev ob f ⟨.one (.c (.v (.bool (Op.bytesLess a.toList b.toList)))), [], []⟩ :=
  op_bin ho hx hy fun w => by simp [binOp, Op.stringOp, eqGuard]
theorem op_cat (ho : o.op = .binOp .add t x y t') (hx : ev x = .one (.c (.v (.string a)))) (hy : ev y = .one (.c (.v (.string b)))) (hl : a.size + b.size ≤ 9223372036854775807) : OpOK P o ev ob f ⟨.one (.c (.v (.string (a ++ b)))), [], []⟩ :=
  op_bin ho hx hy fun w => by
    have : ¬ (((a.size + b.size : Nat) : Int) > IntKind.i64.max) := by rw [IntKind.max_i64]; omega
    simp only [binOp, Op.stringOp, eqGuard, this, if_false]
    rfl
end

theorem run_beq {t : Nat} {a b : Bool} (hu : P.underlying t = some .bool) (w : World) : (Op.equal t (.bool a) (.bool b)).run P w = .ok (a == b) w := run_equalIn_bool' w 9999 t a b hu

theorem op_beq {t t' : Nat} {x y : Operand} {a b : Bool} (ho : o.op = .binOp .eql t x y t') (hu : P.underlying t = some .bool) (hx : ev x = .one (.c (.v (.bool a)))) (hy : ev y = .one (.c (.v (.bool b)))) : OpOK P o ev ob f ⟨.one (.c (.v (.bool (a == b)))), [], []⟩ :=
  op_bin ho hx hy fun w => by
    rw [eqGuard_at_bool]
    show (do let r ← Op.equal t (.bool a) (.bool b); pure (Value.bool r) : Sem Value).run P w = _
    rw [Sem.run_bind, run_beq hu]; rfl
theorem op_bne {t t' : Nat} {x y : Operand} {a b : Bool} (ho : o.op = .binOp .neq t x y t') (hu : P.underlying t = some .bool) (hx : ev x = .one (.c (.v (.bool a)))) (hy : ev y = .one (.c (.v (.bool b)))) : OpOK P o ev ob f ⟨.one (.c (.v (.bool (!(a == b))))), [], []⟩ :=
  op_bin ho hx hy fun w => by
    rw [eqGuard_at_bool]
    show (do let r ← Op.equal t (.bool a) (.bool b); pure (Value.bool (!r)) : Sem Value).run P w = _
    rw [Sem.run_bind, run_beq hu]; rfl

/-- '==' of structs of plain values. -/
def EqS (P : Program) (t : Nat) (us vs : List Value) (r : Bool) : Prop := P.eqGuardType P.depth t = false ∧ ∀ w, (Op.equalIn 10000 t (.agg us.toArray) (.agg vs.toArray)).run P w = .ok r w

def valsC : List Cell → Option (List Value)
  | [] => some []
  | .v x :: r => (valsC r).map (x :: ·)
  | _ => none

theorem valsC_R {w : World} {G : Gh} : ∀ {xs : List Cell} {us vs : List Value}, valsC xs = some us → All2 (RC w G) xs vs → vs = us
  | [], us, vs, h, h2 => by cases h2; simp [valsC] at h; exact h.symm
  | .v x :: r, us, vs, h, h2 => by
    cases h2 with
    | cons h3 h4 =>
      simp only [valsC, Option.map_eq_some_iff] at h
      obtain ⟨us', h5, rfl⟩ := h
      rw [valsC_R h5 h4]
      have : _ = x := h3
      rw [this]
  | .nl :: _, _, _, h, _ => by simp [valsC] at h
  | .sl .. :: _, _, _, h, _ => by simp [valsC] at h
  | .mu .. :: _, _, _, h, _ => by simp [valsC] at h

theorem op_eqs {t t' : Nat} {x y : Operand} {xs ys : List Cell} {us vs : List Value} {r : Bool} (ho : o.op = .binOp .eql t x y t') (hx : ev x = .one (.ag xs)) (hy : ev y = .one (.ag ys)) (hu : valsC xs = some us) (hv : valsC ys = some vs) (hr : EqS P t us vs r) :
    OpOK P o ev ob f ⟨.one (.c (.v (.bool r))), [], []⟩ :=
  op_val [] nil_tch fun G A w _ hev _ => by
    have h1 := hev x (by simp [ho, Op.operands])
    have h2 := hev y (by simp [ho, Op.operands])
    rw [hx] at h1; rw [hy] at h2
    obtain ⟨us', h1, h3⟩ := h1
    obtain ⟨vs', h2, h4⟩ := h2
    rw [valsC_R hu h3] at h1; rw [valsC_R hv h4] at h2
    refine ⟨.bool r, ?_, rfl⟩
    simp only [execOp, ho, h1, h2]
    simp only [Sem.run_bind, run_eqGuard_agg w .eql t x y _ _ hr.1, Result.andThen_ok, run_eql_struct, hr.2]
    rfl

theorem op_nes {t t' : Nat} {x y : Operand} {xs ys : List Cell} {us vs : List Value} {r : Bool} (ho : o.op = .binOp .neq t x y t') (hx : ev x = .one (.ag xs)) (hy : ev y = .one (.ag ys)) (hu : valsC xs = some us) (hv : valsC ys = some vs) (hr : EqS P t us vs r) :
    OpOK P o ev ob f ⟨.one (.c (.v (.bool (!r)))), [], []⟩ :=
  op_val [] nil_tch fun G A w _ hev _ => by
    have h1 := hev x (by simp [ho, Op.operands])
    have h2 := hev y (by simp [ho, Op.operands])
    rw [hx] at h1; rw [hy] at h2
    obtain ⟨us', h1, h3⟩ := h1
    obtain ⟨vs', h2, h4⟩ := h2
    rw [valsC_R hu h3] at h1; rw [valsC_R hv h4] at h2
    refine ⟨.bool (!r), ?_, rfl⟩
    simp only [execOp, ho, h1, h2]
    simp only [Sem.run_bind, run_eqGuard_agg w .neq t x y _ _ hr.1, Result.andThen_ok, run_neq_struct, hr.2]
    rfl

theorem op_not {t : Nat} {x : Operand} {a : Bool} (ho : o.op = .unOp .not t x) (hx : ev x = .one (.c (.v (.bool a)))) : OpOK P o ev ob f ⟨.one (.c (.v (.bool (!a)))), [], []⟩ :=
  op_val [] nil_tch fun G A w _ hev _ => by
    have h1 := hev x (by simp [ho, Op.operands])
    rw [hx] at h1
    have h1' : A.eval x = .bool a := h1
    exact ⟨.bool (!a), by simp [execOp, ho, h1', Op.unary], rfl⟩

theorem op_neg {t : Nat} {x : Operand} {k : IntKind} {a c : Int} (ho : o.op = .unOp .neg t x) (hx : ev x = .one (.c (.v (.int k a)))) (hc : k.wrap (0 - a) = c) : OpOK P o ev ob f ⟨.one (.c (.v (.int k c))), [], []⟩ :=
  op_val [] nil_tch fun G A w _ hev _ => by
    have h1 := hev x (by simp [ho, Op.operands])
    rw [hx] at h1
    have h1' : A.eval x = .int k a := h1
    exact ⟨.int k c, by subst hc; simp [execOp, ho, h1', Op.unary, Op.intArith], rfl⟩

theorem op_conv {src dst : Nat} {x : Operand} {k k' : IntKind} {a c : Int} (ho : o.op = .convert src dst x) (hs : (P.underlying src).isSome = true) (hd : P.underlying dst = some (.int k)) (hx : ev x = .one (.c (.v (.int k' a)))) (hc : k.wrap a = c) :
    OpOK P o ev ob f ⟨.one (.c (.v (.int k c))), [], []⟩ :=
  op_val [] nil_tch fun G A w _ hev _ => by
    have h1 := hev x (by simp [ho, Op.operands])
    rw [hx] at h1
    have h1' : A.eval x = .int k' a := h1
    refine ⟨.int k c, ?_, rfl⟩
    obtain ⟨u, hu⟩ := Option.isSome_iff_exists.1 hs
    subst hc
    simp [execOp, ho, h1', convert, run_underlying hu, run_underlying hd, Conv.intToInt]

theorem op_extract {x : Operand} {i : Nat} {xs : List V0} {v : V0} (ho : o.op = .extract x i) (hx : ev x = .tu xs) (hi : xs[i]? = some v) : OpOK P o ev ob f ⟨.one v, [], []⟩ :=
  op_val [] nil_tch fun G A w _ hev _ => by
    have h1 := hev x (by simp [ho, Op.operands])
    rw [hx] at h1
    obtain ⟨vs, h1', h2⟩ := h1
    obtain ⟨cv, h3, h4⟩ := h2.get i v hi
    exact ⟨cv, by simp [execOp, ho, h1', Instr.extract, h3], h4⟩

theorem op_nilp {x : Operand} {k s off : Nat} (ho : o.op = .nilCheck x) (hx : ev x = .one (.pt k s off)) : OpOK P o ev ob f ⟨.one (.pt k s off), [], []⟩ :=
  op_val [] nil_tch fun G A w _ hev _ => by
    have h1 := hev x (by simp [ho, Op.operands])
    rw [hx] at h1
    have h1' := h1
    obtain ⟨b, hb, h2⟩ := h1'
    exact ⟨A.eval x, by simp [execOp, ho, h2], h1⟩

theorem op_nila {x : Operand} {k s e i off : Nat} (ho : o.op = .nilCheck x) (hx : ev x = .one (.pa k s e i off)) : OpOK P o ev ob f ⟨.one (.pa k s e i off), [], []⟩ :=
  op_val [] nil_tch fun G A w _ hev _ => by
    have h1 := hev x (by simp [ho, Op.operands])
    rw [hx] at h1
    have h1' := h1
    obtain ⟨b, hb, h2⟩ := h1'
    exact ⟨A.eval x, by simp [execOp, ho, h2], h1⟩

/-! ### Addresses -/
theorem und_fields {t : Nat} {fs : List (Nat × Nat)} {d : TD} (h : TDOK P t d) (hk : d.k = .st fs) {i off ft : Nat} (hi : fs[i]? = some (off, ft)) : ∃ fields f, P.underlying t = some (.struct fields) ∧ fields[i]? = some f ∧ f.offset = off ∧ f.type = ft := by
  obtain ⟨fields, h1, h2⟩ := h.und_struct hk
  subst h2
  simp only [List.getElem?_map, Array.getElem?_toList] at hi
  cases hf : fields[i]? with
  | none => simp [hf] at hi
  | some x => simp [hf] at hi; exact ⟨fields, x, h1, hf, hi.1, hi.2⟩

theorem run_fieldAt (hT : TyOK P tt) {t : Nat} {fs : List (Nat × Nat)} {d d' : TD} {i off ft b p : Nat} (ht : tt t = some d) (hk : d.k = .st fs) (hi : fs[i]? = some (off, ft)) (hft : tt ft = some d') (hz : Nat.beq d'.size 0 = false) (w : World) :
    (Instr.fieldAt t (.pointer (some ⟨b, p, none⟩)) i).run P w = .ok (.pointer (some ⟨b, p + off, none⟩)) w := by
  obtain ⟨fields, x, h1, h2, h3, h4⟩ := und_fields (hT t d ht) hk hi
  have hs := (hT ft d' hft).run_size w
  have hz' : d'.size ≠ 0 := fun e => by rw [e] at hz; simp at hz
  simp only [Instr.fieldAt, Sem.run_bind, run_underlying h1, Result.andThen_ok, h2, Instr.sureAddr, Sem.run_pure, fieldPlace, h4, hs, hz', if_false, Addr.add_lit, h3]

section
variable {t : Nat} {x : Operand} {i off ft : Nat} {fs : List (Nat × Nat)} {d d' : TD}
theorem op_fa_b (hT : TyOK P tt) {k s p : Nat} (ho : o.op = .fieldAddr t x i) (hx : ev x = .one (.pt k s p)) (ht : tt t = some d) (hk : d.k = .st fs) (hi : fs[i]? = some (off, ft)) (hft : tt ft = some d') (hz : Nat.beq d'.size 0 = false) :
    OpOK P o ev ob f ⟨.one (.pt k s (p + off)), [], []⟩ :=
  op_val [] nil_tch fun G A w _ hev _ => by
    have h1 := hev x (by simp [ho, Op.operands])
    rw [hx] at h1
    obtain ⟨b, hb, h2⟩ := h1
    refine ⟨_, ?_, b, hb, rfl⟩
    simp only [execOp, ho, h2, Sem.run_bind, run_fieldAt hT ht hk hi hft hz w, Result.andThen_ok, Sem.run_pure]

theorem op_fa_a (hT : TyOK P tt) {k s e j p : Nat} (ho : o.op = .fieldAddr t x i) (hx : ev x = .one (.pa k s e j p)) (ht : tt t = some d) (hk : d.k = .st fs) (hi : fs[i]? = some (off, ft)) (hft : tt ft = some d') (hz : Nat.beq d'.size 0 = false) :
    OpOK P o ev ob f ⟨.one (.pa k s e j (p + off)), [], []⟩ :=
  op_val [] nil_tch fun G A w _ hev _ => by
    have h1 := hev x (by simp [ho, Op.operands])
    rw [hx] at h1
    obtain ⟨b, hb, h2⟩ := h1
    refine ⟨_, ?_, b, hb, rfl⟩
    simp only [execOp, ho, h2, Sem.run_bind, run_fieldAt hT ht hk hi hft hz w, Result.andThen_ok, Sem.run_pure, Nat.add_assoc]

theorem op_fa_i (hT : TyOK P tt) {tg : Tag} {xs : List C1} (ho : o.op = .fieldAddr t x i) (hx : ev x = .one (.pi tg xs)) (ht : tt t = some d) (hk : d.k = .st fs) (hi : fs[i]? = some (off, ft)) (hft : tt ft = some d') (hz : Nat.beq d'.size 0 = false) :
    OpOK P o ev ob f ⟨.one (.pi tg (xs.drop off)), [], []⟩ :=
  op_val [] nil_tch fun G A w _ hev _ => by
    have h1 := hev x (by simp [ho, Op.operands])
    rw [hx] at h1
    obtain ⟨b, q, h2, h3, h4⟩ := h1
    refine ⟨_, ?_, b, q + off, rfl, h3, fun j y hy => ?_⟩
    · simp only [execOp, ho, h2, Sem.run_bind, run_fieldAt hT ht hk hi hft hz w, Result.andThen_ok, Sem.run_pure]
    · have := h4 (off + j) y (by simpa [List.getElem?_drop] using hy)
      simpa [Nat.add_assoc] using this
end
end
end Go.Lap
