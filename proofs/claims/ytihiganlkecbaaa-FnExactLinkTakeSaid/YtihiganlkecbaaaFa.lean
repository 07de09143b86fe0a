/- The engine's twenty-seventh part: calls, computed; regions at one stroke. -/
import Derived.Test.YtihiganlkecbaaaGa
set_option linter.unusedVariables false
namespace Go.Lap
open Go.RowKit

section
variable {P : Program} {tt : Nat → Option TD} {o : Oper} {ev : Operand → TV} {ob : Nat → Option (Nat × AObj)} {f : Nat → Nat} {c : Bool}

/-- What cells become in a call. -/
structure PsR where
  cl : List (Option (Nat × Nat))
  vw : List (Nat × Nat)
  fr : List (Nat × Nat × AObj)
  rd : List Nat
  eqs : List EqP

def psL (ob : Nat → Option (Nat × AObj)) : List Cell → List Cell → Option PsR
  | [], [] => some ⟨[], [], [], [], []⟩
  | .v x :: xs, .v y :: ys => (psL ob xs ys).map fun r => ⟨none :: r.cl, r.vw, r.fr, r.rd, ⟨Value, x, y⟩ :: r.eqs⟩
  | .nl :: xs, .nl :: ys => (psL ob xs ys).map fun r => ⟨none :: r.cl, r.vw, r.fr, r.rd, r.eqs⟩
  | .nl :: xs, .sl .bor e rows :: ys => (psL ob xs ys).map fun r => ⟨none :: r.cl, r.vw, r.fr, r.rd, ⟨List (List C1), rows, []⟩ :: r.eqs⟩
  | .nl :: xs, .sl .frz e rows :: ys => (psL ob xs ys).map fun r => ⟨none :: r.cl, r.vw, r.fr, r.rd, ⟨List (List C1), rows, []⟩ :: r.eqs⟩
  | .sl .bor e rows :: xs, .sl .bor e' rows' :: ys => (psL ob xs ys).map fun r => ⟨none :: r.cl, r.vw, r.fr, r.rd, ⟨Nat, e, e'⟩ :: ⟨List (List C1), rows, rows'⟩ :: r.eqs⟩
  | .sl .frz e rows :: xs, .sl .frz e' rows' :: ys => (psL ob xs ys).map fun r => ⟨none :: r.cl, r.vw, r.fr, r.rd, ⟨Nat, e, e'⟩ :: ⟨List (List C1), rows, rows'⟩ :: r.eqs⟩
  | .sl .frz e rows :: xs, .sl .bor e' rows' :: ys => (psL ob xs ys).map fun r => ⟨none :: r.cl, r.vw, r.fr, r.rd, ⟨Nat, e, e'⟩ :: ⟨List (List C1), rows, rows'⟩ :: r.eqs⟩
  | .mu k s e 0 len :: xs, .sl tg e' rows' :: ys =>
    match objAt ob k s, psL ob xs ys with
    | some (.arr e2 rows, eqs), some r =>
      let q := ⟨Nat, e, e'⟩ :: ⟨Nat, e2, e⟩ :: ⟨Nat, len, rows.length⟩ :: ⟨List (List C1), rows, rows'⟩ :: (eqs ++ r.eqs)
      match tg with
      | .bor => some ⟨none :: r.cl, (k, s) :: r.vw, r.fr, r.rd, q⟩
      | .frz => some ⟨none :: r.cl, r.vw, (k, s, .fz e rows) :: r.fr, r.rd, q⟩
      | .own => some ⟨some (k, s) :: r.cl, r.vw, r.fr, r.rd, q⟩
    | some (.fz e2 rows, eqs), some r =>
      let q := ⟨Nat, e, e'⟩ :: ⟨Nat, e2, e⟩ :: ⟨Nat, len, rows.length⟩ :: ⟨List (List C1), rows, rows'⟩ :: (eqs ++ r.eqs)
      match tg with
      | .bor => some ⟨none :: r.cl, r.vw, r.fr, k :: r.rd, q⟩
      | .frz => some ⟨none :: r.cl, r.vw, r.fr, k :: r.rd, q⟩
      | .own => none
    | _, _ => none
  | _, _ => none

theorem psL_s : ∀ {xs ys : List Cell} {r : PsR}, psL ob xs ys = some r → EqsOk r.eqs → PsL ob xs ys r.cl r.vw r.fr r.rd := by
  intro xs
  induction xs with
  | nil =>
    intro ys r h he
    cases ys with
    | nil => simp only [psL, Option.some.injEq] at h; subst h; exact .nil
    | cons y ys => simp [psL] at h
  | cons x xs ih =>
    intro ys r h he
    unfold psL at h
    split at h
    · rename_i heq; cases heq
    · rename_i heq; cases heq
      obtain ⟨r1, h1, rfl⟩ := Option.map_eq_some_iff.1 h
      have e : _ = _ := he.hd
      subst e
      exact .cons (vw := []) (fr := []) (rd := []) .v (ih h1 he.tl)
    · rename_i heq; cases heq
      obtain ⟨r1, h1, rfl⟩ := Option.map_eq_some_iff.1 h
      exact .cons (vw := []) (fr := []) (rd := []) .nl (ih h1 he)
    · rename_i heq; cases heq
      obtain ⟨r1, h1, rfl⟩ := Option.map_eq_some_iff.1 h
      have e : _ = _ := he.hd
      subst e
      exact .cons (vw := []) (fr := []) (rd := []) .nlb (ih h1 he.tl)
    · rename_i heq; cases heq
      obtain ⟨r1, h1, rfl⟩ := Option.map_eq_some_iff.1 h
      have e : _ = _ := he.hd
      subst e
      exact .cons (vw := []) (fr := []) (rd := []) .nlf (ih h1 he.tl)
    · rename_i heq; cases heq
      obtain ⟨r1, h1, rfl⟩ := Option.map_eq_some_iff.1 h
      have e : _ = _ := he.hd
      have e2 : _ = _ := he.tl.hd
      subst e e2
      exact .cons (vw := []) (fr := []) (rd := []) .slb (ih h1 he.tl.tl)
    · rename_i heq; cases heq
      obtain ⟨r1, h1, rfl⟩ := Option.map_eq_some_iff.1 h
      have e : _ = _ := he.hd
      have e2 : _ = _ := he.tl.hd
      subst e e2
      exact .cons (vw := []) (fr := []) (rd := []) .slf (ih h1 he.tl.tl)
    · rename_i heq; cases heq
      obtain ⟨r1, h1, rfl⟩ := Option.map_eq_some_iff.1 h
      have e : _ = _ := he.hd
      have e2 : _ = _ := he.tl.hd
      subst e e2
      exact .cons (vw := []) (fr := []) (rd := []) .fb (ih h1 he.tl.tl)
    · rename_i k s e len xs1 tg e' rows' ys1 heq
      cases heq
      split at h
      · rename_i e2 rows eqs r1 hO h1
        have hall : ∀ q2, EqsOk (⟨Nat, e, e'⟩ :: ⟨Nat, e2, e⟩ :: ⟨Nat, len, rows.length⟩ :: ⟨List (List C1), rows, rows'⟩ :: (eqs ++ q2)) → e = e' ∧ ob k = some (s, .arr e rows) ∧ 0 + len ≤ rows.length ∧ (rows.drop 0).take len = rows' ∧ len ≤ rows.length ∧ rows.take len = rows' ∧ EqsOk q2 := by
          intro q2 he
          have q0 : e = e' := he.hd
          have q1 : e2 = e := he.tl.hd
          have q2 : len = rows.length := he.tl.tl.hd
          have q3 : rows = rows' := he.tl.tl.tl.hd
          have hO' := objAt_s hO he.tl.tl.tl.tl.l
          exact ⟨q0, q1 ▸ hO', by omega, by rw [List.drop_zero, q2, List.take_length, q3], by omega, by rw [q2, List.take_length, q3], he.tl.tl.tl.tl.r⟩
        split at h <;> cases h
        · obtain ⟨q0, q1, q2, q3, _, _, q4⟩ := hall _ he
          subst q0
          exact .cons (vw := [_]) (fr := []) (rd := []) (.vw q1 q2 q3) (ih h1 q4)
        · obtain ⟨q0, q1, q2, q3, _, _, q4⟩ := hall _ he
          subst q0
          exact .cons (vw := []) (fr := [_]) (rd := []) (.fr q1 q2 q3) (ih h1 q4)
        · obtain ⟨q0, q1, _, _, q2, q3, q4⟩ := hall _ he
          subst q0
          exact .cons (vw := []) (fr := []) (rd := []) (.own q1 q2 q3) (ih h1 q4)
      · rename_i e2 rows eqs r1 hO h1
        have hall : ∀ q2, EqsOk (⟨Nat, e, e'⟩ :: ⟨Nat, e2, e⟩ :: ⟨Nat, len, rows.length⟩ :: ⟨List (List C1), rows, rows'⟩ :: (eqs ++ q2)) → e = e' ∧ ob k = some (s, .fz e rows) ∧ 0 + len ≤ rows.length ∧ (rows.drop 0).take len = rows' ∧ EqsOk q2 := by
          intro q2 he
          have q0 : e = e' := he.hd
          have q1 : e2 = e := he.tl.hd
          have q2 : len = rows.length := he.tl.tl.hd
          have q3 : rows = rows' := he.tl.tl.tl.hd
          have hO' := objAt_s hO he.tl.tl.tl.tl.l
          exact ⟨q0, q1 ▸ hO', by omega, by rw [List.drop_zero, q2, List.take_length, q3], he.tl.tl.tl.tl.r⟩
        split at h <;> cases h
        · obtain ⟨q0, q1, q2, q3, q4⟩ := hall _ he
          subst q0
          exact .cons (vw := []) (fr := []) (rd := [_]) (.fzb q1 q2 q3) (ih h1 q4)
        · obtain ⟨q0, q1, q2, q3, q4⟩ := hall _ he
          subst q0
          exact .cons (vw := []) (fr := []) (rd := [_]) (.fzf q1 q2 q3) (ih h1 q4)
      · cases h
    · cases h

def psP (ob : Nat → Option (Nat × AObj)) (u : TV) (p : Par) : Option (PsR × Option (Nat × Nat)) :=
  match u, p with
  | .one (.c x), ⟨.val, false, [y]⟩ => (psL ob [x] [y]).map fun r => (r, none)
  | .one (.ag xs), ⟨.val, true, ys⟩ => (psL ob xs ys).map fun r => (r, none)
  | .one (.c x), ⟨.mt, false, [y]⟩ => (psL ob [x] [y]).map fun r => (r, none)
  | .one (.ag xs), ⟨.mt, true, ys⟩ => (psL ob xs ys).map fun r => (r, none)
  | .one (.pt k s 0), ⟨.ptr, _, ys⟩ => match objAt ob k s with
    | some (.box xs, eqs) => (psL ob xs ys).map fun r => (⟨r.cl, r.vw, r.fr, r.rd, eqs ++ r.eqs⟩, some (k, s))
    | _ => none
  | _, _ => none

theorem psP_s {u : TV} {p : Par} {r : PsR} {bx : Option (Nat × Nat)} (h : psP ob u p = some (r, bx)) (he : EqsOk r.eqs) : PsP ob u p r.cl bx r.vw r.fr r.rd := by
  unfold psP at h
  split at h
  · obtain ⟨r1, h1, h2⟩ := Option.map_eq_some_iff.1 h
    cases h2
    exact .c (psL_s h1 he)
  · obtain ⟨r1, h1, h2⟩ := Option.map_eq_some_iff.1 h
    cases h2
    exact .ag (psL_s h1 he)
  · obtain ⟨r1, h1, h2⟩ := Option.map_eq_some_iff.1 h
    cases h2
    exact .cm (psL_s h1 he)
  · obtain ⟨r1, h1, h2⟩ := Option.map_eq_some_iff.1 h
    cases h2
    exact .am (psL_s h1 he)
  · split at h
    · rename_i xs eqs hO
      obtain ⟨r1, h1, h2⟩ := Option.map_eq_some_iff.1 h
      cases h2
      have hl := psL_s h1 (EqsOk.r (l := eqs) he)
      exact .pt (objAt_s hO (EqsOk.l (l' := r1.eqs) he)) hl
    · cases h
  · cases h

structure PsA where
  cls : List (List (Option (Nat × Nat)) × Option (Nat × Nat))
  vw : List (Nat × Nat)
  fr : List (Nat × Nat × AObj)
  rd : List Nat
  eqs : List EqP

def psA (ob : Nat → Option (Nat × AObj)) (ev : Operand → TV) : List Operand → List Par → Option PsA
  | [], [] => some ⟨[], [], [], [], []⟩
  | x :: xs, p :: ps => match psP ob (ev x) p, psA ob ev xs ps with
    | some (r, bx), some a => some ⟨(r.cl, bx) :: a.cls, r.vw ++ a.vw, r.fr ++ a.fr, r.rd ++ a.rd, r.eqs ++ a.eqs⟩
    | _, _ => none
  | _, _ => none

theorem psA_s : ∀ {xs : List Operand} {ps : List Par} {a : PsA}, psA ob ev xs ps = some a → EqsOk a.eqs → PsPs ob ev xs ps a.cls a.vw a.fr a.rd
  | [], [], a, h, he => by simp only [psA, Option.some.injEq] at h; subst h; exact .nil
  | [], _ :: _, a, h, he => by simp [psA] at h
  | _ :: _, [], a, h, he => by simp [psA] at h
  | x :: xs, p :: ps, a, h, he => by
    unfold psA at h
    split at h
    · rename_i r bx a1 h1 h2
      cases h
      exact .cons (psP_s h1 he.l) (psA_s h2 he.r)
    · cases h

def s_call (ob : Nat → Option (Nat × AObj)) (ev : Operand → TV) (f : Nat → Nat) (key n : Nat) (args : List Operand) (c : Bool) (hs : List (Hint P)) : Out P :=
  match hs with
  | .call c' n' ps rs outs _ :: hs => match psA ob ev args ps with
    | some a => bif callChk (100000 * (key + 1)) rs ps outs a.cls a.vw a.fr then
        some (⟨resTV (100000 * (key + 1)) (gk f) rs, callUpd (100000 * (key + 1)) f rs ps outs a.cls a.fr, callTch (callKeys (100000 * (key + 1)) rs ps outs a.cls a.fr) a.vw a.rd⟩, ⟨Bool, c, c'⟩ :: ⟨Nat, n', n⟩ :: a.eqs, hs)
      else none
    | none => none
  | _ => none
theorem s_call_w {key n : Nat} {args : Array Operand} {ats : Array Nat} (ho : o.op = .call { callee := .value (.func n), args := args, argTypes := ats }) (hs : List (Hint P)) : Worth P o ev ob f c (s_call ob ev f key n args.toList c hs) := by
  unfold s_call
  split
  · rename_i c' n' ps rs outs hfn hs'
    split
    · rename_i a ha
      cases hz : callChk (100000 * (key + 1)) rs ps outs a.cls a.vw a.fr with
      | false => exact .none
      | true =>
        refine .some fun he hc => ?_
        have e0 : c = c' := he.hd
        have e1 : n' = n := he.tl.hd
        subst e1
        exact op_call (hfn (e0 ▸ hc)) (100000 * (key + 1)) ho rfl (psA_s ha he.tl.tl) hz
    · exact .none
  · exact .none

/-- An operation, computed. -/
def sop (tt : Nat → Option TD) (o : Oper) (ev : Operand → TV) (ob : Nat → Option (Nat × AObj)) (f : Nat → Nat) (c : Bool) (hs : List (Hint P)) : Out P :=
  let key := match o.dst with | some d => d | none => 900
  match o.op with
  | .move x => some (⟨ev x, [], []⟩, [], hs)
  | .assign x => some (⟨ev x, [], []⟩, [], hs)
  | .alloc t => s_alloc tt f key t hs
  | .makeMap _ none => s_mkmap f key hs
  | .lookup t x i false => s_look tt ob t (ev x) (ev i) hs
  | .mapUpdate t m x v => s_mup tt ob t (ev m) (ev x) (ev v) hs
  | .box t x => s_box f key (ev x) hs
  | .build t ps => s_build tt ev t ps.toList hs
  | .buildSlice t n ps => s_bs tt ob ev f key t n ps.toList hs
  | .load t x => s_ld tt ob t (ev x) c hs
  | .store t x y => s_st tt ob t (ev x) (ev y) c hs
  | .nilCheck x => s_nil (ev x) hs
  | .binOp b t x y _ => s_bin b t (ev x) (ev y) c hs
  | .unOp b _ x => s_un b (ev x) c hs
  | .convert s d x => match ev x with
    | .one (.c (.mu ..)) => s_bytes tt ob s d (ev x) hs
    | _ => s_conv s d (ev x) c hs
  | .makeSlice t x y => s_mk tt f key t (ev x) (ev y) c hs
  | .slice t x lo hi none => s_sl tt ev t (ev x) lo hi c hs
  | .fieldAddr t x i => s_fa tt t i (ev x) hs
  | .field t x i => s_field tt t i (ev x) hs
  | .indexAddr t x i => s_ixa tt t (ev x) (ev i) c hs
  | .index t x i => s_ixs t (ev x) (ev i) c hs
  | .extract x i => s_ext (ev x) i hs
  | .call ⟨.builtin .len, ⟨[x]⟩, ⟨[t]⟩⟩ => s_len tt t (ev x) hs
  | .call ⟨.builtin .append, ⟨[x, y]⟩, ⟨[t, t']⟩⟩ => s_app tt ob f key t t' (ev x) (ev y) c hs
  | .call ⟨.builtin b, ⟨[x, y]⟩, _⟩ => s_mm b (ev x) (ev y) hs
  | .call ⟨.value (.func n), args, _⟩ => s_call ob ev f key n args.toList c hs
  | _ => none

theorem sop_w (hT : TyOK P tt) (hs : List (Hint P)) : Worth P o ev ob f c (sop tt o ev ob f c hs) := by
  unfold sop
  dsimp only
  split
  · rename_i x ho; exact .some fun _ _ => op_move ho rfl
  · rename_i x ho; exact .some fun _ _ => op_assign ho rfl
  · rename_i ho; exact s_alloc_w hT ho hs
  · rename_i ho; exact s_mkmap_w ho hs
  · rename_i ho; exact s_look_w hT ho hs
  · rename_i ho; exact s_mup_w hT ho hs
  · rename_i ho; exact s_box_w ho hs
  · rename_i ho; exact s_build_w hT ho hs
  · rename_i ho; exact s_bs_w hT ho hs
  · rename_i ho; exact s_ld_w hT ho hs
  · rename_i ho; exact s_st_w hT ho hs
  · rename_i ho; exact s_nil_w ho hs
  · rename_i ho; exact s_bin_w ho hs
  · rename_i ho; exact s_un_w ho hs
  · rename_i ho
    split
    · exact s_bytes_w hT ho hs
    · exact s_conv_w ho hs
  · rename_i ho; exact s_mk_w hT ho hs
  · rename_i ho; exact s_sl_w hT ho hs
  · rename_i ho; exact s_fa_w hT ho hs
  · rename_i ho; exact s_field_w hT ho hs
  · rename_i ho; exact s_ixa_w hT ho hs
  · rename_i ho; exact s_ixs_w ho hs
  · rename_i ho; exact s_ext_w ho hs
  · rename_i ho; exact s_len_w hT ho hs
  · rename_i ho; exact s_app_w hT ho hs
  · rename_i ho; exact s_mm_w ho hs
  · rename_i ho; exact s_call_w ho hs
  · exact .none
end
end Go.Lap
