/- The engine's twenty-ninth part: a function's end, computed; short names of hints. -/
import Derived.Test.YtihiganlkecbaaaFb
set_option linter.unusedVariables false
namespace Go.Lap
open Go.RowKit

section
variable {P : Program} {tt : Nat → Option TD} {F : Nat → TV} {O : Nat → Option (Nat × AObj)}

def rvF (tt : Nat → Option TD) (F : Nat → TV) (O : Nat → Option (Nat × AObj)) : ResultVar → Option (V0 × List EqP)
  | .tmp t => match F t with
    | .one v => some (v, [])
    | _ => none
  | .cell a t => match F a with
    | .one (.pt k s 0) => match objAt O k s, tt t with
      | some (.box cs, eqs), some d => bif (d.agg || Nat.beq d.size 1) && Nat.beq d.size cs.length then
          match ldV d.agg cs with
          | some v => some (v, eqs)
          | none => none
        else none
      | _, _ => none
    | _ => none
theorem rvF_s {x : ResultVar} {v : V0} {eqs : List EqP} (h : rvF tt F O x = some (v, eqs)) (he : EqsOk eqs) : RsV tt F O x v := by
  unfold rvF at h
  split at h
  · split at h
    · rename_i hv; cases h; exact .tmp hv
    · cases h
  · split at h
    · rename_i hv
      split at h
      · rename_i cs eqs' d hO ht
        cases hz : ((d.agg || Nat.beq d.size 1) && Nat.beq d.size cs.length) with
        | false => rw [hz] at h; cases h
        | true =>
          rw [hz] at h; simp only [cond_true] at h
          simp only [Bool.and_eq_true] at hz
          split at h
          · rename_i v' hl
            cases h
            exact .cell hv (objAt_s hO he) ht hz.1 hz.2 hl
          · cases h
      · cases h
    · cases h

def rvsF (tt : Nat → Option TD) (F : Nat → TV) (O : Nat → Option (Nat × AObj)) : List ResultVar → Option (List V0 × List EqP)
  | [] => some ([], [])
  | x :: xs => match rvF tt F O x, rvsF tt F O xs with
    | some (v, e), some (vs, e') => some (v :: vs, e ++ e')
    | _, _ => none
theorem rvsF_s : ∀ {xs : List ResultVar} {vs : List V0} {eqs : List EqP}, rvsF tt F O xs = some (vs, eqs) → EqsOk eqs → RsVs tt F O xs vs
  | [], vs, eqs, h, _ => by simp only [rvsF, Option.some.injEq, Prod.mk.injEq] at h; obtain ⟨rfl, _⟩ := h; exact .nil
  | x :: xs, vs, eqs, h, he => by
    simp only [rvsF] at h
    split at h
    · rename_i v e vs' e' h1 h2
      cases h
      exact .cons (rvF_s h1 he.l) (rvsF_s h2 he.r)
    · cases h

structure PkR where
  cl : List (Option (Nat × Nat))
  fr : List (Nat × Nat × AObj)
  eqs : List EqP

def pkF (O : Nat → Option (Nat × AObj)) : List Cell → List Cell → Option PkR
  | [], [] => some ⟨[], [], []⟩
  | .v x :: xs, .v y :: ys => (pkF O xs ys).map fun r => ⟨none :: r.cl, r.fr, ⟨Value, x, y⟩ :: r.eqs⟩
  | .nl :: xs, .nl :: ys => (pkF O xs ys).map fun r => ⟨none :: r.cl, r.fr, r.eqs⟩
  | .nl :: xs, .sl .own e rows :: ys => bif Nat.ble 1 e then (pkF O xs ys).map fun r => ⟨none :: r.cl, r.fr, ⟨List (List C1), rows, []⟩ :: r.eqs⟩ else none
  | .nl :: xs, .sl .frz e rows :: ys => (pkF O xs ys).map fun r => ⟨none :: r.cl, r.fr, ⟨List (List C1), rows, []⟩ :: r.eqs⟩
  | .sl .frz e rows :: xs, .sl .frz e' rows' :: ys => (pkF O xs ys).map fun r => ⟨none :: r.cl, r.fr, ⟨Nat, e, e'⟩ :: ⟨List (List C1), rows, rows'⟩ :: r.eqs⟩
  | .sl .bor e rows :: xs, .sl .bor e' rows' :: ys => (pkF O xs ys).map fun r => ⟨none :: r.cl, r.fr, ⟨Nat, e, e'⟩ :: ⟨List (List C1), rows, rows'⟩ :: r.eqs⟩
  | .mu k s e 0 len :: xs, .sl tg e' rows' :: ys =>
    match objAt O k s, pkF O xs ys with
    | some (.arr e2 rows, eqs), some r =>
      let q := ⟨Nat, e, e'⟩ :: ⟨Nat, e2, e⟩ :: ⟨Nat, len, rows.length⟩ :: ⟨List (List C1), rows, rows'⟩ :: (eqs ++ r.eqs)
      match tg with
      | .own => some ⟨some (k, s) :: r.cl, r.fr, q⟩
      | .frz => some ⟨none :: r.cl, (k, s, .fz e rows) :: r.fr, q⟩
      | .bor => none
    | some (.fz e2 rows, eqs), some r =>
      let q := ⟨Nat, e, e'⟩ :: ⟨Nat, e2, e⟩ :: ⟨Nat, len, rows.length⟩ :: ⟨List (List C1), rows, rows'⟩ :: (eqs ++ r.eqs)
      match tg with
      | .frz => some ⟨none :: r.cl, (k, s, .fz e rows) :: r.fr, q⟩
      | _ => none
    | _, _ => none
  | _, _ => none

theorem pkF_s : ∀ {xs ys : List Cell} {r : PkR}, pkF O xs ys = some r → EqsOk r.eqs → PkL O xs ys r.cl r.fr := by
  intro xs
  induction xs with
  | nil =>
    intro ys r h he
    cases ys with
    | nil => simp only [pkF, Option.some.injEq] at h; subst h; exact .nil
    | cons y ys => simp [pkF] at h
  | cons x xs ih =>
    intro ys r h he
    unfold pkF at h
    split at h
    · rename_i heq; cases heq
    · rename_i heq; cases heq
      obtain ⟨r1, h1, rfl⟩ := Option.map_eq_some_iff.1 h
      have e : _ = _ := he.hd
      subst e
      exact .cons (fr := []) .v (ih h1 he.tl)
    · rename_i heq; cases heq
      obtain ⟨r1, h1, rfl⟩ := Option.map_eq_some_iff.1 h
      exact .cons (fr := []) .nl (ih h1 he)
    · rename_i xs1 e rows ys1 heq; cases heq
      cases hz : Nat.ble 1 e with
      | false => rw [hz] at h; cases h
      | true =>
        rw [hz] at h; simp only [cond_true] at h
        obtain ⟨r1, h1, rfl⟩ := Option.map_eq_some_iff.1 h
        have q : rows = [] := he.hd
        subst q
        exact .cons (fr := []) (.nlo hz) (ih h1 he.tl)
    · rename_i heq; cases heq
      obtain ⟨r1, h1, rfl⟩ := Option.map_eq_some_iff.1 h
      have e : _ = _ := he.hd
      subst e
      exact .cons (fr := []) .nlf (ih h1 he.tl)
    · rename_i heq; cases heq
      obtain ⟨r1, h1, rfl⟩ := Option.map_eq_some_iff.1 h
      have e : _ = _ := he.hd
      have e2 : _ = _ := he.tl.hd
      subst e e2
      exact .cons (fr := []) .frz (ih h1 he.tl.tl)
    · rename_i heq; cases heq
      obtain ⟨r1, h1, rfl⟩ := Option.map_eq_some_iff.1 h
      have e : _ = _ := he.hd
      have e2 : _ = _ := he.tl.hd
      subst e e2
      exact .cons (fr := []) .bor (ih h1 he.tl.tl)
    · rename_i k s e len xs1 tg e' rows' ys1 heq
      cases heq
      split at h
      · rename_i e2 rows eqs r1 hO h1
        have hall : ∀ q2, EqsOk (⟨Nat, e, e'⟩ :: ⟨Nat, e2, e⟩ :: ⟨Nat, len, rows.length⟩ :: ⟨List (List C1), rows, rows'⟩ :: (eqs ++ q2)) → e = e' ∧ O k = some (s, .arr e rows) ∧ 0 + len ≤ rows.length ∧ (rows.drop 0).take len = rows' ∧ len ≤ rows.length ∧ rows.take len = rows' ∧ EqsOk q2 := by
          intro q2 he
          have q0 : e = e' := he.hd
          have q1 : e2 = e := he.tl.hd
          have q2 : len = rows.length := he.tl.tl.hd
          have q3 : rows = rows' := he.tl.tl.tl.hd
          have hO' := objAt_s hO he.tl.tl.tl.tl.l
          exact ⟨q0, q1 ▸ hO', by omega, by rw [List.drop_zero, q2, List.take_length, q3], by omega, by rw [q2, List.take_length, q3], he.tl.tl.tl.tl.r⟩
        split at h <;> cases h
        · obtain ⟨q0, q1, _, _, q2, q3, q4⟩ := hall _ he
          subst q0
          exact .cons (fr := []) (.own q1 q2 q3) (ih h1 q4)
        · obtain ⟨q0, q1, q2, q3, _, _, q4⟩ := hall _ he
          subst q0
          exact .cons (fr := [_]) (.arr q1 q2 q3) (ih h1 q4)
      · rename_i e2 rows eqs r1 hO h1
        split at h <;> cases h
        have q0 : e = e' := he.hd
        have q1 : e2 = e := he.tl.hd
        have q2 : len = rows.length := he.tl.tl.hd
        have q3 : rows = rows' := he.tl.tl.tl.hd
        have hO' := objAt_s hO he.tl.tl.tl.tl.l
        subst q0 q1
        exact .cons (fr := [_]) (.fz hO' (by omega) (by rw [List.drop_zero, q2, List.take_length, q3])) (ih h1 he.tl.tl.tl.tl.r)
      · cases h
    · cases h

def pkVF (O : Nat → Option (Nat × AObj)) : V0 → RV → Option (PkR × Option (Nat × Nat))
  | .c x, .c y => (pkF O [x] [y]).map fun r => (r, none)
  | .ag xs, .ag ys => (pkF O xs ys).map fun r => (r, none)
  | .pt k s 0, .ptr ys => match objAt O k s with
    | some (.box xs, eqs) => (pkF O xs ys).map fun r => (⟨r.cl, r.fr, eqs ++ r.eqs⟩, some (k, s))
    | _ => none
  | _, _ => none
theorem pkVF_s {v : V0} {y : RV} {r : PkR} {bx : Option (Nat × Nat)} (h : pkVF O v y = some (r, bx)) (he : EqsOk r.eqs) : PkV O v y r.cl bx r.fr := by
  unfold pkVF at h
  split at h
  · obtain ⟨r1, h1, h2⟩ := Option.map_eq_some_iff.1 h
    cases h2
    exact .c (pkF_s h1 he)
  · obtain ⟨r1, h1, h2⟩ := Option.map_eq_some_iff.1 h
    cases h2
    exact .ag (pkF_s h1 he)
  · split at h
    · rename_i xs eqs hO
      obtain ⟨r1, h1, h2⟩ := Option.map_eq_some_iff.1 h
      cases h2
      have hl := pkF_s h1 (EqsOk.r (l := eqs) he)
      exact .ptr (objAt_s hO (EqsOk.l (l' := r1.eqs) he)) hl
    · cases h
  · cases h

structure PkA where
  cls : List (List (Option (Nat × Nat)) × Option (Nat × Nat))
  fr : List (Nat × Nat × AObj)
  eqs : List EqP

def pkVsF (O : Nat → Option (Nat × AObj)) : List V0 → List RV → Option PkA
  | [], [] => some ⟨[], [], []⟩
  | v :: vs, y :: ys => match pkVF O v y, pkVsF O vs ys with
    | some (r, bx), some a => some ⟨(r.cl, bx) :: a.cls, r.fr ++ a.fr, r.eqs ++ a.eqs⟩
    | _, _ => none
  | _, _ => none
theorem pkVsF_s : ∀ {vs : List V0} {ys : List RV} {a : PkA}, pkVsF O vs ys = some a → EqsOk a.eqs → PkVs O vs ys a.cls a.fr
  | [], [], a, h, _ => by simp only [pkVsF, Option.some.injEq] at h; subst h; exact .nil
  | [], _ :: _, a, h, _ => by simp [pkVsF] at h
  | _ :: _, [], a, h, _ => by simp [pkVsF] at h
  | v :: vs, y :: ys, a, h, he => by
    simp only [pkVsF] at h
    split at h
    · rename_i r bx a1 h1 h2
      cases h
      exact .cons (pkVF_s h1 he.l) (pkVsF_s h2 he.r)
    · cases h

structure PkB where
  cls : List (List (Option (Nat × Nat)))
  fr : List (Nat × Nat × AObj)
  eqs : List EqP

def mtF (O : Nat → Option (Nat × AObj)) : List (Nat × Nat × AObj) → Option (List EqP)
  | [] => some []
  | (k, s, .arr e rows) :: l => match objAt O k s, mtF O l with
    | some (.arr e' rows', eqs), some es => some (⟨Nat, e', e⟩ :: ⟨List (List C1), rows', rows⟩ :: (eqs ++ es))
    | _, _ => none
  | _ => none
theorem mtF_s : ∀ {l : List (Nat × Nat × AObj)} {es : List EqP}, mtF O l = some es → EqsOk es → ∀ y, y ∈ l → O y.1 = some y.2
  | [], _, _, _, y, hy => by cases hy
  | (k, s, .box _) :: l, _, h, _, y, hy => by simp [mtF] at h
  | (k, s, .fz _ _) :: l, _, h, _, y, hy => by simp [mtF] at h
  | (k, s, .arr e rows) :: l, es, h, he, y, hy => by
    simp only [mtF] at h
    split at h
    · rename_i e' rows' eqs es' hO h1
      cases h
      have q0 : e' = e := he.hd
      have q1 : rows' = rows := he.tl.hd
      subst q0 q1
      rcases List.mem_cons.1 hy with e | e
      · subst e; exact objAt_s hO he.tl.tl.l
      · exact mtF_s h1 he.tl.tl.r y e
    · cases h

def pkOF (O : Nat → Option (Nat × AObj)) (f : Nat → Nat → Nat) : Nat → List Par → List (List Cell) → Option PkB
  | _, [], [] => some ⟨[], [], []⟩
  | i, ⟨.val, _, _⟩ :: ps, outs => (pkOF O f (i + 1) ps outs).map fun b => ⟨[] :: b.cls, b.fr, b.eqs⟩
  | i, ⟨.ptr, _, _⟩ :: ps, cs :: outs => match objAt O (1000 * (i + 1) + 999) (f i 999), pkOF O f (i + 1) ps outs with
    | some (.box xs, eqs), some b => match pkF O xs cs with
      | some r => some ⟨r.cl :: b.cls, r.fr ++ b.fr, eqs ++ (r.eqs ++ b.eqs)⟩
      | none => none
    | _, _ => none
  | i, ⟨.mt, _, pcs⟩ :: ps, cs :: outs => match mtF O (upM (1000 * (i + 1)) (f i) 0 pcs cs), pkOF O f (i + 1) ps outs with
    | some eqs, some b => some ⟨[] :: b.cls, b.fr, eqs ++ b.eqs⟩
    | _, _ => none
  | _, _, _ => none
theorem pkOF_s {f : Nat → Nat → Nat} : ∀ {ps : List Par} {i : Nat} {outs : List (List Cell)} {b : PkB}, pkOF O f i ps outs = some b → EqsOk b.eqs → PkO O f i ps outs b.cls b.fr := by
  intro ps
  induction ps with
  | nil =>
    intro i outs b h _
    cases outs with
    | nil => simp only [pkOF, Option.some.injEq] at h; subst h; exact .nil
    | cons o os => simp [pkOF] at h
  | cons p ps ih =>
    intro i outs b h he
    obtain ⟨k, ag, pcs⟩ := p
    cases k with
    | val =>
      simp only [pkOF] at h
      obtain ⟨b1, h1, rfl⟩ := Option.map_eq_some_iff.1 h
      exact .val rfl (ih h1 he)
    | mt =>
      cases outs with
      | nil => simp [pkOF] at h
      | cons cs outs =>
        simp only [pkOF] at h
        split at h
        · rename_i eqs b1 hO h1
          cases h
          exact .mt rfl (mtF_s hO he.l) (ih h1 he.r)
        · cases h
    | ptr =>
      cases outs with
      | nil => simp [pkOF] at h
      | cons cs outs =>
        simp only [pkOF] at h
        split at h
        · rename_i xs eqs b1 hO h1
          split at h
          · rename_i r hr
            cases h
            exact .ptr rfl (objAt_s hO he.l) (pkF_s hr he.r.l) (ih h1 he.r.r)
          · cases h
        · cases h

/-- A function's end: what must be one. -/
def retF (tt : Nat → Option TD) (vars : List ResultVar) (f : Nat → Nat → Nat) (ps : List Par) (rs : List RV) (outs : List (List Cell)) (st : St) : Option (List EqP) :=
  match rvsF tt (getF st.F) (getO st.O) vars with
  | some (vs, e0) => match pkVsF (getO st.O) vs rs, pkOF (getO st.O) f 0 ps outs with
    | some a, some b => bif retChk rs outs ps ((itR 0 rs a.cls ++ itO f ps outs b.cls).map keyI) ((a.fr ++ b.fr).map (·.1)) then some (e0 ++ (a.eqs ++ b.eqs)) else none
    | _, _ => none
  | none => none

def eqsB : Option (List EqP) → List EqP
  | some l => l.map EqP.dup
  | none => []
theorem x_ret {fn : Func} {f : Nat → Nat → Nat} {ps : List Par} {rs : List RV} {outs : List (List Cell)} {st : St} (h : some (eqsB (retF tt fn.results.toList f ps rs outs st)) = retF tt fn.results.toList f ps rs outs st) : RetOK tt fn f ps rs outs st := by
  cases hr : retF tt fn.results.toList f ps rs outs st with
  | none => rw [hr] at h; cases h
  | some l =>
    rw [hr] at h
    have he : EqsOk l := eqs_ok (Option.some.inj h)
    unfold retF at hr
    split at hr
    · rename_i vs e0 h1
      split at hr
      · rename_i a b h2 h3
        cases hz : retChk rs outs ps ((itR 0 rs a.cls ++ itO f ps outs b.cls).map keyI) ((a.fr ++ b.fr).map (·.1)) with
        | false => rw [hz] at hr; cases hr
        | true =>
          rw [hz] at hr
          cases hr
          exact ⟨vs, a.cls, a.fr, b.cls, b.fr, rvsF_s h1 he.l, pkVsF_s h2 he.r.l, pkOF_s h3 he.r.r, hz⟩
      · cases hr
    · cases hr
end

/-- What is told in 's' is told in 'st'. -/
def pickS (s st : St) : St := ⟨s.F.map fun x => (x.1, getF st.F x.1), s.O.map fun x => (x.1, getO st.O x.1), st.n⟩
theorem pickF_s {F : List (Nat × TV)} : ∀ {l : List (Nat × TV)}, l.map (fun x => (x.1, getF F x.1)) = l → subF l F
  | [], _ => trivial
  | (k, x) :: l, h => by
    simp only [List.map_cons, List.cons.injEq, Prod.mk.injEq, true_and] at h
    exact ⟨h.1, pickF_s h.2⟩
theorem pickO_s {O : List (Nat × Option (Nat × AObj))} : ∀ {l : List (Nat × Option (Nat × AObj))}, l.map (fun x => (x.1, getO O x.1)) = l → subO l O
  | [], _ => trivial
  | (k, x) :: l, h => by
    simp only [List.map_cons, List.cons.injEq, Prod.mk.injEq, true_and] at h
    exact ⟨h.1, pickO_s h.2⟩
theorem sb {s st : St} (h : pickS s st = s) : Sub s st := by
  cases s with | mk F O n =>
  simp only [pickS, St.mk.injEq] at h
  exact ⟨pickF_s h.1, pickO_s h.2.1, h.2.2.symm⟩
theorem cst {a b s : St} (h : a = b) (hs : Sub a s) : Sub b s := h ▸ hs

/-! ### What holds of loops -/
def Res.all {σ ρ : Type} (N B : σ → Prop) (R : ρ → Prop) : Res σ ρ → Prop
  | .next s => N s
  | .brk s => B s
  | .ret r => R r
section
variable {σ ρ : Type} {rest : σ → ρ} {N B : σ → Prop} {R : ρ → Prop}
theorem all_next {s : σ} : Res.all N B R (.next s) = N s := rfl
theorem all_brk {s : σ} : Res.all N B R (.brk s) = B s := rfl
theorem all_ret {r : ρ} : Res.all N B R (.ret r) = R r := rfl
theorem all_ite {c : Bool} {a b : Res σ ρ} : Res.all N B R (if c then a else b) = ((c = true → Res.all N B R a) ∧ (c = false → Res.all N B R b)) := by cases c <;> simp
theorem ite_all {α : Type} {M : α → Prop} {c : Bool} {a b : α} : M (if c then a else b) = ((c = true → M a) ∧ (c = false → M b)) := by cases c <;> simp
theorem forN_inv {body : Nat → σ → Res σ ρ} (I : Nat → σ → Prop) (Post : ρ → Prop) (n : Nat)
    (step : ∀ j s, j < n → I j s → Res.all (fun s' => I (j + 1) s') (fun s' => Post (rest s')) Post (body j s)) (fin : ∀ s, I n s → Post (rest s)) : ∀ (c i : Nat) (s : σ), c = n - i → i ≤ n → I i s → Post (Res.fin rest (forN body c i s))
  | 0, i, s, hc, hi, h => by
    have : i = n := by omega
    subst this
    exact fin s h
  | c + 1, i, s, hc, hi, h => by
    have h1 := step i s (by omega) h
    simp only [forN]
    cases hb : body i s with
    | next s' => rw [hb] at h1; exact forN_inv I Post n step fin c (i + 1) s' (by omega) (by omega) h1
    | brk s' => rw [hb] at h1; exact h1
    | ret r => rw [hb] at h1; exact h1
theorem itr_inv {step : σ → Res σ ρ} (I : σ → Prop) (μ : σ → Nat) (Post : ρ → Prop)
    (hs : ∀ s, I s → Res.all (fun s' => I s' ∧ μ s' < μ s) (fun s' => Post (rest s')) Post (step s)) : ∀ (k : Nat) (s : σ), μ s < k → I s → Post (Res.fin rest (itr step k s))
  | 0, s, hk, h => by omega
  | k + 1, s, hk, h => by
    have h1 := hs s h
    simp only [itr]
    cases hb : step s with
    | next s' => rw [hb] at h1; exact itr_inv I μ Post hs k s' (by have := h1.2; omega) h1.1
    | brk s' => rw [hb] at h1; exact h1
    | ret r => rw [hb] at h1; exact h1
end

/-- A list copied element by element. -/
theorem forN_copy {α β ρ : Type} [Inhabited α] (f : α → β) (p : List α) (z : β) (rest : List β → ρ) {body : Nat → List β → Res (List β) ρ} (hb : ∀ i s, body i s = .next (s.set i (f (p.getD i default)))) (n : Nat) (hn : n = p.length) : Res.fin rest (forN body (n - 0) 0 (List.replicate n z)) = rest (p.map f) := by
  subst hn
  refine forN_inv (fun i (s : List β) => s = (p.take i).map f ++ List.replicate (p.length - i) z) (fun r => r = rest (p.map f)) p.length (fun j s hj h => ?_) (fun s h => ?_) _ 0 _ rfl (Nat.zero_le _) (by simp)
  · rw [hb]
    show s.set j _ = _
    rw [h]
    apply List.ext_getElem?
    intro k
    have hl : ((p.take j).map f).length = j := by simp; omega
    rw [List.getElem?_set]
    by_cases e : j = k
    · subst e
      have h1 : j < (List.map f (List.take j p) ++ List.replicate (p.length - j) z).length := by simp; omega
      have h2 : j < ((p.take (j + 1)).map f).length := by simp; omega
      rw [if_pos rfl, if_pos h1, List.getElem?_append_left h2]
      simp [List.getD, List.getElem?_eq_getElem hj]
    · rw [if_neg e]
      rcases Nat.lt_or_ge k j with g | g
      · rw [List.getElem?_append_left (by rw [hl]; exact g), List.getElem?_append_left (by simp; omega)]
        simp only [List.getElem?_map, List.getElem?_take, g, if_true, show k < j + 1 by omega]
      · rw [List.getElem?_append_right (by rw [hl]; exact g), List.getElem?_append_right (by simp; omega), hl]
        simp only [List.getElem?_replicate, List.length_map, List.length_take]
        have : min (j + 1) p.length = j + 1 := by omega
        rw [this]
        by_cases q : k - j < p.length - j
        · rw [if_pos q, if_pos (by omega)]
        · rw [if_neg q, if_neg (by omega)]
  · rw [h]; simp

/-! ### Short names -/
section
variable {P : Program} {α : Type}
/-- A call; under a guard. -/
abbrev ca {n : Nat} {ps : List Par} {rs : List RV} {outs : List (List Cell)} (h : Fn P n ps rs outs) : Hint P := .call true n ps rs outs fun _ => h
abbrev cg (c : Bool) {n : Nat} {ps : List Par} {rs : List RV} {outs : List (List Cell)} (h : c = true → Fn P n ps rs outs) : Hint P := .call c n ps rs outs h
/-- An element. -/
abbrev ix [i : Inhabited α] (g : α → List C1) (xs : List α) (k : Nat) (h : k < xs.length) : Hint P := .ix i true g xs (k : Int) k fun _ => ⟨rfl, h⟩
abbrev iz [i : Inhabited α] (g : α → List C1) (xs : List α) (n : Int) (h : 0 ≤ n ∧ n < (xs.length : Int)) : Hint P := .ix i true g xs n n.toNat fun _ => ⟨by omega, by omega⟩
abbrev ig (c : Bool) [i : Inhabited α] (g : α → List C1) (xs : List α) (k : Nat) (h : c = true → k < xs.length) : Hint P := .ix i c g xs (k : Int) k fun q => ⟨rfl, h q⟩
abbrev izg (c : Bool) [i : Inhabited α] (g : α → List C1) (xs : List α) (n : Int) (h : c = true → 0 ≤ n ∧ n < (xs.length : Int)) : Hint P := .ix i c g xs n n.toNat fun q => ⟨by have := h q; omega, by have := h q; omega⟩
end
/-- Lengths of lists. -/
theorem LN : (∀ (α : Type) (a b : List α), (a ++ b).length = a.length + b.length) ∧ (∀ (α : Type) (a : α) (b : List α), (a :: b).length = b.length + 1) ∧ (∀ (α : Type), ([] : List α).length = 0) ∧ (∀ (α : Type) (i : Nat) (a : List α), (a.take i).length = min i a.length) ∧
    (∀ (α : Type) (i : Nat) (a : List α), (a.drop i).length = a.length - i) ∧ (∀ (α β : Type) (f : α → β) (a : List α), (a.map f).length = a.length) ∧ (∀ (α : Type) (a : List α) (i : Nat) (x : α), (a.set i x).length = a.length) ∧ ∀ (α : Type) (n : Nat) (x : α), (List.replicate n x).length = n :=
  ⟨fun _ _ _ => List.length_append, fun _ _ _ => rfl, fun _ => rfl, fun _ _ _ => List.length_take, fun _ _ _ => List.length_drop, fun _ _ _ _ => List.length_map _, fun _ _ _ _ => List.length_set, fun _ _ _ => List.length_replicate⟩
end Go.Lap
