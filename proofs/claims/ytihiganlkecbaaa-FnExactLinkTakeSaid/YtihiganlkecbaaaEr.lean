/- The engine's eighteenth part: the rule for calls. -/
import Derived.Test.YtihiganlkecbaaaEq
set_option linter.unusedVariables false
namespace Go.Lap
open Go.RowKit

/-- **A function, told by trees**, with what a call of it asks of the program. -/
structure Fn (P : Program) (n : Nat) (ps : List Par) (rs : List RV) (outs : List (List Cell)) : Prop where
  ok : FnOK P n ps rs outs
  fn : ∃ fn, P.funcs[n]? = some fn ∧ (fn.name == "runtime.NumGoroutine") = false ∧ fn.body.isNone = false

theorem run_callFunc {P : Program} {n : Nat} {args : Array Value} {w : World} (h : ∃ fn, P.funcs[n]? = some fn ∧ (fn.name == "runtime.NumGoroutine") = false ∧ fn.body.isNone = false) :
    (callFunc n args).run P w = .ok (.enter n args) w := by
  obtain ⟨fn, h1, h2, h3⟩ := h
  have h2' : ¬ fn.name = "runtime.NumGoroutine" := by simpa using h2
  have h3' : ¬ fn.body = none := fun e => by simp [e] at h3
  simp [callFunc, h1, h2', h3']

theorem nodup_of_keys {its : List (Nat × Nat × AObj)} {l : List Nat} (h : its.map (·.1) = l) (hn : l.Nodup) : (its.map (·.1)).Nodup := by rw [h]; exact hn

section
variable {P : Program} {o : Oper} {ev : Operand → TV} {ob : Nat → Option (Nat × AObj)} {f : Nat → Nat}

theorem op_call {n : Nat} {ps : List Par} {rs : List RV} {outs : List (List Cell)} (hfn : Fn P n ps rs outs) {args : Array Operand} {xs : List Operand} {ats : Array Nat} (K : Nat) {cls : List (List (Option (Nat × Nat)) × Option (Nat × Nat))} {vw : List (Nat × Nat)} {fr : List (Nat × Nat × AObj)} {rd : List Nat}
    (ho : o.op = .call { callee := .value (.func n), args := args, argTypes := ats }) (hxs : args.toList = xs) (hps : PsPs ob ev xs ps cls vw fr rd) (hc : callChk K rs ps outs cls vw fr = true) :
    OpOK P o ev ob f ⟨resTV K (gk f) rs, callUpd K f rs ps outs cls fr, callTch (callKeys K rs ps outs cls fr) vw rd⟩ := by
  simp only [callChk, Bool.and_eq_true] at hc
  obtain ⟨⟨⟨⟨⟨⟨⟨c1, c2⟩, c3⟩, c4⟩, c5⟩, c6⟩, c7⟩, c8⟩ := hc
  have c1' := nodupB_spec c1
  have c2' := nodupB_spec c2
  have c3' := nodupB_spec c3
  have hkeys : (callUpd K f rs ps outs cls fr).map (·.1) = callKeys K rs ps outs cls fr := callUpd_keys K f rs ps outs cls fr
  have htrue : ∀ k, (k, true) ∈ callTch (callKeys K rs ps outs cls fr) vw rd ↔ k ∈ callKeys K rs ps outs cls fr := by
    intro k; simp [callTch]
  have hgoK : ∀ k s, (k, s) ∈ goes cls → k ∈ callKeys K rs ps outs cls fr ∧ k ∉ fr.map (·.1) := fun k s h => by
    have := List.all_eq_true.1 c4 (k, s) h
    simpa using this
  have hvK : ∀ k s, (k, s) ∈ vw → k ∉ callKeys K rs ps outs cls fr := fun k s h => by
    have := List.all_eq_true.1 c5 (k, s) h
    simpa using this
  have hfK : ∀ k s z, (k, s, z) ∈ fr → k ∈ callKeys K rs ps outs cls fr := fun k s z h => by
    rw [← hkeys]
    simp only [callUpd, List.map_append, List.map_map, List.mem_append]
    exact .inl (.inr (List.mem_map.2 ⟨_, h, rfl⟩))
  refine ⟨⟨by rw [hkeys]; exact c1', fun k => by rw [hkeys]; exact htrue k⟩, fun G a w hw hev hobs hf => ?_⟩
  obtain ⟨e1, e2, e3⟩ := hps.ex
  have hseen : ∀ k, seenP cls vw fr rd k → ∃ wr, (k, wr) ∈ callTch (callKeys K rs ps outs cls fr) vw rd := by
    intro k h
    rcases h with h | h | h | h
    · obtain ⟨⟨k', s⟩, h1, rfl⟩ := List.mem_map.1 h
      exact ⟨true, (htrue _).2 (hgoK k' s h1).1⟩
    · obtain ⟨⟨k', s⟩, h1, rfl⟩ := List.mem_map.1 h
      exact ⟨false, List.mem_append_left _ (List.mem_append_right _ (List.mem_map.2 ⟨_, h1, rfl⟩))⟩
    · obtain ⟨⟨k', s, z⟩, h1, rfl⟩ := List.mem_map.1 h
      exact ⟨true, (htrue _).2 (hfK k' s z h1)⟩
    · exact ⟨false, List.mem_append_right _ (List.mem_map.2 ⟨_, h, rfl⟩)⟩
  have hobj : ∀ k s x, ob k = some (s, x) → seenP cls vw fr rd k → G.used s ∧ RObj w G s x := fun k s x hk hs => by
    obtain ⟨wr, h⟩ := hseen k hs
    exact hobs.objs k wr h s x hk
  have hinj : ∀ k k' s x x', seenP cls vw fr rd k → seenP cls vw fr rd k' → ob k = some (s, x) → ob k' = some (s, x') → k = k' := fun k k' s x x' h h' hk hk' => by
    obtain ⟨wr, g⟩ := hseen k h
    obtain ⟨wr', g'⟩ := hseen k' h'
    exact hobs.inj k k' wr wr' g g' s x x' hk hk'
  have sgo : ∀ {k s}, (k, s) ∈ goes cls → seenP cls vw fr rd k := fun h => .inl (List.mem_map.2 ⟨_, h, rfl⟩)
  have svw : ∀ {k s}, (k, s) ∈ vw → seenP cls vw fr rd k := fun h => .inr (.inl (List.mem_map.2 ⟨_, h, rfl⟩))
  have sfr : ∀ {k s z}, (k, s, z) ∈ fr → seenP cls vw fr rd k := fun h => .inr (.inr (.inl (List.mem_map.2 ⟨_, h, rfl⟩)))
  let pl := (goes cls).map (·.2)
  let fl := fr.map (·.2.1)
  let vl := vw.map (·.2)
  let fc := fcO cls
  have hpl : ∀ {s}, s ∈ pl ↔ ∃ k, (k, s) ∈ goes cls := fun {s} => ⟨fun h => by obtain ⟨⟨k, s'⟩, h1, rfl⟩ := List.mem_map.1 h; exact ⟨k, h1⟩, fun ⟨k, h⟩ => List.mem_map.2 ⟨_, h, rfl⟩⟩
  have hfl : ∀ {s}, s ∈ fl ↔ ∃ k z, (k, s, z) ∈ fr := fun {s} => ⟨fun h => by obtain ⟨⟨k, s', z⟩, h1, rfl⟩ := List.mem_map.1 h; exact ⟨k, z, h1⟩, fun ⟨k, z, h⟩ => List.mem_map.2 ⟨_, h, rfl⟩⟩
  have hv1 : ∀ k s, (k, s) ∈ vw → s ∉ pl ∧ s ∉ fl ∧ s ∈ vl := fun k s h => by
    obtain ⟨x, hx⟩ := e2 k s h
    refine ⟨fun hp => ?_, fun hp => ?_, List.mem_map.2 ⟨_, h, rfl⟩⟩
    · obtain ⟨k', h'⟩ := hpl.1 hp
      obtain ⟨x', hx'⟩ := e1 k' s h'
      have := hinj k k' s x x' (svw h) (sgo h') hx hx'
      subst this
      exact hvK k s h (hgoK k s h').1
    · obtain ⟨k', z, h'⟩ := hfl.1 hp
      obtain ⟨x', hx', _⟩ := e3 k' s z h'
      have := hinj k k' s x x' (svw h) (sfr h') hx hx'
      subst this
      exact hvK k s h (hfK k s z h')
  have hf1 : ∀ k s z, (k, s, z) ∈ fr → s ∉ pl ∧ s ∈ fl := fun k s z h => by
    obtain ⟨x, hx, _⟩ := e3 k s z h
    refine ⟨fun hp => ?_, hfl.2 ⟨k, z, h⟩⟩
    obtain ⟨k', h'⟩ := hpl.1 hp
    obtain ⟨x', hx'⟩ := e1 k' s h'
    have := hinj k k' s x x' (sfr h) (sgo h') hx hx'
    subst this
    exact (hgoK k s h').2 (List.mem_map.2 ⟨_, h, rfl⟩)
  have hfc : ∀ (i' : Nat) cl bx, cls[i']? = some (cl, bx) → (∀ (p k s : Nat), cl[p]? = some (some (k, s)) → fc (0 + i') p = s) ∧ ∀ k s, bx = some (k, s) → fc (0 + i') 999 = s := fun i' cl bx h => by
    rw [Nat.zero_add]
    refine ⟨fun p k s hp => ?_, fun k s hb => ?_⟩
    · have hlen : cl.length ≤ 99 := Nat.le_of_ble_eq_true (List.all_eq_true.1 c8 (cl, bx) (List.mem_of_getElem? h))
      have : p < cl.length := (List.getElem?_eq_some_iff.1 hp).1
      simp only [fc, fcO, h, if_neg (show p ≠ 999 by omega), hp]
    · simp only [fc, fcO, h, if_true, hb]
  have hev' : ∀ x ∈ xs, RTV w G (ev x) (a.eval x) := fun x hx => hev x (by
    rw [ho]
    simp only [Op.operands, Call.operands]
    simp [hxs, hx])
  obtain ⟨g1, g2, g3⟩ := psps_R (a := a) (pl := pl) (fl := fl) (vl := vl) hw fc 0 hps hobj hv1 hf1 (fun k s h => hpl.2 ⟨k, h⟩) hfc hev'
  have hstN : ((argO fc 0 ps).map (·.2.1)).Nodup := by
    rw [g3]
    have : ∀ (l : List (Nat × Nat)), (∀ x ∈ l, x ∈ goes cls) → (l.map (·.1)).Nodup → (l.map (·.2)).Nodup := by
      intro l
      induction l with
      | nil => intro _ _; exact List.nodup_nil
      | cons x l ih =>
        intro hm hn
        simp only [List.map_cons, List.nodup_cons] at hn ⊢
        refine ⟨fun h => ?_, ih (fun y hy => hm y (List.mem_cons_of_mem _ hy)) hn.2⟩
        obtain ⟨y, hy, e⟩ := List.mem_map.1 h
        obtain ⟨k, s⟩ := x
        obtain ⟨k', s'⟩ := y
        simp only at e
        subst e
        have m1 := hm (k, s') (by simp)
        have m2 := hm (k', s') (List.mem_cons_of_mem _ hy)
        obtain ⟨x, hx⟩ := e1 _ _ m1
        obtain ⟨x', hx'⟩ := e1 _ _ m2
        have := hinj k k' s' x x' (sgo m1) (sgo m2) hx hx'
        subst this
        exact hn.1 (List.mem_map.2 ⟨_, hy, rfl⟩)
    exact this _ (fun x h => h) c3'
  have hra : RArgs w (G.toC pl fl vl) fc ps (xs.map a.eval) := by
    refine ⟨g1, g2, fun k k' s x x' h h' => ?_, fun b s hb => ?_⟩
    · have m1 := itS_mem hstN h
      have m2 := itS_mem hstN h'
      simp only at m1 m2
      rw [m1] at m2
      cases m2; rfl
    · have hs : s ∈ pl := by
        rw [toC_own] at hb
        cases hg : G.own b with
        | obj s' =>
          rw [hg] at hb
          simp only at hb
          split at hb
          · rename_i hcn; cases hb; simpa using hcn
          · split at hb
            · cases hb
            · split at hb <;> cases hb
        | _ => rw [hg] at hb; cases hb
      have : s ∈ (argO fc 0 ps).map (·.2.1) := by rw [g3]; exact hs
      obtain ⟨⟨k, s', x⟩, h1, rfl⟩ := List.mem_map.1 this
      exact ⟨k, x, h1⟩
  have hcall := hfn.ok fc (G.toC pl fl vl) w (xs.map a.eval) (toC_wf hw) hra
  have hrun : (execOp a.eval o).run P w = .ok (.enter n (xs.map a.eval).toArray) w := by
    have e : execOp a.eval o = callFunc n (#[] ++ args.map a.eval ++ #[]) := by
      obtain ⟨d, op, ty, pos, aft, gd⟩ := o
      simp only at ho
      subst ho
      rfl
    rw [e, run_callFunc hfn.fn]
    congr 2
    rw [← hxs]
    apply Array.toList_inj.1
    simp
  unfold Oper.wp
  rw [hrun]
  refine Calls.mono hcall fun e w' hpost => ?_
  obtain ⟨v, G', g, h, rfl, r1, r2, r3, r4, r5⟩ := hpost
  -- what comes back
  have hsN : ((resOs 0 g 0 rs ++ outN 0 h 0 ps outs ++ outB fc h 0 ps outs).map (·.2.1)).Nodup := by
    rw [List.append_assoc]; exact r5
  have hitk : ((resOs 0 g 0 rs ++ outN 0 h 0 ps outs ++ outB fc h 0 ps outs).map (·.1)).Nodup := by
    rw [List.append_assoc]
    have k1 := resOs_keys 0 g (fun _ _ => 0) rs 0
    have k2 := outN_keys 0 h (fun _ _ => 0) ps outs 0
    have k3 := outB_keys fc h (fun _ _ => 0) (fun _ _ => 0) ps outs 0
    simp only [List.map_append, k1, k2, k3]
    simpa only [outO, List.map_append] using c2'
  let its := resOs 0 g 0 rs ++ outN 0 h 0 ps outs ++ outB fc h 0 ps outs
  let Bx := (outB fc h 0 ps outs).map (·.2.1)
  have hbx : ∀ s ∈ Bx, G.used s := fun s hs => by
    obtain ⟨⟨k, s', x⟩, h1, rfl⟩ := List.mem_map.1 hs
    obtain ⟨k', x', h2⟩ := outB_arg fc h 0 h1
    exact (g2 _ _ _ h2).1
  have BH : BackHyp w w' G G' f pl fl vl Bx its := ⟨hw, r2, r3, hf.un, hf.inj, hitk, hsN, hbx⟩
  have hnb : ∀ x ∈ resOs 0 g 0 rs ++ outN 0 h 0 ps outs, x.2.1 ∉ Bx := fun x hx hm => by
    rw [List.map_append] at hsN
    exact (List.nodup_append.1 hsN).2.2 _ (List.mem_map.2 ⟨x, hx, rfl⟩) _ hm rfl
  have hRen : Ren G' (G.back G' f pl fl Bx its) vw.isEmpty := ⟨fun b hb => BH.frz hb, fun hv b hb => BH.bor (by
    cases vw with
    | nil => rfl
    | cons _ _ => simp at hv) hb⟩
  have hr4 : ∀ k s x, (k, s, x) ∈ its → G'.used s ∧ RObj w' G' s x := fun k s x hx => r4 k s x (by
    simp only [outO]
    rw [← List.append_assoc]; exact hx)
  have hRes : ∀ k s x, (k, s, x) ∈ resOs 0 g 0 rs → RObj w' G' s x ∧ Rn G' (G.back G' f pl fl Bx its) s (f k) := fun k s x hx => by
    have hm : (k, s, x) ∈ its := List.mem_append_left _ (List.mem_append_left _ hx)
    exact ⟨(hr4 k s x hm).2, BH.rn hm (hnb _ (List.mem_append_left _ hx))⟩
  have hOutN : ∀ k s x, (k, s, x) ∈ outN 0 h 0 ps outs → RObj w' G' s x ∧ Rn G' (G.back G' f pl fl Bx its) s (f k) := fun k s x hx => by
    have hm : (k, s, x) ∈ its := List.mem_append_left _ (List.mem_append_right _ hx)
    exact ⟨(hr4 k s x hm).2, BH.rn hm (hnb _ (List.mem_append_right _ hx))⟩
  have hOutB : ∀ k s x, (k, s, x) ∈ outB fc h 0 ps outs → RObj w' G' s x ∧ Rn G' (G.back G' f pl fl Bx its) s s := fun k s x hx => by
    have hm : (k, s, x) ∈ its := List.mem_append_right _ hx
    exact ⟨(hr4 k s x hm).2, BH.rb hm (List.mem_map.2 ⟨_, hx, rfl⟩)⟩
  obtain ⟨q1, q2⟩ := hRen.res (K := K) g 0 c6 hRes
  have q3 := hRen.outs (K := K) h 0 hOutN
  have q4 := hRen.boxes (ob := ob) (ev := ev) (K := K) fc h 0 hps c7 hfc (fun k s x hx => (hOutN k s x hx).2) hOutB
  have hTWgo : ∀ {k s}, (k, s) ∈ goes cls → TW ob (callTch (callKeys K rs ps outs cls fr) vw rd) s := fun {k s} hm => by
    obtain ⟨x, hx⟩ := e1 k s hm
    exact ⟨k, x, (htrue k).2 (hgoK k s hm).1, hx⟩
  have hTWfr : ∀ {k s z}, (k, s, z) ∈ fr → TW ob (callTch (callKeys K rs ps outs cls fr) vw rd) s := fun {k s z} hm => by
    obtain ⟨x, hx, _⟩ := e3 k s z hm
    exact ⟨k, x, (htrue k).2 (hfK k s z hm), hx⟩
  have hEv := BH.evol (U := TW ob (callTch (callKeys K rs ps outs cls fr) vw rd)) (fun s hs => by
    rcases hs with hs | hs
    · obtain ⟨k, hk⟩ := hpl.1 hs; exact hTWgo hk
    · obtain ⟨k, z, hk⟩ := hfl.1 hs; exact hTWfr hk)
  refine ⟨v, _, rfl, ?_, BH.wf, hEv, fun s hs => ?_, fun k s x hx => ?_, fun k k' s x x' hx hx' => ?_⟩
  · -- the value
    revert r1
    unfold resTV
    have key : ∀ {vs : List Value}, All2 (RV0 w' G') (resVs 0 g 0 rs) vs → All2 (RV0 w' (G.back G' f pl fl Bx its)) (resVs K (gk f) 0 rs) vs := q1
    have hlen : ∀ (b : Nat) (gg : Nat → Nat → Nat) (j : Nat) (rs : List RV), (resVs b gg j rs).length = rs.length := by
      intro b gg j rs
      induction rs generalizing j with
      | nil => rfl
      | cons r rs ih => simp [resVs, ih]
    have l1 := hlen 0 g 0 rs
    have l2 := hlen K (gk f) 0 rs
    generalize resVs 0 g 0 rs = A at key l1
    generalize resVs K (gk f) 0 rs = B at key l2
    intro r1
    match A, B, l1, l2 with
    | [], [], _, _ => obtain ⟨vs, h1, h2⟩ := r1; exact ⟨vs, h1, key h2⟩
    | [x], [y], _, _ => have := key (.cons r1 .nil); cases this with | cons r _ => exact r
    | x :: x' :: A, y :: y' :: B, _, _ => obtain ⟨vs, h1, h2⟩ := r1; exact ⟨vs, h1, key h2⟩
    | [], y :: B, h1, h2 => simp at h1 h2; omega
    | [x], [], h1, h2 => simp at h1 h2; omega
    | [x], y :: y' :: B, h1, h2 => simp at h1 h2; omega
    | x :: x' :: A, [], h1, h2 => simp at h1 h2; omega
    | x :: x' :: A, [y], h1, h2 => simp at h1 h2; omega
  · rcases hs with hs | ⟨x, hx, rfl⟩
    · exact .inl hs
    · exact .inr ⟨x.1, rfl⟩
  · -- the objects
    simp only [callUpd, List.mem_append] at hx
    rcases hx with hx | hx
    · obtain ⟨⟨k', s', x'⟩, hm, e⟩ := List.mem_map.1 hx
      simp only [Prod.mk.injEq, Option.some.injEq] at e
      obtain ⟨rfl, rfl, rfl⟩ := e
      rcases List.mem_append.1 hm with hm | hm
      · rcases List.mem_append.1 hm with hm | hm
        · rcases List.mem_append.1 hm with hm | hm
          · obtain ⟨k0, s0, x0, m1, m2, m3, m4⟩ := q2 _ _ _ hm
            exact ⟨m4, by rw [m3]; exact (hRes _ _ _ m1).2.used, .inl ⟨k0, m3⟩⟩
          · obtain ⟨k0, s0, x0, m1, m2, m3, m4⟩ := q3 _ _ _ hm
            exact ⟨m4, by rw [m3]; exact (hOutN _ _ _ m1).2.used, .inl ⟨k0, m3⟩⟩
        · obtain ⟨m1, m2, m3⟩ := q4 _ _ _ hm
          exact ⟨m1, m3, .inr (hTWgo m2)⟩
      · obtain ⟨x0, hx0, e', rows, rfl, rfl⟩ := e3 _ _ _ hm
        obtain ⟨hu, he, hrl, hcase⟩ := hobj _ _ _ hx0 (sfr hm)
        refine ⟨⟨he, hrl, ?_⟩, hEv.used _ hu, .inr (hTWfr hm)⟩
        rcases hcase with ⟨a1, a2, a3⟩ | ⟨b, a1, a2, a3⟩
        · exact .inl ⟨a1, (hEv.loc _ hu).trans a2, (hEv.cap _ hu).trans a3⟩
        · have hlt := (hw.lt _ _ a1).1
          have o1 : (G.toC pl fl vl).own b = .frz := by
            rw [toC_own, a2]
            have := hf1 _ _ _ hm
            simp [this.1, this.2]
          have o2 := r3.kept b hlt (.inr (.inr (.inl o1)))
          refine .inr ⟨b, (hEv.loc _ hu).trans a1, hRen.frz b (o2.1.trans o1), a3.mono hw hEv hu o2.2⟩
    · obtain ⟨k', _, e⟩ := List.mem_map.1 hx
      simp at e
  · -- the names
    have news : ∀ {k s x}, (k, some (s, x)) ∈ callUpd K f rs ps outs cls fr → (∃ k0, k = K + k0 ∧ s = f k0) ∨ (seenP cls vw fr rd k ∧ ∃ y, ob k = some (s, y)) := by
      intro k s x hx
      simp only [callUpd, List.mem_append] at hx
      rcases hx with hx | hx
      · obtain ⟨⟨k', s', x'⟩, hm, e⟩ := List.mem_map.1 hx
        simp only [Prod.mk.injEq, Option.some.injEq] at e
        obtain ⟨rfl, rfl, rfl⟩ := e
        rcases List.mem_append.1 hm with hm | hm
        · rcases List.mem_append.1 hm with hm | hm
          · rcases List.mem_append.1 hm with hm | hm
            · obtain ⟨k0, s0, x0, m1, m2, m3, m4⟩ := q2 _ _ _ hm
              exact .inl ⟨k0, m2, m3⟩
            · obtain ⟨k0, s0, x0, m1, m2, m3, m4⟩ := q3 _ _ _ hm
              exact .inl ⟨k0, m2, m3⟩
          · obtain ⟨m1, m2, m3⟩ := q4 _ _ _ hm
            exact .inr ⟨sgo m2, e1 _ _ m2⟩
        · obtain ⟨x0, hx0, _⟩ := e3 _ _ _ hm
          exact .inr ⟨sfr hm, _, hx0⟩
      · obtain ⟨k', _, e⟩ := List.mem_map.1 hx
        simp at e
    rcases news hx with ⟨k0, h1, h2⟩ | ⟨h1, y, h2⟩
    · rcases news hx' with ⟨k1, h3, h4⟩ | ⟨h3, y', h4⟩
      · have := hf.inj k0 k1 (h2.symm.trans h4)
        omega
      · obtain ⟨wr, hw'⟩ := hseen _ h3
        have := (hobs.objs _ _ hw' _ _ h4).1
        rw [h2] at this
        exact (hf.un _ this).elim
    · rcases news hx' with ⟨k1, h3, h4⟩ | ⟨h3, y', h4⟩
      · obtain ⟨wr, hw'⟩ := hseen _ h1
        have := (hobs.objs _ _ hw' _ _ h2).1
        rw [h4] at this
        exact (hf.un _ this).elim
      · exact hinj _ _ _ _ _ h1 h3 h2 h4
end
end Go.Lap
