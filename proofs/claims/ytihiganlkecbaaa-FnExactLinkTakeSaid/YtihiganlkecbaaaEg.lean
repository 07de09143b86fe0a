/- The engine's seventh part: slices: addresses, reslicing, lengths, append. -/
import Derived.Test.YtihiganlkecbaaaEf
namespace Go.Lap
open Go.RowKit

section
variable {P : Program} {tt : Nat → Option TD} {o : Oper} {ev : Operand → TV} {ob : Nat → Option (Nat × AObj)} {f : Nat → Nat}

theorem run_indexAt (hT : TyOK P tt) {t el : Nat} {d de : TD} (ht : tt t = some d) (hk : d.k = .slc el) (hte : tt el = some de) {b q len cap : Nat} {k : IntKind} {n : Int} (h0 : 0 ≤ n) (h1 : n.toNat < len) (w : World) :
    (Instr.indexAt t (.slice (some ⟨b, q, none⟩) len cap) (.int k n)).run P w = .ok (.pointer (some ⟨b, q + n.toNat * de.size, none⟩)) w := by
  have h2 := (hT t d ht).run_slice hk w
  have h3 := (hT el de hte).run_size w
  have h4 : n < (len : Int) := by omega
  simp [Instr.indexAt, asIntOf, h2, h3, h0, h4, Addr.add_lit]

theorem op_ix_i (hT : TyOK P tt) {t el e : Nat} {x ix : Operand} {tg : Tag} {rows : List (List C1)} {r : List C1} {k : IntKind} {n : Int} {d de : TD} (ho : o.op = .indexAddr t x ix) (hx : ev x = .one (.c (.sl tg e rows))) (hi : ev ix = .one (.c (.v (.int k n))))
    (ht : tt t = some d) (hk : d.k = .slc el) (hte : tt el = some de) (hsz : Nat.beq de.size e = true) (h0 : 0 ≤ n) (hr : rows[n.toNat]? = some r) : OpOK P o ev ob f ⟨.one (.pi tg r), [], []⟩ :=
  op_val [] nil_tch fun G a w hw hev hobs => by
    have h1 := hev x (by simp [ho, Op.operands])
    have h2 := hev ix (by simp [ho, Op.operands])
    rw [hx] at h1; rw [hi] at h2
    have h2' : a.eval ix = .int k n := h2
    obtain ⟨A, cap, h3, h4, h5, h6⟩ := h1
    have hlt := (List.getElem?_eq_some_iff.1 hr).1
    obtain ⟨b, q, rfl, him, hc⟩ := h6 (fun e => by subst e; simp at hr)
    have hsz' : de.size = e := Nat.eq_of_beq_eq_true hsz
    have hexec : (execOp a.eval o).run P w = .ok (.value (.pointer (some ⟨b, q + n.toNat * de.size, none⟩))) w := by simp only [execOp, ho, h3, h2', Sem.run_bind, run_indexAt hT ht hk hte h0 hlt w, Result.andThen_ok, Sem.run_pure]
    refine ⟨_, hexec, b, q + n.toNat * de.size, rfl, him, fun j y hj => ?_⟩
    have := flatten_get h5 hr hj
    obtain ⟨cv, h7, h8⟩ := hc _ _ this
    exact ⟨cv, by rw [hsz', Nat.add_assoc]; exact h7, h8⟩

theorem op_ix_m (hT : TyOK P tt) {t el e : Nat} {x ix : Operand} {kk s off len : Nat} {k : IntKind} {n : Int} {d de : TD} (ho : o.op = .indexAddr t x ix) (hx : ev x = .one (.c (.mu kk s e off len))) (hi : ev ix = .one (.c (.v (.int k n))))
    (ht : tt t = some d) (hk : d.k = .slc el) (hte : tt el = some de) (hsz : Nat.beq de.size e = true) (h0 : 0 ≤ n) (hr : n.toNat < len) : OpOK P o ev ob f ⟨.one (.pa kk s e (off + n.toNat) 0), [], []⟩ :=
  op_val [] nil_tch fun G a w hw hev hobs => by
    have h1 := hev x (by simp [ho, Op.operands])
    have h2 := hev ix (by simp [ho, Op.operands])
    rw [hx] at h1; rw [hi] at h2
    have h2' : a.eval ix = .int k n := h2
    obtain ⟨A, cap, h3, h4, h5, h6, h7⟩ := h1
    rcases h7 with h7 | ⟨b, hb, rfl⟩
    · omega
    have hsz' : de.size = e := Nat.eq_of_beq_eq_true hsz
    have hexec : (execOp a.eval o).run P w = .ok (.value (.pointer (some ⟨b, off * e + n.toNat * de.size, none⟩))) w := by simp only [execOp, ho, h3, h2', Sem.run_bind, run_indexAt hT ht hk hte h0 hr w, Result.andThen_ok, Sem.run_pure]
    refine ⟨_, hexec, b, hb, ?_⟩
    rw [hsz', Nat.add_mul, Nat.add_zero]

def lenV : V0 → Option Int
  | .c (.sl _ _ rows) => some rows.length
  | .c (.mu _ _ _ _ len) => some len
  | .c .nl => some 0
  | _ => none

theorem op_len (hT : TyOK P tt) {t el : Nat} {x : Operand} {v : V0} {n : Int} {d : TD} (ho : o.op = .call { callee := .builtin .len, args := #[x], argTypes := #[t] }) (hx : ev x = .one v) (hv : lenV v = some n) (ht : tt t = some d) (hk : d.k = .slc el) :
    OpOK P o ev ob f ⟨.one (.c (.v (.int .i64 n))), [], []⟩ :=
  op_val [] nil_tch fun G a w hw hev hobs => by
    have h1 := hev x (by simp [ho, Op.operands, Call.operands])
    rw [hx] at h1
    have h2 := (hT t d ht).run_slice hk w
    have h3 : ∃ A l c, a.eval x = .slice A l c ∧ (l : Int) = n := by
      cases v with
      | c y =>
        cases y with
        | v y => simp [lenV] at hv
        | nl => simp [lenV] at hv; exact ⟨none, 0, 0, h1, by simpa using hv⟩
        | sl tg e rows => simp [lenV] at hv; obtain ⟨A, cap, h3, _⟩ := h1; exact ⟨A, _, cap, h3, hv⟩
        | mu kk s e off len => simp [lenV] at hv; obtain ⟨A, cap, h3, _⟩ := h1; exact ⟨A, _, cap, h3, hv⟩
      | _ => simp [lenV] at hv
    obtain ⟨A, l, c, h4, h5⟩ := h3
    refine ⟨.int .i64 n, ?_, rfl⟩
    simp [execOp, ho, resolve, invoke, builtin, h4, Builtin.len_, h2, goInt, h5]

theorem op_len_s {t : Nat} {x : Operand} {s : ByteArray} (ho : o.op = .call { callee := .builtin .len, args := #[x], argTypes := #[t] }) (hx : ev x = .one (.c (.v (.string s)))) (ht : P.underlying t = some .string) :
    OpOK P o ev ob f ⟨.one (.c (.v (.int .i64 s.size))), [], []⟩ :=
  op_val [] nil_tch fun G a w hw hev hobs => by
    have h1 := hev x (by simp [ho, Op.operands, Call.operands])
    rw [hx] at h1
    have h1' : a.eval x = .string s := h1
    refine ⟨.int .i64 s.size, ?_, rfl⟩
    simp [execOp, ho, resolve, invoke, builtin, h1', Builtin.len_, run_underlying ht, goInt]

theorem op_idx_s {t : Nat} {x ix : Operand} {s : ByteArray} {k : IntKind} {n : Int} {c : UInt8} (ho : o.op = .index t x ix) (hx : ev x = .one (.c (.v (.string s)))) (hi : ev ix = .one (.c (.v (.int k n)))) (ht : P.underlying t = some .string) (h0 : 0 ≤ n) (hc : s[n.toNat]? = some c) :
    OpOK P o ev ob f ⟨.one (.c (.v (.int .u8 c.toNat))), [], []⟩ :=
  op_val [] nil_tch fun G a w hw hev hobs => by
    have h1 := hev x (by simp [ho, Op.operands])
    have h2 := hev ix (by simp [ho, Op.operands])
    rw [hx] at h1; rw [hi] at h2
    have h1' : a.eval x = .string s := h1
    have h2' : a.eval ix = .int k n := h2
    refine ⟨.int .u8 c.toNat, ?_, rfl⟩
    simp [execOp, ho, h1', h2', Instr.index, asIntOf, run_underlying ht, h0, hc]

theorem op_max {x y : Operand} {ts : Array Nat} {k : IntKind} {p q : Int} (ho : o.op = .call { callee := .builtin .max, args := #[x, y], argTypes := ts }) (hx : ev x = .one (.c (.v (.int k p)))) (hy : ev y = .one (.c (.v (.int k q)))) :
    OpOK P o ev ob f ⟨.one (.c (.v (.int k (max p q)))), [], []⟩ :=
  op_val [] nil_tch fun G a w hw hev hobs => by
    have h1 := hev x (by simp [ho, Op.operands, Call.operands])
    have h2 := hev y (by simp [ho, Op.operands, Call.operands])
    rw [hx] at h1; rw [hy] at h2
    have h1' : a.eval x = .int k p := h1
    have h2' : a.eval y = .int k q := h2
    refine ⟨.int k (max p q), ?_, rfl⟩
    have : (if p < q then q else p) = max p q := by omega
    simp [execOp, ho, resolve, invoke, builtin, h1', h2', Builtin.max_, Builtin.max2, this]

theorem op_min {x y : Operand} {ts : Array Nat} {k : IntKind} {p q : Int} (ho : o.op = .call { callee := .builtin .min, args := #[x, y], argTypes := ts }) (hx : ev x = .one (.c (.v (.int k p)))) (hy : ev y = .one (.c (.v (.int k q)))) :
    OpOK P o ev ob f ⟨.one (.c (.v (.int k (min p q)))), [], []⟩ :=
  op_val [] nil_tch fun G a w hw hev hobs => by
    have h1 := hev x (by simp [ho, Op.operands, Call.operands])
    have h2 := hev y (by simp [ho, Op.operands, Call.operands])
    rw [hx] at h1; rw [hy] at h2
    have h1' : a.eval x = .int k p := h1
    have h2' : a.eval y = .int k q := h2
    refine ⟨.int k (min p q), ?_, rfl⟩
    have : (if q < p then q else p) = min p q := by omega
    simp [execOp, ho, resolve, invoke, builtin, h1', h2', Builtin.min_, Builtin.min2, this]

/-! ### Reslicing -/
def bnd (ev : Operand → TV) : Option Operand → Int → Option Int
  | none, n => some n
  | some x, _ => match ev x with | .one (.c (.v (.int _ n))) => some n | _ => none

theorem run_slice_of (hT : TyOK P tt) {t el : Nat} {d de : TD} (ht : tt t = some d) (hk : d.k = .slc el) (hte : tt el = some de) {A : Option Addr} {len cap l h : Nat} {lo hi : Option Value} (hlo : lo = none ∧ l = 0 ∨ ∃ k, lo = some (.int k (l : Int))) (hhi : hi = none ∧ h = len ∨ ∃ k, hi = some (.int k (h : Int)))
    (h1 : l ≤ h) (h2 : h ≤ len) (h3 : len ≤ cap) (w : World) :
    (Instr.sliceAt t (.slice A len cap) lo hi none).run P w = .ok (.slice (if cap = l then A else A.map (·.add (l * de.size))) (h - l) (cap - l)) w := by
  have hu := (hT t d ht).run_slice hk w
  have hs := (hT el de hte).run_size w
  have b1 : ∀ (k : IntKind) (i y : Nat) code, i ≤ y → (Instr.sliceBound (.int k (i : Int)) y code).run P w = .ok i w := by
    intro k i y code hle
    have : (i : Int) ≤ (y : Int) := by omega
    simp [Instr.sliceBound, asIntOf, this]
  rcases hlo with ⟨rfl, rfl⟩ | ⟨k, rfl⟩ <;> rcases hhi with ⟨rfl, rfl⟩ | ⟨k', rfl⟩
  · simp [Instr.sliceAt, hu, Instr.slice, Instr.sliceBounds, hs]
  · simp [Instr.sliceAt, hu, Instr.slice, Instr.sliceBounds, hs, b1 k' h cap _ (by omega)]
  · simp [Instr.sliceAt, hu, Instr.slice, Instr.sliceBounds, hs, b1 k l h _ (by omega)]
  · simp [Instr.sliceAt, hu, Instr.slice, Instr.sliceBounds, hs, b1 k' h cap _ (by omega), b1 k l h _ (by omega)]

theorem bnd_R {w : World} {G : Gh} {a : Act} {x : Option Operand} {n : Nat} {dflt : Int} (h : bnd ev x dflt = some (n : Int)) (hev : ∀ y, x = some y → RTV w G (ev y) (a.eval y)) : (x.map a.eval = none ∧ dflt = n) ∨ ∃ k, x.map a.eval = some (.int k (n : Int)) := by
  cases x with
  | none => simp [bnd] at h; exact .inl ⟨rfl, h⟩
  | some y =>
    right
    simp only [bnd] at h
    have h1 := hev y rfl
    split at h
    · rename_i k n' he
      rw [he] at h1
      cases h
      have h1' : a.eval y = .int k (n : Int) := h1
      exact ⟨k, by simp [h1']⟩
    · cases h

theorem op_sl_i (hT : TyOK P tt) {t el e l h : Nat} {x : Operand} {lo hi : Option Operand} {tg : Tag} {rows : List (List C1)} {d de : TD} (ho : o.op = .slice t x lo hi none) (hx : ev x = .one (.c (.sl tg e rows))) (hlo : bnd ev lo 0 = some (l : Int)) (hhi : bnd ev hi rows.length = some (h : Int))
    (ht : tt t = some d) (hk : d.k = .slc el) (hte : tt el = some de) (hsz : Nat.beq de.size e = true) (h1 : l ≤ h) (h2 : h ≤ rows.length) : OpOK P o ev ob f ⟨.one (.c (.sl tg e ((rows.drop l).take (h - l)))), [], []⟩ :=
  op_val [] nil_tch fun G a w hw hev hobs => by
    have g1 := hev x (by simp [ho, Op.operands])
    rw [hx] at g1
    obtain ⟨A, cap, h3, h4, h5, h6⟩ := g1
    have b1 := bnd_R (w := w) (G := G) (a := a) hlo fun y hy => hev y (by simp [ho, Op.operands, hy])
    have b2 := bnd_R (w := w) (G := G) (a := a) hhi fun y hy => hev y (by simp [ho, Op.operands, hy])
    have hrun := run_slice_of hT ht hk hte (A := A) (cap := cap) (l := l) (h := h) (b1.imp (fun ⟨p, q⟩ => ⟨p, by omega⟩) id) (b2.imp (fun ⟨p, q⟩ => ⟨p, by omega⟩) id) h1 h2 h4 w
    have hsz' : de.size = e := Nat.eq_of_beq_eq_true hsz
    have hlen : ((rows.drop l).take (h - l)).length = h - l := by simp; omega
    have hexec : (execOp a.eval o).run P w = .ok (.value (.slice (if cap = l then A else A.map (·.add (l * de.size))) (h - l) (cap - l))) w := by simp only [execOp, ho, h3, hrun, Sem.run_bind, Result.andThen_ok, Sem.run_pure, Option.map_none]
    refine ⟨_, hexec, _, cap - l, by rw [hlen], by rw [hlen]; omega, fun r hr => h5 r (List.mem_of_mem_drop (List.mem_of_mem_take hr)), fun hne => ?_⟩
    have hpos : l < h := by
      rcases Nat.lt_or_ge l h with g | g
      · exact g
      · exfalso; apply hne; rw [show h - l = 0 by omega]; simp
    obtain ⟨b, q, rfl, him, hc⟩ := h6 (fun e => by subst e; simp at h2; omega)
    have hcl : cap ≠ l := by omega
    refine ⟨b, q + l * e, by simp [hcl, hsz', Addr.add_lit], him, fun j y hj => ?_⟩
    -- rows of the part
    have hfl : (rows.flatten)[l * e + j]? = some y := by
      have e1 : rows.flatten = (rows.take l).flatten ++ ((rows.drop l).take (h - l)).flatten ++ ((rows.drop l).drop (h - l)).flatten := by
        rw [List.append_assoc, ← List.flatten_append, List.take_append_drop, ← List.flatten_append, List.take_append_drop]
      have e2 : ((rows.take l).flatten).length = l * e := by
        rw [flatten_length (e := e) fun r hr => h5 r (List.mem_of_mem_take hr)]
        rw [List.length_take, Nat.min_eq_left (by omega)]
      rw [e1, List.append_assoc, List.getElem?_append_right (by rw [e2]; omega), e2, show l * e + j - l * e = j by omega]
      have hjl := (List.getElem?_eq_some_iff.1 hj).1
      rw [List.getElem?_append_left hjl]; exact hj
    obtain ⟨cv, g1, g2⟩ := hc _ _ hfl
    exact ⟨cv, by rw [Nat.add_assoc]; exact g1, g2⟩

theorem op_sl_m (hT : TyOK P tt) {t el e l h : Nat} {x : Operand} {lo hi : Option Operand} {kk s off len : Nat} {d de : TD} (ho : o.op = .slice t x lo hi none) (hx : ev x = .one (.c (.mu kk s e off len))) (hlo : bnd ev lo 0 = some (l : Int)) (hhi : bnd ev hi len = some (h : Int))
    (ht : tt t = some d) (hk : d.k = .slc el) (hte : tt el = some de) (hsz : Nat.beq de.size e = true) (h1 : l ≤ h) (h2 : h ≤ len) : OpOK P o ev ob f ⟨.one (.c (.mu kk s e (off + l) (h - l))), [], []⟩ :=
  op_val [] nil_tch fun G a w hw hev hobs => by
    have g1 := hev x (by simp [ho, Op.operands])
    rw [hx] at g1
    obtain ⟨A, cap, h3, h4, h5, h6, h7⟩ := g1
    have b1 := bnd_R (w := w) (G := G) (a := a) hlo fun y hy => hev y (by simp [ho, Op.operands, hy])
    have b2 := bnd_R (w := w) (G := G) (a := a) hhi fun y hy => hev y (by simp [ho, Op.operands, hy])
    have hrun := run_slice_of hT ht hk hte (A := A) (cap := cap) (l := l) (h := h) (b1.imp (fun ⟨p, q⟩ => ⟨p, by omega⟩) id) (b2.imp (fun ⟨p, q⟩ => ⟨p, by omega⟩) id) h1 h2 h4 w
    have hsz' : de.size = e := Nat.eq_of_beq_eq_true hsz
    have hexec : (execOp a.eval o).run P w = .ok (.value (.slice (if cap = l then A else A.map (·.add (l * de.size))) (h - l) (cap - l))) w := by simp only [execOp, ho, h3, hrun, Sem.run_bind, Result.andThen_ok, Sem.run_pure, Option.map_none]
    refine ⟨_, hexec, _, cap - l, rfl, by omega, h5, by omega, ?_⟩
    rcases h7 with h7 | ⟨b, hb, rfl⟩
    · left; omega
    · by_cases hcl : cap = l
      · left; omega
      · right; exact ⟨b, hb, by simp [hcl, hsz', Addr.add_lit, Nat.add_mul]⟩

theorem op_sl_n (hT : TyOK P tt) {t el : Nat} {x : Operand} {lo hi : Option Operand} {d de : TD} (ho : o.op = .slice t x lo hi none) (hx : ev x = .one (.c .nl)) (hlo : bnd ev lo 0 = some ((0 : Nat) : Int)) (hhi : bnd ev hi 0 = some ((0 : Nat) : Int))
    (ht : tt t = some d) (hk : d.k = .slc el) (hte : tt el = some de) : OpOK P o ev ob f ⟨.one (.c .nl), [], []⟩ :=
  op_val [] nil_tch fun G a w hw hev hobs => by
    have g1 := hev x (by simp [ho, Op.operands])
    rw [hx] at g1
    have g1' : a.eval x = .slice none 0 0 := g1
    have b1 := bnd_R (w := w) (G := G) (a := a) hlo fun y hy => hev y (by simp [ho, Op.operands, hy])
    have b2 := bnd_R (w := w) (G := G) (a := a) hhi fun y hy => hev y (by simp [ho, Op.operands, hy])
    have hrun := run_slice_of hT ht hk hte (A := none) (len := 0) (cap := 0) (l := 0) (h := 0) (b1.imp (fun ⟨p, q⟩ => ⟨p, by omega⟩) id) (b2.imp (fun ⟨p, q⟩ => ⟨p, by omega⟩) id) (by omega) (by omega) (by omega) w
    exact ⟨.slice none 0 0, by simp [execOp, ho, g1', hrun], rfl⟩

end
end Go.Lap
