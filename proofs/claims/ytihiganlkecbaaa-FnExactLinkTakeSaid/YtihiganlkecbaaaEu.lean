/- The engine's twenty-first part: rules on lists of told elements. -/
import Derived.Test.YtihiganlkecbaaaEt
import Derived.KernelRfl
set_option linter.unusedVariables false
namespace Go.Lap
open Go.RowKit

section
variable {P : Program} {tt : Nat → Option TD} {o : Oper} {ev : Operand → TV} {ob : Nat → Option (Nat × AObj)} {f : Nat → Nat} {α : Type} {g : α → List C1} {xs ys : List α}

theorem OpOK.cast {U U' : Upd} (h : OpOK P o ev ob f U) (e : U = U') : OpOK P o ev ob f U' := e ▸ h

theorem len_map {t : Tag} {e : Nat} : lenV (.c (.sl t e (xs.map g))) = some (xs.length : Int) := by simp [lenV]

theorem op_sl_l (hT : TyOK P tt) {t el e l h : Nat} {x : Operand} {lo hi : Option Operand} {tg : Tag} {d de : TD} (ho : o.op = .slice t x lo hi none) (hx : ev x = .one (.c (.sl tg e (xs.map g)))) (hlo : bnd ev lo 0 = some (l : Int)) (hhi : bnd ev hi (xs.length : Int) = some (h : Int))
    (ht : tt t = some d) (hk : d.k = .slc el) (hte : tt el = some de) (hsz : Nat.beq de.size e = true) (h1 : l ≤ h) (h2 : h ≤ xs.length) : OpOK P o ev ob f ⟨.one (.c (.sl tg e (((xs.drop l).take (h - l)).map g))), [], []⟩ :=
  (op_sl_i hT ho hx hlo (by simpa using hhi) ht hk hte hsz h1 (by simpa using h2)).cast (by rw [List.map_take, List.map_drop])

theorem oksl {p : α → Prop} (h : ∀ y ∈ xs, p y) {a b : Nat} : ∀ y ∈ (xs.drop a).take b, p y := fun y hy => h y (List.mem_of_mem_drop (List.mem_of_mem_take hy))
theorem okget [Inhabited α] {p : α → Prop} (h : ∀ y ∈ xs, p y) {k : Nat} (hk : k < xs.length) : p (xs.getD k default) := by
  have : xs.getD k default = xs[k] := by simp [List.getD, List.getElem?_eq_getElem hk]
  rw [this]; exact h _ (List.getElem_mem hk)

def bget (s : ByteArray) (k : Nat) : UInt8 := s.data.getD k 0
theorem bget_eq {s : ByteArray} {k : Nat} (h : k < s.size) : s[k]? = some (bget s k) := by
  have h' : k < s.data.size := h
  simp only [bget, getElem?_pos s k h, Option.some.injEq, Array.getD_eq_getD_getElem?, Array.getElem?_eq_getElem h', Option.getD_some]
  rfl

theorem len_mu {k s e off : Nat} : lenV (.c (.mu k s e off (xs.map g).length)) = some (xs.length : Int) := by simp [lenV]

theorem map_set' {i : Nat} {y : α} : (xs.map g).set i (g y) = (xs.set i y).map g := by rw [List.map_set]

/-- Append to nil. -/
theorem op_app_nl (hT : TyOK P tt) {t el e key : Nat} {x y : Operand} {v : V0} {rows : List (List C1)} {tch : List (Nat × Bool)} {d de : TD} (g : α → List C1) (ys : List α) (ho : o.op = .call { callee := .builtin .append, args := #[x, y], argTypes := #[t, t] }) (hx : ev x = .one (.c .nl)) (hy : ev y = .one v) (hsrc : Src ob e v rows tch) (hrows : rows = ys.map g)
    (ht : tt t = some d) (hk : d.k = .slc el) (hte : tt el = some de) (hsz : Nat.beq de.size e = true) (he : Nat.ble 1 e = true) (hby : Nat.ble 1 de.bytes = true) (hb : ys.length * de.bytes ≤ 140737488355328) :
    OpOK P o ev ob f ⟨.one (.c (.mu key (f 0) e 0 (ys.map g).length)), [(key, some (f 0, .arr e (ys.map g)))], (key, true) :: tch⟩ := by
  subst hrows
  exact op_app_n hT ho hx hy hsrc ht hk hte hsz he hby (by simpa using hb) rfl

/-- Append to an own array that is wholly in sight. -/
theorem op_app_ml (hT : TyOK P tt) {t el e k s : Nat} {x y : Operand} {v : V0} {rows : List (List C1)} {tch : List (Nat × Bool)} {d de : TD} (g : α → List C1) (xs ys : List α) (ho : o.op = .call { callee := .builtin .append, args := #[x, y], argTypes := #[t, t] }) (hx : ev x = .one (.c (.mu k s e 0 (xs.map g).length))) (hO : ob k = some (s, .arr e (xs.map g)))
    (hy : ev y = .one v) (hsrc : Src ob e v rows tch) (hrows : rows = ys.map g) (ht : tt t = some d) (hk : d.k = .slc el) (hte : tt el = some de) (hsz : Nat.beq de.size e = true) (hby : Nat.ble 1 de.bytes = true) (hb : (xs.length + ys.length) * de.bytes ≤ 140737488355328) :
    OpOK P o ev ob f ⟨.one (.c (.mu k (f 0) e 0 ((xs ++ ys).map g).length)), [(k, some (f 0, .arr e ((xs ++ ys).map g)))], (k, true) :: tch⟩ := by
  subst hrows
  have := op_app_m (f := f) (n := ((xs ++ ys).map g).length) (rows := xs.map g) hT ho hx hO (Nat.le_refl _) List.take_length hy hsrc ht hk hte hsz hby (by simpa using hb) (by simp)
  rw [List.map_append] at this ⊢
  exact this

theorem op_make_l (hT : TyOK P tt) {t el e key n : Nat} {x y : Operand} {kl kc : IntKind} {d de : TD} (g : α → List C1) (z : α) (ho : o.op = .makeSlice t x y) (hx : ev x = .one (.c (.v (.int kl (n : Int))))) (hy : ev y = .one (.c (.v (.int kc (n : Int)))))
    (ht : tt t = some d) (hk : d.k = .slc el) (hte : tt el = some de) (hsz : Nat.beq de.size e = true) (he : Nat.ble 1 e = true) (hby : Nat.ble 1 de.bytes = true) (hb : n * de.bytes ≤ 140737488355328) (hz : All2 Z1 de.zero (g z)) :
    OpOK P o ev ob f ⟨.one (.c (.mu key (f 0) e 0 ((List.replicate n z).map g).length)), [(key, some (f 0, .arr e ((List.replicate n z).map g)))], [(key, true)]⟩ :=
  (op_make hT ho hx hy ht hk hte hsz he hby hb hz).cast (by rw [List.map_replicate, List.length_replicate])

/-- An element of an own array written, in whole or in part. -/
theorem op_st_al [Inhabited α] (hT : TyOK P tt) {t : Nat} {x y : Operand} {k s e i off : Nat} {cs : List Cell} {ys' : List C1} {fr : List (Nat × Nat × AObj)} {d : TD} {v : V0} (g : α → List C1) (xs : List α) (z : α) (ho : o.op = .store t x y) (hx : ev x = .one (.pa k s e i off)) (hO : ob k = some (s, .arr e (xs.map g))) (hi : i < xs.length)
    (hy : ev y = .one v) (hv : valCells v = some cs) (hdn : DnL ob cs ys' fr) (ht : tt t = some d) (hlx : Nat.beq ys'.length d.size = true) (hl : Nat.ble (off + d.size) e = true) (hnd : nodupB (k :: fr.map (·.1)) = true) (hz : setL off ys' (g (xs.getD i default)) = g z) :
    OpOK P o ev ob f ⟨.ud, (k, some (s, .arr e ((xs.set i z).map g))) :: frU fr, (k, true) :: frT fr⟩ := by
  have := op_st_a (f := f) hT ho hx hO (row_get g hi) hy hv hdn ht hlx hl hnd
  rw [hz, map_set'] at this
  exact this

theorem src_whole {ob : Nat → Option (Nat × AObj)} {e k s : Nat} (h : ob k = some (s, .arr e (xs.map g))) : Src ob e (.c (.mu k s e 0 (xs.map g).length)) (xs.map g) [(k, false)] := by
  have := Src.arr (off := 0) (len := (xs.map g).length) h (by simp)
  rwa [List.drop_zero, List.take_length] at this
theorem src_wholef {ob : Nat → Option (Nat × AObj)} {e k s : Nat} (h : ob k = some (s, .fz e (xs.map g))) : Src ob e (.c (.mu k s e 0 (xs.map g).length)) (xs.map g) [(k, false)] := by
  have := Src.fz (off := 0) (len := (xs.map g).length) h (by simp)
  rwa [List.drop_zero, List.take_length] at this
theorem bor_plain {vals : α → List Value} (h : ∀ x, g x = (vals x).map C1.v) : ∀ r ∈ xs.map g, ∀ x ∈ r, ∃ v, x = C1.v v := by
  intro r hr x hx
  obtain ⟨a, _, rfl⟩ := List.mem_map.1 hr
  rw [h] at hx
  obtain ⟨v, _, rfl⟩ := List.mem_map.1 hx
  exact ⟨v, rfl⟩

theorem PsC.vwl {k s e : Nat} (h : ob k = some (s, .arr e (xs.map g))) : PsC ob (.mu k s e 0 (xs.map g).length) (.sl .bor e (xs.map g)) none [(k, s)] [] [] := .vw h (by simp) (by rw [List.drop_zero, List.take_length])
theorem PsC.frl {k s e : Nat} (h : ob k = some (s, .arr e (xs.map g))) : PsC ob (.mu k s e 0 (xs.map g).length) (.sl .frz e (xs.map g)) none [] [(k, s, .fz e (xs.map g))] [] := .fr h (by simp) (by rw [List.drop_zero, List.take_length])
theorem PsC.fzbl {k s e : Nat} (h : ob k = some (s, .fz e (xs.map g))) : PsC ob (.mu k s e 0 (xs.map g).length) (.sl .bor e (xs.map g)) none [] [] [k] := .fzb h (by simp) (by rw [List.drop_zero, List.take_length])
theorem PsC.fzfl {k s e : Nat} (h : ob k = some (s, .fz e (xs.map g))) : PsC ob (.mu k s e 0 (xs.map g).length) (.sl .frz e (xs.map g)) none [] [] [k] := .fzf h (by simp) (by rw [List.drop_zero, List.take_length])
theorem PsC.ownl {k s e : Nat} (h : ob k = some (s, .arr e (xs.map g))) : PsC ob (.mu k s e 0 (xs.map g).length) (.sl .own e (xs.map g)) (some (k, s)) [] [] [] := .own h (Nat.le_refl _) List.take_length
theorem PkC.ownl {O : Nat → Option (Nat × AObj)} {k s e : Nat} (h : O k = some (s, .arr e (xs.map g))) : PkC O (.mu k s e 0 (xs.map g).length) (.sl .own e (xs.map g)) (some (k, s)) [] := .own h (Nat.le_refl _) List.take_length
theorem PkC.arrl {O : Nat → Option (Nat × AObj)} {k s e : Nat} (h : O k = some (s, .arr e (xs.map g))) : PkC O (.mu k s e 0 (xs.map g).length) (.sl .frz e (xs.map g)) none [(k, s, .fz e (xs.map g))] := .arr h (by simp) (by rw [List.drop_zero, List.take_length])
theorem PkC.fzl {O : Nat → Option (Nat × AObj)} {k s e : Nat} (h : O k = some (s, .fz e (xs.map g))) : PkC O (.mu k s e 0 (xs.map g).length) (.sl .frz e (xs.map g)) none [(k, s, .fz e (xs.map g))] := .fz h (by simp) (by rw [List.drop_zero, List.take_length])
theorem DnC.arrl {k s e : Nat} {vals : α → List Value} (h : ob k = some (s, .arr e (xs.map g))) (hv : xs.map g = (xs.map vals).map (fun r => r.map C1.v)) : DnC ob (.mu k s e 0 (xs.map g).length) (.sl e (xs.map vals)) [(k, s, .fz e (xs.map g))] := .arr h (by simp) (by rw [List.drop_zero, List.take_length]; exact hv)

/-- What is appended: a whole own array, or a part. -/
theorem src_all {rows : List (List C1)} (h : rows = ys.map g) : (rows.drop 0).take ys.length = ys.map g := by subst h; rw [List.drop_zero, show ys.length = (ys.map g).length by simp, List.take_length]
theorem src_part {l n : Nat} : ((ys.map g).drop l).take n = ((ys.drop l).take n).map g := by rw [List.map_take, List.map_drop]
theorem map_set {i : Nat} {y : α} : (xs.map g).set i (g y) = (xs.set i y).map g := by rw [List.map_set]
theorem rep_map {n : Nat} {r : List C1} {z : α} (h : r = g z) : List.replicate n r = (List.replicate n z).map g := by rw [List.map_replicate, h]
theorem take_len {n : Nat} (h : n = xs.length) : (xs.map g).take n = xs.map g := by rw [h, show xs.length = (xs.map g).length by simp, List.take_length]
theorem drop_take_len {n : Nat} (h : n = xs.length) : ((xs.map g).drop 0).take n = xs.map g := by rw [List.drop_zero]; exact take_len h
end

/-! ### Regions that end in a family of states -/
section
variable {P : Program} {st : St} {Q : Exit → St → Prop} {c : Code} {l : List Oper} {id : Nat}

theorem bx : (true = true) = True := by simp

/-- Some names, as a function. -/
def lst (l : List Nat) (i : Nat) : Nat := l.getD i 0

theorem w_regI (I : (Nat → Nat) → St) (h : Runs P l l st [] fun s _ => ∃ x, Sub (I x) s) (k : ∀ x, WP P c Q (I x)) : WP P (.seq (.region id l.toArray false) c) Q st :=
  w_seq (w_region (Runs.mono (fun _ _ ⟨x, hs⟩ => w_sub hs (k x)) _ _ _ h))
theorem w_regdI (hm : P.follows .mixedOrders = true) (I : (Nat → Nat) → St) (h : Runs P l l st [] fun s acc => depOk l acc.reverse = true ∧ ∃ x, Sub (I x) s) (k : ∀ x, WP P c Q (I x)) : WP P (.seq (.region id l.toArray true) c) Q st :=
  w_seq (w_draw hm (Runs.mono (fun _ _ ⟨hd, x, hs⟩ => ⟨hd, w_sub hs (k x)⟩) _ _ _ h))
theorem w_regC {J : St → Prop} (h : Runs P l l st [] fun s _ => J s) : WP P (.region id l.toArray false) (seqQ J Q) st := w_region h
theorem w_regdC (hm : P.follows .mixedOrders = true) {J : St → Prop} (h : Runs P l l st [] fun s acc => depOk l acc.reverse = true ∧ J s) : WP P (.region id l.toArray true) (seqQ J Q) st := w_draw hm h
end
end Go.Lap
