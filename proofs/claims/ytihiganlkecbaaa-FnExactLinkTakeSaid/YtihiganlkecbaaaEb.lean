/- The engine's second part: states, one operation's step, and regions, whatever order is drawn. -/
import Derived.Test.YtihiganlkecbaaaEa
namespace Go.Lap
open Go.RowKit

def getF : List (Nat × TV) → Nat → TV
  | [], _ => .dead
  | (k, x) :: r, d => bif k == d then x else getF r d

def getO : List (Nat × Option (Nat × AObj)) → Nat → Option (Nat × AObj)
  | [], _ => none
  | (k, x) :: r, d => bif k == d then x else getO r d

/-- A state: what the slots hold, what the call's own boxes and arrays hold, how many slots there are. -/
structure St where
  F : List (Nat × TV)
  O : List (Nat × Option (Nat × AObj))
  n : Nat

def cellOf : Value → Cell
  | .slice none 0 0 => .nl
  | x => .v x

def constV : Value → V0
  | .agg cs => .ag (cs.toList.map cellOf)
  | v => .c (cellOf v)

def evF (F : Nat → TV) : Operand → TV
  | .tmp t => F t
  | .const v => .one (constV v)
  | .global g => .one (.c (.v (.pointer (some ⟨g, 0, none⟩))))
  | .func f => .one (.c (.v (.func (.func f) #[] #[])))

structure Upd where
  val : TV
  upd : List (Nat × Option (Nat × AObj))
  tch : List (Nat × Bool)

def St.app (st : St) (dst : Option Nat) (U : Upd) : St :=
  ⟨match dst with | some d => (d, U.val) :: st.F | none => st.F, U.upd ++ st.O, st.n⟩

def St.lit (st : St) (t : Nat) (b : Bool) : St := ⟨(t, .one (.c (.v (.bool b)))) :: st.F, st.O, st.n⟩

def skipU : Upd := ⟨.ud, [], []⟩

/-- The state as functions. -/
structure Rel (F : Nat → TV) (O : Nat → Option (Nat × AObj)) (n : Nat) (G : Gh) (a : Act) (w : World) : Prop where
  dfr : a.defers = []
  sz : a.tmps.size = n
  wf : Wf G w
  slots : ∀ d, RTV w G (F d) (a.tmps.getD d undef)
  objs : ∀ k s o, O k = some (s, o) → G.used s ∧ RObj w G s o
  inj : ∀ k k' s o o', O k = some (s, o) → O k' = some (s, o') → k = k'

def RelSt (st : St) (G : Gh) (a : Act) (w : World) : Prop := Rel (getF st.F) (getO st.O) st.n G a w

/-- The arrays and boxes that an operation may touch. -/
def TW (ob : Nat → Option (Nat × AObj)) (tch : List (Nat × Bool)) (s : Nat) : Prop := ∃ k o, (k, true) ∈ tch ∧ ob k = some (s, o)

structure Obs (w : World) (G : Gh) (ob : Nat → Option (Nat × AObj)) (tch : List (Nat × Bool)) : Prop where
  objs : ∀ k wr, (k, wr) ∈ tch → ∀ s o, ob k = some (s, o) → G.used s ∧ RObj w G s o
  inj : ∀ k k' wr wr', (k, wr) ∈ tch → (k', wr') ∈ tch → ∀ s o o', ob k = some (s, o) → ob k' = some (s, o') → k = k'

structure Fresh (G : Gh) (f : Nat → Nat) : Prop where
  un : ∀ i, ¬ G.used (f i)
  inj : ∀ i j, f i = f j → i = j

def OpPost (o : Oper) (ob : Nat → Option (Nat × AObj)) (f : Nat → Nat) (U : Upd) (G : Gh) (a : Act) (w : World) (a' : Act) (w' : World) : Prop :=
  ∃ v G', a' = a.put o.dst v ∧ RTV w' G' U.val v ∧ Wf G' w' ∧ Evol (TW ob U.tch) w G w' G' ∧
    (∀ s, G'.used s → G.used s ∨ ∃ i, s = f i) ∧
    (∀ k s x, (k, some (s, x)) ∈ U.upd → RObj w' G' s x ∧ G'.used s ∧ ((∃ i, s = f i) ∨ TW ob U.tch s)) ∧
    (∀ k k' s x x', (k, some (s, x)) ∈ U.upd → (k', some (s, x')) ∈ U.upd → k = k')

structure Upd.Ok (U : Upd) : Prop where
  nd : (U.upd.map (·.1)).Nodup
  w : ∀ k, (k, true) ∈ U.tch ↔ k ∈ U.upd.map (·.1)

/-- One operation, told of its operands and of the objects that it touches alone. -/
def OpOK (P : Program) (o : Oper) (ev : Operand → TV) (ob : Nat → Option (Nat × AObj)) (f : Nat → Nat) (U : Upd) : Prop :=
  U.Ok ∧ ∀ (G : Gh) (a : Act) (w : World), Wf G w → (∀ x ∈ o.op.operands.toList, RTV w G (ev x) (a.eval x)) → Obs w G ob U.tch → Fresh G f →
    o.wp P a w (OpPost o ob f U G a w) (fun _ _ _ => False)

theorem OpOK.congr {P : Program} {o : Oper} {ev ev' : Operand → TV} {ob ob' : Nat → Option (Nat × AObj)} {f : Nat → Nat} {U : Upd} (h : OpOK P o ev ob f U)
    (he : ∀ x ∈ o.op.operands.toList, ev' x = ev x) (hob : ∀ k wr, (k, wr) ∈ U.tch → ob' k = ob k) : OpOK P o ev' ob' f U := by
  refine ⟨h.1, fun G a w hw hev hobs hf => ?_⟩
  have htw : ∀ s, TW ob U.tch s ↔ TW ob' U.tch s := fun s => ⟨fun ⟨k, x, hk, hx⟩ => ⟨k, x, hk, by rw [hob k true hk]; exact hx⟩, fun ⟨k, x, hk, hx⟩ => ⟨k, x, hk, by rw [← hob k true hk]; exact hx⟩⟩
  have := h.2 G a w hw (fun x hx => by rw [← he x hx]; exact hev x hx)
    ⟨fun k wr hk s x hx => hobs.objs k wr hk s x (by rw [hob k wr hk]; exact hx), fun k k' wr wr' hk hk' s x x' hx hx' => hobs.inj k k' wr wr' hk hk' s x x' (by rw [hob k wr hk]; exact hx) (by rw [hob k' wr' hk']; exact hx')⟩ hf
  refine Oper.wp_mono (fun a' w' hp => ?_) this
  obtain ⟨v, G', h1, h2, h3, h4, h5, h6, h7⟩ := hp
  exact ⟨v, G', h1, h2, h3, h4.mono fun s hs => (htw s).1 hs, h5, fun k s x hx => ⟨(h6 k s x hx).1, (h6 k s x hx).2.1, (h6 k s x hx).2.2.imp id fun hs => (htw s).1 hs⟩, h7⟩

def appF (F : Nat → TV) (dst : Option Nat) (x : TV) : Nat → TV := fun d => if dst = some d then x else F d
def updO (u : List (Nat × Option (Nat × AObj))) (O : Nat → Option (Nat × AObj)) : Nat → Option (Nat × AObj) := fun k => if k ∈ u.map (·.1) then getO u k else O k

theorem getF_app (st : St) (dst : Option Nat) (U : Upd) : getF (st.app dst U).F = appF (getF st.F) dst U.val := by
  funext d
  cases dst with
  | none => simp [St.app, appF]
  | some e =>
    simp only [St.app, getF, appF]
    by_cases h : e = d
    · simp [h]
    · have : (e == d) = false := by simpa using h
      simp [this, h]

theorem getO_append (u O : List (Nat × Option (Nat × AObj))) : getO (u ++ O) = updO u (getO O) := by
  funext k
  induction u with
  | nil => simp [updO]
  | cons x u ih =>
    obtain ⟨j, x⟩ := x
    simp only [List.cons_append, getO, updO]
    by_cases h : j = k
    · simp [h]
    · have : (j == k) = false := by simpa using h
      have h' : ¬ k = j := fun e => h e.symm
      simp only [this, cond_false, ih, updO, List.map_cons, List.mem_cons, h', false_or]

theorem getO_app (st : St) (dst : Option Nat) (U : Upd) : getO (st.app dst U).O = updO U.upd (getO st.O) := getO_append _ _

theorem getO_mem : ∀ {u : List (Nat × Option (Nat × AObj))} {k : Nat} {x : Nat × AObj}, getO u k = some x → (k, some x) ∈ u
  | (j, y) :: u, k, x, h => by
    simp only [getO] at h
    by_cases e : j = k
    · subst e
      simp at h
      simp [h]
    · have : (j == k) = false := by simpa using e
      simp only [this, cond_false] at h
      exact List.mem_cons_of_mem _ (getO_mem h)

/-- The step of a state. -/
theorem Rel.step {F : Nat → TV} {O : Nat → Option (Nat × AObj)} {n : Nat} {G : Gh} {a a' : Act} {w w' : World} {o : Oper} {f : Nat → Nat} {U : Upd}
    (hr : Rel F O n G a w) (hok : U.Ok) (hf : Fresh G f) (hd : ∀ d, o.dst = some d → d < n) (hp : OpPost o O f U G a w a' w') :
    ∃ G', Rel (appF F o.dst U.val) (updO U.upd O) n G' a' w' ∧ Evol (fun _ => True) w G w' G' ∧ (∀ s, G'.used s → G.used s ∨ ∃ i, s = f i) := by
  obtain ⟨v, G', rfl, h2, h3, h4, h5, h6, h7⟩ := hp
  have hold : ∀ k s x, k ∉ U.upd.map (·.1) → O k = some (s, x) → ¬ TW O U.tch s := fun k s x hk hx ⟨k', x', hk', hx'⟩ => by
    have := hr.inj k k' s x x' hx hx'
    subst this
    exact hk ((hok.w k).1 hk')
  refine ⟨G', ⟨?_, ?_, h3, ?_, ?_, ?_⟩, h4.mono fun _ _ => trivial, h5⟩
  · cases h : o.dst <;> simpa [Act.put, h] using hr.dfr
  · cases h : o.dst <;> simpa [Act.put, h] using hr.sz
  · intro d
    unfold appF
    by_cases h : o.dst = some d
    · rw [if_pos h]
      have hlt : d < a.tmps.size := by rw [hr.sz]; exact hd d h
      have : (a.put o.dst v).tmps.getD d undef = v := by rw [h]; simp [Act.put, Array.getD_eq_getD_getElem?, hlt]
      rw [this]; exact h2
    · rw [if_neg h]
      have : (a.put o.dst v).tmps.getD d undef = a.tmps.getD d undef := by
        cases hx : o.dst with
        | none => simp [Act.put]
        | some e =>
          have hne : e ≠ d := fun e' => h (by rw [hx, e'])
          simp [Act.put, Array.getD_eq_getD_getElem?, Array.getElem?_setIfInBounds_ne hne]
      rw [this]; exact (hr.slots d).mono hr.wf h4
  · intro k s x hx
    unfold updO at hx
    split at hx
    · have hm := getO_mem hx
      exact ⟨(h6 k s x hm).2.1, (h6 k s x hm).1⟩
    · rename_i hk
      have ho := hr.objs k s x hx
      exact ⟨h4.used s ho.1, ho.2.mono hr.wf h4 ho.1 (hold k s x hk hx)⟩
  · intro k k' s x x' hx hx'
    have mixed : ∀ k k' x x', k ∈ U.upd.map (·.1) → k' ∉ U.upd.map (·.1) → getO U.upd k = some (s, x) → O k' = some (s, x') → False := by
      intro k k' x x' _ hk' hx hx'
      rcases (h6 k s x (getO_mem hx)).2.2 with ⟨i, hi⟩ | ht
      · exact hf.un i (hi ▸ (hr.objs k' s x' hx').1)
      · exact hold k' s x' hk' hx' ht
    unfold updO at hx hx'
    split at hx <;> split at hx'
    · exact h7 k k' s x x' (getO_mem hx) (getO_mem hx')
    · rename_i h1 h2; exact (mixed k k' x x' h1 h2 hx hx').elim
    · rename_i h1 h2; exact (mixed k' k x' x h2 h1 hx' hx).elim
    · exact hr.inj k k' s x x' hx hx'

/-- A skipped operation leaves 'undef'. -/
theorem Rel.skip {F : Nat → TV} {O : Nat → Option (Nat × AObj)} {n : Nat} {G : Gh} {a : Act} {w : World} (hr : Rel F O n G a w) (dst : Option Nat) (hd : ∀ d, dst = some d → d < n) :
    Rel (appF F dst .ud) O n G (a.put dst undef) w := by
  refine ⟨?_, ?_, hr.wf, ?_, hr.objs, hr.inj⟩
  · cases dst <;> simpa [Act.put] using hr.dfr
  · cases dst <;> simpa [Act.put] using hr.sz
  · intro d
    unfold appF
    by_cases h : dst = some d
    · rw [if_pos h]
      have hlt : d < a.tmps.size := by rw [hr.sz]; exact hd d h
      subst h
      simp [Act.put, Array.getD_eq_getD_getElem?, hlt, RTV]
    · rw [if_neg h]
      have : (a.put dst undef).tmps.getD d undef = a.tmps.getD d undef := by
        cases hx : dst with
        | none => simp [Act.put]
        | some e =>
          have hne : e ≠ d := fun e' => h (by rw [hx, e'])
          simp [Act.put, Array.getD_eq_getD_getElem?, Array.getElem?_setIfInBounds_ne hne]
      rw [this]; exact hr.slots d

/-- A draw of the tape turns nothing. -/
theorem Rel.drew {F : Nat → TV} {O : Nat → Option (Nat × AObj)} {n : Nat} {G : Gh} {a : Act} {w w' : World} (hr : Rel F O n G a w) (hh : w'.heap = w.heap) (h1 : w'.os = w.os) (h2 : w'.tape = w.tape) (h3 : w'.output = w.output) :
    Rel F O n G a w' ∧ Evol (fun _ => True) w G w' G := by
  have he : Evol (fun _ => False) w G w' G := ⟨h1, h2, h3, by rw [hh]; exact Nat.le_refl _, fun _ h => h, fun _ _ => rfl, fun _ _ => rfl, fun _ _ _ => ⟨rfl, by rw [hh]⟩⟩
  exact ⟨⟨hr.dfr, hr.sz, ⟨fun s b h => by rw [hh]; exact hr.wf.lt s b h, hr.wf.of_own, fun b hb => hr.wf.past b (by rw [← hh]; exact hb), hr.wf.fin⟩, fun d => (hr.slots d).mono hr.wf he,
    fun k s x hx => ⟨(hr.objs k s x hx).1, (hr.objs k s x hx).2.mono hr.wf he (hr.objs k s x hx).1 (fun h => h)⟩, hr.inj⟩, he.mono fun _ _ => trivial⟩

theorem Rel.obs {F : Nat → TV} {O : Nat → Option (Nat × AObj)} {n : Nat} {G : Gh} {a : Act} {w : World} (hr : Rel F O n G a w) (tch : List (Nat × Bool)) : Obs w G O tch :=
  ⟨fun k _ _ s o h => hr.objs k s o h, fun k k' _ _ _ _ s o o' h h' => hr.inj k k' s o o' h h'⟩

theorem cellOf_R (w : World) (G : Gh) (v : Value) : RC w G (cellOf v) v := by
  unfold cellOf
  split
  · rfl
  · rfl

theorem constV_R (w : World) (G : Gh) (v : Value) : RV0 w G (constV v) v := by
  unfold constV
  split
  · rename_i cs
    refine ⟨cs.toList, by simp, ?_⟩
    induction cs.toList with
    | nil => exact .nil
    | cons x l ih => exact .cons (cellOf_R w G x) ih
  · exact cellOf_R w G v

theorem Rel.ev {F : Nat → TV} {O : Nat → Option (Nat × AObj)} {n : Nat} {G : Gh} {a : Act} {w : World} (hr : Rel F O n G a w) (x : Operand) : RTV w G (evF F x) (a.eval x) := by
  cases x with
  | tmp t => exact hr.slots t
  | const v => exact constV_R w G v
  | global g => exact rfl
  | func f => exact rfl

/-! ### Regions -/
/-- What the guard of an operation says. -/
def Wants (F : Nat → TV) (all : List Oper) (o : Oper) (yes : Bool) : Prop :=
  match o.guard with
  | none => yes = true
  | some (j, want) => ∃ t, (all[j]?).bind (·.dst) = some t ∧
      if yes then F t = .one (.c (.v (.bool want))) else F t = .ud ∨ F t = .one (.c (.v (.bool (!want))))

theorem Wants.wanted {F : Nat → TV} {O : Nat → Option (Nat × AObj)} {n : Nat} {G : Gh} {a : Act} {w : World} (hr : Rel F O n G a w) {all : List Oper} {o : Oper} {yes : Bool} (h : Wants F all o yes)
    (hd : ∀ (j : Nat) d, (all[j]?).bind (·.dst) = some d → d < n) : Region.wanted o (yielded all.toArray a.tmps) = yes := by
  unfold Wants at h
  unfold Region.wanted
  cases hg : o.guard with
  | none => simp only [hg] at h; simp [h]
  | some g =>
    obtain ⟨j, want⟩ := g
    simp only [hg] at h ⊢
    obtain ⟨t, ht, h⟩ := h
    have hlt : t < a.tmps.size := by rw [hr.sz]; exact hd j t ht
    have hs := hr.slots t
    have hy : yielded all.toArray a.tmps j = match a.tmps.getD t undef with | .bool b => some b | _ => none := by
      unfold yielded
      have : (all.toArray[j]?).bind (·.dst) = some t := by simpa using ht
      rw [this]
      simp only [Option.bind_some, Array.getD_eq_getD_getElem?, hlt, getElem?_pos, Option.getD_some]
      cases a.tmps[t] <;> rfl
    rw [hy]
    cases yes with
    | true =>
      simp only [if_true] at h
      rw [h] at hs
      have hs' : a.tmps.getD t undef = .bool want := hs
      rw [hs']; simp
    | false =>
      simp only [Bool.false_eq_true, if_false] at h
      rcases h with h | h
      · rw [h] at hs
        have hs' : a.tmps.getD t undef = undef := hs
        rw [hs']; simp [undef]
      · rw [h] at hs
        have hs' : a.tmps.getD t undef = .bool (!want) := hs
        rw [hs']; cases want <;> simp

/-- A step that was taken: an operation, with what it did, or skipped. -/
structure Stp where
  o : Oper
  x : Option (Upd × (Nat → Nat))

def Stp.u (s : Stp) : Upd := match s.x with | some (U, _) => U | none => skipU

structure SF where
  F : Nat → TV
  O : Nat → Option (Nat × AObj)

def SF.app (S : SF) (s : Stp) : SF := ⟨appF S.F s.o.dst s.u.val, updO s.u.upd S.O⟩

def Stp.Ok (P : Program) (all : List Oper) (n : Nat) (S : SF) (s : Stp) : Prop :=
  (∀ d, s.o.dst = some d → d < n) ∧
  match s.x with
  | some (U, f) => OpOK P s.o (evF S.F) S.O f U ∧ Wants S.F all s.o true
  | none => Wants S.F all s.o false

def ChOk (P : Program) (all : List Oper) (n : Nat) : List Stp → SF → Prop
  | [], _ => True
  | s :: l, S => s.Ok P all n S ∧ ChOk P all n l (S.app s)

def chRun : List Stp → SF → SF
  | [], S => S
  | s :: l, S => chRun l (S.app s)

def Oper.gdst (all : List Oper) (o : Oper) : Option Nat := match o.guard with | some (j, _) => (all[j]?).bind (·.dst) | none => none

def readsT (all : List Oper) (o : Oper) : List Nat :=
  (o.op.operands.toList.filterMap fun x => match x with | .tmp t => some t | _ => none) ++ (Oper.gdst all o).toList

def clashT (t u : List (Nat × Bool)) : Bool := t.any fun x => u.any fun y => x.1 == y.1 && (x.2 || y.2)

/-- May the two not change places? -/
def clash (all : List Oper) (o o' : Oper) (t t' : List (Nat × Bool)) : Bool :=
  (match o.dst with | some d => (readsT all o').contains d || o'.dst == some d | none => false) ||
  (match o'.dst with | some d => (readsT all o).contains d | none => false) || clashT t t'

theorem clash_spec {all : List Oper} {o o' : Oper} {t t' : List (Nat × Bool)} (h : clash all o o' t t' = false) :
    (∀ d, o.dst = some d → d ∉ readsT all o' ∧ o'.dst ≠ some d) ∧ (∀ d, o'.dst = some d → d ∉ readsT all o) ∧
    (∀ k wr wr', (k, wr) ∈ t → (k, wr') ∈ t' → wr = false ∧ wr' = false) := by
  simp only [clash, Bool.or_eq_false_iff] at h
  obtain ⟨⟨h1, h2⟩, h3⟩ := h
  refine ⟨fun d hd => ?_, fun d hd => ?_, fun k wr wr' hk hk' => ?_⟩
  · rw [hd] at h1
    simp at h1
    exact ⟨h1.1, by simpa using h1.2⟩
  · rw [hd] at h2
    simpa using h2
  · simp only [clashT, List.any_eq_false] at h3
    have := h3 (k, wr) hk
    simp only [Bool.not_eq_true, List.any_eq_false] at this
    have := this (k, wr') hk'
    simpa using this

theorem evF_appF {F : Nat → TV} {dst : Option Nat} {x : TV} {y : Operand} (h : ∀ d, dst = some d → y ≠ .tmp d) : evF (appF F dst x) y = evF F y := by
  cases y with
  | tmp t => simp only [evF, appF]; rw [if_neg (fun e => h t e rfl)]
  | _ => rfl

theorem wants_appF {F : Nat → TV} {all : List Oper} {o : Oper} {yes : Bool} {dst : Option Nat} {x : TV} (h : ∀ d, dst = some d → Oper.gdst all o ≠ some d) : Wants (appF F dst x) all o yes ↔ Wants F all o yes := by
  unfold Wants
  cases hg : o.guard with
  | none => exact Iff.rfl
  | some g =>
    obtain ⟨j, want⟩ := g
    simp only
    have hap : ∀ t, (all[j]?).bind (·.dst) = some t → appF F dst x t = F t := fun t ht => by
      unfold appF
      exact if_neg fun e => h t e (by simp [Oper.gdst, hg, ht])
    constructor
    · rintro ⟨t, ht, h'⟩; exact ⟨t, ht, by rw [hap t ht] at h'; exact h'⟩
    · rintro ⟨t, ht, h'⟩; exact ⟨t, ht, by rw [hap t ht]; exact h'⟩

theorem mem_readsT_op {all : List Oper} {o : Oper} {d : Nat} (h : d ∉ readsT all o) : ∀ x ∈ o.op.operands.toList, x ≠ .tmp d := by
  intro x hx e
  subst e
  exact h (List.mem_append_left _ (List.mem_filterMap.2 ⟨_, hx, rfl⟩))

theorem mem_readsT_g {all : List Oper} {o : Oper} {d : Nat} (h : d ∉ readsT all o) : Oper.gdst all o ≠ some d := by
  intro e
  exact h (List.mem_append_right _ (by simp [e]))

theorem updO_other {u : List (Nat × Option (Nat × AObj))} {O : Nat → Option (Nat × AObj)} {k : Nat} (h : k ∉ u.map (·.1)) : updO u O k = O k := if_neg h

theorem Stp.ukeys {P : Program} {all : List Oper} {n : Nat} {S : SF} {s : Stp} (h : s.Ok P all n S) : s.u.Ok := by
  unfold Stp.Ok at h
  unfold Stp.u
  cases hx : s.x with
  | none => exact ⟨by simp [skipU], fun k => by simp [skipU]⟩
  | some p => simp only [hx] at h; exact h.2.1.1

/-- A step that doesn't clash may be taken ahead of another. -/
theorem Stp.Ok.ahead {P : Program} {all : List Oper} {n : Nat} {S : SF} {x y : Stp} (hx : x.u.Ok) (hc : clash all x.o y.o x.u.tch y.u.tch = false) (hy : y.Ok P all n (S.app x)) : y.Ok P all n S := by
  obtain ⟨h1, h2, h3⟩ := clash_spec hc
  refine ⟨hy.1, ?_⟩
  have hev : ∀ z ∈ y.o.op.operands.toList, evF S.F z = evF (S.app x).F z := fun z hz => (evF_appF fun d hd => mem_readsT_op (h1 d hd).1 z hz).symm
  have hw : ∀ b, Wants (S.app x).F all y.o b ↔ Wants S.F all y.o b := fun b => wants_appF fun d hd => mem_readsT_g (h1 d hd).1
  have h4 := hy.2
  unfold Stp.u at h3 hx
  cases hyx : y.x with
  | none => simp only [hyx] at h4 ⊢; exact (hw false).1 h4
  | some p =>
    obtain ⟨U, f⟩ := p
    simp only [hyx] at h4 h3 ⊢
    refine ⟨h4.1.congr hev fun k wr hk => ?_, (hw true).1 h4.2⟩
    refine (updO_other ?_).symm
    intro hm
    have := (hx.w k).2 hm
    exact absurd (h3 k true wr this hk).1 (by simp)

theorem SF.comm {S : SF} {x y : Stp} {all : List Oper} (hx : x.u.Ok) (hy : y.u.Ok) (hc : clash all x.o y.o x.u.tch y.u.tch = false) : (S.app x).app y = (S.app y).app x := by
  obtain ⟨h1, h2, h3⟩ := clash_spec hc
  simp only [SF.app, SF.mk.injEq]
  constructor
  · funext d
    simp only [appF]
    by_cases hd : y.o.dst = some d
    · have : x.o.dst ≠ some d := fun e => (h1 d e).2 hd
      simp [hd, this]
    · simp [hd]
  · funext k
    simp only [updO]
    by_cases hk : k ∈ y.u.upd.map (·.1)
    · have : k ∉ x.u.upd.map (·.1) := fun hm => by
        have := (h3 k true true ((hx.w k).2 hm) ((hy.w k).2 hk)).1
        simp at this
      simp only [hk, this, if_true, if_false]
    · simp only [hk, if_false]

theorem clash_symm {all : List Oper} {o o' : Oper} {t t' : List (Nat × Bool)} (h : clash all o o' t t' = false) : clash all o' o t' t = false := by
  obtain ⟨h1, h2, h3⟩ := clash_spec h
  have h1' : ∀ d, o'.dst = some d → o.dst ≠ some d := fun d hd e => (h1 d e).2 hd
  simp only [clash, Bool.or_eq_false_iff]
  refine ⟨⟨?_, ?_⟩, ?_⟩
  · cases hd : o'.dst with
    | none => rfl
    | some d => have := h2 d hd; have h4 := h1' d hd; simp [this]; exact h4
  · cases hd : o.dst with
    | none => rfl
    | some d => have := (h1 d hd).1; simp [this]
  · simp only [clashT, List.any_eq_false, Bool.not_eq_true]
    rintro ⟨k, wr⟩ hk
    rintro ⟨k', wr'⟩ hk'
    by_cases e : k = k'
    · subst e
      have := h3 k wr' wr hk' hk
      simp [this.1, this.2]
    · simp [e]

/-- A step that clashes with none of those ahead of it may be taken first. -/
theorem ChOk.pull {P : Program} {all : List Oper} {n : Nat} {y : Stp} {l2 : List Stp} : ∀ (l1 : List Stp) (S : SF), ChOk P all n (l1 ++ y :: l2) S → (∀ x ∈ l1, clash all x.o y.o x.u.tch y.u.tch = false) →
    y.Ok P all n S ∧ ChOk P all n (l1 ++ l2) (S.app y) ∧ chRun (l1 ++ y :: l2) S = chRun (l1 ++ l2) (S.app y)
  | [], S, h, _ => ⟨h.1, h.2, rfl⟩
  | x :: l1, S, h, hc => by
    obtain ⟨hx, h⟩ := h
    obtain ⟨h1, h2, h3⟩ := ChOk.pull l1 (S.app x) h (fun z hz => hc z (by simp [hz]))
    have hcx := hc x (by simp)
    have hxu := Stp.ukeys hx
    have hyu := Stp.ukeys h1
    have hy := Stp.Ok.ahead hxu hcx h1
    have e := SF.comm (S := S) hxu hyu hcx
    refine ⟨hy, ⟨?_, ?_⟩, ?_⟩
    · -- x behind y
      have : x.Ok P all n (S.app y) := by
        obtain ⟨c1, c2, c3⟩ := clash_spec (clash_symm hcx)
        refine ⟨hx.1, ?_⟩
        have hev : ∀ z ∈ x.o.op.operands.toList, evF (S.app y).F z = evF S.F z := fun z hz => evF_appF fun d hd => mem_readsT_op (c1 d hd).1 z hz
        have hw : ∀ b, Wants (S.app y).F all x.o b ↔ Wants S.F all x.o b := fun b => wants_appF fun d hd => mem_readsT_g (c1 d hd).1
        have h4 := hx.2
        cases hxx : x.x with
        | none => simp only [hxx] at h4 ⊢; exact (hw false).2 h4
        | some p =>
          obtain ⟨U, f⟩ := p
          have hxu' : x.u = U := by simp [Stp.u, hxx]
          rw [hxu'] at c3
          simp only [hxx] at h4 ⊢
          refine ⟨h4.1.congr hev fun k wr hk => ?_, (hw true).2 h4.2⟩
          refine updO_other ?_
          intro hm
          exact absurd (c3 k true wr ((hyu.w k).2 hm) hk).1 (by simp)
      exact this
    · rw [← e]; exact h2
    · show chRun (l1 ++ y :: l2) (S.app x) = chRun (l1 ++ l2) ((S.app y).app x)
      rw [h3, e]
end Go.Lap
