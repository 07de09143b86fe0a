/- The engine's thirtieth part: a law's arguments, read; from a function told by trees to the law's row. -/
import Derived.Test.YtihiganlkecbaaaFc
import Derived.Deep.Slices
import Derived.ChangeArms
import Derived.ChangeSame
import Derived.Carry
set_option linter.unusedVariables false
namespace Go.Lap
open Go.RowKit Go.Deep

section
variable {H : Type} {enc : TypeId × Value → H} {P : Program} {w : World} {spare : Nat → Bool} {held : Bool}

/-- Kinds of cells: plain; with lists of plain rows; with lists of these. -/
inductive KA where
  | int (k : IntKind) | bool | str
inductive KB where
  | a (k : KA) | sl (e : Nat) (ks : List KA)
inductive KC where
  | a (k : KA) | sl (e : Nat) (ks : List KB)

def RA : KA → Value → Prop
  | .int k, v => ∃ n, v = .int k n ∧ (Lit.int k n).wf = true
  | .bool, v => ∃ b, v = .bool b
  | .str, v => ∃ s : ByteArray, v = .string s ∧ s.size ≤ maxLen

/-- A list whose rows are of a kind. -/
def slR {α : Type} (w : World) (R : α → Value → Prop) (e : Nat) (ks : List α) (v : Value) : Prop :=
  ∃ A cap rows, v = .slice A (rows : List (List Value)).length cap ∧ rows.length ≤ cap ∧ cap ≤ maxLen ∧ (∀ r ∈ rows, r.length = e ∧ All2 R ks r) ∧ (rows ≠ [] → ∃ b o, A = some ⟨b, o, none⟩ ∧ b < w.heap.size ∧ CellsV w b o rows.flatten)

def RB (w : World) : KB → Value → Prop
  | .a k, v => RA k v
  | .sl e ks, v => slR w RA e ks v
def RK (w : World) : KC → Value → Prop
  | .a k, v => RA k v
  | .sl e ks, v => slR w (RB w) e ks v

def offsOk (P : Program) : Nat → List Field → Nat → Bool
  | k, [], n => Nat.beq k n
  | k, f :: fs, n => Nat.beq f.offset k && offsOk P (k + P.cellsOf f.type) fs n

def flatW {α : Type} (P : Program) (leaf : TypeDesc → Option α) : Nat → TypeId → Option (List α)
  | 0, _ => none
  | n + 1, t => match P.underlying t with
    | some (.struct fs) => bif offsOk P 0 fs.toList (P.cellsOf t) then (fs.toList.mapM fun f => flatW P leaf n f.type).map List.flatten else none
    | some u => (leaf u).map fun a => [a]
    | none => none

theorem mapM_cons_some {α β : Type} {f : α → Option β} {x : α} {l : List α} {r : List β} (h : (x :: l).mapM f = some r) : ∃ y r', f x = some y ∧ l.mapM f = some r' ∧ r = y :: r' := by
  rw [List.mapM_cons] at h
  cases h1 : f x with
  | none => simp [h1] at h
  | some y =>
    cases h2 : l.mapM f with
    | none => simp [h1, h2] at h
    | some r' => simp [h1, h2] at h; exact ⟨y, r', rfl, rfl, h.symm⟩

theorem flat_fits {α : Type} {leaf : TypeDesc → Option α} {R : α → Value → Prop}
    (hleaf : ∀ (t : TypeId) (u : TypeDesc) (a : α) (cs : List Value) (fuel : Nat) (x : DataW H × List MemPlace), P.underlying t = some u → leaf u = some a → DataW.trod enc P w 0 spare held fuel t cs = some x → ∃ v, cs = [v] ∧ R a v) :
    ∀ (n : Nat) (t : TypeId) (ka : List α) (fuel : Nat) (cs : List Value) (x : DataW H × List MemPlace), flatW P leaf n t = some ka → DataW.trod enc P w 0 spare held fuel t cs = some x → All2 R ka cs
  | 0, _, _, _, _, _, h, _ => by simp [flatW] at h
  | n + 1, t, ka, fuel, cs, x, h, hx => by
    unfold flatW at h
    split at h
    · rename_i fs hu
      cases ho : offsOk P 0 fs.toList (P.cellsOf t) with
      | false => rw [ho] at h; cases h
      | true =>
        rw [ho] at h
        simp only [cond_true, Option.map_eq_some_iff] at h
        obtain ⟨ass, h1, rfl⟩ := h
        obtain ⟨xs, m, _, _, hl, hxl, hf⟩ := DataW.trod_struct hu hx
        have key : ∀ (l : List Field) (k : Nat) (ass : List (List α)), offsOk P k l (P.cellsOf t) = true → l.mapM (fun f => flatW P leaf n f.type) = some ass →
            (∀ f ∈ l, ∃ y, DataW.trod enc P w 0 spare held m f.type ((cs.drop f.offset).take (P.cellsOf f.type)) = some y) → All2 R ass.flatten (cs.drop k) := by
          intro l
          induction l with
          | nil =>
            intro k ass ho h1 _
            simp only [offsOk] at ho
            have := Nat.eq_of_beq_eq_true ho
            simp at h1
            subst h1
            rw [this, ← hl, List.drop_length]
            exact .nil
          | cons f l ih =>
            intro k ass ho h1 hall
            simp only [offsOk, Bool.and_eq_true] at ho
            have e := Nat.eq_of_beq_eq_true ho.1
            obtain ⟨y, r', g1, g2, rfl⟩ := mapM_cons_some h1
            obtain ⟨z, hz⟩ := hall f (by simp)
            have q1 := flat_fits hleaf n f.type y m _ z g1 hz
            have q2 := ih (k + P.cellsOf f.type) r' ho.2 g2 fun g hg => hall g (by simp [hg])
            rw [e] at q1
            have : cs.drop k = (cs.drop k).take (P.cellsOf f.type) ++ cs.drop (k + P.cellsOf f.type) := by
              rw [← List.drop_drop, List.take_append_drop]
            rw [this, List.flatten_cons]
            exact q1.append q2
        have := key fs.toList 0 ass ho h1 fun f hf' => by
          obtain ⟨i, hi⟩ := List.getElem?_of_mem hf'
          have hi' : i < xs.length := by have := (List.getElem?_eq_some_iff.1 hi).1; rw [hxl]; simpa using this
          exact ⟨xs[i], by rw [hf i f (by simpa using hi), List.getElem?_eq_getElem hi']⟩
        simpa using this
    · rename_i u _ hu
      simp only [Option.map_eq_some_iff] at h
      obtain ⟨a, h1, rfl⟩ := h
      obtain ⟨v, rfl, hv⟩ := hleaf t u a cs fuel x hu h1 hx
      exact .cons hv .nil
    · cases h

def leafA : TypeDesc → Option KA
  | .int k => some (.int k)
  | .bool => some .bool
  | .string => some .str
  | _ => none
theorem leafA_s {t : TypeId} {u : TypeDesc} {a : KA} {cs : List Value} {fuel : Nat} {x : DataW H × List MemPlace} (hu : P.underlying t = some u) (ha : leafA u = some a) (hx : DataW.trod enc P w 0 spare held fuel t cs = some x) : ∃ v, cs = [v] ∧ RA a v := by
  unfold leafA at ha
  split at ha <;> cases ha
  · obtain ⟨n, h1, _, h2⟩ := DataW.trod_int hu hx
    exact ⟨_, h1, n, rfl, h2⟩
  · obtain ⟨b, h1, _⟩ := DataW.trod_bool hu hx
    exact ⟨_, h1, b, rfl⟩
  · obtain ⟨s, h1, _, h2⟩ := DataW.trod_string hu hx
    exact ⟨_, h1, s, rfl, h2⟩

theorem flatten_idx {α : Type} {e : Nat} : ∀ {rows : List (List α)} (j : Nat) (x : α), (∀ r ∈ rows, r.length = e) → rows.flatten[j]? = some x → ∃ i k r, j = i * e + k ∧ k < e ∧ rows[i]? = some r ∧ r[k]? = some x
  | [], j, x, _, h => by simp at h
  | r :: rows, j, x, hr, h => by
    have hl : r.length = e := hr r (by simp)
    rw [List.flatten_cons] at h
    rcases Nat.lt_or_ge j e with g | g
    · rw [List.getElem?_append_left (by omega)] at h
      exact ⟨0, j, r, by omega, g, by simp, h⟩
    · rw [List.getElem?_append_right (by omega), hl] at h
      obtain ⟨i, k, r', h1, h2, h3, h4⟩ := flatten_idx (j - e) x (fun r hr' => hr r (by simp [hr'])) h
      exact ⟨i + 1, k, r', by rw [Nat.add_mul, Nat.one_mul]; omega, h2, by simpa using h3, h4⟩

theorem slice_fits {α : Type} {R : α → Value → Prop} {ks : List α} {t el : TypeId} {cs : List Value} {fuel : Nat} {x : DataW H × List MemPlace} (hu : P.underlying t = some (.slice el)) (hx : DataW.trod enc P w 0 spare held fuel t cs = some x)
    (hz : 0 < P.cellsOf el) (hfit : ∀ (fuel : Nat) (cs : List Value) (x : DataW H × List MemPlace), DataW.trod enc P w 0 spare held fuel el cs = some x → All2 R ks cs) : ∃ v, cs = [v] ∧ slR w R (P.cellsOf el) ks v := by
  rcases open_slice hu hx with ⟨rfl, _⟩ | ⟨a, len, cap, m, n, D, Pl, rfl, hb, hl, hm, hmm, _, hel⟩
  · exact ⟨_, rfl, none, 0, [], rfl, Nat.le_refl _, by simp, by simp, by simp⟩
  · refine ⟨_, rfl, ?_⟩
    have hlm : len ≤ m := by rw [hmm]; split <;> omega
    have hch : ∀ i, ∃ r : List Value, i < len → w.cells? 0 (a.add (i * P.cellsOf el)) (P.cellsOf el) = some r ∧ All2 R ks r := fun i => by
      by_cases hi : i < len
      · obtain ⟨r, h1, h2⟩ := hel i (by omega)
        exact ⟨r, fun _ => ⟨h1, hfit _ _ _ h2⟩⟩
      · exact ⟨[], fun h => (hi h).elim⟩
    obtain ⟨F, hF⟩ := Classical.axiomOfChoice hch
    have hrow : ∀ r ∈ (List.range len).map F, r.length = P.cellsOf el ∧ All2 R ks r := by
      intro r hr
      obtain ⟨i, hi, rfl⟩ := List.mem_map.1 hr
      have := hF i (by simpa using hi)
      exact ⟨(World.cells?_some this.1).2.1, this.2⟩
    refine ⟨some a, cap, (List.range len).map F, by simp, by simpa using hl, hm, hrow, fun hne => ?_⟩
    have hpos : 0 < len := by
      rcases Nat.eq_zero_or_pos len with h | h
      · subst h; simp at hne
      · exact h
    -- the first cell is there: the address is a plain one
    have h0 := (World.cells?_some (hF 0 hpos).1).2.2 0 hz
    have hl0 := (World.cells?_some (hF 0 hpos).1).2.1
    have hc0 : w.cell? a = some ((F 0)[0]'(by omega)) := by
      have e1 : (a.add (0 * P.cellsOf el)).add 0 = a := by simp [Addr.add]
      rw [e1] at h0
      rw [h0, List.getElem?_eq_getElem (by omega)]
    obtain ⟨ab, ao, asp⟩ := a
    have hsp : asp = none ∧ ab < w.heap.size := by
      unfold World.cell? at hc0
      split at hc0
      · rename_i c _ _ hh
        split at hc0
        · cases hc0
        · rename_i hs
          refine ⟨by simpa using hs, ?_⟩
          rcases Nat.lt_or_ge ab w.heap.size with g | g
          · exact g
          · simp [Array.getElem?_eq_none g] at hh
      · cases hc0
    obtain ⟨rfl, hlt⟩ := hsp
    refine ⟨ab, ao, rfl, hlt, fun j v hj => ?_⟩
    obtain ⟨i, k, r, hjk, hk, hri, hrk⟩ := flatten_idx j v (fun r hr => (hrow r hr).1) hj
    simp only [List.getElem?_map, Option.map_eq_some_iff] at hri
    obtain ⟨i', hi', rfl⟩ := hri
    have hi2 : i' = i ∧ i < len := by
      have hlt : i < len := by
        rcases Nat.lt_or_ge i len with g | g
        · exact g
        · rw [List.getElem?_eq_none (by simpa using g)] at hi'; cases hi'
      rw [List.getElem?_range hlt] at hi'
      exact ⟨(Option.some.inj hi').symm, hlt⟩
    obtain ⟨rfl, hil⟩ := hi2
    have := (World.cells?_some (hF i' hil).1).2.2 k hk
    rw [hrk] at this
    have e2 : ((⟨ab, ao, none⟩ : Addr).add (i' * P.cellsOf el)).add k = ⟨ab, ao + j, none⟩ := by
      subst hjk
      unfold Addr.add
      split <;> split <;> simp_all [Nat.add_assoc]
    rw [e2] at this
    exact this

def leafB (P : Program) (n : Nat) : TypeDesc → Option KB
  | .slice el => bif Nat.ble 1 (P.cellsOf el) then (flatW P leafA n el).map (KB.sl (P.cellsOf el)) else none
  | u => (leafA u).map KB.a
theorem leafB_s {n : Nat} {t : TypeId} {u : TypeDesc} {a : KB} {cs : List Value} {fuel : Nat} {x : DataW H × List MemPlace} (hu : P.underlying t = some u) (ha : leafB P n u = some a) (hx : DataW.trod enc P w 0 spare held fuel t cs = some x) : ∃ v, cs = [v] ∧ RB w a v := by
  unfold leafB at ha
  split at ha
  · rename_i el
    cases hz : Nat.ble 1 (P.cellsOf el) with
    | false => rw [hz] at ha; cases ha
    | true =>
      rw [hz] at ha
      simp only [cond_true, Option.map_eq_some_iff] at ha
      obtain ⟨ks, h1, rfl⟩ := ha
      exact slice_fits hu hx (Nat.le_of_ble_eq_true hz) fun fuel cs x hx => flat_fits (fun t u a cs fuel x hu ha hx => leafA_s hu ha hx) n el ks fuel cs x h1 hx
  · simp only [Option.map_eq_some_iff] at ha
    obtain ⟨k, h1, rfl⟩ := ha
    exact leafA_s hu h1 hx

def leafC (P : Program) (n : Nat) : TypeDesc → Option KC
  | .slice el => bif Nat.ble 1 (P.cellsOf el) then (flatW P (leafB P n) n el).map (KC.sl (P.cellsOf el)) else none
  | u => (leafA u).map KC.a
theorem leafC_s {n : Nat} {t : TypeId} {u : TypeDesc} {a : KC} {cs : List Value} {fuel : Nat} {x : DataW H × List MemPlace} (hu : P.underlying t = some u) (ha : leafC P n u = some a) (hx : DataW.trod enc P w 0 spare held fuel t cs = some x) : ∃ v, cs = [v] ∧ RK w a v := by
  unfold leafC at ha
  split at ha
  · rename_i el
    cases hz : Nat.ble 1 (P.cellsOf el) with
    | false => rw [hz] at ha; cases ha
    | true =>
      rw [hz] at ha
      simp only [cond_true, Option.map_eq_some_iff] at ha
      obtain ⟨ks, h1, rfl⟩ := ha
      exact slice_fits hu hx (Nat.le_of_ble_eq_true hz) fun fuel cs x hx => flat_fits (fun t u a cs fuel x hu ha hx => leafB_s hu ha hx) n el ks fuel cs x h1 hx
  · simp only [Option.map_eq_some_iff] at ha
    obtain ⟨k, h1, rfl⟩ := ha
    exact leafA_s hu h1 hx

/-- A parameter's cells, by its type. -/
theorem read_par {t : TypeId} {ks : List KC} {cs : List Value} {fuel : Nat} {x : DataW H × List MemPlace} (hk : flatW P (leafC P 6) 6 t = some ks) (hx : DataW.trod enc P w 0 spare held fuel t cs = some x) : All2 (RK w) ks cs :=
  flat_fits (fun t u a cs fuel x hu ha hx => leafC_s hu ha hx) 6 t ks fuel cs x hk hx
end

/-! ### As told by trees -/
section
variable {w : World} {G : Gh}

theorem rows_of {α : Type} {g : α → List Value} : ∀ {rows : List (List Value)}, (∀ r ∈ rows, ∃ x, r = g x) → ∃ xs : List α, rows = xs.map g
  | [], _ => ⟨[], rfl⟩
  | r :: rows, h => by
    obtain ⟨x, hx⟩ := h r (by simp)
    obtain ⟨xs, hxs⟩ := rows_of (rows := rows) fun r hr => h r (by simp [hr])
    exact ⟨x :: xs, by simp [hx, hxs]⟩

theorem RA.plain : ∀ {k : KA} {v : Value}, RA k v → isPlain v = true
  | .int k, v, ⟨n, h, _⟩ => by rw [h]; rfl
  | .bool, v, ⟨b, h⟩ => by rw [h]; rfl
  | .str, v, ⟨s, h, _⟩ => by rw [h]; rfl
theorem RAs.plain {ks : List KA} {vs : List Value} (h : All2 RA ks vs) : ∀ v ∈ vs, isPlain v = true := by
  induction h with
  | nil => simp
  | cons r _ ih => intro v hv; rcases List.mem_cons.1 hv with rfl | hv; exact r.plain; exact ih v hv

/-- A list of plain rows, as an element's cell. -/
theorem rd1 {α : Type} {g : α → List Value} {e : Nat} {ks : List KA} {v : Value} (hG : ∀ b, b < w.heap.size → G.own b = .bor) (hr : ∀ r, All2 RA ks r → ∃ x, r = g x) (h : slR w RA e ks v) : ∃ xs : List α, xs.length ≤ 9223372036854775807 ∧ R1 w G .bor (.sl e (xs.map g)) v := by
  obtain ⟨A, cap, rows, h1, h2, h3, h4, h5⟩ := h
  obtain ⟨xs, rfl⟩ := rows_of fun r hr' => hr r (h4 r hr').2
  refine ⟨xs, by have : maxLen = 9223372036854775807 := rfl; simp at h2; omega, A, cap, h1, h2, ⟨fun r hr' => (h4 r hr').1, fun x hx => ?_⟩, fun hne => ?_⟩
  · obtain ⟨r, hr1, hr2⟩ := List.mem_flatten.1 hx
    exact RAs.plain (h4 r hr1).2 x hr2
  · obtain ⟨b, o, q1, q2, q3⟩ := h5 hne
    exact ⟨b, o, q1, .inl (hG b q2), q3⟩

theorem rows2 {α : Type} {g : α → List C1} {bg : α → Prop} {R : C1 → Value → Prop} : ∀ {rows : List (List Value)}, (∀ r ∈ rows, ∃ x, bg x ∧ All2 R (g x) r) → ∃ xs : List α, xs.length = rows.length ∧ (∀ x ∈ xs, bg x) ∧ All2 R (xs.map g).flatten rows.flatten
  | [], _ => ⟨[], rfl, by simp, .nil⟩
  | r :: rows, h => by
    obtain ⟨x, hb, hx⟩ := h r (by simp)
    obtain ⟨xs, hl, hbs, hxs⟩ := rows2 (rows := rows) fun r hr => h r (by simp [hr])
    refine ⟨x :: xs, by simp [hl], fun y hy => ?_, by simpa using hx.append hxs⟩
    rcases List.mem_cons.1 hy with rfl | hy
    · exact hb
    · exact hbs y hy

/-- A list of rows, as a parameter's cell. -/
theorem rd2 {α : Type} {g : α → List C1} {bg : α → Prop} {e : Nat} {ks : List KB} {v : Value} (hG : ∀ b, b < w.heap.size → G.own b = .bor) (he : ∀ x, (g x).length = e) (hr : ∀ r, All2 (RB w) ks r → ∃ x, bg x ∧ All2 (R1 w G .bor) (g x) r) (h : slR w (RB w) e ks v) :
    ∃ xs : List α, xs.length ≤ 9223372036854775807 ∧ (∀ x ∈ xs, bg x) ∧ RC w G (.sl .bor e (xs.map g)) v := by
  obtain ⟨A, cap, rows, h1, h2, h3, h4, h5⟩ := h
  obtain ⟨xs, hl, hbs, hxs⟩ := rows2 fun r hr' => hr r (h4 r hr').2
  refine ⟨xs, by have : maxLen = 9223372036854775807 := rfl; omega, hbs, A, cap, by rw [h1, List.length_map, hl], by rw [List.length_map, hl]; exact h2, fun r hr' => ?_, fun hne => ?_⟩
  · obtain ⟨x, _, rfl⟩ := List.mem_map.1 hr'; exact he x
  · have hne' : rows ≠ [] := fun e => hne (by subst e; simp at hl; simp [hl])
    obtain ⟨b, o, q1, q2, q3⟩ := h5 hne'
    refine ⟨b, o, q1, .inl (hG b q2), fun j x hx => ?_⟩
    obtain ⟨cv, hc1, hc2⟩ := hxs.get j x hx
    exact ⟨cv, q3 j cv hc1, hc2⟩

theorem All2.nil_inv {α β : Type} {R : α → β → Prop} {ys : List β} (h : All2 R [] ys) : ys = [] := by cases h; rfl
theorem All2.cons_inv {α β : Type} {R : α → β → Prop} {x : α} {xs : List α} {ys : List β} (h : All2 R (x :: xs) ys) : ∃ y ys', ys = y :: ys' ∧ R x y ∧ All2 R xs ys' := by cases h with | cons r h => exact ⟨_, _, rfl, r, h⟩
end

/-- The ghost of a call that begins: all that is there is borrowed. -/
def G0 (w : World) : Gh := ⟨fun _ => none, fun _ => 0, fun b => if b < w.heap.size then .bor else .junk, fun _ => False⟩
theorem G0_wf (w : World) : Wf (G0 w) w :=
  ⟨fun s b h => (by simp [G0] at h), fun b s h => (by simp only [G0] at h; split at h <;> cases h), fun b hb => (by simp [G0, Nat.not_lt.2 hb]), ⟨0, fun s h => h.elim⟩⟩
theorem G0_bor (w : World) : ∀ b, b < w.heap.size → (G0 w).own b = .bor := fun b hb => by simp [G0, hb]

/-- **From a function told by trees to a law's walk**: it answers true, and nothing that was there has turned. -/
theorem law_walk {P : Program} {n : Nat} {ps : List Par} (h : Fn P n ps [.c (.v (.bool true))] []) {w : World} {args : List Value} (ho : argO (fun _ _ => 0) 0 ps = []) (hv : All2 (RV0 w (G0 w)) (argV (fun _ _ => 0) 0 ps) args) :
    Calls P n args.toArray w fun e w' => e = .returned (.bool true) ∧ Below w.heap.size w w' := by
  refine Calls.mono (h.ok (fun _ _ => 0) (G0 w) w args (G0_wf w) ⟨hv, fun k s x hx => (by rw [ho] at hx; simp at hx), fun k k' s x x' hx => (by rw [ho] at hx; simp at hx), fun b s hb => (by simp only [G0] at hb; split at hb <;> cases hb)⟩) ?_
  rintro e w' ⟨v, G', g, h', he, hr, _, hev, _⟩
  have hr' : v = .bool true := hr
  subst hr'
  exact ⟨he, hev.os, hev.tape, hev.output, hev.size, fun k hk => (hev.kept k hk (.inr (.inl (G0_bor w k hk)))).2⟩
end Go.Lap
