/- The engine's eighth part: append, make, literals, elements written. -/
import Derived.Test.YtihiganlkecbaaaEg
namespace Go.Lap
open Go.RowKit

/-- An array changes its name. -/
def Gh.mv (G : Gh) (s s' : Nat) : Gh :=
  ⟨fun x => if x = s' then G.loc s else G.loc x, fun x => if x = s' then G.cap s else G.cap x,
   fun b => match G.own b with | .obj y => if y = s then .obj s' else .obj y | z => z, fun x => G.used x ∨ x = s'⟩

theorem mv_own {G : Gh} {s s' b : Nat} : (G.mv s s').own b = match G.own b with | .obj y => if y = s then .obj s' else .obj y | z => z := rfl

theorem mv_wf {G : Gh} {w w' : World} {s s' : Nat} (hw : Wf G w) (hs : ¬ G.used s') (hz : w'.heap.size = w.heap.size) : Wf (G.mv s s') w' := by
  refine ⟨?_, ?_, ?_, ?_⟩
  · intro x b hx
    simp only [Gh.mv] at hx ⊢
    split at hx
    · rename_i e; exact ⟨by rw [hz]; exact (hw.lt s b hx).1, .inr e⟩
    · have := hw.lt x b hx; exact ⟨by rw [hz]; exact this.1, .inl this.2⟩
  · intro b x hx
    rw [mv_own] at hx
    simp only [Gh.mv]
    cases ho : G.own b with
    | obj y =>
      rw [ho] at hx
      simp only at hx
      split at hx
      · rename_i e; cases hx; rw [if_pos rfl]; exact e ▸ hw.of_own b y ho
      · rename_i e
        cases hx
        have h1 := hw.of_own b x ho
        have : x ≠ s' := fun h => hs (h ▸ (hw.lt x b h1).2)
        rw [if_neg this]; exact h1
    | ext => rw [ho] at hx; cases hx
    | bor => rw [ho] at hx; cases hx
    | frz => rw [ho] at hx; cases hx
    | junk => rw [ho] at hx; cases hx
  · intro b hb
    rw [mv_own, hw.past b (by omega)]
  · obtain ⟨N, hN⟩ := hw.fin
    exact ⟨max N (s' + 1), fun x hx => by
      rcases hx with h | h
      · have := hN x h; omega
      · omega⟩

theorem mv_evol {G : Gh} {w w' : World} {s s' : Nat} (hs : ¬ G.used s') (h1 : w'.os = w.os) (h2 : w'.tape = w.tape) (h3 : w'.output = w.output) (hz : w.heap.size ≤ w'.heap.size)
    {U : Nat → Prop} (hU : U s) (hb : ∀ b, b < w.heap.size → G.own b ≠ .obj s → w'.heap[b]? = w.heap[b]?) : Evol U w G w' (G.mv s s') := by
  refine ⟨h1, h2, h3, hz, fun x hx => .inl hx, ?_, ?_, ?_⟩
  · intro x hx
    have : x ≠ s' := fun h => hs (h ▸ hx)
    simp [Gh.mv, this]
  · intro x hx
    have : x ≠ s' := fun h => hs (h ▸ hx)
    simp [Gh.mv, this]
  · intro b hb' ho
    rw [mv_own]
    rcases ho with h | h | h | ⟨y, h, hn⟩
    · rw [h]; exact ⟨rfl, hb b hb' (by rw [h]; simp)⟩
    · rw [h]; exact ⟨rfl, hb b hb' (by rw [h]; simp)⟩
    · rw [h]; exact ⟨rfl, hb b hb' (by rw [h]; simp)⟩
    · have : y ≠ s := fun e => hn (e ▸ hU)
      rw [h]
      simp only [this, if_false]
      exact ⟨trivial, hb b hb' (by rw [h]; intro e; cases e; exact this rfl)⟩

theorem R1_plain {w : World} {G : Gh} {t : Tag} {x : C1} {v : Value} (h : R1 w G t x v) : v.oneCell' = true := by
  cases x with
  | v x => obtain ⟨rfl, h2⟩ := h; cases v <;> first | rfl | simp [isPlain] at h2
  | sl e rows => obtain ⟨A, cap, h1, _⟩ := h; subst h1; rfl

theorem All2.mem_right {α β : Type} {R : α → β → Prop} {xs : List α} {ys : List β} (h : All2 R xs ys) : ∀ y ∈ ys, ∃ x ∈ xs, R x y := by
  induction h with
  | nil => intro y hy; simp at hy
  | cons r _ ih =>
    intro y hy
    rcases List.mem_cons.1 hy with e | e
    · subst e; exact ⟨_, by simp, r⟩
    · obtain ⟨x, hx, hr⟩ := ih y e; exact ⟨x, by simp [hx], hr⟩

section
variable {P : Program} {tt : Nat → Option TD} {o : Oper} {ev : Operand → TV} {ob : Nat → Option (Nat × AObj)} {f : Nat → Nat}

/-- The rows that a slice has, for one who copies them: never borrowed memory within them. -/
inductive Src (ob : Nat → Option (Nat × AObj)) (e : Nat) : V0 → List (List C1) → List (Nat × Bool) → Prop
  | nl : Src ob e (.c .nl) [] []
  | frz {rows} : Src ob e (.c (.sl .frz e rows)) rows []
  | bor {rows} : (∀ r ∈ rows, ∀ x ∈ r, ∃ v, x = C1.v v) → Src ob e (.c (.sl .bor e rows)) rows []
  | arr {k s off len rows} : ob k = some (s, .arr e rows) → off + len ≤ rows.length → Src ob e (.c (.mu k s e off len)) ((rows.drop off).take len) [(k, false)]
  | fz {k s off len rows} : ob k = some (s, .fz e rows) → off + len ≤ rows.length → Src ob e (.c (.mu k s e off len)) ((rows.drop off).take len) [(k, false)]

theorem flatten_part {α : Type} {e : Nat} {rows : List (List α)} {l n : Nat} (h5 : ∀ r ∈ rows, r.length = e) (h : l + n ≤ rows.length) : ((rows.drop l).take n).flatten = (rows.flatten.drop (l * e)).take (n * e) := by
  have e1 : rows.flatten = (rows.take l).flatten ++ ((rows.drop l).take n).flatten ++ ((rows.drop l).drop n).flatten := by
    rw [List.append_assoc, ← List.flatten_append, List.take_append_drop, ← List.flatten_append, List.take_append_drop]
  have e2 : ((rows.take l).flatten).length = l * e := by
    rw [flatten_length (e := e) fun r hr => h5 r (List.mem_of_mem_take hr)]
    rw [List.length_take, Nat.min_eq_left (by omega)]
  have e3 : (((rows.drop l).take n).flatten).length = n * e := by
    rw [flatten_length (e := e) fun r hr => h5 r (List.mem_of_mem_drop (List.mem_of_mem_take hr))]
    congr 1; simp; omega
  rw [e1, List.append_assoc, ← e2, List.drop_left, ← e3, List.take_left]

theorem Src.R {w : World} {G : Gh} {e : Nat} {v : V0} {rows : List (List C1)} {tch : List (Nat × Bool)} (h : Src ob e v rows tch) (hobs : Obs w G ob tch) {cv : Value} (hv : RV0 w G v cv) :
    (∀ r ∈ rows, r.length = e) ∧ ∃ A m c news, cv = .slice A m c ∧ m = rows.length ∧ All2 (R1 w G .frz) rows.flatten news ∧ (A = none → m = 0) ∧ (rows ≠ [] → ∃ b q, A = some ⟨b, q, none⟩ ∧ CellsV w b q news) := by
  cases h with
  | nl => have hv' : cv = .slice none 0 0 := hv; subst hv'; exact ⟨by simp, none, 0, 0, [], rfl, rfl, .nil, fun _ => rfl, fun h => (h rfl).elim⟩
  | frz =>
    obtain ⟨A, cap, h1, h2, h3, h4⟩ := hv
    refine ⟨h3, ?_⟩
    by_cases hne : rows = []
    · subst hne; exact ⟨A, 0, cap, [], h1, rfl, .nil, fun _ => rfl, fun h => (h rfl).elim⟩
    · obtain ⟨b, q, hA, hi, hc⟩ := h4 hne
      obtain ⟨news, hn, hcv⟩ := cells1_list hc
      exact ⟨A, _, cap, news, h1, rfl, hn, fun h => (by rw [h] at hA; cases hA), fun _ => ⟨b, q, hA, hcv⟩⟩
  | bor hsc =>
    obtain ⟨A, cap, h1, h2, h3, h4⟩ := hv
    refine ⟨h3, ?_⟩
    by_cases hne : rows = []
    · subst hne; exact ⟨A, 0, cap, [], h1, rfl, .nil, fun _ => rfl, fun h => (h rfl).elim⟩
    · obtain ⟨b, q, hA, hi, hc⟩ := h4 hne
      obtain ⟨news, hn, hcv⟩ := cells1_list hc
      refine ⟨A, _, cap, news, h1, rfl, hn.mono fun x y hx hr => ?_, fun h => (by rw [h] at hA; cases hA), fun _ => ⟨b, q, hA, hcv⟩⟩
      obtain ⟨r, hr1, hr2⟩ := List.mem_flatten.1 hx
      obtain ⟨v, rfl⟩ := hsc r hr1 x hr2
      exact hr
  | arr hO hle =>
    rename_i k s off len rows'
    obtain ⟨A, cap, h1, h2, h3, h4, h5⟩ := hv
    obtain ⟨he, hrl, hcase⟩ := (hobs.objs k false (by simp) s _ hO).2
    refine ⟨fun r hr => hrl r (List.mem_of_mem_drop (List.mem_of_mem_take hr)), ?_⟩
    have hlen : ((rows'.drop off).take len).length = len := by simp; omega
    by_cases hl0 : len = 0
    · subst hl0; rw [List.take_zero]; exact ⟨A, 0, cap, [], h1, rfl, .nil, fun _ => rfl, fun h => (h rfl).elim⟩
    · rcases h5 with h5 | ⟨b, hb, hA⟩
      · omega
      · rcases hcase with ⟨h6, _⟩ | ⟨b', hb', _, vs, T, h7, h8, h9, h10, h11⟩
        · subst h6; simp at hle; omega
        · rw [hb] at hb'; cases hb'
          refine ⟨A, len, cap, ((vs.toList.take (rows'.length * e)).drop (off * e)).take (len * e), h1, hlen.symm, ?_, fun h => (by rw [h] at hA; cases hA), fun _ => ⟨b, off * e, hA, ?_⟩⟩
          · rw [flatten_part hrl hle]; exact (h11.drop _).take _
          · intro j x hj
            rw [List.getElem?_take] at hj
            split at hj
            · rw [List.getElem?_drop, List.getElem?_take] at hj
              split at hj
              · rw [cell_of_row w b _ vs T (0, 0) h7]; simpa using hj
              · cases hj
            · cases hj
  | fz hO hle =>
    rename_i k s off len rows'
    obtain ⟨A, cap, h1, h2, h3, h4, h5⟩ := hv
    obtain ⟨he, hrl, hcase⟩ := (hobs.objs k false (by simp) s _ hO).2
    refine ⟨fun r hr => hrl r (List.mem_of_mem_drop (List.mem_of_mem_take hr)), ?_⟩
    have hlen : ((rows'.drop off).take len).length = len := by simp; omega
    by_cases hl0 : len = 0
    · subst hl0; rw [List.take_zero]; exact ⟨A, 0, cap, [], h1, rfl, .nil, fun _ => rfl, fun h => (h rfl).elim⟩
    · rcases h5 with h5 | ⟨b, hb, hA⟩
      · omega
      · rcases hcase with ⟨h6, _⟩ | ⟨b', hb', _, vs, T, h7, h8, h9, h10, h11⟩
        · subst h6; simp at hle; omega
        · rw [hb] at hb'; cases hb'
          refine ⟨A, len, cap, ((vs.toList.take (rows'.length * e)).drop (off * e)).take (len * e), h1, hlen.symm, ?_, fun h => (by rw [h] at hA; cases hA), fun _ => ⟨b, off * e, hA, ?_⟩⟩
          · rw [flatten_part hrl hle]; exact (h11.drop _).take _
          · intro j x hj
            rw [List.getElem?_take] at hj
            split at hj
            · rw [List.getElem?_drop, List.getElem?_take] at hj
              split at hj
              · rw [cell_of_row w b _ vs T (0, 0) h7]; simpa using hj
              · cases hj
            · cases hj

theorem run_first (size m : Nat) {A : Option Addr} {c : Nat} {news : List Value} (hl : news.length = m * size) (w : World) (hA : A = none → m = 0) (hcells : news ≠ [] → ∃ b q, A = some ⟨b, q, none⟩ ∧ CellsV w b q news) :
    (Builtin.firstCells size m (.slice A m c)).run P w = .ok news.toArray w := by
  cases A with
  | none =>
    have : m = 0 := hA rfl
    subst this
    simp at hl; subst hl
    rfl
  | some a =>
    by_cases hn : news = []
    · subst hn
      have h0 : m * size = 0 := hl.symm
      simp only [Builtin.firstCells, h0]; rfl
    · obtain ⟨b, q, e, hc⟩ := hcells hn
      cases e
      have := run_loadCells_list (P := P) w ⟨b, q, none⟩ news (fun j v hj => by rw [Addr.add_lit]; exact hc j v hj)
      rw [hl] at this
      exact this

/-- append, in the machine's own words: room, or a new block. -/
theorem run_app (hT : TyOK P tt) {t el ty : Nat} {d de : TD} (ht : tt t = some d) (hk : d.k = .slc el) (hte : tt el = some de) {A B : Option Addr} {len cap m c : Nat} {olds news : List Value} (w : World)
    (hlo : olds.length = len * de.size) (hln : news.length = m * de.size) (hA : A = none → len = 0) (hB : B = none → m = 0)
    (holds : olds ≠ [] → ∃ b q, A = some ⟨b, q, none⟩ ∧ CellsV w b q olds) (hnews : news ≠ [] → ∃ b q, B = some ⟨b, q, none⟩ ∧ CellsV w b q news) (hone : ∀ v ∈ news, v.oneCell' = true)
    (hby : 1 ≤ de.bytes) (hbytes : (len + m) * de.bytes ≤ 140737488355328) :
    (len + m ≤ cap → ∀ b q cur T, (m = 0 ∨ A = some ⟨b, q, none⟩ ∧ w.heap[b]? = some (.cells cur T (0, 0)) ∧ q + (len + m) * de.size ≤ cur.size) →
      (Builtin.append_ #[t, t] ty #[.slice A len cap, .slice B m c]).run P w = .ok (.slice A (len + m) cap) (if m = 0 then w else w.setRow b (setL (q + len * de.size) news cur.toList).toArray)) ∧
    (cap < len + m → ∃ cap' rest, (Builtin.append_ #[t, t] ty #[.slice A len cap, .slice B m c]).run P w = .ok (.slice (some ⟨w.heap.size, 0, none⟩) (len + m) cap') (w.drew.alloc (.cells (olds ++ news ++ rest).toArray el)) ∧
      len + m ≤ cap' ∧ cap' ≤ maxLen ∧ (olds ++ news ++ rest).length = cap' * de.size) := by
  obtain ⟨i, z, hi, hsz, hbz, hz, hzc⟩ := (hT el de hte).info
  have hu := (hT t d ht).run_slice hk
  have hs := (hT el de hte).run_size
  have hf := run_first (P := P) (c := c) de.size m hln w hB hnews
  constructor
  · intro hroom b q cur T hcase
    by_cases hm : m = 0
    · subst hm
      have hn : news = [] := List.eq_nil_of_length_eq_zero (by simpa using hln)
      subst hn
      have hroom' : len ≤ cap := by omega
      cases A with
      | none => simp [Builtin.append_, hu, hs, Builtin.lenOf, hroom', hf]
      | some a => simp [Builtin.append_, hu, hs, Builtin.lenOf, hroom', hf, storeCells]
    · rcases hcase with h | ⟨rfl, hg, hfit⟩
      · exact (hm h).elim
      · have hst := run_storeCells_at P b (q + len * de.size) T news 0 cur w hg (by rw [hln]; rw [Nat.add_mul] at hfit; omega) hone
        simp only [Nat.add_zero] at hst
        rw [setL_eq _ _ _ (by simp; rw [Nat.add_mul] at hfit; omega)]
        simp [Builtin.append_, hu, hs, Builtin.lenOf, hroom, hf, Addr.add_lit, hst, hm]
  · intro hg
    have hn : ¬ (len + m ≤ cap) := by omega
    have h47 : len + m ≤ 140737488355328 := Nat.le_trans (Nat.le_mul_of_pos_right _ hby) hbytes
    have h63' : ¬ (9223372036854775807 < ((len : Int) + (m : Int))) := by omega
    have hgf := growslice_fits (old := cap) hg hbytes
    have h48' : ¬ (281474976710656 < Builtin.nextslicecap (len + m) cap * i.bytes) := by rw [hbz]; omega
    have hfd := run_first (P := P) (c := c) de.size m hln w.drew hB (fun h => by obtain ⟨b, q, e, hc⟩ := hnews h; exact ⟨b, q, e, fun j x hj => by simpa using hc j x hj⟩)
    have hfo := run_first (P := P) (c := cap) de.size len hlo w.drew hA (fun h => by obtain ⟨b, q, e, hc⟩ := holds h; exact ⟨b, q, e, fun j x hj => by simpa using hc j x hj⟩)
    have hge := grownCap_ge w (len + m) cap el
    have hcm : grownCap w (len + m) cap el ≤ maxLen := grownCap_le_maxLen w (len + m) cap el (by simp only [maxLen]; omega)
    refine ⟨grownCap w (len + m) cap el, (Builtin.zeroCells z.cells (grownCap w (len + m) cap el - (len + m))).toList, ?_, hge, hcm, ?_⟩
    · have hsi : i.size = de.size := hsz
      simp [Builtin.append_, hu, sizeOf, typeInfo, zeroValue, hi, hz, Builtin.lenOf, hn, h63', h48', Question.forced, hsi, hfd, hfo, newRow, grownCap]
      congr 2
      apply Array.ext'
      simp
    · have hzl : z.cells.size = de.size := by
        have := (hT el de hte).zlen
        rw [← this, ← hzc]; simp
      simp only [List.length_append, Array.length_toList, size_zeroCells, hzl, hlo, hln, ← Nat.add_mul]
      congr 1; omega
end
end Go.Lap
