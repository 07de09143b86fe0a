/- How arguments are read, type by type. -/
import Derived.Test.YtihiganlkecbaaaFd
set_option linter.unusedVariables false
namespace Go.Lap
open Go.RowKit

theorem Int.rdA : ∀ r, All2 RA [.int .i64] r → ∃ x : Int, r = Int.vals x := by
  intro r h
  obtain ⟨v0, r, rfl, h0, h⟩ := h.cons_inv
  obtain rfl := h.nil_inv
  obtain ⟨x0, rfl, _⟩ := h0
  exact ⟨x0, rfl⟩
theorem Int.rdB {w : World} {G : Gh} (hG : ∀ b, b < w.heap.size → G.own b = .bor) : ∀ r, All2 (RB w) [.a (.int .i64)] r → ∃ x : Int, (fun _ => True) x ∧ All2 (R1 w G .bor) (Int.row x) r := by
  intro r h
  obtain ⟨v0, r, rfl, h0, h⟩ := h.cons_inv
  obtain rfl := h.nil_inv
  obtain ⟨x0, rfl, _⟩ : RA (.int .i64) _ := h0
  exact ⟨x0, trivial, .cons ⟨rfl, rfl⟩ .nil⟩
theorem Intu8.rdB {w : World} {G : Gh} (hG : ∀ b, b < w.heap.size → G.own b = .bor) : ∀ r, All2 (RB w) [.a (.int .u8)] r → ∃ x : Int, (fun _ => True) x ∧ All2 (R1 w G .bor) (Int.rowu8 x) r := by
  intro r h
  obtain ⟨v0, r, rfl, h0, h⟩ := h.cons_inv
  obtain rfl := h.nil_inv
  obtain ⟨x0, rfl, _⟩ : RA (.int .u8) _ := h0
  exact ⟨x0, trivial, .cons ⟨rfl, rfl⟩ .nil⟩
theorem rng {n : Int} (h : (Lit.int .i64 n).wf = true) : -9223372036854775808 ≤ n ∧ n ≤ 9223372036854775807 := by
  have h2 : IntKind.i64.min ≤ n ∧ n ≤ IntKind.i64.max := by simpa [Lit.wf, IntKind.has] using h
  exact h2
theorem FlyStep.rdB {w : World} {G : Gh} (hG : ∀ b, b < w.heap.size → G.own b = .bor) : ∀ r, All2 (RB w) [.a (.int .i64), .a (.int .i64), .a (.int .i64), .a (.int .i64), .a (.int .i64), .a (.int .i64), .a (.bool)] r → ∃ x : FlyStep, (fun _ => True) x ∧ All2 (R1 w G .bor) (FlyStep.row x) r := by
  intro r h
  obtain ⟨v0, r, rfl, h0, h⟩ := h.cons_inv
  obtain ⟨v1, r, rfl, h1, h⟩ := h.cons_inv
  obtain ⟨v2, r, rfl, h2, h⟩ := h.cons_inv
  obtain ⟨v3, r, rfl, h3, h⟩ := h.cons_inv
  obtain ⟨v4, r, rfl, h4, h⟩ := h.cons_inv
  obtain ⟨v5, r, rfl, h5, h⟩ := h.cons_inv
  obtain ⟨v6, r, rfl, h6, h⟩ := h.cons_inv
  obtain rfl := h.nil_inv
  obtain ⟨x0, rfl, _⟩ : RA (.int .i64) _ := h0
  obtain ⟨x1, rfl, _⟩ : RA (.int .i64) _ := h1
  obtain ⟨x2, rfl, _⟩ : RA (.int .i64) _ := h2
  obtain ⟨x3, rfl, _⟩ : RA (.int .i64) _ := h3
  obtain ⟨x4, rfl, _⟩ : RA (.int .i64) _ := h4
  obtain ⟨x5, rfl, _⟩ : RA (.int .i64) _ := h5
  obtain ⟨x6, rfl⟩ : RA .bool _ := h6
  exact ⟨⟨x0, x1, x2, x3, x4, x5, x6⟩, trivial, .cons ⟨rfl, rfl⟩ (.cons ⟨rfl, rfl⟩ (.cons ⟨rfl, rfl⟩ (.cons ⟨rfl, rfl⟩ (.cons ⟨rfl, rfl⟩ (.cons ⟨rfl, rfl⟩ (.cons ⟨rfl, rfl⟩ .nil))))))⟩
theorem LinkCraft.rdC {w : World} {G : Gh} (hG : ∀ b, b < w.heap.size → G.own b = .bor) : ∀ r, All2 (RK w) [.a (.str), .a (.int .i64), .a (.int .i64), .a (.int .i64), .a (.int .i64), .sl 7 [.a (.int .i64), .a (.int .i64), .a (.int .i64), .a (.int .i64), .a (.int .i64), .a (.int .i64), .a (.bool)], .a (.int .i64), .a (.int .i64), .sl 1 [.a (.int .i64)]] r → ∃ x : LinkCraft, LinkCraft.big x ∧ All2 (RC w G) (LinkCraft.cs .bor x) r := by
  intro r h
  obtain ⟨v0, r, rfl, h0, h⟩ := h.cons_inv
  obtain ⟨v1, r, rfl, h1, h⟩ := h.cons_inv
  obtain ⟨v2, r, rfl, h2, h⟩ := h.cons_inv
  obtain ⟨v3, r, rfl, h3, h⟩ := h.cons_inv
  obtain ⟨v4, r, rfl, h4, h⟩ := h.cons_inv
  obtain ⟨v5, r, rfl, h5, h⟩ := h.cons_inv
  obtain ⟨v6, r, rfl, h6, h⟩ := h.cons_inv
  obtain ⟨v7, r, rfl, h7, h⟩ := h.cons_inv
  obtain ⟨v8, r, rfl, h8, h⟩ := h.cons_inv
  obtain rfl := h.nil_inv
  obtain ⟨x0, rfl, b0⟩ : RA .str _ := h0
  obtain ⟨x1, rfl, _⟩ : RA (.int .i64) _ := h1
  obtain ⟨x2, rfl, _⟩ : RA (.int .i64) _ := h2
  obtain ⟨x3, rfl, _⟩ : RA (.int .i64) _ := h3
  obtain ⟨x4, rfl, _⟩ : RA (.int .i64) _ := h4
  obtain ⟨x5, b5, c5, h5⟩ := rd2 (ks := [.a (.int .i64), .a (.int .i64), .a (.int .i64), .a (.int .i64), .a (.int .i64), .a (.int .i64), .a (.bool)]) (g := FlyStep.row) (bg := (fun _ => True)) hG (fun _ => rfl) (FlyStep.rdB hG) h5
  obtain ⟨x6, rfl, _⟩ : RA (.int .i64) _ := h6
  obtain ⟨x7, rfl, _⟩ : RA (.int .i64) _ := h7
  obtain ⟨x8, b8, c8, h8⟩ := rd2 (ks := [.a (.int .i64)]) (g := Int.row) (bg := (fun _ => True)) hG (fun _ => rfl) (Int.rdB hG) h8
  exact ⟨⟨x0, x1, x2, ⟨⟨x3, x4⟩, x5, x6, x7⟩, x8⟩, ⟨b0, b5, b8⟩, .cons rfl (.cons rfl (.cons rfl (.cons rfl (.cons rfl (.cons h5 (.cons rfl (.cons rfl (.cons h8 .nil))))))))⟩
theorem LinkWord.rdC {w : World} {G : Gh} (hG : ∀ b, b < w.heap.size → G.own b = .bor) : ∀ r, All2 (RK w) [.a (.int .i64), .a (.str), .a (.int .i64), .a (.int .i64), .a (.int .i64), .sl 7 [.a (.int .i64), .a (.int .i64), .a (.int .i64), .a (.int .i64), .a (.int .i64), .a (.int .i64), .a (.bool)], .a (.int .i64), .a (.int .i64)] r → ∃ x : LinkWord, LinkWord.big x ∧ All2 (RC w G) (LinkWord.cs .bor x) r := by
  intro r h
  obtain ⟨v0, r, rfl, h0, h⟩ := h.cons_inv
  obtain ⟨v1, r, rfl, h1, h⟩ := h.cons_inv
  obtain ⟨v2, r, rfl, h2, h⟩ := h.cons_inv
  obtain ⟨v3, r, rfl, h3, h⟩ := h.cons_inv
  obtain ⟨v4, r, rfl, h4, h⟩ := h.cons_inv
  obtain ⟨v5, r, rfl, h5, h⟩ := h.cons_inv
  obtain ⟨v6, r, rfl, h6, h⟩ := h.cons_inv
  obtain ⟨v7, r, rfl, h7, h⟩ := h.cons_inv
  obtain rfl := h.nil_inv
  obtain ⟨x0, rfl, _⟩ : RA (.int .i64) _ := h0
  obtain ⟨x1, rfl, b1⟩ : RA .str _ := h1
  obtain ⟨x2, rfl, _⟩ : RA (.int .i64) _ := h2
  obtain ⟨x3, rfl, _⟩ : RA (.int .i64) _ := h3
  obtain ⟨x4, rfl, _⟩ : RA (.int .i64) _ := h4
  obtain ⟨x5, b5, c5, h5⟩ := rd2 (ks := [.a (.int .i64), .a (.int .i64), .a (.int .i64), .a (.int .i64), .a (.int .i64), .a (.int .i64), .a (.bool)]) (g := FlyStep.row) (bg := (fun _ => True)) hG (fun _ => rfl) (FlyStep.rdB hG) h5
  obtain ⟨x6, rfl, _⟩ : RA (.int .i64) _ := h6
  obtain ⟨x7, rfl, _⟩ : RA (.int .i64) _ := h7
  exact ⟨⟨x0, x1, x2, ⟨⟨x3, x4⟩, x5, x6, x7⟩⟩, ⟨b1, b5⟩, .cons rfl (.cons rfl (.cons rfl (.cons rfl (.cons rfl (.cons h5 (.cons rfl (.cons rfl .nil)))))))⟩
end Go.Lap

