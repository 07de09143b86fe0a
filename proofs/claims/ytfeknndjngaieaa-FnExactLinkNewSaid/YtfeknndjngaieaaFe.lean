/- How arguments are read, type by type. -/
import Derived.Test.YtfeknndjngaieaaFd
set_option linter.unusedVariables false
namespace Go.Lap
open Go.RowKit

theorem Int.rdA : ∀ r, All2 RA [.int .i64] r → ∃ x : Int, r = Int.vals x := by
  intro r h
  obtain ⟨v0, r, rfl, h0, h⟩ := h.cons_inv
  obtain rfl := h.nil_inv
  obtain ⟨x0, rfl, _⟩ := h0
  exact ⟨x0, rfl⟩
theorem Int.rdB {w : World} {G : Gh} (hG : ∀ b, b < w.heap.size → G.own b = .bor) : ∀ r, All2 (RB w) [.a (.int .i64)] r → ∃ x : Int, (fun _ => True) x ∧ All2 (R1 w G .bor) (Int.row x) r := by
  intro r h
  obtain ⟨v0, r, rfl, h0, h⟩ := h.cons_inv
  obtain rfl := h.nil_inv
  obtain ⟨x0, rfl, _⟩ : RA (.int .i64) _ := h0
  exact ⟨x0, trivial, .cons ⟨rfl, rfl⟩ .nil⟩
theorem Intu8.rdB {w : World} {G : Gh} (hG : ∀ b, b < w.heap.size → G.own b = .bor) : ∀ r, All2 (RB w) [.a (.int .u8)] r → ∃ x : Int, (fun _ => True) x ∧ All2 (R1 w G .bor) (Int.rowu8 x) r := by
  intro r h
  obtain ⟨v0, r, rfl, h0, h⟩ := h.cons_inv
  obtain rfl := h.nil_inv
  obtain ⟨x0, rfl, _⟩ : RA (.int .u8) _ := h0
  exact ⟨x0, trivial, .cons ⟨rfl, rfl⟩ .nil⟩
theorem rng {n : Int} (h : (Lit.int .i64 n).wf = true) : -9223372036854775808 ≤ n ∧ n ≤ 9223372036854775807 := by
  have h2 : IntKind.i64.min ≤ n ∧ n ≤ IntKind.i64.max := by simpa [Lit.wf, IntKind.has] using h
  exact h2
theorem FlyStep.rdA : ∀ r, All2 RA [.int .i64, .int .i64, .int .i64, .int .i64, .int .i64, .int .i64, .bool] r → ∃ x : FlyStep, r = FlyStep.vals x := by
  intro r h
  obtain ⟨v0, r, rfl, h0, h⟩ := h.cons_inv
  obtain ⟨v1, r, rfl, h1, h⟩ := h.cons_inv
  obtain ⟨v2, r, rfl, h2, h⟩ := h.cons_inv
  obtain ⟨v3, r, rfl, h3, h⟩ := h.cons_inv
  obtain ⟨v4, r, rfl, h4, h⟩ := h.cons_inv
  obtain ⟨v5, r, rfl, h5, h⟩ := h.cons_inv
  obtain ⟨v6, r, rfl, h6, h⟩ := h.cons_inv
  obtain rfl := h.nil_inv
  obtain ⟨x0, rfl, _⟩ : RA (.int .i64) _ := h0
  obtain ⟨x1, rfl, _⟩ : RA (.int .i64) _ := h1
  obtain ⟨x2, rfl, _⟩ : RA (.int .i64) _ := h2
  obtain ⟨x3, rfl, _⟩ : RA (.int .i64) _ := h3
  obtain ⟨x4, rfl, _⟩ : RA (.int .i64) _ := h4
  obtain ⟨x5, rfl, _⟩ : RA (.int .i64) _ := h5
  obtain ⟨x6, rfl⟩ : RA .bool _ := h6
  exact ⟨⟨x0, x1, x2, x3, x4, x5, x6⟩, rfl⟩
theorem FlyStep.rdB {w : World} {G : Gh} (hG : ∀ b, b < w.heap.size → G.own b = .bor) : ∀ r, All2 (RB w) [.a (.int .i64), .a (.int .i64), .a (.int .i64), .a (.int .i64), .a (.int .i64), .a (.int .i64), .a (.bool)] r → ∃ x : FlyStep, (fun _ => True) x ∧ All2 (R1 w G .bor) (FlyStep.row x) r := by
  intro r h
  obtain ⟨v0, r, rfl, h0, h⟩ := h.cons_inv
  obtain ⟨v1, r, rfl, h1, h⟩ := h.cons_inv
  obtain ⟨v2, r, rfl, h2, h⟩ := h.cons_inv
  obtain ⟨v3, r, rfl, h3, h⟩ := h.cons_inv
  obtain ⟨v4, r, rfl, h4, h⟩ := h.cons_inv
  obtain ⟨v5, r, rfl, h5, h⟩ := h.cons_inv
  obtain ⟨v6, r, rfl, h6, h⟩ := h.cons_inv
  obtain rfl := h.nil_inv
  obtain ⟨x0, rfl, _⟩ : RA (.int .i64) _ := h0
  obtain ⟨x1, rfl, _⟩ : RA (.int .i64) _ := h1
  obtain ⟨x2, rfl, _⟩ : RA (.int .i64) _ := h2
  obtain ⟨x3, rfl, _⟩ : RA (.int .i64) _ := h3
  obtain ⟨x4, rfl, _⟩ : RA (.int .i64) _ := h4
  obtain ⟨x5, rfl, _⟩ : RA (.int .i64) _ := h5
  obtain ⟨x6, rfl⟩ : RA .bool _ := h6
  exact ⟨⟨x0, x1, x2, x3, x4, x5, x6⟩, trivial, .cons ⟨rfl, rfl⟩ (.cons ⟨rfl, rfl⟩ (.cons ⟨rfl, rfl⟩ (.cons ⟨rfl, rfl⟩ (.cons ⟨rfl, rfl⟩ (.cons ⟨rfl, rfl⟩ (.cons ⟨rfl, rfl⟩ .nil))))))⟩
theorem LinkHeld.rdB {w : World} {G : Gh} (hG : ∀ b, b < w.heap.size → G.own b = .bor) : ∀ r, All2 (RB w) [.a (.str), .a (.int .i64), .a (.int .i64), .a (.int .i64), .sl 7 [.int .i64, .int .i64, .int .i64, .int .i64, .int .i64, .int .i64, .bool], .a (.int .i64), .a (.int .i64), .a (.int .i64), .a (.int .i64), .a (.int .i64), .sl 7 [.int .i64, .int .i64, .int .i64, .int .i64, .int .i64, .int .i64, .bool], .a (.int .i64), .a (.int .i64)] r → ∃ x : LinkHeld, LinkHeld.big x ∧ All2 (R1 w G .bor) (LinkHeld.row x) r := by
  intro r h
  obtain ⟨v0, r, rfl, h0, h⟩ := h.cons_inv
  obtain ⟨v1, r, rfl, h1, h⟩ := h.cons_inv
  obtain ⟨v2, r, rfl, h2, h⟩ := h.cons_inv
  obtain ⟨v3, r, rfl, h3, h⟩ := h.cons_inv
  obtain ⟨v4, r, rfl, h4, h⟩ := h.cons_inv
  obtain ⟨v5, r, rfl, h5, h⟩ := h.cons_inv
  obtain ⟨v6, r, rfl, h6, h⟩ := h.cons_inv
  obtain ⟨v7, r, rfl, h7, h⟩ := h.cons_inv
  obtain ⟨v8, r, rfl, h8, h⟩ := h.cons_inv
  obtain ⟨v9, r, rfl, h9, h⟩ := h.cons_inv
  obtain ⟨v10, r, rfl, h10, h⟩ := h.cons_inv
  obtain ⟨v11, r, rfl, h11, h⟩ := h.cons_inv
  obtain ⟨v12, r, rfl, h12, h⟩ := h.cons_inv
  obtain rfl := h.nil_inv
  obtain ⟨x0, rfl, b0⟩ : RA .str _ := h0
  obtain ⟨x1, rfl, _⟩ : RA (.int .i64) _ := h1
  obtain ⟨x2, rfl, _⟩ : RA (.int .i64) _ := h2
  obtain ⟨x3, rfl, _⟩ : RA (.int .i64) _ := h3
  obtain ⟨x4, b4, h4⟩ := rd1 (ks := [.int .i64, .int .i64, .int .i64, .int .i64, .int .i64, .int .i64, .bool]) (g := FlyStep.vals) hG FlyStep.rdA h4
  obtain ⟨x5, rfl, _⟩ : RA (.int .i64) _ := h5
  obtain ⟨x6, rfl, _⟩ : RA (.int .i64) _ := h6
  obtain ⟨x7, rfl, _⟩ : RA (.int .i64) _ := h7
  obtain ⟨x8, rfl, _⟩ : RA (.int .i64) _ := h8
  obtain ⟨x9, rfl, _⟩ : RA (.int .i64) _ := h9
  obtain ⟨x10, b10, h10⟩ := rd1 (ks := [.int .i64, .int .i64, .int .i64, .int .i64, .int .i64, .int .i64, .bool]) (g := FlyStep.vals) hG FlyStep.rdA h10
  obtain ⟨x11, rfl, _⟩ : RA (.int .i64) _ := h11
  obtain ⟨x12, rfl, _⟩ : RA (.int .i64) _ := h12
  exact ⟨⟨x0, x1, ⟨⟨x2, x3⟩, x4, x5, x6⟩, x7, ⟨⟨x8, x9⟩, x10, x11, x12⟩⟩, ⟨b0, b4, b10⟩, .cons ⟨rfl, rfl⟩ (.cons ⟨rfl, rfl⟩ (.cons ⟨rfl, rfl⟩ (.cons ⟨rfl, rfl⟩ (.cons h4 (.cons ⟨rfl, rfl⟩ (.cons ⟨rfl, rfl⟩ (.cons ⟨rfl, rfl⟩ (.cons ⟨rfl, rfl⟩ (.cons ⟨rfl, rfl⟩ (.cons h10 (.cons ⟨rfl, rfl⟩ (.cons ⟨rfl, rfl⟩ .nil))))))))))))⟩
theorem FlyPath.rdC {w : World} {G : Gh} (hG : ∀ b, b < w.heap.size → G.own b = .bor) : ∀ r, All2 (RK w) [.a (.int .i64), .a (.int .i64), .sl 7 [.a (.int .i64), .a (.int .i64), .a (.int .i64), .a (.int .i64), .a (.int .i64), .a (.int .i64), .a (.bool)], .a (.int .i64), .a (.int .i64)] r → ∃ x : FlyPath, FlyPath.big x ∧ All2 (RC w G) (FlyPath.cs .bor x) r := by
  intro r h
  obtain ⟨v0, r, rfl, h0, h⟩ := h.cons_inv
  obtain ⟨v1, r, rfl, h1, h⟩ := h.cons_inv
  obtain ⟨v2, r, rfl, h2, h⟩ := h.cons_inv
  obtain ⟨v3, r, rfl, h3, h⟩ := h.cons_inv
  obtain ⟨v4, r, rfl, h4, h⟩ := h.cons_inv
  obtain rfl := h.nil_inv
  obtain ⟨x0, rfl, _⟩ : RA (.int .i64) _ := h0
  obtain ⟨x1, rfl, _⟩ : RA (.int .i64) _ := h1
  obtain ⟨x2, b2, c2, h2⟩ := rd2 (ks := [.a (.int .i64), .a (.int .i64), .a (.int .i64), .a (.int .i64), .a (.int .i64), .a (.int .i64), .a (.bool)]) (g := FlyStep.row) (bg := (fun _ => True)) hG (fun _ => rfl) (FlyStep.rdB hG) h2
  obtain ⟨x3, rfl, _⟩ : RA (.int .i64) _ := h3
  obtain ⟨x4, rfl, _⟩ : RA (.int .i64) _ := h4
  exact ⟨⟨⟨x0, x1⟩, x2, x3, x4⟩, b2, .cons rfl (.cons rfl (.cons h2 (.cons rfl (.cons rfl .nil))))⟩
theorem LinkCraft.rdC {w : World} {G : Gh} (hG : ∀ b, b < w.heap.size → G.own b = .bor) : ∀ r, All2 (RK w) [.a (.str), .a (.int .i64), .a (.int .i64), .a (.int .i64), .a (.int .i64), .sl 7 [.a (.int .i64), .a (.int .i64), .a (.int .i64), .a (.int .i64), .a (.int .i64), .a (.int .i64), .a (.bool)], .a (.int .i64), .a (.int .i64), .sl 1 [.a (.int .i64)]] r → ∃ x : LinkCraft, LinkCraft.big x ∧ All2 (RC w G) (LinkCraft.cs .bor x) r := by
  intro r h
  obtain ⟨v0, r, rfl, h0, h⟩ := h.cons_inv
  obtain ⟨v1, r, rfl, h1, h⟩ := h.cons_inv
  obtain ⟨v2, r, rfl, h2, h⟩ := h.cons_inv
  obtain ⟨v3, r, rfl, h3, h⟩ := h.cons_inv
  obtain ⟨v4, r, rfl, h4, h⟩ := h.cons_inv
  obtain ⟨v5, r, rfl, h5, h⟩ := h.cons_inv
  obtain ⟨v6, r, rfl, h6, h⟩ := h.cons_inv
  obtain ⟨v7, r, rfl, h7, h⟩ := h.cons_inv
  obtain ⟨v8, r, rfl, h8, h⟩ := h.cons_inv
  obtain rfl := h.nil_inv
  obtain ⟨x0, rfl, b0⟩ : RA .str _ := h0
  obtain ⟨x1, rfl, _⟩ : RA (.int .i64) _ := h1
  obtain ⟨x2, rfl, _⟩ : RA (.int .i64) _ := h2
  obtain ⟨x3, rfl, _⟩ : RA (.int .i64) _ := h3
  obtain ⟨x4, rfl, _⟩ : RA (.int .i64) _ := h4
  obtain ⟨x5, b5, c5, h5⟩ := rd2 (ks := [.a (.int .i64), .a (.int .i64), .a (.int .i64), .a (.int .i64), .a (.int .i64), .a (.int .i64), .a (.bool)]) (g := FlyStep.row) (bg := (fun _ => True)) hG (fun _ => rfl) (FlyStep.rdB hG) h5
  obtain ⟨x6, rfl, _⟩ : RA (.int .i64) _ := h6
  obtain ⟨x7, rfl, _⟩ : RA (.int .i64) _ := h7
  obtain ⟨x8, b8, c8, h8⟩ := rd2 (ks := [.a (.int .i64)]) (g := Int.row) (bg := (fun _ => True)) hG (fun _ => rfl) (Int.rdB hG) h8
  exact ⟨⟨x0, x1, x2, ⟨⟨x3, x4⟩, x5, x6, x7⟩, x8⟩, ⟨b0, b5, b8⟩, .cons rfl (.cons rfl (.cons rfl (.cons rfl (.cons rfl (.cons h5 (.cons rfl (.cons rfl (.cons h8 .nil))))))))⟩
theorem LinkBook.rdC {w : World} {G : Gh} (hG : ∀ b, b < w.heap.size → G.own b = .bor) : ∀ r, All2 (RK w) [.a (.int .i64), .sl 13 [.a (.str), .a (.int .i64), .a (.int .i64), .a (.int .i64), .sl 7 [.int .i64, .int .i64, .int .i64, .int .i64, .int .i64, .int .i64, .bool], .a (.int .i64), .a (.int .i64), .a (.int .i64), .a (.int .i64), .a (.int .i64), .sl 7 [.int .i64, .int .i64, .int .i64, .int .i64, .int .i64, .int .i64, .bool], .a (.int .i64), .a (.int .i64)]] r → ∃ x : LinkBook, LinkBook.big x ∧ All2 (RC w G) (LinkBook.cs .bor x) r := by
  intro r h
  obtain ⟨v0, r, rfl, h0, h⟩ := h.cons_inv
  obtain ⟨v1, r, rfl, h1, h⟩ := h.cons_inv
  obtain rfl := h.nil_inv
  obtain ⟨x0, rfl, _⟩ : RA (.int .i64) _ := h0
  obtain ⟨x1, b1, c1, h1⟩ := rd2 (ks := [.a (.str), .a (.int .i64), .a (.int .i64), .a (.int .i64), .sl 7 [.int .i64, .int .i64, .int .i64, .int .i64, .int .i64, .int .i64, .bool], .a (.int .i64), .a (.int .i64), .a (.int .i64), .a (.int .i64), .a (.int .i64), .sl 7 [.int .i64, .int .i64, .int .i64, .int .i64, .int .i64, .int .i64, .bool], .a (.int .i64), .a (.int .i64)]) (g := LinkHeld.row) (bg := LinkHeld.big) hG (fun _ => rfl) (LinkHeld.rdB hG) h1
  exact ⟨⟨x0, x1⟩, ⟨b1, c1⟩, .cons rfl (.cons h1 .nil)⟩
theorem LinkWord.rdC {w : World} {G : Gh} (hG : ∀ b, b < w.heap.size → G.own b = .bor) : ∀ r, All2 (RK w) [.a (.int .i64), .a (.str), .a (.int .i64), .a (.int .i64), .a (.int .i64), .sl 7 [.a (.int .i64), .a (.int .i64), .a (.int .i64), .a (.int .i64), .a (.int .i64), .a (.int .i64), .a (.bool)], .a (.int .i64), .a (.int .i64)] r → ∃ x : LinkWord, LinkWord.big x ∧ All2 (RC w G) (LinkWord.cs .bor x) r := by
  intro r h
  obtain ⟨v0, r, rfl, h0, h⟩ := h.cons_inv
  obtain ⟨v1, r, rfl, h1, h⟩ := h.cons_inv
  obtain ⟨v2, r, rfl, h2, h⟩ := h.cons_inv
  obtain ⟨v3, r, rfl, h3, h⟩ := h.cons_inv
  obtain ⟨v4, r, rfl, h4, h⟩ := h.cons_inv
  obtain ⟨v5, r, rfl, h5, h⟩ := h.cons_inv
  obtain ⟨v6, r, rfl, h6, h⟩ := h.cons_inv
  obtain ⟨v7, r, rfl, h7, h⟩ := h.cons_inv
  obtain rfl := h.nil_inv
  obtain ⟨x0, rfl, _⟩ : RA (.int .i64) _ := h0
  obtain ⟨x1, rfl, b1⟩ : RA .str _ := h1
  obtain ⟨x2, rfl, _⟩ : RA (.int .i64) _ := h2
  obtain ⟨x3, rfl, _⟩ : RA (.int .i64) _ := h3
  obtain ⟨x4, rfl, _⟩ : RA (.int .i64) _ := h4
  obtain ⟨x5, b5, c5, h5⟩ := rd2 (ks := [.a (.int .i64), .a (.int .i64), .a (.int .i64), .a (.int .i64), .a (.int .i64), .a (.int .i64), .a (.bool)]) (g := FlyStep.row) (bg := (fun _ => True)) hG (fun _ => rfl) (FlyStep.rdB hG) h5
  obtain ⟨x6, rfl, _⟩ : RA (.int .i64) _ := h6
  obtain ⟨x7, rfl, _⟩ : RA (.int .i64) _ := h7
  exact ⟨⟨x0, x1, x2, ⟨⟨x3, x4⟩, x5, x6, x7⟩⟩, ⟨b1, b5⟩, .cons rfl (.cons rfl (.cons rfl (.cons rfl (.cons rfl (.cons h5 (.cons rfl (.cons rfl .nil)))))))⟩
end Go.Lap

