/- Boxes of spans: what the laws' walks carry from call to call. -/
import Derived.Test.YtghlkpaadahpaaaA
namespace Go.Proofs.Ytghlkpaadahpaaa
open Go.RowKit Fl

/-- Block n holds the span (x, y). -/
def Bx (W : World) (n : Nat) (x y : Int) : Prop := W.cell? ⟨n, 0, none⟩ = some (.int .i64 x) ∧ W.cell? ⟨n, 1, none⟩ = some (.int .i64 y) ∧ n < W.heap.size
theorem Bx.c0 {W : World} {n : Nat} {x y : Int} (h : Bx W n x y) : W.cell? ⟨n, 0, none⟩ = some (.int .i64 x) := h.1
theorem Bx.c1 {W : World} {n : Nat} {x y : Int} (h : Bx W n x y) : W.cell? ⟨n, 1, none⟩ = some (.int .i64 y) := h.2.1
theorem Bx.lt {W : World} {n : Nat} {x y : Int} (h : Bx W n x y) : n < W.heap.size := h.2.2
theorem Bx.below {W W' : World} {n : Nat} {x y : Int} (h : Bx W n x y) (hb : Below W.heap.size W W') : Bx W' n x y :=
  ⟨by rw [hb.cell (p := ⟨n, 0, none⟩) h.lt]; exact h.1, by rw [hb.cell (p := ⟨n, 1, none⟩) h.lt]; exact h.2.1, Nat.lt_of_lt_of_le h.lt hb.size⟩
theorem Bx.alloc {W : World} {n : Nat} {x y : Int} (h : Bx W n x y) (o : Obj) : Bx (W.alloc o) n x y :=
  h.below ((Below.refl _ _).alloc (Nat.le_refl _) _)
theorem Bx.new (W : World) (x y : Int) (T : TypeId) : Bx (W.alloc (.cells #[.int .i64 x, .int .i64 y] T)) W.heap.size x y := ⟨by simp, by simp, by simp⟩
theorem Bx.new' {W : World} {n : Nat} (hn : W.heap.size = n) (x y : Int) (T : TypeId) : Bx (W.alloc (.cells #[.int .i64 x, .int .i64 y] T)) n x y := by subst hn; exact Bx.new W x y T
theorem Bx.drew {W : World} {n : Nat} {x y : Int} (h : Bx W n x y) : Bx W.drew n x y := h

end Go.Proofs.Ytghlkpaadahpaaa
