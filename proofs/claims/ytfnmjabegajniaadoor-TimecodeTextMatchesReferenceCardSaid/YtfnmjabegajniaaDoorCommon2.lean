/-
  What the statements' proofs share: what a chain of calls leaves alone.
-/
import Derived.Test.YtfnmjabegajniaaDoorCommon
import Derived.Deep.RegionHeld3
namespace Go.Proofs.YtfnmjabegajniaaDoor
open Go.RowKit
theorem keep2 {w w' : World} {g : Nat} {x0 x1 : Value} (hb : Below w.heap.size w w') (hg : g < w.heap.size) (h0 : w.cell? ⟨g, 0, none⟩ = some x0) (h1 : w.cell? ⟨g, 1, none⟩ = some x1) :
    w'.cell? ⟨g, 0, none⟩ = some x0 ∧ w'.cell? ⟨g, 1, none⟩ = some x1 :=
  ⟨(hb.cell (p := ⟨g, 0, none⟩) hg).trans h0, (hb.cell (p := ⟨g, 1, none⟩) hg).trans h1⟩
theorem inB {W w1 : World} {o : Obj} (hB : Below (W.heap.size + 1) (W.alloc o) w1) : W.heap.size < w1.heap.size := by
  have := hB.size
  simp at this
  omega
theorem accB {W w1 w2 : World} {o : Obj} (hB : Below (W.heap.size + 1) (W.alloc o) w1) (hb : Below w1.heap.size w1 w2) : Below (W.heap.size + 1) (W.alloc o) w2 := keepB hB (by simp) hb
end Go.Proofs.YtfnmjabegajniaaDoor
