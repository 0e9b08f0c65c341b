/-
  What the statements' proofs share: the helper rate gives one of the eight rates; what a call leaves alone.
-/
import Derived.Test.YtfnmjabegajniaaDoorLaid
import Derived.Test.YtfnmjabegajniaaDoorSane
import Derived.Test.YtfnmjabegajniaaDoorPick
namespace Go.Proofs.YtfnmjabegajniaaDoor
open Go.ChangeShapes Go.WideShapes Go.ChangeAt Go.RowKit
def RatePost (e : Ending) : Prop := ∃ n d b p, Pl.Row n d b p ∧ e = .returned (rate n d)
theorem rate_some (c : Int) (w : World) (h1 : -9223372036854775808 ≤ c) (h2 : c ≤ 9223372036854775807) : Calls Tryd.prog 13 #[.int .i64 c] w fun e w' => RatePost e ∧ Below w.heap.size w w' :=
  (rate_any c w h1 h2).mono fun _ _ hh => ⟨⟨_, _, _, _, row_of (pickV c 8).toNat (by have := pick_range c 8 (by omega); omega), hh.1⟩, hh.2⟩
theorem keepB {B : Nat} {W w1 w2 : World} (hB : Below B W w1) (hs : B ≤ W.heap.size) (hb : Below w1.heap.size w1 w2) : Below B W w2 := Below.via hB (Nat.le_trans hs hB.size) hb
theorem cellsB {W w1 : World} {n d : Int} {t : TypeId} (hB : Below (W.heap.size + 1) (W.alloc (.cells #[.int .i64 n, .int .i64 d] t)) w1) :
    w1.cell? ⟨W.heap.size, 0, none⟩ = some (.int .i64 n) ∧ w1.cell? ⟨W.heap.size, 1, none⟩ = some (.int .i64 d) := by
  refine ⟨?_, ?_⟩
  · rw [hB.cell (p := ⟨W.heap.size, 0, none⟩) (by simp)]; simp
  · rw [hB.cell (p := ⟨W.heap.size, 1, none⟩) (by simp)]; simp
end Go.Proofs.YtfnmjabegajniaaDoor
