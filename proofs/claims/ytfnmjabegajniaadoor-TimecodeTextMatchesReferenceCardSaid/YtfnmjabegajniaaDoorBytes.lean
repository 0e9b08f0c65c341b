/-
  What the statements' proofs share: the cells of a row; the bytes of a timecode.
-/
import Derived.Test.YtfnmjabegajniaaDoorCommon2
import Derived.Test.YtfnmjabegajniaaDoorRefText
namespace Go.Proofs.YtfnmjabegajniaaDoor
open Go.ChangeShapes Go.WideShapes Go.ChangeAt Go.RowKit Go.PlainAid
theorem cellsR {W w1 : World} {n d b p : Int} {t : TypeId} (hB : Below (W.heap.size + 1) (W.alloc (.cells #[.int .i64 n, .int .i64 d, .int .i64 b, .int .i64 p] t)) w1) :
    w1.cell? ⟨W.heap.size, 0, none⟩ = some (.int .i64 n) ∧ w1.cell? ⟨W.heap.size, 1, none⟩ = some (.int .i64 d) ∧ w1.cell? ⟨W.heap.size, 2, none⟩ = some (.int .i64 b) ∧ w1.cell? ⟨W.heap.size, 3, none⟩ = some (.int .i64 p) := by
  refine ⟨?_, ?_, ?_, ?_⟩
  · rw [hB.cell (p := ⟨W.heap.size, 0, none⟩) (by simp)]; simp
  · rw [hB.cell (p := ⟨W.heap.size, 1, none⟩) (by simp)]; simp
  · rw [hB.cell (p := ⟨W.heap.size, 2, none⟩) (by simp)]; simp
  · rw [hB.cell (p := ⟨W.heap.size, 3, none⟩) (by simp)]; simp
/-- the bytes of a timecode -/
theorem code_bytes {h m s f p : Int} (a0 : 0 ≤ h) (a1 : h < 100) (a2 : 0 ≤ m) (a3 : m < 100) (a4 : 0 ≤ s) (a5 : s < 100) (a6 : 0 ≤ f) (a7 : f < 100) (z : ByteArray) (hz : strOf (codeL h m s f p) = z) :
    z.size = 11 ∧ bt z 0 = 48 + h / 10 ∧ bt z 1 = 48 + h % 10 ∧ bt z 2 = 58 ∧ bt z 3 = 48 + m / 10 ∧ bt z 4 = 48 + m % 10 ∧ bt z 5 = 58 ∧ bt z 6 = 48 + s / 10 ∧ bt z 7 = 48 + s % 10 ∧ bt z 8 = sepC p ∧ bt z 9 = 48 + f / 10 ∧ bt z 10 = 48 + f % 10 := by
  subst hz
  have hl : (codeL h m s f p).length = 11 := rfl
  have hsep : 0 ≤ sepC p ∧ sepC p < 256 := by unfold sepC; split <;> omega
  refine ⟨by rw [strOf_size, hl], ?_, ?_, ?_, ?_, ?_, ?_, ?_, ?_, ?_, ?_, ?_⟩
  · exact bt_strOf (codeL h m s f p) 0 (by rw [hl]; omega) (show 0 ≤ 48 + h / 10 by omega) (show 48 + h / 10 < 256 by omega)
  · exact bt_strOf (codeL h m s f p) 1 (by rw [hl]; omega) (show 0 ≤ 48 + h % 10 by omega) (show 48 + h % 10 < 256 by omega)
  · exact bt_strOf (codeL h m s f p) 2 (by rw [hl]; omega) (show (0 : Int) ≤ 58 by omega) (show (58 : Int) < 256 by omega)
  · exact bt_strOf (codeL h m s f p) 3 (by rw [hl]; omega) (show 0 ≤ 48 + m / 10 by omega) (show 48 + m / 10 < 256 by omega)
  · exact bt_strOf (codeL h m s f p) 4 (by rw [hl]; omega) (show 0 ≤ 48 + m % 10 by omega) (show 48 + m % 10 < 256 by omega)
  · exact bt_strOf (codeL h m s f p) 5 (by rw [hl]; omega) (show (0 : Int) ≤ 58 by omega) (show (58 : Int) < 256 by omega)
  · exact bt_strOf (codeL h m s f p) 6 (by rw [hl]; omega) (show 0 ≤ 48 + s / 10 by omega) (show 48 + s / 10 < 256 by omega)
  · exact bt_strOf (codeL h m s f p) 7 (by rw [hl]; omega) (show 0 ≤ 48 + s % 10 by omega) (show 48 + s % 10 < 256 by omega)
  · exact bt_strOf (codeL h m s f p) 8 (by rw [hl]; omega) hsep.1 hsep.2
  · exact bt_strOf (codeL h m s f p) 9 (by rw [hl]; omega) (show 0 ≤ 48 + f / 10 by omega) (show 48 + f / 10 < 256 by omega)
  · exact bt_strOf (codeL h m s f p) 10 (by rw [hl]; omega) (show 0 ≤ 48 + f % 10 by omega) (show 48 + f % 10 < 256 by omega)
end Go.Proofs.YtfnmjabegajniaaDoor
