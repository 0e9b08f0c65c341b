/-
  The program's table of rates, and the contracts of timecode.find: for each of the eight rates the row, for any other rate none. Condition: the package variable 'rates' holds its table.
-/
import Derived.Test.YtfnmjabegajniaaDoorProg
import Derived.Test.YtfnmjabegajniaaDoorPlain
import Derived.WalkKit
import Derived.WalkSpells
import Derived.WalkLawsBesides
import Derived.Handy
import Derived.Lib.Hide
namespace Go.Proofs.YtfnmjabegajniaaDoor
open Go.RowKit
def tabCells : Array Value := #[.int .i64 24000, .int .i64 1001, .int .i64 24, .int .i64 0, .int .i64 24, .int .i64 1, .int .i64 24, .int .i64 0, .int .i64 25, .int .i64 1, .int .i64 25, .int .i64 0, .int .i64 30000, .int .i64 1001, .int .i64 30, .int .i64 2, .int .i64 30, .int .i64 1, .int .i64 30, .int .i64 0, .int .i64 50, .int .i64 1, .int .i64 50, .int .i64 0, .int .i64 60000, .int .i64 1001, .int .i64 60, .int .i64 4, .int .i64 60, .int .i64 1, .int .i64 60, .int .i64 0]
theorem ix0 (w : World) : (Instr.index 63 (.agg tabCells) (.int .i64 0)).run Tryd.prog w = .ok (.agg #[.int .i64 24000, .int .i64 1001, .int .i64 24, .int .i64 0]) w := by kernel_rfl
theorem ix1 (w : World) : (Instr.index 63 (.agg tabCells) (.int .i64 1)).run Tryd.prog w = .ok (.agg #[.int .i64 24, .int .i64 1, .int .i64 24, .int .i64 0]) w := by kernel_rfl
theorem ix2 (w : World) : (Instr.index 63 (.agg tabCells) (.int .i64 2)).run Tryd.prog w = .ok (.agg #[.int .i64 25, .int .i64 1, .int .i64 25, .int .i64 0]) w := by kernel_rfl
theorem ix3 (w : World) : (Instr.index 63 (.agg tabCells) (.int .i64 3)).run Tryd.prog w = .ok (.agg #[.int .i64 30000, .int .i64 1001, .int .i64 30, .int .i64 2]) w := by kernel_rfl
theorem ix4 (w : World) : (Instr.index 63 (.agg tabCells) (.int .i64 4)).run Tryd.prog w = .ok (.agg #[.int .i64 30, .int .i64 1, .int .i64 30, .int .i64 0]) w := by kernel_rfl
theorem ix5 (w : World) : (Instr.index 63 (.agg tabCells) (.int .i64 5)).run Tryd.prog w = .ok (.agg #[.int .i64 50, .int .i64 1, .int .i64 50, .int .i64 0]) w := by kernel_rfl
theorem ix6 (w : World) : (Instr.index 63 (.agg tabCells) (.int .i64 6)).run Tryd.prog w = .ok (.agg #[.int .i64 60000, .int .i64 1001, .int .i64 60, .int .i64 4]) w := by kernel_rfl
theorem ix7 (w : World) : (Instr.index 63 (.agg tabCells) (.int .i64 7)).run Tryd.prog w = .ok (.agg #[.int .i64 60, .int .i64 1, .int .i64 60, .int .i64 0]) w := by kernel_rfl
theorem info63 : (Tryd.prog.info? 63).map (·.size) = some tabCells.size := by kernel_rfl
def Tab (w : World) : Prop := ∃ t fr, w.heap[0]? = some (.cells tabCells t fr)
theorem Tab.pos {w : World} (h : Tab w) : 0 < w.heap.size := by
  obtain ⟨t, fr, hg⟩ := h
  rcases Nat.eq_zero_or_pos w.heap.size with h0 | h0
  · rw [Array.getElem?_eq_none (by omega)] at hg; cases hg
  · exact h0
theorem Tab.below {w w' : World} {B : Nat} (h : Tab w) (hb : Below B w w') (hB : 0 < B) : Tab w' := by
  obtain ⟨t, fr, hg⟩ := h
  exact ⟨t, fr, (hb.block 0 hB).trans hg⟩
theorem Tab.alloc {w : World} (h : Tab w) (o : Obj) : Tab (w.alloc o) := h.below ((Below.refl _ _).alloc (Nat.le_refl _) o) h.pos

theorem Tab.two {w : World} {t : TypeId} {fr : Nat × Nat} (hg : w.heap[0]? = some (.cells tabCells t fr)) (a b : Obj) : ((w.alloc a).alloc b).heap[0]? = some (.cells tabCells t fr) := by
  have hp : 0 < w.heap.size := Tab.pos ⟨t, fr, hg⟩
  have hb : Below w.heap.size w ((w.alloc a).alloc b) := ((Below.refl _ _).alloc (Nat.le_refl _) a).alloc (by simp) b
  exact (hb.block 0 hp).trans hg

abbrev rate (n d : Int) : Value := .agg #[.int .i64 n, .int .i64 d]
abbrev rowV (n d b p : Int) : Value := .agg #[.int .i64 n, .int .i64 d, .int .i64 b, .int .i64 p]
def NoRow (n d : Int) : Prop := ¬ (24000 = n ∧ 1001 = d) ∧ ¬ (24 = n ∧ 1 = d) ∧ ¬ (25 = n ∧ 1 = d) ∧ ¬ (30000 = n ∧ 1001 = d) ∧ ¬ (30 = n ∧ 1 = d) ∧ ¬ (50 = n ∧ 1 = d) ∧ ¬ (60000 = n ∧ 1001 = d) ∧ ¬ (60 = n ∧ 1 = d)
theorem row_or (n d : Int) : (∃ b p, Pl.Row n d b p) ∨ NoRow n d := by
  by_cases h0 : 24000 = n ∧ 1001 = d
  · obtain ⟨rfl, rfl⟩ := h0
    exact .inl ⟨24, 0, by simp [Pl.Row]⟩
  by_cases h1 : 24 = n ∧ 1 = d
  · obtain ⟨rfl, rfl⟩ := h1
    exact .inl ⟨24, 0, by simp [Pl.Row]⟩
  by_cases h2 : 25 = n ∧ 1 = d
  · obtain ⟨rfl, rfl⟩ := h2
    exact .inl ⟨25, 0, by simp [Pl.Row]⟩
  by_cases h3 : 30000 = n ∧ 1001 = d
  · obtain ⟨rfl, rfl⟩ := h3
    exact .inl ⟨30, 2, by simp [Pl.Row]⟩
  by_cases h4 : 30 = n ∧ 1 = d
  · obtain ⟨rfl, rfl⟩ := h4
    exact .inl ⟨30, 0, by simp [Pl.Row]⟩
  by_cases h5 : 50 = n ∧ 1 = d
  · obtain ⟨rfl, rfl⟩ := h5
    exact .inl ⟨50, 0, by simp [Pl.Row]⟩
  by_cases h6 : 60000 = n ∧ 1001 = d
  · obtain ⟨rfl, rfl⟩ := h6
    exact .inl ⟨60, 4, by simp [Pl.Row]⟩
  by_cases h7 : 60 = n ∧ 1 = d
  · obtain ⟨rfl, rfl⟩ := h7
    exact .inl ⟨60, 0, by simp [Pl.Row]⟩
  exact .inr ⟨h0, h1, h2, h3, h4, h5, h6, h7⟩
theorem eq_no (a b n d : Int) (h : ¬ (a = n ∧ b = d)) (w : World) : (binOp .eql 23 (.agg #[.int .i64 a, .int .i64 b]) (.agg #[.int .i64 n, .int .i64 d])).run Tryd.prog w = .ok (.bool false) w := by
  go_simp
  intro h1 h2
  exact h ⟨h1, h2⟩
set_option maxHeartbeats 400000 in
theorem find_0 (w : World) (ht : Tab w) : Calls Tryd.prog 37 #[rate 24000 1001] w fun e w' => e = .returned (.tuple #[rowV 24000 1001 24 0, .bool true]) ∧ Below w.heap.size w w' := by
  obtain ⟨t, fr, hg⟩ := ht
  have H := fun a b => Lib.hid (Tab.two hg a b)
  have h0 := ix0
  have h1 := ix1
  have h2 := ix2
  have h3 := ix3
  have h4 := ix4
  have h5 := ix5
  have h6 := ix6
  have h7 := ix7
  clear hg
  go_enter Tryd.func37, Tryd.ntmps37
  go_wp2_with (refine wpList_load_row rfl 63 _ rfl 0 rfl t _ fr _ (H _ _).out Tryd.underlying63 rfl info63 ?_)
  go_rounds 9
  go_returns
  exact ⟨rfl, by go_grown⟩
set_option maxHeartbeats 400000 in
theorem find_1 (w : World) (ht : Tab w) : Calls Tryd.prog 37 #[rate 24 1] w fun e w' => e = .returned (.tuple #[rowV 24 1 24 0, .bool true]) ∧ Below w.heap.size w w' := by
  obtain ⟨t, fr, hg⟩ := ht
  have H := fun a b => Lib.hid (Tab.two hg a b)
  have h0 := ix0
  have h1 := ix1
  have h2 := ix2
  have h3 := ix3
  have h4 := ix4
  have h5 := ix5
  have h6 := ix6
  have h7 := ix7
  clear hg
  go_enter Tryd.func37, Tryd.ntmps37
  go_wp2_with (refine wpList_load_row rfl 63 _ rfl 0 rfl t _ fr _ (H _ _).out Tryd.underlying63 rfl info63 ?_)
  go_rounds 9
  go_returns
  exact ⟨rfl, by go_grown⟩
set_option maxHeartbeats 400000 in
theorem find_2 (w : World) (ht : Tab w) : Calls Tryd.prog 37 #[rate 25 1] w fun e w' => e = .returned (.tuple #[rowV 25 1 25 0, .bool true]) ∧ Below w.heap.size w w' := by
  obtain ⟨t, fr, hg⟩ := ht
  have H := fun a b => Lib.hid (Tab.two hg a b)
  have h0 := ix0
  have h1 := ix1
  have h2 := ix2
  have h3 := ix3
  have h4 := ix4
  have h5 := ix5
  have h6 := ix6
  have h7 := ix7
  clear hg
  go_enter Tryd.func37, Tryd.ntmps37
  go_wp2_with (refine wpList_load_row rfl 63 _ rfl 0 rfl t _ fr _ (H _ _).out Tryd.underlying63 rfl info63 ?_)
  go_rounds 9
  go_returns
  exact ⟨rfl, by go_grown⟩
set_option maxHeartbeats 400000 in
theorem find_3 (w : World) (ht : Tab w) : Calls Tryd.prog 37 #[rate 30000 1001] w fun e w' => e = .returned (.tuple #[rowV 30000 1001 30 2, .bool true]) ∧ Below w.heap.size w w' := by
  obtain ⟨t, fr, hg⟩ := ht
  have H := fun a b => Lib.hid (Tab.two hg a b)
  have h0 := ix0
  have h1 := ix1
  have h2 := ix2
  have h3 := ix3
  have h4 := ix4
  have h5 := ix5
  have h6 := ix6
  have h7 := ix7
  clear hg
  go_enter Tryd.func37, Tryd.ntmps37
  go_wp2_with (refine wpList_load_row rfl 63 _ rfl 0 rfl t _ fr _ (H _ _).out Tryd.underlying63 rfl info63 ?_)
  go_rounds 9
  go_returns
  exact ⟨rfl, by go_grown⟩
set_option maxHeartbeats 400000 in
theorem find_4 (w : World) (ht : Tab w) : Calls Tryd.prog 37 #[rate 30 1] w fun e w' => e = .returned (.tuple #[rowV 30 1 30 0, .bool true]) ∧ Below w.heap.size w w' := by
  obtain ⟨t, fr, hg⟩ := ht
  have H := fun a b => Lib.hid (Tab.two hg a b)
  have h0 := ix0
  have h1 := ix1
  have h2 := ix2
  have h3 := ix3
  have h4 := ix4
  have h5 := ix5
  have h6 := ix6
  have h7 := ix7
  clear hg
  go_enter Tryd.func37, Tryd.ntmps37
  go_wp2_with (refine wpList_load_row rfl 63 _ rfl 0 rfl t _ fr _ (H _ _).out Tryd.underlying63 rfl info63 ?_)
  go_rounds 9
  go_returns
  exact ⟨rfl, by go_grown⟩
set_option maxHeartbeats 400000 in
theorem find_5 (w : World) (ht : Tab w) : Calls Tryd.prog 37 #[rate 50 1] w fun e w' => e = .returned (.tuple #[rowV 50 1 50 0, .bool true]) ∧ Below w.heap.size w w' := by
  obtain ⟨t, fr, hg⟩ := ht
  have H := fun a b => Lib.hid (Tab.two hg a b)
  have h0 := ix0
  have h1 := ix1
  have h2 := ix2
  have h3 := ix3
  have h4 := ix4
  have h5 := ix5
  have h6 := ix6
  have h7 := ix7
  clear hg
  go_enter Tryd.func37, Tryd.ntmps37
  go_wp2_with (refine wpList_load_row rfl 63 _ rfl 0 rfl t _ fr _ (H _ _).out Tryd.underlying63 rfl info63 ?_)
  go_rounds 9
  go_returns
  exact ⟨rfl, by go_grown⟩
set_option maxHeartbeats 400000 in
theorem find_6 (w : World) (ht : Tab w) : Calls Tryd.prog 37 #[rate 60000 1001] w fun e w' => e = .returned (.tuple #[rowV 60000 1001 60 4, .bool true]) ∧ Below w.heap.size w w' := by
  obtain ⟨t, fr, hg⟩ := ht
  have H := fun a b => Lib.hid (Tab.two hg a b)
  have h0 := ix0
  have h1 := ix1
  have h2 := ix2
  have h3 := ix3
  have h4 := ix4
  have h5 := ix5
  have h6 := ix6
  have h7 := ix7
  clear hg
  go_enter Tryd.func37, Tryd.ntmps37
  go_wp2_with (refine wpList_load_row rfl 63 _ rfl 0 rfl t _ fr _ (H _ _).out Tryd.underlying63 rfl info63 ?_)
  go_rounds 9
  go_returns
  exact ⟨rfl, by go_grown⟩
set_option maxHeartbeats 400000 in
theorem find_7 (w : World) (ht : Tab w) : Calls Tryd.prog 37 #[rate 60 1] w fun e w' => e = .returned (.tuple #[rowV 60 1 60 0, .bool true]) ∧ Below w.heap.size w w' := by
  obtain ⟨t, fr, hg⟩ := ht
  have H := fun a b => Lib.hid (Tab.two hg a b)
  have h0 := ix0
  have h1 := ix1
  have h2 := ix2
  have h3 := ix3
  have h4 := ix4
  have h5 := ix5
  have h6 := ix6
  have h7 := ix7
  clear hg
  go_enter Tryd.func37, Tryd.ntmps37
  go_wp2_with (refine wpList_load_row rfl 63 _ rfl 0 rfl t _ fr _ (H _ _).out Tryd.underlying63 rfl info63 ?_)
  go_rounds 9
  go_returns
  exact ⟨rfl, by go_grown⟩
theorem find_yes {n d b p : Int} (h : Pl.Row n d b p) (w : World) (ht : Tab w) : Calls Tryd.prog 37 #[rate n d] w fun e w' => e = .returned (.tuple #[rowV n d b p, .bool true]) ∧ Below w.heap.size w w' := by
  rcases h with ⟨rfl, rfl, rfl, rfl⟩ | ⟨rfl, rfl, rfl, rfl⟩ | ⟨rfl, rfl, rfl, rfl⟩ | ⟨rfl, rfl, rfl, rfl⟩ | ⟨rfl, rfl, rfl, rfl⟩ | ⟨rfl, rfl, rfl, rfl⟩ | ⟨rfl, rfl, rfl, rfl⟩ | ⟨rfl, rfl, rfl, rfl⟩
  · exact find_0 w ht
  · exact find_1 w ht
  · exact find_2 w ht
  · exact find_3 w ht
  · exact find_4 w ht
  · exact find_5 w ht
  · exact find_6 w ht
  · exact find_7 w ht
set_option maxHeartbeats 400000 in
theorem find_no (n d : Int) (w : World) (ht : Tab w) (c : NoRow n d) :
    Calls Tryd.prog 37 #[rate n d] w fun e w' => e = .returned (.tuple #[rowV 0 0 0 0, .bool false]) ∧ Below w.heap.size w w' := by
  obtain ⟨t, fr, hg⟩ := ht
  have H := fun a b => Lib.hid (Tab.two hg a b)
  have h0 := ix0
  have h1 := ix1
  have h2 := ix2
  have h3 := ix3
  have h4 := ix4
  have h5 := ix5
  have h6 := ix6
  have h7 := ix7
  obtain ⟨c0, c1, c2, c3, c4, c5, c6, c7⟩ := c
  have e0 := eq_no _ _ _ _ c0
  have e1 := eq_no _ _ _ _ c1
  have e2 := eq_no _ _ _ _ c2
  have e3 := eq_no _ _ _ _ c3
  have e4 := eq_no _ _ _ _ c4
  have e5 := eq_no _ _ _ _ c5
  have e6 := eq_no _ _ _ _ c6
  have e7 := eq_no _ _ _ _ c7
  clear hg c0 c1 c2 c3 c4 c5 c6 c7
  go_enter Tryd.func37, Tryd.ntmps37
  go_wp2_with (refine wpList_load_row rfl 63 _ rfl 0 rfl t _ fr _ (H _ _).out Tryd.underlying63 rfl info63 ?_)
  go_rounds 9
  go_returns
  exact ⟨rfl, by go_grown⟩
end Go.Proofs.YtfnmjabegajniaaDoor
