/-
  The contracts of the reference's Valid, Seconds, Frames, Ticks, Convert: at every rate and number what each returns. No condition.
-/
import Derived.Test.YtfnmjabegajniaaDoorRefFind
import Derived.Test.YtfnmjabegajniaaDoorCalc
namespace Go.Proofs.YtfnmjabegajniaaDoor
open Go.RowKit
set_option maxHeartbeats 400000 in
theorem rvalid_yes {n d b p : Int} (h : Pl.Row n d b p) (w : World) : Calls Tryd.prog 24 #[rate n d] w fun e w' => e = .returned (.bool true) ∧ Below w.heap.size w w' := by
  have H := Lib.hid h
  clear h
  go_enter Tryd.func24, Tryd.ntmps24
  go_wp2_with fail
  refine (rfind_yes H.out _).mono ?_
  rintro e w1 ⟨rfl, hb⟩
  have hb1 : Below w.heap.size w w1 := Below.via (by go_grown) (by go_size) hb
  obtain ⟨hc, hf⟩ := bcell hb
  go_wp2
  go_ret
  exact ⟨rfl, by go_grown; exact hb1.size⟩
set_option maxHeartbeats 400000 in
theorem rvalid_no {n d : Int} (h : NoRow n d) (w : World) : Calls Tryd.prog 24 #[rate n d] w fun e w' => e = .returned (.bool false) ∧ Below w.heap.size w w' := by
  have H := Lib.hid h
  clear h
  go_enter Tryd.func24, Tryd.ntmps24
  go_wp2_with fail
  refine (rfind_no H.out _).mono ?_
  rintro e w1 ⟨rfl, hb⟩
  have hb1 : Below w.heap.size w w1 := Below.via (by go_grown) (by go_size) hb
  obtain ⟨hc, hf⟩ := bcell hb
  go_wp2
  go_ret
  exact ⟨rfl, by go_grown; exact hb1.size⟩
theorem rup_any (a b : Int) (w : World) (h0 : 0 ≤ a) (h1 : 1 ≤ b) (h2 : a + b ≤ 4611686018427387904) : Calls Tryd.prog 36 #[.int .i64 a, .int .i64 b] w fun e w' => e = .returned (.int .i64 ((a + b - 1) / b)) ∧ w = w' := by
  go_enter Tryd.func36, Tryd.ntmps36
  go_wp2
  go_ret
  exact ⟨rfl, rfl⟩
theorem risFrame_yes (f : Int) (w : World) (h0 : 0 ≤ f) (h1 : f ≤ 100000000) : Calls Tryd.prog 34 #[.int .i64 f] w fun e w' => e = .returned (.bool true) ∧ w = w' := by
  go_enter Tryd.func34, Tryd.ntmps34
  go_wp2
  go_ret
  exact ⟨rfl, rfl⟩
theorem risFrame_no (f : Int) (w : World) (h0 : ¬ (0 ≤ f ∧ f ≤ 100000000)) : Calls Tryd.prog 34 #[.int .i64 f] w fun e w' => e = .returned (.bool false) ∧ w = w' := by
  by_cases h1 : 0 ≤ f
  · have h2 : decide (f ≤ 100000000) = false := by simp; omega
    clear h0
    go_enter Tryd.func34, Tryd.ntmps34
    go_wp2
    go_ret
    exact ⟨rfl, rfl⟩
  · clear h0
    go_enter Tryd.func34, Tryd.ntmps34
    go_wp2
    go_ret
    exact ⟨rfl, rfl⟩
set_option maxHeartbeats 400000 in
theorem rseconds_yes {n d b p : Int} (h : Pl.Row n d b p) (f : Int) (w : World) (h0 : 0 ≤ f) (h1 : f ≤ 100000000) : Calls Tryd.prog 16 #[rate n d, .int .i64 f] w fun e w' => e = .returned (.int .i64 (f * d / n)) ∧ Below w.heap.size w w' := by
  obtain ⟨b1, b2, b3, b4, _⟩ := Row.bounds h
  obtain ⟨m1, m2⟩ := mul_bd h0 h1 (by omega : 0 ≤ d) b2
  have H := Lib.hid h
  clear h
  go_enter Tryd.func16, Tryd.ntmps16
  go_wp2_with fail
  refine (rvalid_yes H.out _).mono ?_
  rintro e w1 ⟨rfl, hb⟩
  have hb1 : Below w.heap.size w w1 := Below.via (by go_grown) (by go_size) hb
  obtain ⟨hc, hf⟩ := bcell hb
  go_wp2_with fail
  refine (risFrame_yes _ _ h0 h1).mono ?_
  rintro e _ ⟨rfl, rfl⟩
  go_wp2
  go_ret
  exact ⟨rfl, hb1⟩
set_option maxHeartbeats 400000 in
theorem rseconds_norow {n d : Int} (h : NoRow n d) (f : Int) (w : World) : Calls Tryd.prog 16 #[rate n d, .int .i64 f] w fun e w' => e = .returned (.int .i64 (-1)) ∧ Below w.heap.size w w' := by
  have H := Lib.hid h
  clear h
  go_enter Tryd.func16, Tryd.ntmps16
  go_wp2_with fail
  refine (rvalid_no H.out _).mono ?_
  rintro e w1 ⟨rfl, hb⟩
  have hb1 : Below w.heap.size w w1 := Below.via (by go_grown) (by go_size) hb
  obtain ⟨hc, hf⟩ := bcell hb
  go_wp2
  go_ret
  exact ⟨rfl, hb1⟩
set_option maxHeartbeats 400000 in
theorem rseconds_noframe {n d b p : Int} (h : Pl.Row n d b p) (f : Int) (w : World) (h0 : ¬ (0 ≤ f ∧ f ≤ 100000000)) : Calls Tryd.prog 16 #[rate n d, .int .i64 f] w fun e w' => e = .returned (.int .i64 (-1)) ∧ Below w.heap.size w w' := by
  have H := Lib.hid h
  have F := Lib.hid h0
  clear h h0
  go_enter Tryd.func16, Tryd.ntmps16
  go_wp2_with fail
  refine (rvalid_yes H.out _).mono ?_
  rintro e w1 ⟨rfl, hb⟩
  have hb1 : Below w.heap.size w w1 := Below.via (by go_grown) (by go_size) hb
  obtain ⟨hc, hf⟩ := bcell hb
  go_wp2_with fail
  refine (risFrame_no _ _ F.out).mono ?_
  rintro e _ ⟨rfl, rfl⟩
  go_wp2
  go_ret
  exact ⟨rfl, hb1⟩
set_option maxHeartbeats 400000 in
theorem rframes_yes {n d b p : Int} (h : Pl.Row n d b p) (f : Int) (w : World) (h0 : 0 ≤ f) (h1 : f ≤ 10000000000) : Calls Tryd.prog 18 #[rate n d, .int .i64 f] w fun e w' => e = .returned (.int .i64 ((f * n + d - 1) / d)) ∧ Below w.heap.size w w' := by
  obtain ⟨b1, b2, b3, b4, _⟩ := Row.bounds h
  obtain ⟨m1, m2⟩ := mul_bd h0 h1 (by omega : 0 ≤ n) b4
  have H := Lib.hid h
  clear h
  go_enter Tryd.func18, Tryd.ntmps18
  go_wp2_with fail
  refine (rvalid_yes H.out _).mono ?_
  rintro e w1 ⟨rfl, hb⟩
  have hb1 : Below w.heap.size w w1 := Below.via (by go_grown) (by go_size) hb
  obtain ⟨hc, hf⟩ := bcell hb
  go_wp2_with fail
  refine (rup_any _ _ _ (by omega) (by omega) (by omega)).mono ?_
  rintro e _ ⟨rfl, rfl⟩
  go_wp2
  go_ret
  exact ⟨rfl, hb1⟩
set_option maxHeartbeats 400000 in
theorem rframes_norow {n d : Int} (h : NoRow n d) (f : Int) (w : World) : Calls Tryd.prog 18 #[rate n d, .int .i64 f] w fun e w' => e = .returned (.int .i64 (-1)) ∧ Below w.heap.size w w' := by
  have H := Lib.hid h
  clear h
  go_enter Tryd.func18, Tryd.ntmps18
  go_wp2_with fail
  refine (rvalid_no H.out _).mono ?_
  rintro e w1 ⟨rfl, hb⟩
  have hb1 : Below w.heap.size w w1 := Below.via (by go_grown) (by go_size) hb
  obtain ⟨hc, hf⟩ := bcell hb
  go_wp2
  go_ret
  exact ⟨rfl, hb1⟩
set_option maxHeartbeats 400000 in
theorem rframes_noframe {n d b p : Int} (h : Pl.Row n d b p) (f : Int) (w : World) (h0 : ¬ (0 ≤ f ∧ f ≤ 10000000000)) : Calls Tryd.prog 18 #[rate n d, .int .i64 f] w fun e w' => e = .returned (.int .i64 (-1)) ∧ Below w.heap.size w w' := by
  have H := Lib.hid h
  clear h
  by_cases h1 : f < 0
  · clear h0
    go_enter Tryd.func18, Tryd.ntmps18
    go_wp2_with fail
    refine (rvalid_yes H.out _).mono ?_
    rintro e w1 ⟨rfl, hb⟩
    have hb1 : Below w.heap.size w w1 := Below.via (by go_grown) (by go_size) hb
    obtain ⟨hc, hf⟩ := bcell hb
    go_wp2
    go_ret
    exact ⟨rfl, hb1⟩
  · have h2 : 10000000000 < f := by omega
    clear h0
    go_enter Tryd.func18, Tryd.ntmps18
    go_wp2_with fail
    refine (rvalid_yes H.out _).mono ?_
    rintro e w1 ⟨rfl, hb⟩
    have hb1 : Below w.heap.size w w1 := Below.via (by go_grown) (by go_size) hb
    obtain ⟨hc, hf⟩ := bcell hb
    go_wp2
    go_ret
    exact ⟨rfl, hb1⟩
set_option maxHeartbeats 400000 in
theorem rticks_yes {n d b p : Int} (h : Pl.Row n d b p) (f : Int) (w : World) (h0 : 0 ≤ f) (h1 : f ≤ 100000000) : Calls Tryd.prog 20 #[rate n d, .int .i64 f] w fun e w' => e = .returned (.int .i64 (f * 90000 * d / n % 8589934592)) ∧ Below w.heap.size w w' := by
  obtain ⟨b1, b2, b3, b4, _⟩ := Row.bounds h
  obtain ⟨m1, m2⟩ := mul_bd (f := f * 90000) (M := 9000000000000) (by omega) (by omega) (by omega : 0 ≤ d) b2
  have m3 : 0 ≤ f * 90000 * d / n := Int.ediv_nonneg m1 (by omega)
  have H := Lib.hid h
  clear h
  go_enter Tryd.func20, Tryd.ntmps20
  go_wp2_with fail
  refine (rvalid_yes H.out _).mono ?_
  rintro e w1 ⟨rfl, hb⟩
  have hb1 : Below w.heap.size w w1 := Below.via (by go_grown) (by go_size) hb
  obtain ⟨hc, hf⟩ := bcell hb
  go_wp2_with fail
  refine (risFrame_yes _ _ h0 h1).mono ?_
  rintro e _ ⟨rfl, rfl⟩
  go_wp2
  go_ret
  exact ⟨rfl, hb1⟩
set_option maxHeartbeats 400000 in
theorem rticks_norow {n d : Int} (h : NoRow n d) (f : Int) (w : World) : Calls Tryd.prog 20 #[rate n d, .int .i64 f] w fun e w' => e = .returned (.int .i64 (-1)) ∧ Below w.heap.size w w' := by
  have H := Lib.hid h
  clear h
  go_enter Tryd.func20, Tryd.ntmps20
  go_wp2_with fail
  refine (rvalid_no H.out _).mono ?_
  rintro e w1 ⟨rfl, hb⟩
  have hb1 : Below w.heap.size w w1 := Below.via (by go_grown) (by go_size) hb
  obtain ⟨hc, hf⟩ := bcell hb
  go_wp2
  go_ret
  exact ⟨rfl, hb1⟩
set_option maxHeartbeats 400000 in
theorem rticks_noframe {n d b p : Int} (h : Pl.Row n d b p) (f : Int) (w : World) (h0 : ¬ (0 ≤ f ∧ f ≤ 100000000)) : Calls Tryd.prog 20 #[rate n d, .int .i64 f] w fun e w' => e = .returned (.int .i64 (-1)) ∧ Below w.heap.size w w' := by
  have H := Lib.hid h
  have F := Lib.hid h0
  clear h h0
  go_enter Tryd.func20, Tryd.ntmps20
  go_wp2_with fail
  refine (rvalid_yes H.out _).mono ?_
  rintro e w1 ⟨rfl, hb⟩
  have hb1 : Below w.heap.size w w1 := Below.via (by go_grown) (by go_size) hb
  obtain ⟨hc, hf⟩ := bcell hb
  go_wp2_with fail
  refine (risFrame_no _ _ F.out).mono ?_
  rintro e _ ⟨rfl, rfl⟩
  go_wp2
  go_ret
  exact ⟨rfl, hb1⟩
set_option maxHeartbeats 400000 in
theorem rconvert_yes {n d b p n' d' b' p' : Int} (h : Pl.Row n d b p) (h' : Pl.Row n' d' b' p') (f : Int) (w : World) (h0 : 0 ≤ f) (h1 : f ≤ 100000000) : Calls Tryd.prog 22 #[rate n d, .int .i64 f, rate n' d'] w fun e w' => e = .returned (.int .i64 ((f * d * n' + n * d' - 1) / (n * d'))) ∧ Below w.heap.size w w' := by
  obtain ⟨b1, b2, b3, b4, _⟩ := Row.bounds h
  obtain ⟨c1, c2, c3, c4, _⟩ := Row.bounds h'
  obtain ⟨m1, m2⟩ := mul_bd h0 h1 (by omega : 0 ≤ d) b2
  obtain ⟨m3, m4⟩ := mul_bd m1 m2 (by omega : 0 ≤ n') c4
  obtain ⟨m5, m6⟩ := mul_bd (by omega : 0 ≤ n) b4 (by omega : 0 ≤ d') c2
  have m7 : 1 ≤ n * d' := Int.mul_pos (by omega) (by omega)
  have H := Lib.hid h
  have H' := Lib.hid h'
  clear h h'
  go_enter Tryd.func22, Tryd.ntmps22
  go_wp2_with fail
  refine (rvalid_yes H.out _).mono ?_
  rintro e w1 ⟨rfl, hb⟩
  have hb1 : Below w.heap.size w w1 := Below.via (by go_grown) (by go_size) hb
  obtain ⟨hc, hf⟩ := bcell hb
  go_wp2_with fail
  refine (rvalid_yes H'.out _).mono ?_
  rintro e w2 ⟨rfl, hb2⟩
  have hb3 : Below w.heap.size w w2 := Below.via hb1 hb1.size hb2
  have hz : w.heap.size + 1 < w1.heap.size := by have := hb.size; simp at this; omega
  have hz0 : w.heap.size < w1.heap.size := by omega
  obtain ⟨hc2, hf2⟩ := bcell hb2
  go_wp2_with fail
  refine (risFrame_yes _ _ h0 h1).mono ?_
  rintro e _ ⟨rfl, rfl⟩
  go_wp2_with fail
  refine (rup_any _ _ _ (by omega) (by omega) (by omega)).mono ?_
  rintro e _ ⟨rfl, rfl⟩
  go_wp2
  go_ret
  exact ⟨rfl, hb3⟩
set_option maxHeartbeats 400000 in
theorem rconvert_norow {n d n' d' : Int} (h : NoRow n d) (f : Int) (w : World) : Calls Tryd.prog 22 #[rate n d, .int .i64 f, rate n' d'] w fun e w' => e = .returned (.int .i64 (-1)) ∧ Below w.heap.size w w' := by
  have H := Lib.hid h
  clear h
  go_enter Tryd.func22, Tryd.ntmps22
  go_wp2_with fail
  refine (rvalid_no H.out _).mono ?_
  rintro e w1 ⟨rfl, hb⟩
  have hb1 : Below w.heap.size w w1 := Below.via (by go_grown) (by go_size) hb
  obtain ⟨hc, hf⟩ := bcell hb
  go_wp2
  go_ret
  exact ⟨rfl, hb1⟩
set_option maxHeartbeats 400000 in
theorem rconvert_norow2 {n d b p n' d' : Int} (h : Pl.Row n d b p) (h' : NoRow n' d') (f : Int) (w : World) : Calls Tryd.prog 22 #[rate n d, .int .i64 f, rate n' d'] w fun e w' => e = .returned (.int .i64 (-1)) ∧ Below w.heap.size w w' := by
  have H := Lib.hid h
  have H' := Lib.hid h'
  clear h h'
  go_enter Tryd.func22, Tryd.ntmps22
  go_wp2_with fail
  refine (rvalid_yes H.out _).mono ?_
  rintro e w1 ⟨rfl, hb⟩
  have hb1 : Below w.heap.size w w1 := Below.via (by go_grown) (by go_size) hb
  obtain ⟨hc, hf⟩ := bcell hb
  go_wp2_with fail
  refine (rvalid_no H'.out _).mono ?_
  rintro e w2 ⟨rfl, hb2⟩
  have hb3 : Below w.heap.size w w2 := Below.via hb1 hb1.size hb2
  have hz : w.heap.size + 1 < w1.heap.size := by have := hb.size; simp at this; omega
  have hz0 : w.heap.size < w1.heap.size := by omega
  obtain ⟨hc2, hf2⟩ := bcell hb2
  go_wp2
  go_ret
  exact ⟨rfl, hb3⟩
set_option maxHeartbeats 400000 in
theorem rconvert_noframe {n d b p n' d' b' p' : Int} (h : Pl.Row n d b p) (h' : Pl.Row n' d' b' p') (f : Int) (w : World) (h0 : ¬ (0 ≤ f ∧ f ≤ 100000000)) : Calls Tryd.prog 22 #[rate n d, .int .i64 f, rate n' d'] w fun e w' => e = .returned (.int .i64 (-1)) ∧ Below w.heap.size w w' := by
  have H := Lib.hid h
  have H' := Lib.hid h'
  have F := Lib.hid h0
  clear h h' h0
  go_enter Tryd.func22, Tryd.ntmps22
  go_wp2_with fail
  refine (rvalid_yes H.out _).mono ?_
  rintro e w1 ⟨rfl, hb⟩
  have hb1 : Below w.heap.size w w1 := Below.via (by go_grown) (by go_size) hb
  obtain ⟨hc, hf⟩ := bcell hb
  go_wp2_with fail
  refine (rvalid_yes H'.out _).mono ?_
  rintro e w2 ⟨rfl, hb2⟩
  have hb3 : Below w.heap.size w w2 := Below.via hb1 hb1.size hb2
  have hz : w.heap.size + 1 < w1.heap.size := by have := hb.size; simp at this; omega
  have hz0 : w.heap.size < w1.heap.size := by omega
  obtain ⟨hc2, hf2⟩ := bcell hb2
  go_wp2_with fail
  refine (risFrame_no _ _ F.out).mono ?_
  rintro e _ ⟨rfl, rfl⟩
  go_wp2
  go_ret
  exact ⟨rfl, hb3⟩
end Go.Proofs.YtfnmjabegajniaaDoor
