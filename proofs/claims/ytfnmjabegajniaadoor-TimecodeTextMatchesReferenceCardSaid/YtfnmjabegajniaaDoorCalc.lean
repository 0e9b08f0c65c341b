/-
  The contracts of timecode.Valid, Seconds, Frames, Ticks, Convert: at every rate and number what each returns. Condition: the package variable 'rates' holds its table.
-/
import Derived.Test.YtfnmjabegajniaaDoorBase
import Derived.Deep.QuietTactic
import Derived.BigQuiet
namespace Go.Proofs.YtfnmjabegajniaaDoor
open Go.RowKit
theorem bcell {W w1 : World} (hb : Below W.heap.size W w1) : (∀ b o, b < W.heap.size → w1.cell? ⟨b, o, none⟩ = W.cell? ⟨b, o, none⟩) ∧ (∀ b o, b < W.heap.size → w1.frozen? ⟨b, o, none⟩ = W.frozen? ⟨b, o, none⟩) :=
  ⟨fun b o h => hb.cell (p := ⟨b, o, none⟩) h, fun b o h => hb.frozen (p := ⟨b, o, none⟩) h⟩
theorem Below.via {B : Nat} {w W w1 : World} (h1 : Below B w W) (hB : B ≤ W.heap.size) (hb : Below W.heap.size W w1) : Below B w w1 := h1.trans (hb.mono hB)
theorem Row.bounds {n d b p : Int} (h : Pl.Row n d b p) : 1 ≤ d ∧ d ≤ 1001 ∧ 24 ≤ n ∧ n ≤ 60000 ∧ 24 ≤ b ∧ b ≤ 60 ∧ 0 ≤ p ∧ p ≤ 4 := by
  unfold Pl.Row at h; omega
theorem mul_bd {f d M D : Int} (h0 : 0 ≤ f) (h1 : f ≤ M) (h2 : 0 ≤ d) (h3 : d ≤ D) : 0 ≤ f * d ∧ f * d ≤ M * D :=
  ⟨Int.mul_nonneg h0 h2, Int.le_trans (Int.mul_le_mul_of_nonneg_right h1 h2) (Int.mul_le_mul_of_nonneg_left h3 (by omega))⟩
set_option maxHeartbeats 400000 in
theorem valid_yes {n d b p : Int} (h : Pl.Row n d b p) (w : World) (ht : Tab w) : Calls Tryd.prog 23 #[rate n d] w fun e w' => e = .returned (.bool true) ∧ Below w.heap.size w w' := by
  have H := Lib.hid h
  have T := Lib.hid ht
  clear h ht
  go_enter Tryd.func23, Tryd.ntmps23
  go_wp2_with fail
  refine (find_yes H.out _ (T.out.alloc _)).mono ?_
  rintro e w1 ⟨rfl, hb⟩
  have hb1 : Below w.heap.size w w1 := Below.via (by go_grown) (by go_size) hb
  obtain ⟨hc, hf⟩ := bcell hb
  go_wp2
  go_ret
  exact ⟨rfl, by go_grown; exact hb1.size⟩
set_option maxHeartbeats 400000 in
theorem valid_no {n d : Int} (h : NoRow n d) (w : World) (ht : Tab w) : Calls Tryd.prog 23 #[rate n d] w fun e w' => e = .returned (.bool false) ∧ Below w.heap.size w w' := by
  have H := Lib.hid h
  have T := Lib.hid ht
  clear h ht
  go_enter Tryd.func23, Tryd.ntmps23
  go_wp2_with fail
  refine (find_no _ _ _ (T.out.alloc _) H.out).mono ?_
  rintro e w1 ⟨rfl, hb⟩
  have hb1 : Below w.heap.size w w1 := Below.via (by go_grown) (by go_size) hb
  obtain ⟨hc, hf⟩ := bcell hb
  go_wp2
  go_ret
  exact ⟨rfl, by go_grown; exact hb1.size⟩
theorem up_any (a b : Int) (w : World) (h0 : 0 ≤ a) (h1 : 1 ≤ b) (h2 : a + b ≤ 4611686018427387904) : Calls Tryd.prog 35 #[.int .i64 a, .int .i64 b] w fun e w' => e = .returned (.int .i64 ((a + b - 1) / b)) ∧ w = w' := by
  go_enter Tryd.func35, Tryd.ntmps35
  go_wp2
  go_ret
  exact ⟨rfl, rfl⟩
theorem isFrame_yes (f : Int) (w : World) (h0 : 0 ≤ f) (h1 : f ≤ 100000000) : Calls Tryd.prog 33 #[.int .i64 f] w fun e w' => e = .returned (.bool true) ∧ w = w' := by
  go_enter Tryd.func33, Tryd.ntmps33
  go_wp2
  go_ret
  exact ⟨rfl, rfl⟩
theorem isFrame_no (f : Int) (w : World) (h0 : ¬ (0 ≤ f ∧ f ≤ 100000000)) : Calls Tryd.prog 33 #[.int .i64 f] w fun e w' => e = .returned (.bool false) ∧ w = w' := by
  by_cases h1 : 0 ≤ f
  · have h2 : decide (f ≤ 100000000) = false := by simp; omega
    clear h0
    go_enter Tryd.func33, Tryd.ntmps33
    go_wp2
    go_ret
    exact ⟨rfl, rfl⟩
  · clear h0
    go_enter Tryd.func33, Tryd.ntmps33
    go_wp2
    go_ret
    exact ⟨rfl, rfl⟩
set_option maxHeartbeats 400000 in
theorem seconds_yes {n d b p : Int} (h : Pl.Row n d b p) (f : Int) (w : World) (ht : Tab w) (h0 : 0 ≤ f) (h1 : f ≤ 100000000) : Calls Tryd.prog 15 #[rate n d, .int .i64 f] w fun e w' => e = .returned (.int .i64 (f * d / n)) ∧ Below w.heap.size w w' := by
  obtain ⟨b1, b2, b3, b4, _⟩ := Row.bounds h
  obtain ⟨m1, m2⟩ := mul_bd h0 h1 (by omega : 0 ≤ d) b2
  have H := Lib.hid h
  have T := Lib.hid ht
  clear h ht
  go_enter Tryd.func15, Tryd.ntmps15
  go_wp2_with fail
  refine (valid_yes H.out _ (T.out.alloc _)).mono ?_
  rintro e w1 ⟨rfl, hb⟩
  have hb1 : Below w.heap.size w w1 := Below.via (by go_grown) (by go_size) hb
  obtain ⟨hc, hf⟩ := bcell hb
  go_wp2_with fail
  refine (isFrame_yes _ _ h0 h1).mono ?_
  rintro e _ ⟨rfl, rfl⟩
  go_wp2
  go_ret
  exact ⟨rfl, hb1⟩
set_option maxHeartbeats 400000 in
theorem seconds_norow {n d : Int} (h : NoRow n d) (f : Int) (w : World) (ht : Tab w) : Calls Tryd.prog 15 #[rate n d, .int .i64 f] w fun e w' => e = .returned (.int .i64 (-1)) ∧ Below w.heap.size w w' := by
  have H := Lib.hid h
  have T := Lib.hid ht
  clear h ht
  go_enter Tryd.func15, Tryd.ntmps15
  go_wp2_with fail
  refine (valid_no H.out _ (T.out.alloc _)).mono ?_
  rintro e w1 ⟨rfl, hb⟩
  have hb1 : Below w.heap.size w w1 := Below.via (by go_grown) (by go_size) hb
  obtain ⟨hc, hf⟩ := bcell hb
  go_wp2
  go_ret
  exact ⟨rfl, hb1⟩
set_option maxHeartbeats 400000 in
theorem seconds_noframe {n d b p : Int} (h : Pl.Row n d b p) (f : Int) (w : World) (ht : Tab w) (h0 : ¬ (0 ≤ f ∧ f ≤ 100000000)) : Calls Tryd.prog 15 #[rate n d, .int .i64 f] w fun e w' => e = .returned (.int .i64 (-1)) ∧ Below w.heap.size w w' := by
  have H := Lib.hid h
  have T := Lib.hid ht
  have F := Lib.hid h0
  clear h ht h0
  go_enter Tryd.func15, Tryd.ntmps15
  go_wp2_with fail
  refine (valid_yes H.out _ (T.out.alloc _)).mono ?_
  rintro e w1 ⟨rfl, hb⟩
  have hb1 : Below w.heap.size w w1 := Below.via (by go_grown) (by go_size) hb
  obtain ⟨hc, hf⟩ := bcell hb
  go_wp2_with fail
  refine (isFrame_no _ _ F.out).mono ?_
  rintro e _ ⟨rfl, rfl⟩
  go_wp2
  go_ret
  exact ⟨rfl, hb1⟩
set_option maxHeartbeats 400000 in
theorem frames_yes {n d b p : Int} (h : Pl.Row n d b p) (f : Int) (w : World) (ht : Tab w) (h0 : 0 ≤ f) (h1 : f ≤ 10000000000) : Calls Tryd.prog 17 #[rate n d, .int .i64 f] w fun e w' => e = .returned (.int .i64 ((f * n + d - 1) / d)) ∧ Below w.heap.size w w' := by
  obtain ⟨b1, b2, b3, b4, _⟩ := Row.bounds h
  obtain ⟨m1, m2⟩ := mul_bd h0 h1 (by omega : 0 ≤ n) b4
  have H := Lib.hid h
  have T := Lib.hid ht
  clear h ht
  go_enter Tryd.func17, Tryd.ntmps17
  go_wp2_with fail
  refine (valid_yes H.out _ (T.out.alloc _)).mono ?_
  rintro e w1 ⟨rfl, hb⟩
  have hb1 : Below w.heap.size w w1 := Below.via (by go_grown) (by go_size) hb
  obtain ⟨hc, hf⟩ := bcell hb
  go_wp2_with fail
  refine (up_any _ _ _ (by omega) (by omega) (by omega)).mono ?_
  rintro e _ ⟨rfl, rfl⟩
  go_wp2
  go_ret
  exact ⟨rfl, hb1⟩
set_option maxHeartbeats 400000 in
theorem frames_norow {n d : Int} (h : NoRow n d) (f : Int) (w : World) (ht : Tab w) : Calls Tryd.prog 17 #[rate n d, .int .i64 f] w fun e w' => e = .returned (.int .i64 (-1)) ∧ Below w.heap.size w w' := by
  have H := Lib.hid h
  have T := Lib.hid ht
  clear h ht
  go_enter Tryd.func17, Tryd.ntmps17
  go_wp2_with fail
  refine (valid_no H.out _ (T.out.alloc _)).mono ?_
  rintro e w1 ⟨rfl, hb⟩
  have hb1 : Below w.heap.size w w1 := Below.via (by go_grown) (by go_size) hb
  obtain ⟨hc, hf⟩ := bcell hb
  go_wp2
  go_ret
  exact ⟨rfl, hb1⟩
set_option maxHeartbeats 400000 in
theorem frames_noframe {n d b p : Int} (h : Pl.Row n d b p) (f : Int) (w : World) (ht : Tab w) (h0 : ¬ (0 ≤ f ∧ f ≤ 10000000000)) : Calls Tryd.prog 17 #[rate n d, .int .i64 f] w fun e w' => e = .returned (.int .i64 (-1)) ∧ Below w.heap.size w w' := by
  have H := Lib.hid h
  have T := Lib.hid ht
  clear h ht
  by_cases h1 : f < 0
  · clear h0
    go_enter Tryd.func17, Tryd.ntmps17
    go_wp2_with fail
    refine (valid_yes H.out _ (T.out.alloc _)).mono ?_
    rintro e w1 ⟨rfl, hb⟩
    have hb1 : Below w.heap.size w w1 := Below.via (by go_grown) (by go_size) hb
    obtain ⟨hc, hf⟩ := bcell hb
    go_wp2
    go_ret
    exact ⟨rfl, hb1⟩
  · have h2 : 10000000000 < f := by omega
    clear h0
    go_enter Tryd.func17, Tryd.ntmps17
    go_wp2_with fail
    refine (valid_yes H.out _ (T.out.alloc _)).mono ?_
    rintro e w1 ⟨rfl, hb⟩
    have hb1 : Below w.heap.size w w1 := Below.via (by go_grown) (by go_size) hb
    obtain ⟨hc, hf⟩ := bcell hb
    go_wp2
    go_ret
    exact ⟨rfl, hb1⟩
set_option maxHeartbeats 400000 in
theorem ticks_yes {n d b p : Int} (h : Pl.Row n d b p) (f : Int) (w : World) (ht : Tab w) (h0 : 0 ≤ f) (h1 : f ≤ 100000000) : Calls Tryd.prog 19 #[rate n d, .int .i64 f] w fun e w' => e = .returned (.int .i64 (f * 90000 * d / n % 8589934592)) ∧ Below w.heap.size w w' := by
  obtain ⟨b1, b2, b3, b4, _⟩ := Row.bounds h
  obtain ⟨m1, m2⟩ := mul_bd (f := f * 90000) (M := 9000000000000) (by omega) (by omega) (by omega : 0 ≤ d) b2
  have m3 : 0 ≤ f * 90000 * d / n := Int.ediv_nonneg m1 (by omega)
  have H := Lib.hid h
  have T := Lib.hid ht
  clear h ht
  go_enter Tryd.func19, Tryd.ntmps19
  go_wp2_with fail
  refine (valid_yes H.out _ (T.out.alloc _)).mono ?_
  rintro e w1 ⟨rfl, hb⟩
  have hb1 : Below w.heap.size w w1 := Below.via (by go_grown) (by go_size) hb
  obtain ⟨hc, hf⟩ := bcell hb
  go_wp2_with fail
  refine (isFrame_yes _ _ h0 h1).mono ?_
  rintro e _ ⟨rfl, rfl⟩
  go_wp2
  go_ret
  exact ⟨rfl, hb1⟩
set_option maxHeartbeats 400000 in
theorem ticks_norow {n d : Int} (h : NoRow n d) (f : Int) (w : World) (ht : Tab w) : Calls Tryd.prog 19 #[rate n d, .int .i64 f] w fun e w' => e = .returned (.int .i64 (-1)) ∧ Below w.heap.size w w' := by
  have H := Lib.hid h
  have T := Lib.hid ht
  clear h ht
  go_enter Tryd.func19, Tryd.ntmps19
  go_wp2_with fail
  refine (valid_no H.out _ (T.out.alloc _)).mono ?_
  rintro e w1 ⟨rfl, hb⟩
  have hb1 : Below w.heap.size w w1 := Below.via (by go_grown) (by go_size) hb
  obtain ⟨hc, hf⟩ := bcell hb
  go_wp2
  go_ret
  exact ⟨rfl, hb1⟩
set_option maxHeartbeats 400000 in
theorem ticks_noframe {n d b p : Int} (h : Pl.Row n d b p) (f : Int) (w : World) (ht : Tab w) (h0 : ¬ (0 ≤ f ∧ f ≤ 100000000)) : Calls Tryd.prog 19 #[rate n d, .int .i64 f] w fun e w' => e = .returned (.int .i64 (-1)) ∧ Below w.heap.size w w' := by
  have H := Lib.hid h
  have T := Lib.hid ht
  have F := Lib.hid h0
  clear h ht h0
  go_enter Tryd.func19, Tryd.ntmps19
  go_wp2_with fail
  refine (valid_yes H.out _ (T.out.alloc _)).mono ?_
  rintro e w1 ⟨rfl, hb⟩
  have hb1 : Below w.heap.size w w1 := Below.via (by go_grown) (by go_size) hb
  obtain ⟨hc, hf⟩ := bcell hb
  go_wp2_with fail
  refine (isFrame_no _ _ F.out).mono ?_
  rintro e _ ⟨rfl, rfl⟩
  go_wp2
  go_ret
  exact ⟨rfl, hb1⟩
set_option maxHeartbeats 400000 in
theorem convert_yes {n d b p n' d' b' p' : Int} (h : Pl.Row n d b p) (h' : Pl.Row n' d' b' p') (f : Int) (w : World) (ht : Tab w) (h0 : 0 ≤ f) (h1 : f ≤ 100000000) : Calls Tryd.prog 21 #[rate n d, .int .i64 f, rate n' d'] w fun e w' => e = .returned (.int .i64 ((f * d * n' + n * d' - 1) / (n * d'))) ∧ Below w.heap.size w w' := by
  obtain ⟨b1, b2, b3, b4, _⟩ := Row.bounds h
  obtain ⟨c1, c2, c3, c4, _⟩ := Row.bounds h'
  obtain ⟨m1, m2⟩ := mul_bd h0 h1 (by omega : 0 ≤ d) b2
  obtain ⟨m3, m4⟩ := mul_bd m1 m2 (by omega : 0 ≤ n') c4
  obtain ⟨m5, m6⟩ := mul_bd (by omega : 0 ≤ n) b4 (by omega : 0 ≤ d') c2
  have m7 : 1 ≤ n * d' := Int.mul_pos (by omega) (by omega)
  have H := Lib.hid h
  have H' := Lib.hid h'
  have T := Lib.hid ht
  clear h ht h'
  go_enter Tryd.func21, Tryd.ntmps21
  go_wp2_with fail
  refine (valid_yes H.out _ ((T.out.alloc _).alloc _)).mono ?_
  rintro e w1 ⟨rfl, hb⟩
  have hb1 : Below w.heap.size w w1 := Below.via (by go_grown) (by go_size) hb
  obtain ⟨hc, hf⟩ := bcell hb
  go_wp2_with fail
  refine (valid_yes H'.out _ (T.out.below hb1 T.out.pos)).mono ?_
  rintro e w2 ⟨rfl, hb2⟩
  have hb3 : Below w.heap.size w w2 := Below.via hb1 hb1.size hb2
  have hz : w.heap.size + 1 < w1.heap.size := by have := hb.size; simp at this; omega
  have hz0 : w.heap.size < w1.heap.size := by omega
  obtain ⟨hc2, hf2⟩ := bcell hb2
  go_wp2_with fail
  refine (isFrame_yes _ _ h0 h1).mono ?_
  rintro e _ ⟨rfl, rfl⟩
  go_wp2_with fail
  refine (up_any _ _ _ (by omega) (by omega) (by omega)).mono ?_
  rintro e _ ⟨rfl, rfl⟩
  go_wp2
  go_ret
  exact ⟨rfl, hb3⟩
set_option maxHeartbeats 400000 in
theorem convert_norow {n d n' d' : Int} (h : NoRow n d) (f : Int) (w : World) (ht : Tab w) : Calls Tryd.prog 21 #[rate n d, .int .i64 f, rate n' d'] w fun e w' => e = .returned (.int .i64 (-1)) ∧ Below w.heap.size w w' := by
  have H := Lib.hid h
  have T := Lib.hid ht
  clear h ht
  go_enter Tryd.func21, Tryd.ntmps21
  go_wp2_with fail
  refine (valid_no H.out _ ((T.out.alloc _).alloc _)).mono ?_
  rintro e w1 ⟨rfl, hb⟩
  have hb1 : Below w.heap.size w w1 := Below.via (by go_grown) (by go_size) hb
  obtain ⟨hc, hf⟩ := bcell hb
  go_wp2
  go_ret
  exact ⟨rfl, hb1⟩
set_option maxHeartbeats 400000 in
theorem convert_norow2 {n d b p n' d' : Int} (h : Pl.Row n d b p) (h' : NoRow n' d') (f : Int) (w : World) (ht : Tab w) : Calls Tryd.prog 21 #[rate n d, .int .i64 f, rate n' d'] w fun e w' => e = .returned (.int .i64 (-1)) ∧ Below w.heap.size w w' := by
  have H := Lib.hid h
  have H' := Lib.hid h'
  have T := Lib.hid ht
  clear h ht h'
  go_enter Tryd.func21, Tryd.ntmps21
  go_wp2_with fail
  refine (valid_yes H.out _ ((T.out.alloc _).alloc _)).mono ?_
  rintro e w1 ⟨rfl, hb⟩
  have hb1 : Below w.heap.size w w1 := Below.via (by go_grown) (by go_size) hb
  obtain ⟨hc, hf⟩ := bcell hb
  go_wp2_with fail
  refine (valid_no H'.out _ (T.out.below hb1 T.out.pos)).mono ?_
  rintro e w2 ⟨rfl, hb2⟩
  have hb3 : Below w.heap.size w w2 := Below.via hb1 hb1.size hb2
  have hz : w.heap.size + 1 < w1.heap.size := by have := hb.size; simp at this; omega
  have hz0 : w.heap.size < w1.heap.size := by omega
  obtain ⟨hc2, hf2⟩ := bcell hb2
  go_wp2
  go_ret
  exact ⟨rfl, hb3⟩
set_option maxHeartbeats 400000 in
theorem convert_noframe {n d b p n' d' b' p' : Int} (h : Pl.Row n d b p) (h' : Pl.Row n' d' b' p') (f : Int) (w : World) (ht : Tab w) (h0 : ¬ (0 ≤ f ∧ f ≤ 100000000)) : Calls Tryd.prog 21 #[rate n d, .int .i64 f, rate n' d'] w fun e w' => e = .returned (.int .i64 (-1)) ∧ Below w.heap.size w w' := by
  have H := Lib.hid h
  have H' := Lib.hid h'
  have T := Lib.hid ht
  have F := Lib.hid h0
  clear h ht h' h0
  go_enter Tryd.func21, Tryd.ntmps21
  go_wp2_with fail
  refine (valid_yes H.out _ ((T.out.alloc _).alloc _)).mono ?_
  rintro e w1 ⟨rfl, hb⟩
  have hb1 : Below w.heap.size w w1 := Below.via (by go_grown) (by go_size) hb
  obtain ⟨hc, hf⟩ := bcell hb
  go_wp2_with fail
  refine (valid_yes H'.out _ (T.out.below hb1 T.out.pos)).mono ?_
  rintro e w2 ⟨rfl, hb2⟩
  have hb3 : Below w.heap.size w w2 := Below.via hb1 hb1.size hb2
  have hz : w.heap.size + 1 < w1.heap.size := by have := hb.size; simp at this; omega
  have hz0 : w.heap.size < w1.heap.size := by omega
  obtain ⟨hc2, hf2⟩ := bcell hb2
  go_wp2_with fail
  refine (isFrame_no _ _ F.out).mono ?_
  rintro e _ ⟨rfl, rfl⟩
  go_wp2
  go_ret
  exact ⟨rfl, hb3⟩
end Go.Proofs.YtfnmjabegajniaaDoor
