/-
  The contract of the reference's Format: the timecode of a frame; or the error. No condition.
-/
import Derived.Test.YtfnmjabegajniaaDoorRefText
import Derived.IntWalk
namespace Go.Proofs.YtfnmjabegajniaaDoor
open Go.RowKit
theorem start_zero (b p : Int) : Pl.start b p 0 = 0 := by simp [Pl.start]
theorem start_end (b p : Int) : Pl.start b p 1440 = 86400 * b - 1296 * p := by
  unfold Pl.start
  rw [show ((1440 : Int) - (1440 + 9) / 10) * p = 1296 * p by omega]
  omega
theorem skip_range {n d b p : Int} (h : Pl.Row n d b p) (k : Int) : 0 ≤ Pl.skip p k ∧ Pl.skip p k ≤ 4 ∧ Pl.skip p k ≤ p := by
  have := Row.bounds h
  unfold Pl.skip
  split <;> omega
theorem start_nonneg {n d b p : Int} (h : Pl.Row n d b p) (k : Nat) : 0 ≤ Pl.start b p k := by
  induction k with
  | zero => rw [show ((0 : Nat) : Int) = 0 from rfl, start_zero]; omega
  | succ k ih =>
    have := Row.bounds h
    have hs := skip_range h k
    rw [show ((k + 1 : Nat) : Int) = (k : Int) + 1 by omega, Pl.start_succ]
    omega
/-- the timecode at a minute of the day is that of the number -/
theorem code_minute {n d b p : Int} (h : Pl.Row n d b p) (k i : Int) (h0 : 0 ≤ k) (h1 : Pl.start b p k ≤ i) (h2 : i < Pl.start b p k + (60 * b - Pl.skip p k)) :
    strOf (codeL (k / 60) (k % 60) ((i - Pl.start b p k + Pl.skip p k) / b) ((i - Pl.start b p k + Pl.skip p k) % b) p) = codeOf b p (Pl.number b p i) := by
  unfold codeOf
  rw [Pl.number_at h k i h0 h1 h2]
  obtain ⟨b1, b2, b3, b4, b5, b6, b7, b8⟩ := Row.bounds h
  have hs := skip_range h k
  have e0 : 60 * b * k + (i - Pl.start b p k) + Pl.skip p k = (i - Pl.start b p k + Pl.skip p k) + b * (60 * k) := by
    rw [show b * (60 * k) = 60 * b * k by rw [← Int.mul_assoc, Int.mul_comm b 60]]
    omega
  rw [e0]
  have ha0 : 0 ≤ i - Pl.start b p k + Pl.skip p k := by omega
  have ha1 : i - Pl.start b p k + Pl.skip p k < 60 * b := by omega
  generalize i - Pl.start b p k + Pl.skip p k = a at *
  rw [Int.add_mul_ediv_left a (60 * k) (by omega : b ≠ 0), Int.add_mul_emod_self_left a b (60 * k)]
  have q0 : 0 ≤ a / b := Int.ediv_nonneg ha0 (by omega)
  have q1 : a / b < 60 := Int.ediv_lt_of_lt_mul (by omega) ha1
  generalize a / b = q at *
  rw [show (q + 60 * k) / 3600 = k / 60 by omega, show (q + 60 * k) / 60 % 60 = k % 60 by omega, show (q + 60 * k) % 60 = q by omega]
theorem keepX {w1 wr : World} {n d b p : Int} (hB : Below (w1.heap.size + 1) (w1.alloc (.cells #[.int .i64 n, .int .i64 d, .int .i64 b, .int .i64 p] 39)) wr) :
    wr.cell? ⟨w1.heap.size, 0, none⟩ = some (.int .i64 n) ∧ wr.cell? ⟨w1.heap.size, 1, none⟩ = some (.int .i64 d) ∧ wr.cell? ⟨w1.heap.size, 2, none⟩ = some (.int .i64 b) ∧ wr.cell? ⟨w1.heap.size, 3, none⟩ = some (.int .i64 p) := by
  refine ⟨?_, ?_, ?_, ?_⟩
  · rw [hB.cell (p := ⟨w1.heap.size, 0, none⟩) (by simp)]; simp
  · rw [hB.cell (p := ⟨w1.heap.size, 1, none⟩) (by simp)]; simp
  · rw [hB.cell (p := ⟨w1.heap.size, 2, none⟩) (by simp)]; simp
  · rw [hB.cell (p := ⟨w1.heap.size, 3, none⟩) (by simp)]; simp
theorem nextX {w1 wr wy : World} {o : Obj} (hB : Below (w1.heap.size + 1) (w1.alloc o) wr) (hb : Below wr.heap.size wr wy) : Below (w1.heap.size + 1) (w1.alloc o) wy := Below.via hB (Nat.le_trans (by simp) hB.size) hb
set_option maxRecDepth 100000 in
set_option maxHeartbeats 1000000 in
theorem rformat_yes {n d b p : Int} (h : Pl.Row n d b p) (f : Int) (w : World) (h0 : 0 ≤ f) (h1 : f ≤ 100000000) :
    Calls Tryd.prog 26 #[rate n d, .int .i64 f] w fun e w' => e = .returned (.tuple #[.string (codeOf b p (Pl.number b p (f % Pl.day b p))), .int .i64 0]) ∧ Below w.heap.size w w' := by
  unfold Pl.day
  obtain ⟨b1, b2, b3, b4, b5, b6, b7, b8⟩ := Row.bounds h
  have i0 : 0 ≤ f % (86400 * b - 1296 * p) := Int.emod_nonneg _ (by omega)
  have i1 : f % (86400 * b - 1296 * p) < 86400 * b - 1296 * p := Int.emod_lt_of_pos _ (by omega)
  have H := Lib.hid h
  clear h
  go_enter Tryd.func26, Tryd.ntmps26
  go_wp2_with fail
  refine (rfind_yes H.out _).mono ?_
  rintro e w1 ⟨rfl, hb⟩
  have hb1 : Below w.heap.size w w1 := Below.via (by go_grown) (by go_size) hb
  have hz : w.heap.size ≤ w1.heap.size := hb1.size
  obtain ⟨hc, hf⟩ := bcell hb
  go_wp2_with fail
  refine (risFrame_yes _ _ h0 h1).mono ?_
  rintro e _ ⟨rfl, rfl⟩
  go_wp2_with fail
  refine (rday_any _ _ _ _ _ (by omega) (by omega) (by omega) (by omega)).mono ?_
  rintro e _ ⟨rfl, rfl⟩
  go_wp2
  generalize hi : f % (86400 * b - 1296 * p) = i at *
  have HI := Lib.hid hi
  clear hi
  clear hc hf hb
  go_loopw [8, 9] (fun s8 s9 wr => ∃ k : Nat, k ≤ 1440 ∧ s9 = .int .i64 k ∧ s8 = .int .i64 (i - Pl.start b p k) ∧ 0 ≤ i - Pl.start b p k ∧
      Below (w1.heap.size + 1) (w1.alloc (.cells #[.int .i64 n, .int .i64 d, .int .i64 b, .int .i64 p] 39)) wr) (fun _ s9 _ => 1440 - (intOf s9).toNat)
  case atStart => exact ⟨0, by omega, rfl, by simp [start_zero], by simp [start_zero]; omega, by go_grown⟩
  case round =>
    obtain ⟨k, hk, rfl, rfl, hn0, hB⟩ := hrel
    have hk1 : k < 1440 := by
      rcases Nat.lt_or_ge k 1440 with hlt | hge
      · exact hlt
      · obtain rfl : k = 1440 := by omega
        have := start_end b p
        rw [show ((1440 : Nat) : Int) = 1440 from rfl] at hn0
        omega
    have hn1 : i - Pl.start b p k ≤ 10000000 := by have := start_nonneg H.out k; omega
    obtain ⟨s0, s1, s2⟩ := skip_range H.out k
    have hss := Lib.hid (Pl.start_succ b p k)
    have c0 : wr.cell? ⟨w1.heap.size, 0, none⟩ = some (.int .i64 n) := by rw [hB.cell (p := ⟨w1.heap.size, 0, none⟩) (by simp)]; simp
    have c1 : wr.cell? ⟨w1.heap.size, 1, none⟩ = some (.int .i64 d) := by rw [hB.cell (p := ⟨w1.heap.size, 1, none⟩) (by simp)]; simp
    have c2 : wr.cell? ⟨w1.heap.size, 2, none⟩ = some (.int .i64 b) := by rw [hB.cell (p := ⟨w1.heap.size, 2, none⟩) (by simp)]; simp
    have c3 : wr.cell? ⟨w1.heap.size, 3, none⟩ = some (.int .i64 p) := by rw [hB.cell (p := ⟨w1.heap.size, 3, none⟩) (by simp)]; simp
    have hz2 : w1.heap.size + 1 ≤ wr.heap.size := by have := hB.size; simpa using this
    have hz3 : w1.heap.size < wr.heap.size := by omega
    by_cases hlt : i - Pl.start b p k < 60 * b - Pl.skip p k
    · have hfin := code_minute H.out k i (by omega) (by omega) (by omega)
      have HF := Lib.hid hfin
      clear hfin
      have qa : 0 ≤ i - Pl.start b p k + Pl.skip p k := by omega
      have q0 : 0 ≤ (i - Pl.start b p k + Pl.skip p k) / b := Int.ediv_nonneg qa (by omega)
      have q1 : (i - Pl.start b p k + Pl.skip p k) / b < 60 := Int.ediv_lt_of_lt_mul (by omega) (by omega)
      have q2 : 0 ≤ (i - Pl.start b p k + Pl.skip p k) % b := Int.emod_nonneg _ (by omega)
      have q3 : (i - Pl.start b p k + Pl.skip p k) % b < b := Int.emod_lt_of_pos _ (by omega)
      go_wp2_with fail
      refine (rdropped_any _ _ _ _ _ _ (by omega)).mono ?_
      rintro e wy ⟨rfl, hwy⟩
      have hAcc : Below (w1.heap.size + 1) (w1.alloc (.cells #[.int .i64 n, .int .i64 d, .int .i64 b, .int .i64 p] 39)) wy := by
        rw [← hwy]; exact hB.alloc (by have := hB.size; simpa using this) _
      clear hwy hB c0 c1 c2 c3 hss
      obtain ⟨c0, c1, c2, c3⟩ := keepX hAcc
      go_wp2
      have q5 : i - Pl.start b p k + Pl.skip p k ≤ 20000000 := by omega
      clear hn0 hn1 hlt
      generalize i - Pl.start b p k + Pl.skip p k = a at *
      have hq5 : a.tdiv b = a / b := Int.tdiv_eq_ediv_of_nonneg qa
      have hq6 : a.tmod b = a % b := Int.tmod_eq_emod_of_nonneg qa
      have hq7 : IntKind.i64.wrap (a / b) = a / b := IntWalk.i64_in _ (by omega)
      have hb0 : (b == 0) = false := by simp; omega
      have hbn : ¬ b = 0 := by omega
      go_region_held3 (fun w' => w'.cell? ⟨w1.heap.size, 0, none⟩ = some (.int .i64 n) ∧ w'.cell? ⟨w1.heap.size, 1, none⟩ = some (.int .i64 d) ∧ w'.cell? ⟨w1.heap.size, 2, none⟩ = some (.int .i64 b) ∧ w'.cell? ⟨w1.heap.size, 3, none⟩ = some (.int .i64 p)) (first | exact keepX hAcc | exact keepX hAcc.drew)
        (first | (go_at_call 40; refine (rtext_any _ _ _ _ _ _ _ _ (by omega) (by omega) q0 q1 q2 (by omega)).mono ?_; rintro e wx ⟨rfl, hbT⟩; replace hAcc : Below (w1.heap.size + 1) (w1.alloc (.cells #[.int .i64 n, .int .i64 d, .int .i64 b, .int .i64 p] 39)) wx := by first | exact nextX hAcc.drew hbT | exact nextX hAcc hbT))
      all_goals
        go_wp2
        go_ret2
        refine ⟨by rw [HF.out, ← HI.out]; rfl, ?_⟩
        exact (hb1.alloc hb1.size _).trans (hAcc.mono (by omega))
    · go_wp2_with fail
      refine (rdropped_any _ _ _ _ _ _ (by omega)).mono ?_
      rintro e _ ⟨rfl, rfl⟩
      go_wp2
      go_roundw
      case rel => exact ⟨k + 1, by omega, by go_num, by rw [show ((k + 1 : Nat) : Int) = (k : Int) + 1 by omega, hss.out]; go_num, by rw [show ((k + 1 : Nat) : Int) = (k : Int) + 1 by omega, hss.out]; omega, by go_grown⟩
      case measure => simp [intOf]; omega
set_option maxHeartbeats 400000 in
theorem rformat_norow {n d : Int} (h : NoRow n d) (f : Int) (w : World) :
    Calls Tryd.prog 26 #[rate n d, .int .i64 f] w fun e w' => e = .returned (.tuple #[.string ⟨#[]⟩, .int .i64 30]) ∧ Below w.heap.size w w' := by
  have H := Lib.hid h
  clear h
  go_enter Tryd.func26, Tryd.ntmps26
  go_wp2_with fail
  refine (rfind_no H.out _).mono ?_
  rintro e w1 ⟨rfl, hb⟩
  have hb1 : Below w.heap.size w w1 := Below.via (by go_grown) (by go_size) hb
  obtain ⟨hc, hf⟩ := bcell hb
  go_wp2
  go_ret2
  have hz : w.heap.size ≤ w1.heap.size := hb1.size
  exact ⟨rfl, by go_grown⟩
set_option maxHeartbeats 400000 in
theorem rformat_noframe {n d b p : Int} (h : Pl.Row n d b p) (f : Int) (w : World) (h0 : ¬ (0 ≤ f ∧ f ≤ 100000000)) :
    Calls Tryd.prog 26 #[rate n d, .int .i64 f] w fun e w' => e = .returned (.tuple #[.string ⟨#[]⟩, .int .i64 30]) ∧ Below w.heap.size w w' := by
  have H := Lib.hid h
  have F := Lib.hid h0
  clear h h0
  go_enter Tryd.func26, Tryd.ntmps26
  go_wp2_with fail
  refine (rfind_yes H.out _).mono ?_
  rintro e w1 ⟨rfl, hb⟩
  have hb1 : Below w.heap.size w w1 := Below.via (by go_grown) (by go_size) hb
  obtain ⟨hc, hf⟩ := bcell hb
  go_wp2_with fail
  refine (risFrame_no _ _ F.out).mono ?_
  rintro e _ ⟨rfl, rfl⟩
  go_wp2
  go_ret2
  have hz : w.heap.size ≤ w1.heap.size := hb1.size
  exact ⟨rfl, by go_grown⟩
end Go.Proofs.YtfnmjabegajniaaDoor
