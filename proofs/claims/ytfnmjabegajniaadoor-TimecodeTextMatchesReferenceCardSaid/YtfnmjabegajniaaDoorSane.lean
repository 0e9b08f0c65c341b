/-
  The contract of the helper sane of the statements: it returns true. Condition: the package variable 'rates' holds its table.
-/
import Derived.Test.YtfnmjabegajniaaDoorFormat
import Derived.Test.YtfnmjabegajniaaDoorParse
import Derived.Test.YtfnmjabegajniaaDoorCalc
namespace Go.Proofs.YtfnmjabegajniaaDoor
open Go.RowKit Go.PlainAid
theorem row3 : Pl.Row 30000 1001 30 2 := by simp [Pl.Row]
theorem row6 : Pl.Row 60000 1001 60 4 := by simp [Pl.Row]
theorem row0 : Pl.Row 24000 1001 24 0 := by simp [Pl.Row]
theorem row2 : Pl.Row 25 1 25 0 := by simp [Pl.Row]
theorem norow0 : NoRow 0 0 := by simp [NoRow]
theorem code1 : codeOf 30 2 (Pl.number 30 2 (1799 % Pl.day 30 2)) = ⟨#[48, 48, 58, 48, 48, 58, 53, 57, 59, 50, 57]⟩ := by decide +kernel
theorem code2 : codeOf 30 2 (Pl.number 30 2 (1800 % Pl.day 30 2)) = ⟨#[48, 48, 58, 48, 49, 58, 48, 48, 59, 48, 50]⟩ := by decide +kernel
theorem code3 : codeOf 30 2 (Pl.number 30 2 (17982 % Pl.day 30 2)) = ⟨#[48, 48, 58, 49, 48, 58, 48, 48, 59, 48, 48]⟩ := by decide +kernel
abbrev s1 : ByteArray := ⟨#[48, 48, 58, 48, 49, 58, 48, 48, 59, 48, 48]⟩
abbrev s2 : ByteArray := ⟨#[48, 48, 58, 48, 49, 58, 48, 48, 59, 48, 52]⟩
theorem bad1 : ¬ Good 30 2 s1 := by
  intro h
  obtain ⟨_, _, _, _, _, _, _, _, _, _, _, _, hnd⟩ := h
  exact hnd (by decide +kernel)
theorem good2 : Good 60 4 s2 := by
  unfold Good Dig
  decide +kernel
theorem val2 : Pl.frameAt 60 4 (60 * pt s2 0 + pt s2 3) (pt s2 6) (pt s2 9) = 3600 := by decide +kernel

theorem kp {w w1 w2 : World} (hB : Below (w.heap.size + 1) (w.alloc (.cells #[.int .i64 30000, .int .i64 1001] 23)) w1) (ht : Tab w) (hb : Below w1.heap.size w1 w2) :
    Below (w.heap.size + 1) (w.alloc (.cells #[.int .i64 30000, .int .i64 1001] 23)) w2 ∧ Tab w2 ∧ w2.cell? ⟨w.heap.size, 0, none⟩ = some (.int .i64 30000) ∧ w2.cell? ⟨w.heap.size, 1, none⟩ = some (.int .i64 1001) := by
  have hs : w.heap.size + 1 ≤ w1.heap.size := by have := hB.size; simpa using this
  have h2 := Below.via hB hs hb
  refine ⟨h2, (ht.alloc _).below h2 (by omega), ?_, ?_⟩
  · rw [h2.cell (p := ⟨w.heap.size, 0, none⟩) (by simp)]; simp
  · rw [h2.cell (p := ⟨w.heap.size, 1, none⟩) (by simp)]; simp
theorem kp0 (w : World) (ht : Tab w) : Below (w.heap.size + 1) (w.alloc (.cells #[.int .i64 30000, .int .i64 1001] 23)) (w.alloc (.cells #[.int .i64 30000, .int .i64 1001] 23)) ∧ Tab (w.alloc (.cells #[.int .i64 30000, .int .i64 1001] 23)) :=
  ⟨Below.refl _ _, ht.alloc _⟩
set_option maxRecDepth 100000 in
set_option maxHeartbeats 2000000 in
theorem sane_any (w : World) (ht : Tab w) : Calls Tryd.prog 12 #[] w fun e w' => e = .returned (.bool true) ∧ Below w.heap.size w w' := by
  have T := Lib.hid ht
  have K0 := Lib.hid (kp0 w ht)
  clear ht
  go_enter Tryd.func12, Tryd.ntmps12
  go_wp2_with fail
  refine (format_yes row3 _ _ K0.out.2 (by omega) (by omega)).mono ?_
  rintro e w1 ⟨rfl, hb⟩
  obtain ⟨k0, t0, c0a, c0b⟩ := kp K0.out.1 T.out hb
  have K1 := Lib.hid k0
  have T1 := Lib.hid t0
  clear hb k0 t0
  rw [code1]
  go_wp2_with fail
  refine (format_yes row3 _ _ T1.out (by omega) (by omega)).mono ?_
  rintro e w2 ⟨rfl, hb⟩
  obtain ⟨k1, t1, c1a, c1b⟩ := kp K1.out T.out hb
  have K2 := Lib.hid k1
  have T2 := Lib.hid t1
  clear hb k1 t1 c0a c0b
  rw [code2]
  go_wp2_with fail
  refine (format_yes row3 _ _ T2.out (by omega) (by omega)).mono ?_
  rintro e w3 ⟨rfl, hb⟩
  obtain ⟨k2, t2, c2a, c2b⟩ := kp K2.out T.out hb
  have K3 := Lib.hid k2
  have T3 := Lib.hid t2
  clear hb k2 t2 c1a c1b
  rw [code3]
  go_wp2_with fail
  refine (parse_no row3 _ _ T3.out bad1).mono ?_
  rintro e w4 ⟨rfl, hb⟩
  obtain ⟨k3, t3, c3a, c3b⟩ := kp K3.out T.out hb
  have K4 := Lib.hid k3
  have T4 := Lib.hid t3
  clear hb k3 t3 c2a c2b
  go_wp2_with fail
  refine (parse_yes row6 _ _ T4.out good2).mono ?_
  rintro e w5 ⟨rfl, hb⟩
  obtain ⟨k4, t4, c4a, c4b⟩ := kp K4.out T.out hb
  have K5 := Lib.hid k4
  have T5 := Lib.hid t4
  clear hb k4 t4 c3a c3b
  rw [val2]
  go_wp2_with fail
  refine (seconds_yes row3 _ _ T5.out (by omega) (by omega)).mono ?_
  rintro e w6 ⟨rfl, hb⟩
  obtain ⟨k5, t5, c5a, c5b⟩ := kp K5.out T.out hb
  have K6 := Lib.hid k5
  have T6 := Lib.hid t5
  clear hb k5 t5 c4a c4b
  go_wp2_with fail
  refine (seconds_yes row3 _ _ T6.out (by omega) (by omega)).mono ?_
  rintro e w7 ⟨rfl, hb⟩
  obtain ⟨k6, t6, c6a, c6b⟩ := kp K6.out T.out hb
  have K7 := Lib.hid k6
  have T7 := Lib.hid t6
  clear hb k6 t6 c5a c5b
  go_wp2_with fail
  refine (frames_yes row3 _ _ T7.out (by omega) (by omega)).mono ?_
  rintro e w8 ⟨rfl, hb⟩
  obtain ⟨k7, t7, c7a, c7b⟩ := kp K7.out T.out hb
  have K8 := Lib.hid k7
  have T8 := Lib.hid t7
  clear hb k7 t7 c6a c6b
  go_wp2_with fail
  refine (ticks_yes row0 _ _ T8.out (by omega) (by omega)).mono ?_
  rintro e w9 ⟨rfl, hb⟩
  obtain ⟨k8, t8, c8a, c8b⟩ := kp K8.out T.out hb
  have K9 := Lib.hid k8
  have T9 := Lib.hid t8
  clear hb k8 t8 c7a c7b
  go_wp2_with fail
  refine (convert_yes row3 row2 _ _ T9.out (by omega) (by omega)).mono ?_
  rintro e w10 ⟨rfl, hb⟩
  obtain ⟨k9, t9, c9a, c9b⟩ := kp K9.out T.out hb
  have K10 := Lib.hid k9
  have T10 := Lib.hid t9
  clear hb k9 t9 c8a c8b
  go_wp2_with fail
  refine (seconds_norow norow0 _ _ T10.out).mono ?_
  rintro e w11 ⟨rfl, hb⟩
  obtain ⟨k10, t10, c10a, c10b⟩ := kp K10.out T.out hb
  have K11 := Lib.hid k10
  have T11 := Lib.hid t10
  clear hb k10 t10 c9a c9b
  go_wp2
  go_ret
  refine ⟨rfl, ?_⟩
  have := K11.out
  exact ((Below.refl _ _).alloc (Nat.le_refl _) _).trans (this.mono (by omega))
end Go.Proofs.YtfnmjabegajniaaDoor
