/-
  The contract of timecode.Format: the eleven bytes of the timecode of a frame; or the error. Condition: the package variable 'rates' holds its table.
-/
import Derived.Test.YtfnmjabegajniaaDoorCalc
import Derived.Laws.BytesString
namespace Go.Proofs.YtfnmjabegajniaaDoor
open Go.RowKit
theorem sep_drop (n d b p : Int) (w : World) (h : 0 < p) : Calls Tryd.prog 38 #[rowV n d b p] w fun e w' => e = .returned (.int .u8 59) ∧ w.alloc (.cells #[.int .i64 n, .int .i64 d, .int .i64 b, .int .i64 p] 54) = w' := by
  go_enter Tryd.func38, Tryd.ntmps38
  go_wp2
  go_ret
  exact ⟨rfl, rfl⟩
theorem sep_plain (n d b p : Int) (w : World) (h : ¬ 0 < p) : Calls Tryd.prog 38 #[rowV n d b p] w fun e w' => e = .returned (.int .u8 58) ∧ w.alloc (.cells #[.int .i64 n, .int .i64 d, .int .i64 b, .int .i64 p] 54) = w' := by
  go_enter Tryd.func38, Tryd.ntmps38
  go_wp2
  go_ret
  exact ⟨rfl, rfl⟩
theorem ix45_0 (x0 x1 x2 x3 : Int) (w : World) : (Instr.index 45 (.agg #[.int .i64 x0, .int .i64 x1, .int .i64 x2, .int .i64 x3]) (.int .i64 0)).run Tryd.prog w = .ok (.int .i64 x0) w := by kernel_rfl
theorem ix45_1 (x0 x1 x2 x3 : Int) (w : World) : (Instr.index 45 (.agg #[.int .i64 x0, .int .i64 x1, .int .i64 x2, .int .i64 x3]) (.int .i64 1)).run Tryd.prog w = .ok (.int .i64 x1) w := by kernel_rfl
theorem ix45_2 (x0 x1 x2 x3 : Int) (w : World) : (Instr.index 45 (.agg #[.int .i64 x0, .int .i64 x1, .int .i64 x2, .int .i64 x3]) (.int .i64 2)).run Tryd.prog w = .ok (.int .i64 x2) w := by kernel_rfl
theorem ix45_3 (x0 x1 x2 x3 : Int) (w : World) : (Instr.index 45 (.agg #[.int .i64 x0, .int .i64 x1, .int .i64 x2, .int .i64 x3]) (.int .i64 3)).run Tryd.prog w = .ok (.int .i64 x3) w := by kernel_rfl
theorem number_facts {n d b p : Int} (h : Pl.Row n d b p) (f X : Int) (hX : Pl.dropping b p (f % (86400 * b - 1296 * p)) = X) :
    0 ≤ X * p ∧ X * p ≤ 10000000 ∧ 0 ≤ f % (86400 * b - 1296 * p) + X * p ∧ f % (86400 * b - 1296 * p) + X * p < 86400 * b ∧
    0 ≤ (f % (86400 * b - 1296 * p) + X * p) / b ∧ (f % (86400 * b - 1296 * p) + X * p) / b < 86400 ∧ 0 ≤ (f % (86400 * b - 1296 * p) + X * p) % b ∧ (f % (86400 * b - 1296 * p) + X * p) % b < b := by
  obtain ⟨b1, b2, b3, b4, b5, b6, b7, b8⟩ := Row.bounds h
  have i0 : 0 ≤ f % (86400 * b - 1296 * p) := Int.emod_nonneg _ (by omega)
  have i1 : f % (86400 * b - 1296 * p) < 86400 * b - 1296 * p := Int.emod_lt_of_pos _ (by omega)
  have hr := Pl.number_range h _ i0 i1
  unfold Pl.number at hr
  rw [hX] at hr
  have hX0 : 0 ≤ X := by
    subst hX; unfold Pl.dropping Pl.ten
    have q0 : 0 ≤ f % (86400 * b - 1296 * p) / (600 * b - 9 * p) := Int.ediv_nonneg i0 (by omega)
    split
    · rename_i hh
      have s0 : 0 ≤ (f % (86400 * b - 1296 * p) % (600 * b - 9 * p) - 60 * b) / (60 * b - p) := Int.ediv_nonneg (by omega) (by omega)
      omega
    · omega
  have hm : 0 ≤ X * p := Int.mul_nonneg hX0 b7
  refine ⟨hm, by omega, hr.1, hr.2, Int.ediv_nonneg hr.1 (by omega), ?_, Int.emod_nonneg _ (by omega), Int.emod_lt_of_pos _ (by omega)⟩
  exact Int.ediv_lt_of_lt_mul (by omega) hr.2

/-- the string with the given bytes -/
def strOf (ns : List Int) : ByteArray := ns.foldl (fun r n => r.push (UInt8.ofNat n.toNat)) ByteArray.empty
def codeL (h m s f p : Int) : List Int := [48 + h / 10, 48 + h % 10, 58, 48 + m / 10, 48 + m % 10, 58, 48 + s / 10, 48 + s % 10, if 0 < p then 59 else 58, 48 + f / 10, 48 + f % 10]
/-- the timecode with a number (of the day, dropped ones counted) -/
def codeOf (b p N : Int) : ByteArray := strOf (codeL (N / b / 3600) (N / b / 60 % 60) (N / b % 60) (N % b) p)
theorem str_cells (w : World) (a : Addr) (cap : Nat) (ns : List Int) (hc : ∀ j v, (ns.map (Value.int .u8))[j]? = some v → w.cell? (a.add j) = some v) :
    (convert 59 9 (.slice (some a) ns.length cap)).run Tryd.prog w = .ok (.string (strOf ns)) w := by
  rw [run_convert_bytes_string w 59 9 5 (some a) ns.length cap Tryd.underlying59 Tryd.underlying5 Tryd.underlying9]
  have hl := run_loadCells_list (P := Tryd.prog) w a (ns.map (Value.int .u8)) hc
  simp only [List.length_map] at hl
  exact run_bytesToString w a ns.length cap ns hl
theorem str11 (W : World) (g : Nat) (hg : g = W.heap.size) (x0 x1 x2 x3 x4 x5 x6 x7 x8 x9 x10 : Int) (t : TypeId) (o : Obj) (cap : Nat) :
    (convert 59 9 (.slice (some ⟨g, 0, none⟩) 11 cap)).run Tryd.prog ((W.alloc (.cells #[.int .u8 x0, .int .u8 x1, .int .u8 x2, .int .u8 x3, .int .u8 x4, .int .u8 x5, .int .u8 x6, .int .u8 x7, .int .u8 x8, .int .u8 x9, .int .u8 x10] t)).alloc o) =
      .ok (.string (strOf [x0, x1, x2, x3, x4, x5, x6, x7, x8, x9, x10])) ((W.alloc (.cells #[.int .u8 x0, .int .u8 x1, .int .u8 x2, .int .u8 x3, .int .u8 x4, .int .u8 x5, .int .u8 x6, .int .u8 x7, .int .u8 x8, .int .u8 x9, .int .u8 x10] t)).alloc o) := by
  subst hg
  refine str_cells _ _ cap [x0, x1, x2, x3, x4, x5, x6, x7, x8, x9, x10] ?_
  intro j v hv
  have hadd : (⟨W.heap.size, 0, none⟩ : Addr).add j = ⟨W.heap.size, j, none⟩ := by unfold Addr.add; split <;> simp_all
  rw [hadd, World.cell?_alloc_lt _ _ _ (by simp)]
  rw [cell_of_row (W.alloc _) W.heap.size j _ _ _ (heap_alloc_new W _)]
  rw [← hv]
  simp
set_option maxHeartbeats 1000000 in
theorem format_hi_drop {n d b p : Int} (h : Pl.Row n d b p) (f : Int) (w : World) (ht : Tab w) (h0 : 0 ≤ f) (h1 : f ≤ 100000000) (hr : 60 * b ≤ f % (86400 * b - 1296 * p) % (600 * b - 9 * p)) (hp : 0 < p) :
    Calls Tryd.prog 25 #[rate n d, .int .i64 f] w fun e w' => e = .returned (.tuple #[.string (codeOf b p (Pl.number b p (f % Pl.day b p))), .int .i64 0]) ∧ Below w.heap.size w w' := by
  obtain ⟨b1, b2, b3, b4, b5, b6, b7, b8⟩ := Row.bounds h
  have i0 : 0 ≤ f % (86400 * b - 1296 * p) := Int.emod_nonneg _ (by omega)
  have i1 : f % (86400 * b - 1296 * p) < 86400 * b - 1296 * p := Int.emod_lt_of_pos _ (by omega)
  have q0 : 0 ≤ f % (86400 * b - 1296 * p) / (600 * b - 9 * p) := Int.ediv_nonneg i0 (by omega)
  have q1 : f % (86400 * b - 1296 * p) / (600 * b - 9 * p) ≤ f % (86400 * b - 1296 * p) := Int.ediv_le_self _ i0
  have r0 : 0 ≤ f % (86400 * b - 1296 * p) % (600 * b - 9 * p) := Int.emod_nonneg _ (by omega)
  have r1 : f % (86400 * b - 1296 * p) % (600 * b - 9 * p) < 600 * b - 9 * p := Int.emod_lt_of_pos _ (by omega)
  have hr' : 0 ≤ f % (86400 * b - 1296 * p) % (600 * b - 9 * p) - 60 * b := by omega
  have s0 : 0 ≤ (f % (86400 * b - 1296 * p) % (600 * b - 9 * p) - 60 * b) / (60 * b - p) := Int.ediv_nonneg hr' (by omega)
  have s1 : (f % (86400 * b - 1296 * p) % (600 * b - 9 * p) - 60 * b) / (60 * b - p) ≤ f % (86400 * b - 1296 * p) % (600 * b - 9 * p) - 60 * b := Int.ediv_le_self _ hr'
  have hX : Pl.dropping b p (f % (86400 * b - 1296 * p)) = (f % (86400 * b - 1296 * p) / (600 * b - 9 * p) * 9 + ((f % (86400 * b - 1296 * p) % (600 * b - 9 * p) - 60 * b) / (60 * b - p) + 1)) := by unfold Pl.dropping Pl.ten; rw [if_pos hr]
  obtain ⟨n1, n2, n3, n4, n5, n6, n7, n8⟩ := number_facts h f _ hX
  have HX := Lib.hid hX
  have H := Lib.hid h
  have T := Lib.hid ht
  clear h ht hX
  go_enter Tryd.func25, Tryd.ntmps25
  go_wp2_with fail
  refine (find_yes H.out _ (T.out.alloc _)).mono ?_
  rintro e w1 ⟨rfl, hb⟩
  have hb1 : Below w.heap.size w w1 := Below.via (by go_grown) (by go_size) hb
  obtain ⟨hc, hf⟩ := bcell hb
  go_wp2_with fail
  refine (isFrame_yes _ _ h0 h1).mono ?_
  rintro e _ ⟨rfl, rfl⟩
  go_wp2
  go_quiet (fail)
  go_wp2
  generalize hN : f % (86400 * b - 1296 * p) + (f % (86400 * b - 1296 * p) / (600 * b - 9 * p) * 9 + ((f % (86400 * b - 1296 * p) % (600 * b - 9 * p) - 60 * b) / (60 * b - p) + 1)) * p = N at *
  have HN := Lib.hid hN
  clear hN
  have j0 := ix45_0
  have j1 := ix45_1
  have j2 := ix45_2
  have j3 := ix45_3
  refine wp_loop_rounds 5 ?_
  repeat any_goals (rw [rounds_succ]; go_wp2_with fail)
  refine (sep_drop _ _ _ _ _ hp).mono ?_
  rintro e _ ⟨rfl, rfl⟩
  have hs := str11
  go_wp2
  go_ret2
  refine ⟨?_, ?_⟩
  · have e1 : Pl.number b p (f % Pl.day b p) = N := by
      unfold Pl.number Pl.day; rw [HX.out]; exact HN.out
    rw [e1]
    unfold codeOf codeL
    rw [if_pos hp]
    simp
  · have hz : w.heap.size ≤ w1.heap.size := hb1.size
    go_grown
    refine below_drewN ?_ _
    go_grown
set_option maxHeartbeats 1000000 in
theorem format_hi_plain {n d b p : Int} (h : Pl.Row n d b p) (f : Int) (w : World) (ht : Tab w) (h0 : 0 ≤ f) (h1 : f ≤ 100000000) (hr : 60 * b ≤ f % (86400 * b - 1296 * p) % (600 * b - 9 * p)) (hp : ¬ 0 < p) :
    Calls Tryd.prog 25 #[rate n d, .int .i64 f] w fun e w' => e = .returned (.tuple #[.string (codeOf b p (Pl.number b p (f % Pl.day b p))), .int .i64 0]) ∧ Below w.heap.size w w' := by
  obtain ⟨b1, b2, b3, b4, b5, b6, b7, b8⟩ := Row.bounds h
  have i0 : 0 ≤ f % (86400 * b - 1296 * p) := Int.emod_nonneg _ (by omega)
  have i1 : f % (86400 * b - 1296 * p) < 86400 * b - 1296 * p := Int.emod_lt_of_pos _ (by omega)
  have q0 : 0 ≤ f % (86400 * b - 1296 * p) / (600 * b - 9 * p) := Int.ediv_nonneg i0 (by omega)
  have q1 : f % (86400 * b - 1296 * p) / (600 * b - 9 * p) ≤ f % (86400 * b - 1296 * p) := Int.ediv_le_self _ i0
  have r0 : 0 ≤ f % (86400 * b - 1296 * p) % (600 * b - 9 * p) := Int.emod_nonneg _ (by omega)
  have r1 : f % (86400 * b - 1296 * p) % (600 * b - 9 * p) < 600 * b - 9 * p := Int.emod_lt_of_pos _ (by omega)
  have hr' : 0 ≤ f % (86400 * b - 1296 * p) % (600 * b - 9 * p) - 60 * b := by omega
  have s0 : 0 ≤ (f % (86400 * b - 1296 * p) % (600 * b - 9 * p) - 60 * b) / (60 * b - p) := Int.ediv_nonneg hr' (by omega)
  have s1 : (f % (86400 * b - 1296 * p) % (600 * b - 9 * p) - 60 * b) / (60 * b - p) ≤ f % (86400 * b - 1296 * p) % (600 * b - 9 * p) - 60 * b := Int.ediv_le_self _ hr'
  have hX : Pl.dropping b p (f % (86400 * b - 1296 * p)) = (f % (86400 * b - 1296 * p) / (600 * b - 9 * p) * 9 + ((f % (86400 * b - 1296 * p) % (600 * b - 9 * p) - 60 * b) / (60 * b - p) + 1)) := by unfold Pl.dropping Pl.ten; rw [if_pos hr]
  obtain ⟨n1, n2, n3, n4, n5, n6, n7, n8⟩ := number_facts h f _ hX
  have HX := Lib.hid hX
  have H := Lib.hid h
  have T := Lib.hid ht
  clear h ht hX
  go_enter Tryd.func25, Tryd.ntmps25
  go_wp2_with fail
  refine (find_yes H.out _ (T.out.alloc _)).mono ?_
  rintro e w1 ⟨rfl, hb⟩
  have hb1 : Below w.heap.size w w1 := Below.via (by go_grown) (by go_size) hb
  obtain ⟨hc, hf⟩ := bcell hb
  go_wp2_with fail
  refine (isFrame_yes _ _ h0 h1).mono ?_
  rintro e _ ⟨rfl, rfl⟩
  go_wp2
  go_quiet (fail)
  go_wp2
  generalize hN : f % (86400 * b - 1296 * p) + (f % (86400 * b - 1296 * p) / (600 * b - 9 * p) * 9 + ((f % (86400 * b - 1296 * p) % (600 * b - 9 * p) - 60 * b) / (60 * b - p) + 1)) * p = N at *
  have HN := Lib.hid hN
  clear hN
  have j0 := ix45_0
  have j1 := ix45_1
  have j2 := ix45_2
  have j3 := ix45_3
  refine wp_loop_rounds 5 ?_
  repeat any_goals (rw [rounds_succ]; go_wp2_with fail)
  refine (sep_plain _ _ _ _ _ (by omega)).mono ?_
  rintro e _ ⟨rfl, rfl⟩
  have hs := str11
  go_wp2
  go_ret2
  refine ⟨?_, ?_⟩
  · have e1 : Pl.number b p (f % Pl.day b p) = N := by
      unfold Pl.number Pl.day; rw [HX.out]; exact HN.out
    rw [e1]
    unfold codeOf codeL
    rw [if_neg (by omega)]
    simp
  · have hz : w.heap.size ≤ w1.heap.size := hb1.size
    go_grown
    refine below_drewN ?_ _
    go_grown
set_option maxHeartbeats 1000000 in
theorem format_lo_drop {n d b p : Int} (h : Pl.Row n d b p) (f : Int) (w : World) (ht : Tab w) (h0 : 0 ≤ f) (h1 : f ≤ 100000000) (hr : ¬ 60 * b ≤ f % (86400 * b - 1296 * p) % (600 * b - 9 * p)) (hp : 0 < p) :
    Calls Tryd.prog 25 #[rate n d, .int .i64 f] w fun e w' => e = .returned (.tuple #[.string (codeOf b p (Pl.number b p (f % Pl.day b p))), .int .i64 0]) ∧ Below w.heap.size w w' := by
  obtain ⟨b1, b2, b3, b4, b5, b6, b7, b8⟩ := Row.bounds h
  have i0 : 0 ≤ f % (86400 * b - 1296 * p) := Int.emod_nonneg _ (by omega)
  have i1 : f % (86400 * b - 1296 * p) < 86400 * b - 1296 * p := Int.emod_lt_of_pos _ (by omega)
  have q0 : 0 ≤ f % (86400 * b - 1296 * p) / (600 * b - 9 * p) := Int.ediv_nonneg i0 (by omega)
  have q1 : f % (86400 * b - 1296 * p) / (600 * b - 9 * p) ≤ f % (86400 * b - 1296 * p) := Int.ediv_le_self _ i0
  have r0 : 0 ≤ f % (86400 * b - 1296 * p) % (600 * b - 9 * p) := Int.emod_nonneg _ (by omega)
  have r1 : f % (86400 * b - 1296 * p) % (600 * b - 9 * p) < 600 * b - 9 * p := Int.emod_lt_of_pos _ (by omega)
  have hX : Pl.dropping b p (f % (86400 * b - 1296 * p)) = (f % (86400 * b - 1296 * p) / (600 * b - 9 * p) * 9) := by unfold Pl.dropping Pl.ten; rw [if_neg hr]; omega
  obtain ⟨n1, n2, n3, n4, n5, n6, n7, n8⟩ := number_facts h f _ hX
  have HX := Lib.hid hX
  have H := Lib.hid h
  have T := Lib.hid ht
  clear h ht hX
  go_enter Tryd.func25, Tryd.ntmps25
  go_wp2_with fail
  refine (find_yes H.out _ (T.out.alloc _)).mono ?_
  rintro e w1 ⟨rfl, hb⟩
  have hb1 : Below w.heap.size w w1 := Below.via (by go_grown) (by go_size) hb
  obtain ⟨hc, hf⟩ := bcell hb
  go_wp2_with fail
  refine (isFrame_yes _ _ h0 h1).mono ?_
  rintro e _ ⟨rfl, rfl⟩
  go_wp2
  go_quiet (fail)
  go_wp2
  generalize hN : f % (86400 * b - 1296 * p) + (f % (86400 * b - 1296 * p) / (600 * b - 9 * p) * 9) * p = N at *
  have HN := Lib.hid hN
  clear hN
  have j0 := ix45_0
  have j1 := ix45_1
  have j2 := ix45_2
  have j3 := ix45_3
  refine wp_loop_rounds 5 ?_
  repeat any_goals (rw [rounds_succ]; go_wp2_with fail)
  refine (sep_drop _ _ _ _ _ hp).mono ?_
  rintro e _ ⟨rfl, rfl⟩
  have hs := str11
  go_wp2
  go_ret2
  refine ⟨?_, ?_⟩
  · have e1 : Pl.number b p (f % Pl.day b p) = N := by
      unfold Pl.number Pl.day; rw [HX.out]; exact HN.out
    rw [e1]
    unfold codeOf codeL
    rw [if_pos hp]
    simp
  · have hz : w.heap.size ≤ w1.heap.size := hb1.size
    go_grown
    refine below_drewN ?_ _
    go_grown
set_option maxHeartbeats 1000000 in
theorem format_lo_plain {n d b p : Int} (h : Pl.Row n d b p) (f : Int) (w : World) (ht : Tab w) (h0 : 0 ≤ f) (h1 : f ≤ 100000000) (hr : ¬ 60 * b ≤ f % (86400 * b - 1296 * p) % (600 * b - 9 * p)) (hp : ¬ 0 < p) :
    Calls Tryd.prog 25 #[rate n d, .int .i64 f] w fun e w' => e = .returned (.tuple #[.string (codeOf b p (Pl.number b p (f % Pl.day b p))), .int .i64 0]) ∧ Below w.heap.size w w' := by
  obtain ⟨b1, b2, b3, b4, b5, b6, b7, b8⟩ := Row.bounds h
  have i0 : 0 ≤ f % (86400 * b - 1296 * p) := Int.emod_nonneg _ (by omega)
  have i1 : f % (86400 * b - 1296 * p) < 86400 * b - 1296 * p := Int.emod_lt_of_pos _ (by omega)
  have q0 : 0 ≤ f % (86400 * b - 1296 * p) / (600 * b - 9 * p) := Int.ediv_nonneg i0 (by omega)
  have q1 : f % (86400 * b - 1296 * p) / (600 * b - 9 * p) ≤ f % (86400 * b - 1296 * p) := Int.ediv_le_self _ i0
  have r0 : 0 ≤ f % (86400 * b - 1296 * p) % (600 * b - 9 * p) := Int.emod_nonneg _ (by omega)
  have r1 : f % (86400 * b - 1296 * p) % (600 * b - 9 * p) < 600 * b - 9 * p := Int.emod_lt_of_pos _ (by omega)
  have hX : Pl.dropping b p (f % (86400 * b - 1296 * p)) = (f % (86400 * b - 1296 * p) / (600 * b - 9 * p) * 9) := by unfold Pl.dropping Pl.ten; rw [if_neg hr]; omega
  obtain ⟨n1, n2, n3, n4, n5, n6, n7, n8⟩ := number_facts h f _ hX
  have HX := Lib.hid hX
  have H := Lib.hid h
  have T := Lib.hid ht
  clear h ht hX
  go_enter Tryd.func25, Tryd.ntmps25
  go_wp2_with fail
  refine (find_yes H.out _ (T.out.alloc _)).mono ?_
  rintro e w1 ⟨rfl, hb⟩
  have hb1 : Below w.heap.size w w1 := Below.via (by go_grown) (by go_size) hb
  obtain ⟨hc, hf⟩ := bcell hb
  go_wp2_with fail
  refine (isFrame_yes _ _ h0 h1).mono ?_
  rintro e _ ⟨rfl, rfl⟩
  go_wp2
  go_quiet (fail)
  go_wp2
  generalize hN : f % (86400 * b - 1296 * p) + (f % (86400 * b - 1296 * p) / (600 * b - 9 * p) * 9) * p = N at *
  have HN := Lib.hid hN
  clear hN
  have j0 := ix45_0
  have j1 := ix45_1
  have j2 := ix45_2
  have j3 := ix45_3
  refine wp_loop_rounds 5 ?_
  repeat any_goals (rw [rounds_succ]; go_wp2_with fail)
  refine (sep_plain _ _ _ _ _ (by omega)).mono ?_
  rintro e _ ⟨rfl, rfl⟩
  have hs := str11
  go_wp2
  go_ret2
  refine ⟨?_, ?_⟩
  · have e1 : Pl.number b p (f % Pl.day b p) = N := by
      unfold Pl.number Pl.day; rw [HX.out]; exact HN.out
    rw [e1]
    unfold codeOf codeL
    rw [if_neg (by omega)]
    simp
  · have hz : w.heap.size ≤ w1.heap.size := hb1.size
    go_grown
    refine below_drewN ?_ _
    go_grown
theorem format_yes {n d b p : Int} (h : Pl.Row n d b p) (f : Int) (w : World) (ht : Tab w) (h0 : 0 ≤ f) (h1 : f ≤ 100000000) :
    Calls Tryd.prog 25 #[rate n d, .int .i64 f] w fun e w' => e = .returned (.tuple #[.string (codeOf b p (Pl.number b p (f % Pl.day b p))), .int .i64 0]) ∧ Below w.heap.size w w' := by
  by_cases hr : 60 * b ≤ f % (86400 * b - 1296 * p) % (600 * b - 9 * p)
  · by_cases hp : 0 < p
    · exact format_hi_drop h f w ht h0 h1 hr hp
    · exact format_hi_plain h f w ht h0 h1 hr hp
  · by_cases hp : 0 < p
    · exact format_lo_drop h f w ht h0 h1 hr hp
    · exact format_lo_plain h f w ht h0 h1 hr hp
set_option maxHeartbeats 400000 in
theorem format_norow {n d : Int} (h : NoRow n d) (f : Int) (w : World) (ht : Tab w) :
    Calls Tryd.prog 25 #[rate n d, .int .i64 f] w fun e w' => e = .returned (.tuple #[.string ⟨#[]⟩, .int .i64 30]) ∧ Below w.heap.size w w' := by
  have H := Lib.hid h
  have T := Lib.hid ht
  clear h ht
  go_enter Tryd.func25, Tryd.ntmps25
  go_wp2_with fail
  refine (find_no _ _ _ (T.out.alloc _) H.out).mono ?_
  rintro e w1 ⟨rfl, hb⟩
  have hb1 : Below w.heap.size w w1 := Below.via (by go_grown) (by go_size) hb
  obtain ⟨hc, hf⟩ := bcell hb
  go_wp2
  go_ret2
  have hz : w.heap.size ≤ w1.heap.size := hb1.size
  exact ⟨rfl, by go_grown⟩
set_option maxHeartbeats 400000 in
theorem format_noframe {n d b p : Int} (h : Pl.Row n d b p) (f : Int) (w : World) (ht : Tab w) (h0 : ¬ (0 ≤ f ∧ f ≤ 100000000)) :
    Calls Tryd.prog 25 #[rate n d, .int .i64 f] w fun e w' => e = .returned (.tuple #[.string ⟨#[]⟩, .int .i64 30]) ∧ Below w.heap.size w w' := by
  have H := Lib.hid h
  have T := Lib.hid ht
  have F := Lib.hid h0
  clear h ht h0
  go_enter Tryd.func25, Tryd.ntmps25
  go_wp2_with fail
  refine (find_yes H.out _ (T.out.alloc _)).mono ?_
  rintro e w1 ⟨rfl, hb⟩
  have hb1 : Below w.heap.size w w1 := Below.via (by go_grown) (by go_size) hb
  obtain ⟨hc, hf⟩ := bcell hb
  go_wp2_with fail
  refine (isFrame_no _ _ F.out).mono ?_
  rintro e _ ⟨rfl, rfl⟩
  go_wp2
  go_ret2
  have hz : w.heap.size ≤ w1.heap.size := hb1.size
  exact ⟨rfl, by go_grown⟩
end Go.Proofs.YtfnmjabegajniaaDoor
