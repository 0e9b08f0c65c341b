/-
  The contract of timecode.Parse: a string is accepted exactly if it is Good (eleven bytes, the separators, digits, ranges, not dropped), and what it returns then. Condition: the package variable 'rates' holds its table.
-/
import Derived.Test.YtfnmjabegajniaaDoorCalc
import Derived.PlainAid
import Derived.Deep.RegionWith
import Derived.Deep.RegionHeld3
import Derived.Deep.DeepCutAuto
namespace Go.Proofs.YtfnmjabegajniaaDoor
open Go.RowKit Go.PlainAid
def sepC (p : Int) : Int := if 0 < p then 59 else 58
theorem sep_any (n d b p : Int) (w : World) : Calls Tryd.prog 38 #[rowV n d b p] w fun e w' => e = .returned (.int .u8 (sepC p)) ∧ w.alloc (.cells #[.int .i64 n, .int .i64 d, .int .i64 b, .int .i64 p] 54) = w' := by
  unfold sepC
  by_cases h : 0 < p
  · rw [if_pos h]
    go_enter Tryd.func38, Tryd.ntmps38
    go_wp2
    go_ret
    exact ⟨rfl, rfl⟩
  · rw [if_neg h]
    go_enter Tryd.func38, Tryd.ntmps38
    go_wp2
    go_ret
    exact ⟨rfl, rfl⟩
theorem ixp45_0 (x0 x1 x2 x3 : Int) (w : World) : (Instr.index 45 (.agg #[.int .i64 x0, .int .i64 x1, .int .i64 x2, .int .i64 x3]) (.int .i64 0)).run Tryd.prog w = .ok (.int .i64 x0) w := by kernel_rfl
theorem ixp45_1 (x0 x1 x2 x3 : Int) (w : World) : (Instr.index 45 (.agg #[.int .i64 x0, .int .i64 x1, .int .i64 x2, .int .i64 x3]) (.int .i64 1)).run Tryd.prog w = .ok (.int .i64 x1) w := by kernel_rfl
theorem ixp45_2 (x0 x1 x2 x3 : Int) (w : World) : (Instr.index 45 (.agg #[.int .i64 x0, .int .i64 x1, .int .i64 x2, .int .i64 x3]) (.int .i64 2)).run Tryd.prog w = .ok (.int .i64 x2) w := by kernel_rfl
theorem ixp45_3 (x0 x1 x2 x3 : Int) (w : World) : (Instr.index 45 (.agg #[.int .i64 x0, .int .i64 x1, .int .i64 x2, .int .i64 x3]) (.int .i64 3)).run Tryd.prog w = .ok (.int .i64 x3) w := by kernel_rfl
theorem ix62_0 (x0 x1 : Int) (w : World) : (Instr.index 62 (.agg #[.int .u8 x0, .int .u8 x1]) (.int .i64 0)).run Tryd.prog w = .ok (.int .u8 x0) w := by kernel_rfl
theorem ix62_1 (x0 x1 : Int) (w : World) : (Instr.index 62 (.agg #[.int .u8 x0, .int .u8 x1]) (.int .i64 1)).run Tryd.prog w = .ok (.int .u8 x1) w := by kernel_rfl

/-- two bytes of a string, read as a decimal number -/
def pt (s : ByteArray) (k : Nat) : Int := 10 * (bt s k - 48) + (bt s (k + 1) - 48)
def Dig (s : ByteArray) (k : Nat) : Prop := 48 ≤ bt s k ∧ bt s k ≤ 57 ∧ 48 ≤ bt s (k + 1) ∧ bt s (k + 1) ≤ 57
def Good (b p : Int) (s : ByteArray) : Prop := s.size = 11 ∧ bt s 2 = 58 ∧ bt s 5 = 58 ∧ bt s 8 = sepC p ∧ Dig s 0 ∧ Dig s 3 ∧ Dig s 6 ∧ Dig s 9 ∧
  pt s 0 < 24 ∧ pt s 3 < 60 ∧ pt s 6 < 60 ∧ pt s 9 < b ∧ ¬ ((60 * pt s 0 + pt s 3) % 10 ≠ 0 ∧ pt s 6 = 0 ∧ pt s 9 < p)
def ParsePost (b p : Int) (s : ByteArray) (e : Ending) : Prop :=
  (Good b p s ∧ e = .returned (.tuple #[.int .i64 (Pl.frameAt b p (60 * pt s 0 + pt s 3) (pt s 6) (pt s 9)), .int .i64 0])) ∨ (¬ Good b p s ∧ e = .returned (.tuple #[.int .i64 0, .int .i64 30]))
theorem good_mk {b p : Int} {s : ByteArray} {x0 x1 x2 x3 : Int} (hs : s.size = 11) (c2 : (bt s 2 != 58) = false) (c5 : (bt s 5 != 58) = false) (c8 : (bt s 8 != sepC p) = false)
    (P0 : pt s 0 = x0) (P3 : pt s 3 = x1) (P6 : pt s 6 = x2) (P9 : pt s 9 = x3)
    (d0 : 48 ≤ bt s 0 ∧ bt s 0 ≤ 57) (d1 : 48 ≤ bt s 1 ∧ bt s 1 ≤ 57) (d3 : 48 ≤ bt s 3 ∧ bt s 3 ≤ 57) (d4 : 48 ≤ bt s 4 ∧ bt s 4 ≤ 57) (d6 : 48 ≤ bt s 6 ∧ bt s 6 ≤ 57) (d7 : 48 ≤ bt s 7 ∧ bt s 7 ≤ 57) (d9 : 48 ≤ bt s 9 ∧ bt s 9 ≤ 57) (d10 : 48 ≤ bt s 10 ∧ bt s 10 ≤ 57)
    (r0 : x0 < 24) (r1 : x1 < 60) (r2 : x2 < 60) (r3 : x3 < b) (nd : ¬ ((60 * x0 + x1) % 10 ≠ 0 ∧ x2 = 0 ∧ x3 < p)) : Good b p s := by
  subst P0 P3 P6 P9
  exact ⟨hs, by simpa using c2, by simpa using c5, by simpa using c8, ⟨d0.1, d0.2, d1⟩, ⟨d3.1, d3.2, d4⟩, ⟨d6.1, d6.2, d7⟩, ⟨d9.1, d9.2, d10⟩, r0, r1, r2, r3, nd⟩
theorem post_ok {b p : Int} {s : ByteArray} {e : Ending} {x0 x1 x2 x3 v : Int} (P0 : pt s 0 = x0) (P3 : pt s 3 = x1) (P6 : pt s 6 = x2) (P9 : pt s 9 = x3) (hG : Good b p s)
    (he : e = .returned (.tuple #[.int .i64 v, .int .i64 0])) (hv : v = (60 * (60 * x0 + x1) + x2) * b + x3 - (60 * x0 + x1 - (60 * x0 + x1) / 10) * p) : ParsePost b p s e := by
  subst P0 P3 P6 P9 hv
  exact .inl ⟨hG, he⟩
theorem ne_zero_of {x : Int} (h : (x != 0) = false) : x = 0 := by simpa using h
theorem post_bad {b p : Int} {s : ByteArray} {e : Ending} (hG : ¬ Good b p s) (he : e = .returned (.tuple #[.int .i64 0, .int .i64 30])) : ParsePost b p s e := .inr ⟨hG, he⟩
set_option maxRecDepth 100000 in
set_option maxHeartbeats 4000000 in
theorem parse_main {n d b p : Int} (h : Pl.Row n d b p) (s : ByteArray) (w : World) (ht : Tab w) (hs : s.size = 11) (c2 : (bt s 2 != 58) = false) (c5 : (bt s 5 != 58) = false) (c8 : (bt s 8 != sepC p) = false) :
    Calls Tryd.prog 27 #[rate n d, .string s] w fun e w' => ParsePost b p s e ∧ Below w.heap.size w w' := by
  obtain ⟨b1, b2, b3, b4, b5, b6, b7, b8⟩ := Row.bounds h
  have H := Lib.hid h
  have T := Lib.hid ht
  have hbt := get_bt s
  clear h ht
  go_enter Tryd.func27, Tryd.ntmps27
  go_wp2_with fail
  refine (find_yes H.out _ (T.out.alloc _)).mono ?_
  rintro e w1 ⟨rfl, hb⟩
  have hb1 : Below w.heap.size w w1 := Below.via (by go_grown) (by go_size) hb
  have hz : w.heap.size ≤ w1.heap.size := hb1.size
  obtain ⟨hc, hf⟩ := bcell hb
  go_upto_region 2 with fail
  go_cut [43] (fun s43 wx => s43 = .bool false ∧ wx = ((w1.alloc (.cells #[.int .i64 n, .int .i64 d, .int .i64 b, .int .i64 p] 54)).alloc (.cells #[.int .i64 n, .int .i64 d, .int .i64 b, .int .i64 p] 54)).drew)
  case first =>
    go_region_held3 (fun w' => w'.cell? ⟨w1.heap.size, 0, none⟩ = some (.int .i64 n) ∧ w'.cell? ⟨w1.heap.size, 1, none⟩ = some (.int .i64 d) ∧ w'.cell? ⟨w1.heap.size, 2, none⟩ = some (.int .i64 b) ∧ w'.cell? ⟨w1.heap.size, 3, none⟩ = some (.int .i64 p)) (simp [go_sem, World.cell?_alloc_past])
      (first | (go_at_call 38; refine (sep_any _ _ _ _ _).mono ?_; rintro e w' ⟨rfl, rfl⟩))
    all_goals (go_wp2_with fail; go_meet; exact ⟨rfl, rfl⟩)
  case rest =>
    obtain ⟨rfl, rfl⟩ := hcut
    have j0 := ixp45_0
    have j1 := ixp45_1
    have j2 := ixp45_2
    have j3 := ixp45_3
    have k0 := ix62_0
    have k1 := ix62_1
    have hsd : ∀ (W : World) (k : Nat) (a : Addr) (v : Value), (W.drewN k).setCell a v = (W.setCell a v).drewN k := fun _ _ _ _ => rfl
    have l0 := bt_nonneg s 0
    have m0 := bt_le s 0
    have l1 := bt_nonneg s 1
    have m1 := bt_le s 1
    have l3 := bt_nonneg s 3
    have m3 := bt_le s 3
    have l4 := bt_nonneg s 4
    have m4 := bt_le s 4
    have l6 := bt_nonneg s 6
    have m6 := bt_le s 6
    have l7 := bt_nonneg s 7
    have m7 := bt_le s 7
    have l9 := bt_nonneg s 9
    have m9 := bt_le s 9
    have l10 := bt_nonneg s 10
    have m10 := bt_le s 10
    go_wp2
    refine wp_loop_rounds 5 ?_
    rw [rounds_succ]
    go_wp2
    go_quiet (fail)
    go_wp2
    refine wp_loop_rounds 3 ?_
    rw [rounds_succ]
    go_wp2
    any_goals (rw [rounds_succ]; go_wp2)
    any_goals (rw [rounds_succ]; go_wp2)
    any_goals (go_ret2; refine ⟨.inr ⟨?_, rfl⟩, ?_⟩; (intro hg; simp only [Good, Dig, pt, Nat.reduceAdd] at hg; omega); (go_grown; refine below_drewN ?_ _; go_grown))
    rw [rounds_succ]
    go_wp2
    go_quiet (fail)
    go_wp2
    refine wp_loop_rounds 3 ?_
    rw [rounds_succ]
    go_wp2
    any_goals (rw [rounds_succ]; go_wp2)
    any_goals (rw [rounds_succ]; go_wp2)
    any_goals (go_ret2; refine ⟨.inr ⟨?_, rfl⟩, ?_⟩; (intro hg; simp only [Good, Dig, pt, Nat.reduceAdd] at hg; omega); (go_grown; refine below_drewN ?_ _; go_grown))
    rw [rounds_succ]
    go_wp2
    go_quiet (fail)
    go_wp2
    refine wp_loop_rounds 3 ?_
    rw [rounds_succ]
    go_wp2
    any_goals (rw [rounds_succ]; go_wp2)
    any_goals (rw [rounds_succ]; go_wp2)
    any_goals (go_ret2; refine ⟨.inr ⟨?_, rfl⟩, ?_⟩; (intro hg; simp only [Good, Dig, pt, Nat.reduceAdd] at hg; omega); (go_grown; refine below_drewN ?_ _; go_grown))
    rw [rounds_succ]
    go_wp2
    go_quiet (fail)
    go_wp2
    refine wp_loop_rounds 3 ?_
    rw [rounds_succ]
    go_wp2
    any_goals (rw [rounds_succ]; go_wp2)
    any_goals (rw [rounds_succ]; go_wp2)
    any_goals (go_ret2; refine ⟨.inr ⟨?_, rfl⟩, ?_⟩; (intro hg; simp only [Good, Dig, pt, Nat.reduceAdd] at hg; omega); (go_grown; refine below_drewN ?_ _; go_grown))
    generalize h0 : 10 * (bt s 0 - 48) + (bt s 1 - 48) = x0 at *
    generalize h3 : 10 * (bt s 3 - 48) + (bt s 4 - 48) = x1 at *
    generalize h6 : 10 * (bt s 6 - 48) + (bt s 7 - 48) = x2 at *
    generalize h9 : 10 * (bt s 9 - 48) + (bt s 10 - 48) = x3 at *
    have z0 : 0 ≤ x0 := by omega
    have z1 : 0 ≤ x1 := by omega
    have z2 : 0 ≤ x2 := by omega
    have z3 : 0 ≤ x3 := by omega
    have H0 := Lib.hid h0
    have H3 := Lib.hid h3
    have H6 := Lib.hid h6
    have H9 := Lib.hid h9
    clear h0 h3 h6 h9
    obtain ⟨y0, y1⟩ := mul_bd (f := 60 * (60 * x0 + x1) + x2) (M := 86400) (by omega) (by omega) (by omega : 0 ≤ b) b6
    obtain ⟨y4, y5⟩ := mul_bd (f := 60 * (60 * x0 + x1)) (M := 86400) (by omega) (by omega) (by omega : 0 ≤ b) b6
    obtain ⟨y2, y3⟩ := mul_bd (f := 60 * x0 + x1 - (60 * x0 + x1) / 10) (M := 1440) (by omega) (by omega) b7 b8
    rw [rounds_succ]
    go_wp2
    · go_ret2
      refine ⟨post_ok H0.out H3.out H6.out H9.out (good_mk hs c2 c5 c8 H0.out H3.out H6.out H9.out ⟨by assumption, by omega⟩ ⟨by assumption, by omega⟩ ⟨by assumption, by omega⟩ ⟨by assumption, by omega⟩ ⟨by assumption, by omega⟩ ⟨by assumption, by omega⟩ ⟨by assumption, by omega⟩ ⟨by assumption, by omega⟩ (by assumption) (by assumption) (by assumption) (by assumption) (fun h => by omega)) rfl rfl, ?_⟩
      (go_grown; refine below_drewN ?_ _; go_grown)
    · go_ret2
      refine ⟨post_bad (fun hg => ?_) rfl, ?_⟩
      · have hq : ((60 * x0 + x1) % 10 != 0) = true ∧ x3 < p := by assumption
        have hx2 : x2 = 0 := by assumption
        obtain ⟨_, _, _, _, _, _, _, _, _, _, _, _, hnd⟩ := hg
        refine hnd ⟨?_, (show pt s 6 = x2 from H6.out).trans hx2, ?_⟩
        · rw [show pt s 0 = x0 from H0.out, show pt s 3 = x1 from H3.out]
          simpa using hq.1
        · rw [show pt s 9 = x3 from H9.out]
          exact hq.2
      · (go_grown; refine below_drewN ?_ _; go_grown)
    · go_ret2
      have hq : ((60 * x0 + x1) % 10 != 0) = false ∨ p ≤ x3 := by assumption
      have hx2 : x2 = 0 := by assumption
      refine ⟨post_ok H0.out H3.out H6.out H9.out (good_mk hs c2 c5 c8 H0.out H3.out H6.out H9.out ⟨by assumption, by omega⟩ ⟨by assumption, by omega⟩ ⟨by assumption, by omega⟩ ⟨by assumption, by omega⟩ ⟨by assumption, by omega⟩ ⟨by assumption, by omega⟩ ⟨by assumption, by omega⟩ ⟨by assumption, by omega⟩ (by assumption) (by assumption) (by assumption) (by assumption) (fun h => by rcases hq with q | q; exact h.1 (ne_zero_of q); omega)) rfl (by rw [hx2]; simp), ?_⟩
      (go_grown; refine below_drewN ?_ _; go_grown)
    · go_ret2
      have hx2 : ¬ x2 = 0 := by assumption
      refine ⟨post_ok H0.out H3.out H6.out H9.out (good_mk hs c2 c5 c8 H0.out H3.out H6.out H9.out ⟨by assumption, by omega⟩ ⟨by assumption, by omega⟩ ⟨by assumption, by omega⟩ ⟨by assumption, by omega⟩ ⟨by assumption, by omega⟩ ⟨by assumption, by omega⟩ ⟨by assumption, by omega⟩ ⟨by assumption, by omega⟩ (by assumption) (by assumption) (by assumption) (by assumption) (fun h => hx2 h.2.1)) rfl rfl, ?_⟩
      (go_grown; refine below_drewN ?_ _; go_grown)
set_option maxRecDepth 100000 in
set_option maxHeartbeats 1000000 in
theorem parse_norow {n d : Int} (h : NoRow n d) (s : ByteArray) (w : World) (ht : Tab w)  :
    Calls Tryd.prog 27 #[rate n d, .string s] w fun e w' => e = .returned (.tuple #[.int .i64 0, .int .i64 30]) ∧ Below w.heap.size w w' := by
  have H := Lib.hid h
  have T := Lib.hid ht
  have hbt := get_bt s
  clear h ht
  go_enter Tryd.func27, Tryd.ntmps27
  go_wp2_with fail
  refine (find_no _ _ _ (T.out.alloc _) H.out).mono ?_
  rintro e w1 ⟨rfl, hb⟩
  have hb1 : Below w.heap.size w w1 := Below.via (by go_grown) (by go_size) hb
  have hz : w.heap.size ≤ w1.heap.size := hb1.size
  obtain ⟨hc, hf⟩ := bcell hb
  go_wp2
  go_quiet (fail)
  go_wp2
  go_ret2
  exact ⟨rfl, by go_grown; refine below_drewN ?_ _; go_grown⟩
set_option maxRecDepth 100000 in
set_option maxHeartbeats 1000000 in
theorem parse_len {n d b p : Int} (h : Pl.Row n d b p) (s : ByteArray) (w : World) (ht : Tab w) (hs : ((s.size : Int) != 11) = true) :
    Calls Tryd.prog 27 #[rate n d, .string s] w fun e w' => e = .returned (.tuple #[.int .i64 0, .int .i64 30]) ∧ Below w.heap.size w w' := by
  have H := Lib.hid h
  have T := Lib.hid ht
  have hbt := get_bt s
  clear h ht
  go_enter Tryd.func27, Tryd.ntmps27
  go_wp2_with fail
  refine (find_yes H.out _ (T.out.alloc _)).mono ?_
  rintro e w1 ⟨rfl, hb⟩
  have hb1 : Below w.heap.size w w1 := Below.via (by go_grown) (by go_size) hb
  have hz : w.heap.size ≤ w1.heap.size := hb1.size
  obtain ⟨hc, hf⟩ := bcell hb
  go_wp2
  go_quiet (fail)
  go_wp2
  go_ret2
  exact ⟨rfl, by go_grown; refine below_drewN ?_ _; go_grown⟩
set_option maxRecDepth 100000 in
set_option maxHeartbeats 1000000 in
theorem parse_c2 {n d b p : Int} (h : Pl.Row n d b p) (s : ByteArray) (w : World) (ht : Tab w) (hs : s.size = 11) (c2 : (bt s 2 != 58) = true) :
    Calls Tryd.prog 27 #[rate n d, .string s] w fun e w' => e = .returned (.tuple #[.int .i64 0, .int .i64 30]) ∧ Below w.heap.size w w' := by
  have H := Lib.hid h
  have T := Lib.hid ht
  have hbt := get_bt s
  clear h ht
  go_enter Tryd.func27, Tryd.ntmps27
  go_wp2_with fail
  refine (find_yes H.out _ (T.out.alloc _)).mono ?_
  rintro e w1 ⟨rfl, hb⟩
  have hb1 : Below w.heap.size w w1 := Below.via (by go_grown) (by go_size) hb
  have hz : w.heap.size ≤ w1.heap.size := hb1.size
  obtain ⟨hc, hf⟩ := bcell hb
  go_wp2
  go_quiet (fail)
  go_wp2
  go_ret2
  exact ⟨rfl, by go_grown; refine below_drewN ?_ _; go_grown⟩
set_option maxRecDepth 100000 in
set_option maxHeartbeats 1000000 in
theorem parse_c5 {n d b p : Int} (h : Pl.Row n d b p) (s : ByteArray) (w : World) (ht : Tab w) (hs : s.size = 11) (c2 : (bt s 2 != 58) = false) (c5 : (bt s 5 != 58) = true) :
    Calls Tryd.prog 27 #[rate n d, .string s] w fun e w' => e = .returned (.tuple #[.int .i64 0, .int .i64 30]) ∧ Below w.heap.size w w' := by
  have H := Lib.hid h
  have T := Lib.hid ht
  have hbt := get_bt s
  clear h ht
  go_enter Tryd.func27, Tryd.ntmps27
  go_wp2_with fail
  refine (find_yes H.out _ (T.out.alloc _)).mono ?_
  rintro e w1 ⟨rfl, hb⟩
  have hb1 : Below w.heap.size w w1 := Below.via (by go_grown) (by go_size) hb
  have hz : w.heap.size ≤ w1.heap.size := hb1.size
  obtain ⟨hc, hf⟩ := bcell hb
  go_wp2
  go_quiet (fail)
  go_wp2
  go_ret2
  exact ⟨rfl, by go_grown; refine below_drewN ?_ _; go_grown⟩
set_option maxRecDepth 100000 in
set_option maxHeartbeats 1000000 in
theorem parse_c8 {n d b p : Int} (h : Pl.Row n d b p) (s : ByteArray) (w : World) (ht : Tab w) (hs : s.size = 11) (c2 : (bt s 2 != 58) = false) (c5 : (bt s 5 != 58) = false) (c8 : (bt s 8 != sepC p) = true) :
    Calls Tryd.prog 27 #[rate n d, .string s] w fun e w' => e = .returned (.tuple #[.int .i64 0, .int .i64 30]) ∧ Below w.heap.size w w' := by
  have H := Lib.hid h
  have T := Lib.hid ht
  have hbt := get_bt s
  clear h ht
  go_enter Tryd.func27, Tryd.ntmps27
  go_wp2_with fail
  refine (find_yes H.out _ (T.out.alloc _)).mono ?_
  rintro e w1 ⟨rfl, hb⟩
  have hb1 : Below w.heap.size w w1 := Below.via (by go_grown) (by go_size) hb
  have hz : w.heap.size ≤ w1.heap.size := hb1.size
  obtain ⟨hc, hf⟩ := bcell hb
  go_upto_region 2 with fail
  go_region_held3 (fun w' => w'.cell? ⟨w1.heap.size, 0, none⟩ = some (.int .i64 n) ∧ w'.cell? ⟨w1.heap.size, 1, none⟩ = some (.int .i64 d) ∧ w'.cell? ⟨w1.heap.size, 2, none⟩ = some (.int .i64 b) ∧ w'.cell? ⟨w1.heap.size, 3, none⟩ = some (.int .i64 p)) (simp [go_sem, World.cell?_alloc_past])
    (first | (go_at_call 38; refine (sep_any _ _ _ _ _).mono ?_; rintro e w' ⟨rfl, rfl⟩))
  all_goals (go_wp2; go_ret2; exact ⟨rfl, by go_grown⟩)
theorem parse_any {n d b p : Int} (h : Pl.Row n d b p) (s : ByteArray) (w : World) (ht : Tab w) :
    Calls Tryd.prog 27 #[rate n d, .string s] w fun e w' => ParsePost b p s e ∧ Below w.heap.size w w' := by
  by_cases hs : s.size = 11
  · cases c2 : (bt s 2 != 58)
    · cases c5 : (bt s 5 != 58)
      · cases c8 : (bt s 8 != sepC p)
        · exact parse_main h s w ht hs c2 c5 c8
        · refine (parse_c8 h s w ht hs c2 c5 c8).mono fun _ _ hh => ⟨.inr ⟨fun hg => ?_, hh.1⟩, hh.2⟩
          rw [hg.2.2.2.1] at c8
          simp at c8
      · refine (parse_c5 h s w ht hs c2 c5).mono fun _ _ hh => ⟨.inr ⟨fun hg => ?_, hh.1⟩, hh.2⟩
        rw [hg.2.2.1] at c5
        simp at c5
    · refine (parse_c2 h s w ht hs c2).mono fun _ _ hh => ⟨.inr ⟨fun hg => ?_, hh.1⟩, hh.2⟩
      rw [hg.2.1] at c2
      simp at c2
  · refine (parse_len h s w ht (by simp; omega)).mono fun _ _ hh => ⟨.inr ⟨fun hg => hs hg.1, hh.1⟩, hh.2⟩
theorem parse_yes {n d b p : Int} (h : Pl.Row n d b p) (s : ByteArray) (w : World) (ht : Tab w) (hg : Good b p s) :
    Calls Tryd.prog 27 #[rate n d, .string s] w fun e w' => e = .returned (.tuple #[.int .i64 (Pl.frameAt b p (60 * pt s 0 + pt s 3) (pt s 6) (pt s 9)), .int .i64 0]) ∧ Below w.heap.size w w' :=
  (parse_any h s w ht).mono fun _ _ hh => ⟨(hh.1.resolve_right fun q => q.1 hg).2, hh.2⟩
theorem parse_no {n d b p : Int} (h : Pl.Row n d b p) (s : ByteArray) (w : World) (ht : Tab w) (hg : ¬ Good b p s) :
    Calls Tryd.prog 27 #[rate n d, .string s] w fun e w' => e = .returned (.tuple #[.int .i64 0, .int .i64 30]) ∧ Below w.heap.size w w' :=
  (parse_any h s w ht).mono fun _ _ hh => ⟨(hh.1.resolve_left fun q => hg q.1).2, hh.2⟩
end Go.Proofs.YtfnmjabegajniaaDoor
