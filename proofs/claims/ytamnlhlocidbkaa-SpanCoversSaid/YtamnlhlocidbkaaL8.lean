/-
  The contract of the law SpanCovers.
-/
import Derived.Test.YtamnlhlocidbkaaSane
namespace Go.Proofs.Ytamnlhlocidbkaa
open Go.RowKit
open Sp (Sn Mem Val norm uni inter subt)
theorem cov_inter {l : List Sn} {s : Sn} : inter l [s] = norm [s] ↔ Cov l s := by
  constructor
  · intro h x h1 h2
    have hm : Mem x (norm [s]) := by rw [Sp.norm_mem, Sp.mem_one]; exact ⟨h1, h2⟩
    rw [← h, Sp.mem_inter] at hm
    exact hm.1
  · intro h
    refine Sp.canon (Sp.val_inter _ _) (Sp.norm_val _) fun x => ?_
    rw [Sp.mem_inter, Sp.norm_mem, Sp.mem_one]
    exact ⟨fun q => q.2, fun q => ⟨h x q.1 q.2, q⟩⟩
theorem cov_eqB (l : List Sn) (s : Sn) : eqB (inter l [s]) (norm [s]) = covB l s := by
  by_cases h : Cov l s
  · rw [covB_yes h, eqB_eq (cov_inter.2 h)]
  · rw [covB_no h]
    unfold eqB
    simpa using fun q => h (cov_inter.1 q)
theorem cov_len (l : List Sn) (s : Sn) : (((subt [s] l).length : Int) == 0) = covB l s := by
  by_cases h : Cov l s
  · rw [covB_yes h, cov_sub.1 h]; rfl
  · rw [covB_no h]
    have hp : (subt [s] l) ≠ [] := fun q => h (cov_sub.2 q)
    have := List.length_pos_iff.2 hp
    rw [beq_eq_false_iff_ne]
    omega
set_option maxRecDepth 100000 in
set_option maxHeartbeats 4000000 in
theorem law8_any (A : Option Addr) (l0 : List Sn) (c : Nat) (x y : Int) (w : World) (hR : Rd w A l0) (hc : l0.length ≤ c) (hcm : c ≤ maxLen) :
    Calls Try.prog 8 #[.slice A l0.length c, .agg #[.int .i64 x, .int .i64 y]] w fun e w' => e = .returned (.bool true) ∧ Below w.heap.size w w' := by
  have B0 := Lib.hid (Below.refl w.heap.size w)
  have F1 := Lib.hid (few_any A l0 c · hc hcm)
  have hl : (l0.take 30).length ≤ 30 := by simp; omega
  have R := Lib.hid (hR.take 30)
  clear hR hc hcm
  generalize l0.take 30 = l at *
  have CE := Lib.hid (cov_eqB l (x, y))
  have CN := Lib.hid (cov_len l (x, y))
  have n1 : (inter l [(x, y)]).length ≤ 100000 := Nat.le_trans (Sp.inter_len _ _) (by simp; omega)
  have n2 : (norm [(x, y)]).length ≤ 100000 := Nat.le_trans (Sp.norm_len _) (by simp)
  replace B0 := Lib.hid (B0.out.alloc (Nat.le_refl _) (.cells #[.int .i64 x, .int .i64 y] 30))
  replace R := Lib.hid (R.out.alloc (.cells #[.int .i64 x, .int .i64 y] 30))
  go_enter Try.func8, Try.ntmps8
  go_wp2_with fail
  refine (sane_any _).mono ?_
  rintro e w1 ⟨rfl, hb1⟩
  have hz : w.heap.size < w1.heap.size := Nat.lt_of_lt_of_le (by simp) hb1.size
  have b0 : w1.cell? ⟨w.heap.size, 0, none⟩ = some (.int .i64 x) := by rw [hb1.cell (p := ⟨w.heap.size, 0, none⟩) (by simp)]; simp
  have b1 : w1.cell? ⟨w.heap.size, 1, none⟩ = some (.int .i64 y) := by rw [hb1.cell (p := ⟨w.heap.size, 1, none⟩) (by simp)]; simp
  have B1 := Lib.hid (via B0.out hb1)
  replace R := Lib.hid (R.out.below hb1)
  clear hb1 B0
  go_wp2_with fail
  refine (F1.out _).mono ?_
  rintro e _ ⟨rfl, rfl⟩
  go_wp2_with fail
  have S := Lib.hid (rd_one w1 (x, y))
  have hb9 := (Below.refl w1.heap.size w1).alloc (Nat.le_refl _) (.cells #[.int .i64 x, .int .i64 y] 30)
  replace B1 := Lib.hid (via B1.out hb9)
  replace R := Lib.hid (R.out.below hb9)
  replace b0 := (hb9.cell (p := ⟨w.heap.size, 0, none⟩) hz).trans b0
  replace b1 := (hb9.cell (p := ⟨w.heap.size, 1, none⟩) hz).trans b1
  replace hz := Nat.lt_of_lt_of_le hz hb9.size
  clear hb9
  skip
  refine (covers_any A l c (x, y) _ R.out (by omega)).mono ?_
  rintro e w2 ⟨rfl, hb2⟩
  have B2 := Lib.hid (via B1.out hb2)
  replace R := Lib.hid (R.out.below hb2)
  replace S := Lib.hid (S.out.below hb2)
  replace b0 := (hb2.cell (p := ⟨w.heap.size, 0, none⟩) hz).trans b0
  replace b1 := (hb2.cell (p := ⟨w.heap.size, 1, none⟩) hz).trans b1
  replace hz := Nat.lt_of_lt_of_le hz hb2.size
  clear hb2 B1
  go_wp2_with fail
  refine (intersect_any A (some ⟨w1.heap.size, 0, none⟩) l [(x, y)] c 1 _ R.out S.out (by omega) (by simp)).mono ?_
  rintro e w3 ⟨A3, c3, rfl, hc3, hr3, hb3⟩
  have B3 := Lib.hid (via B2.out hb3)
  replace R := Lib.hid (R.out.below hb3)
  replace S := Lib.hid (S.out.below hb3)
  replace b0 := (hb3.cell (p := ⟨w.heap.size, 0, none⟩) hz).trans b0
  replace b1 := (hb3.cell (p := ⟨w.heap.size, 1, none⟩) hz).trans b1
  replace hz := Nat.lt_of_lt_of_le hz hb3.size
  clear hb3 B2
  have R3 := Lib.hid hr3
  clear hr3 hc3
  go_wp2_with fail
  refine (normal_any (some ⟨w1.heap.size, 0, none⟩) [(x, y)] 1 _ S.out (by simp)).mono ?_
  rintro e w4 ⟨A4, c4, rfl, hc4, hr4, hb4⟩
  have B4 := Lib.hid (via B3.out hb4)
  replace R := Lib.hid (R.out.below hb4)
  replace S := Lib.hid (S.out.below hb4)
  replace R3 := Lib.hid (R3.out.below hb4)
  replace b0 := (hb4.cell (p := ⟨w.heap.size, 0, none⟩) hz).trans b0
  replace b1 := (hb4.cell (p := ⟨w.heap.size, 1, none⟩) hz).trans b1
  replace hz := Nat.lt_of_lt_of_le hz hb4.size
  clear hb4 B3
  have R4 := Lib.hid hr4
  clear hr4 hc4
  go_wp2_with fail
  refine (requal_any A3 A4 (inter l [(x, y)]) (norm [(x, y)]) c3 c4 _ R3.out R4.out n1 n2).mono ?_
  rintro e w5 ⟨rfl, hb5⟩
  rw [CE.out]
  have B5 := Lib.hid (via B4.out hb5)
  replace R := Lib.hid (R.out.below hb5)
  replace S := Lib.hid (S.out.below hb5)
  replace R3 := Lib.hid (R3.out.below hb5)
  replace R4 := Lib.hid (R4.out.below hb5)
  replace b0 := (hb5.cell (p := ⟨w.heap.size, 0, none⟩) hz).trans b0
  replace b1 := (hb5.cell (p := ⟨w.heap.size, 1, none⟩) hz).trans b1
  replace hz := Nat.lt_of_lt_of_le hz hb5.size
  clear hb5 B4
  clear R3
  clear R4
  go_wp2_with fail
  refine (subtract_any (some ⟨w1.heap.size, 0, none⟩) A [(x, y)] l 1 c _ S.out R.out (by simp) (by omega)).mono ?_
  rintro e w6 ⟨A6, c6, rfl, hc6, hr6, hb6⟩
  clear hr6 hc6
  have B6 := Lib.hid (via B5.out hb6)
  replace R := Lib.hid (R.out.below hb6)
  replace S := Lib.hid (S.out.below hb6)
  replace b0 := (hb6.cell (p := ⟨w.heap.size, 0, none⟩) hz).trans b0
  replace b1 := (hb6.cell (p := ⟨w.heap.size, 1, none⟩) hz).trans b1
  replace hz := Nat.lt_of_lt_of_le hz hb6.size
  clear hb6 B5
  have cn := CN.out
  generalize (subt [(x, y)] l).length = sn at *
  generalize covB l (x, y) = cv at *
  go_wp2
  go_ret
  exact ⟨rfl, B6.out⟩
end Go.Proofs.Ytamnlhlocidbkaa
