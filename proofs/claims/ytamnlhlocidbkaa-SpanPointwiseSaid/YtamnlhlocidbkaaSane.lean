/-
  The contract of the laws' sane: the fixed examples hold.
-/
import Derived.Test.YtamnlhlocidbkaaLaw0
import Derived.Test.YtamnlhlocidbkaaQuery
import Derived.Test.YtamnlhlocidbkaaUnion
import Derived.Test.YtamnlhlocidbkaaInter
import Derived.Test.YtamnlhlocidbkaaBasic3
namespace Go.Proofs.Ytamnlhlocidbkaa
open Go.RowKit
open Sp (Sn Mem Val norm uni inter subt)
theorem via {w w1 w2 : World} (h : Below w.heap.size w w1) (hb : Below w1.heap.size w1 w2) : Below w.heap.size w w2 := h.trans (hb.mono h.size)
theorem spans2 (a b : Int) (w : World) : Calls Try.prog 35 #[.slice (some ⟨w.heap.size, 0, none⟩) 2 2] (w.alloc (.cells #[.int .i64 a, .int .i64 b] 3)) (RetS w [(a, b)]) := by
  have e0 : prs [a, b] ([a, b].length / 2) = [(a, b)] := by simp [prs, List.range_succ]
  have hh := spans_any w.heap.size 2 [a, b] (w.alloc (.cells #[.int .i64 a, .int .i64 b] 3)) (by simp) (fun j hj => match j, hj with | 0, _ => by simp | 1, _ => by simp) (by simp)
  rw [e0] at hh
  exact hh.mono fun _ _ ⟨A, cc, h1, h2, h3, h4⟩ => ⟨A, cc, h1, h2, h3, ((Below.refl _ _).alloc (Nat.le_refl _) _).trans (h4.mono (by simp))⟩
theorem spans4 (a b c d : Int) (w : World) : Calls Try.prog 35 #[.slice (some ⟨w.heap.size, 0, none⟩) 4 4] (w.alloc (.cells #[.int .i64 a, .int .i64 b, .int .i64 c, .int .i64 d] 3)) (RetS w [(a, b), (c, d)]) := by
  have e0 : prs [a, b, c, d] ([a, b, c, d].length / 2) = [(a, b), (c, d)] := by simp [prs, List.range_succ]
  have hh := spans_any w.heap.size 4 [a, b, c, d] (w.alloc (.cells #[.int .i64 a, .int .i64 b, .int .i64 c, .int .i64 d] 3)) (by simp) (fun j hj => match j, hj with | 0, _ => by simp | 1, _ => by simp | 2, _ => by simp | 3, _ => by simp) (by simp)
  rw [e0] at hh
  exact hh.mono fun _ _ ⟨A, cc, h1, h2, h3, h4⟩ => ⟨A, cc, h1, h2, h3, ((Below.refl _ _).alloc (Nat.le_refl _) _).trans (h4.mono (by simp))⟩
theorem spans8 (a b c d e f g h : Int) (w : World) : Calls Try.prog 35 #[.slice (some ⟨w.heap.size, 0, none⟩) 8 8] (w.alloc (.cells #[.int .i64 a, .int .i64 b, .int .i64 c, .int .i64 d, .int .i64 e, .int .i64 f, .int .i64 g, .int .i64 h] 3)) (RetS w [(a, b), (c, d), (e, f), (g, h)]) := by
  have e0 : prs [a, b, c, d, e, f, g, h] ([a, b, c, d, e, f, g, h].length / 2) = [(a, b), (c, d), (e, f), (g, h)] := by simp [prs, List.range_succ]
  have hh := spans_any w.heap.size 8 [a, b, c, d, e, f, g, h] (w.alloc (.cells #[.int .i64 a, .int .i64 b, .int .i64 c, .int .i64 d, .int .i64 e, .int .i64 f, .int .i64 g, .int .i64 h] 3)) (by simp) (fun j hj => match j, hj with | 0, _ => by simp | 1, _ => by simp | 2, _ => by simp | 3, _ => by simp | 4, _ => by simp | 5, _ => by simp | 6, _ => by simp | 7, _ => by simp) (by simp)
  rw [e0] at hh
  exact hh.mono fun _ _ ⟨A, cc, h1, h2, h3, h4⟩ => ⟨A, cc, h1, h2, h3, ((Below.refl _ _).alloc (Nat.le_refl _) _).trans (h4.mono (by simp))⟩
theorem bd_of {l : List Sn} (h : ∀ s ∈ l, (-100 ≤ s.1 ∧ s.1 ≤ 100) ∧ (-100 ≤ s.2 ∧ s.2 ≤ 100)) : Bd l := fun s hs => by have := h s hs; omega
set_option maxRecDepth 100000 in
set_option maxHeartbeats 4000000 in
theorem sane_any (w : World) : Calls Try.prog 11 #[] w fun e w' => e = .returned (.bool true) ∧ Below w.heap.size w w' := by
  have B0 := Lib.hid (Below.refl w.heap.size w)
  go_enter Try.func11, Try.ntmps11
  go_wp2_with fail
  refine (spans8 5 9 0 3 3 5 20 20 _).mono ?_
  rintro e w1 ⟨A1, c1, rfl, hc1, hr1, hb1⟩
  have R1 := Lib.hid hr1
  clear hr1
  have B1 := Lib.hid (via B0.out hb1)
  clear hb1 B0
  go_wp2_with fail
  refine (normal_any A1 [(5, 9), (0, 3), (3, 5), (20, 20)] c1 _ R1.out (by decide)).mono ?_
  rintro e w2 ⟨A2, c2, rfl, hc2, hr2, hb2⟩
  rw [show norm [(5, 9), (0, 3), (3, 5), (20, 20)] = [(0, 9)] by decide] at hr2 hc2 ⊢
  have R2 := Lib.hid hr2
  clear hr2
  have B2 := Lib.hid (via B1.out hb2)
  clear hb2 B1
  go_wp2_with fail
  refine (spans2 0 9 _).mono ?_
  rintro e w3 ⟨A3, c3, rfl, hc3, hr3, hb3⟩
  have R3 := Lib.hid hr3
  clear hr3
  have B3 := Lib.hid (via B2.out hb3)
  have R2x := Lib.hid (R2.out.below hb3)
  clear R2
  clear hb3 B2
  go_wp2_with fail
  refine (requal_any A2 A3 [(0, 9)] [(0, 9)] c2 c3 _ R2x.out R3.out (by decide) (by decide)).mono ?_
  rintro e w4 ⟨rfl, hb4⟩
  rw [show eqB [(0, 9)] [(0, 9)] = true from by decide]
  have B4 := Lib.hid (via B3.out hb4)
  clear hb4 B3
  go_wp2_with fail
  refine (spans4 0 10 20 30 _).mono ?_
  rintro e w5 ⟨A5, c5, rfl, hc5, hr5, hb5⟩
  have R5 := Lib.hid hr5
  clear hr5
  have B5 := Lib.hid (via B4.out hb5)
  clear hb5 B4
  go_wp2_with fail
  refine (spans2 5 25 _).mono ?_
  rintro e w6 ⟨A6, c6, rfl, hc6, hr6, hb6⟩
  have R6 := Lib.hid hr6
  clear hr6
  have B6 := Lib.hid (via B5.out hb6)
  have R5x := Lib.hid (R5.out.below hb6)
  clear R5
  clear hb6 B5
  go_wp2_with fail
  refine (intersect_any A5 A6 [(0, 10), (20, 30)] [(5, 25)] c5 c6 _ R5x.out R6.out (by decide) (by decide)).mono ?_
  rintro e w7 ⟨A7, c7, rfl, hc7, hr7, hb7⟩
  rw [show inter [(0, 10), (20, 30)] [(5, 25)] = [(5, 10), (20, 25)] by decide] at hr7 hc7 ⊢
  have R7 := Lib.hid hr7
  clear hr7
  have B7 := Lib.hid (via B6.out hb7)
  clear hb7 B6
  go_wp2_with fail
  refine (spans4 5 10 20 25 _).mono ?_
  rintro e w8 ⟨A8, c8, rfl, hc8, hr8, hb8⟩
  have R8 := Lib.hid hr8
  clear hr8
  have B8 := Lib.hid (via B7.out hb8)
  have R7x := Lib.hid (R7.out.below hb8)
  clear R7
  clear hb8 B7
  go_wp2_with fail
  refine (requal_any A7 A8 [(5, 10), (20, 25)] [(5, 10), (20, 25)] c7 c8 _ R7x.out R8.out (by decide) (by decide)).mono ?_
  rintro e w9 ⟨rfl, hb9⟩
  rw [show eqB [(5, 10), (20, 25)] [(5, 10), (20, 25)] = true from by decide]
  have B9 := Lib.hid (via B8.out hb9)
  clear hb9 B8
  go_wp2_with fail
  refine (spans2 0 10 _).mono ?_
  rintro e w10 ⟨A10, c10, rfl, hc10, hr10, hb10⟩
  have R10 := Lib.hid hr10
  clear hr10
  have B10 := Lib.hid (via B9.out hb10)
  clear hb10 B9
  go_wp2_with fail
  refine (spans4 3 4 8 20 _).mono ?_
  rintro e w11 ⟨A11, c11, rfl, hc11, hr11, hb11⟩
  have R11 := Lib.hid hr11
  clear hr11
  have B11 := Lib.hid (via B10.out hb11)
  have R10x := Lib.hid (R10.out.below hb11)
  clear R10
  clear hb11 B10
  go_wp2_with fail
  refine (subtract_any A10 A11 [(0, 10)] [(3, 4), (8, 20)] c10 c11 _ R10x.out R11.out (by decide) (by decide)).mono ?_
  rintro e w12 ⟨A12, c12, rfl, hc12, hr12, hb12⟩
  rw [show subt [(0, 10)] [(3, 4), (8, 20)] = [(0, 3), (4, 8)] by decide] at hr12 hc12 ⊢
  have R12 := Lib.hid hr12
  clear hr12
  have B12 := Lib.hid (via B11.out hb12)
  clear hb12 B11
  go_wp2_with fail
  refine (spans4 0 3 4 8 _).mono ?_
  rintro e w13 ⟨A13, c13, rfl, hc13, hr13, hb13⟩
  have R13 := Lib.hid hr13
  clear hr13
  have B13 := Lib.hid (via B12.out hb13)
  have R12x := Lib.hid (R12.out.below hb13)
  clear R12
  clear hb13 B12
  go_wp2_with fail
  refine (requal_any A12 A13 [(0, 3), (4, 8)] [(0, 3), (4, 8)] c12 c13 _ R12x.out R13.out (by decide) (by decide)).mono ?_
  rintro e w14 ⟨rfl, hb14⟩
  rw [show eqB [(0, 3), (4, 8)] [(0, 3), (4, 8)] = true from by decide]
  have B14 := Lib.hid (via B13.out hb14)
  clear hb14 B13
  go_wp2_with fail
  refine (spans2 0 1 _).mono ?_
  rintro e w15 ⟨A15, c15, rfl, hc15, hr15, hb15⟩
  have R15 := Lib.hid hr15
  clear hr15
  have B15 := Lib.hid (via B14.out hb15)
  clear hb15 B14
  go_wp2_with fail
  refine (spans4 1 2 4 5 _).mono ?_
  rintro e w16 ⟨A16, c16, rfl, hc16, hr16, hb16⟩
  have R16 := Lib.hid hr16
  clear hr16
  have B16 := Lib.hid (via B15.out hb16)
  have R15x := Lib.hid (R15.out.below hb16)
  clear R15
  clear hb16 B15
  go_wp2_with fail
  refine (union_any A15 A16 [(0, 1)] [(1, 2), (4, 5)] c15 c16 _ R15x.out R16.out (by decide) (by decide)).mono ?_
  rintro e w17 ⟨A17, c17, rfl, hc17, hr17, hb17⟩
  rw [show uni [(0, 1)] [(1, 2), (4, 5)] = [(0, 2), (4, 5)] by decide] at hr17 hc17 ⊢
  have R17 := Lib.hid hr17
  clear hr17
  have B17 := Lib.hid (via B16.out hb17)
  clear hb17 B16
  go_wp2_with fail
  refine (spans4 0 2 4 5 _).mono ?_
  rintro e w18 ⟨A18, c18, rfl, hc18, hr18, hb18⟩
  have R18 := Lib.hid hr18
  clear hr18
  have B18 := Lib.hid (via B17.out hb18)
  have R17x := Lib.hid (R17.out.below hb18)
  clear R17
  clear hb18 B17
  go_wp2_with fail
  refine (requal_any A17 A18 [(0, 2), (4, 5)] [(0, 2), (4, 5)] c17 c18 _ R17x.out R18.out (by decide) (by decide)).mono ?_
  rintro e w19 ⟨rfl, hb19⟩
  rw [show eqB [(0, 2), (4, 5)] [(0, 2), (4, 5)] = true from by decide]
  have B19 := Lib.hid (via B18.out hb19)
  clear hb19 B18
  go_wp2_with fail
  refine (spans4 0 4 6 20 _).mono ?_
  rintro e w20 ⟨A20, c20, rfl, hc20, hr20, hb20⟩
  have R20 := Lib.hid hr20
  clear hr20
  have B20 := Lib.hid (via B19.out hb20)
  clear hb20 B19
  go_wp2_with fail
  refine (earliest_any A20 [(0, 4), (6, 20)] c20 2 5 _ R20.out (by decide) (bd_of (by decide)) (by omega) (by omega)).mono ?_
  rintro e w21 ⟨rfl, hb21⟩
  rw [show earl [(0, 4), (6, 20)] 2 5 = (6, true) from by decide]
  have B21 := Lib.hid (via B20.out hb21)
  clear hb21 B20
  go_wp2_with fail
  refine (spans2 0 4 _).mono ?_
  rintro e w22 ⟨A22, c22, rfl, hc22, hr22, hb22⟩
  have R22 := Lib.hid hr22
  clear hr22
  have B22 := Lib.hid (via B21.out hb22)
  clear hb22 B21
  go_wp2_with fail
  refine (earliest_any A22 [(0, 4)] c22 2 3 _ R22.out (by decide) (bd_of (by decide)) (by omega) (by omega)).mono ?_
  rintro e w23 ⟨rfl, hb23⟩
  rw [show earl [(0, 4)] 2 3 = (0, false) from by decide]
  have B23 := Lib.hid (via B22.out hb23)
  clear hb23 B22
  go_wp2_with fail
  refine (spans4 0 4 4 9 _).mono ?_
  rintro e w24 ⟨A24, c24, rfl, hc24, hr24, hb24⟩
  have R24 := Lib.hid hr24
  clear hr24
  have B24 := Lib.hid (via B23.out hb24)
  clear hb24 B23
  go_wp2_with fail
  refine (covers_any A24 [(0, 4), (4, 9)] c24 (2, 9) _ R24.out (by decide)).mono ?_
  rintro e w25 ⟨rfl, hb25⟩
  rw [show covB [(0, 4), (4, 9)] (2, 9) = true from covB_yes (cov_yes (i := 0) (by decide) (by decide) (by decide))]
  have B25 := Lib.hid (via B24.out hb25)
  clear hb25 B24
  go_wp2_with fail
  refine (spans2 1 2 _).mono ?_
  rintro e w26 ⟨A26, c26, rfl, hc26, hr26, hb26⟩
  have R26 := Lib.hid hr26
  clear hr26
  have B26 := Lib.hid (via B25.out hb26)
  clear hb26 B25
  go_wp2_with fail
  refine (has_any A26 [(1, 2)] c26 1 _ R26.out (by decide)).mono ?_
  rintro e w27 ⟨rfl, hb27⟩
  rw [show memB 1 [(1, 2)] = true from by decide]
  have B27 := Lib.hid (via B26.out hb27)
  clear hb27 B26
  go_wp2_with fail
  refine (spans2 1 2 _).mono ?_
  rintro e w28 ⟨A28, c28, rfl, hc28, hr28, hb28⟩
  have R28 := Lib.hid hr28
  clear hr28
  have B28 := Lib.hid (via B27.out hb28)
  clear hb28 B27
  go_wp2_with fail
  refine (has_any A28 [(1, 2)] c28 2 _ R28.out (by decide)).mono ?_
  rintro e w29 ⟨rfl, hb29⟩
  rw [show memB 2 [(1, 2)] = false from by decide]
  have B29 := Lib.hid (via B28.out hb29)
  clear hb29 B28
  go_wp2_with fail
  refine (spans4 0 4 2 9 _).mono ?_
  rintro e w30 ⟨A30, c30, rfl, hc30, hr30, hb30⟩
  have R30 := Lib.hid hr30
  clear hr30
  have B30 := Lib.hid (via B29.out hb30)
  clear hb30 B29
  go_wp2_with fail
  refine (total_any A30 [(0, 4), (2, 9)] c30 _ R30.out (by decide) (bd_of (by decide))).mono ?_
  rintro e w31 ⟨rfl, hb31⟩
  rw [show totV [(0, 4), (2, 9)] = 9 from by decide]
  have B31 := Lib.hid (via B30.out hb31)
  clear hb31 B30
  go_wp2_with fail
  refine (spans4 0 3 4 5 _).mono ?_
  rintro e w32 ⟨A32, c32, rfl, hc32, hr32, hb32⟩
  have R32 := Lib.hid hr32
  clear hr32
  have B32 := Lib.hid (via B31.out hb32)
  clear hb32 B31
  go_wp2_with fail
  refine (valid_any A32 [(0, 3), (4, 5)] c32 _ R32.out (by decide)).mono ?_
  rintro e w33 ⟨rfl, hb33⟩
  rw [show vB [(0, 3), (4, 5)] = true from vB_yes (by simp [Val])]
  have B33 := Lib.hid (via B32.out hb33)
  clear hb33 B32
  go_wp2_with fail
  refine (spans4 0 3 3 5 _).mono ?_
  rintro e w34 ⟨A34, c34, rfl, hc34, hr34, hb34⟩
  have R34 := Lib.hid hr34
  clear hr34
  have B34 := Lib.hid (via B33.out hb34)
  clear hb34 B33
  go_wp2_with fail
  refine (valid_any A34 [(0, 3), (3, 5)] c34 _ R34.out (by decide)).mono ?_
  rintro e w35 ⟨rfl, hb35⟩
  rw [show vB [(0, 3), (3, 5)] = false from vB_no (by simp [Val])]
  have B35 := Lib.hid (via B34.out hb35)
  clear hb35 B34
  go_wp2_with fail
  refine (spans2 0 2 _).mono ?_
  rintro e w36 ⟨A36, c36, rfl, hc36, hr36, hb36⟩
  have R36 := Lib.hid hr36
  clear hr36
  have B36 := Lib.hid (via B35.out hb36)
  clear hb36 B35
  go_wp2_with fail
  refine (spans4 0 1 1 2 _).mono ?_
  rintro e w37 ⟨A37, c37, rfl, hc37, hr37, hb37⟩
  have R37 := Lib.hid hr37
  clear hr37
  have B37 := Lib.hid (via B36.out hb37)
  have R36x := Lib.hid (R36.out.below hb37)
  clear R36
  clear hb37 B36
  go_wp2_with fail
  refine (same_any A36 A37 [(0, 2)] [(0, 1), (1, 2)] c36 c37 _ R36x.out R37.out (by decide) (by decide)).mono ?_
  rintro e w38 ⟨rfl, hb38⟩
  rw [show eqB (norm [(0, 2)]) (norm [(0, 1), (1, 2)]) = true from by decide]
  have B38 := Lib.hid (via B37.out hb38)
  clear hb38 B37
  go_wp2_with fail
  refine (spans2 0 2 _).mono ?_
  rintro e w39 ⟨A39, c39, rfl, hc39, hr39, hb39⟩
  have R39 := Lib.hid hr39
  clear hr39
  have B39 := Lib.hid (via B38.out hb39)
  clear hb39 B38
  go_wp2_with fail
  refine (same_any A39 none [(0, 2)] [] c39 0 _ R39.out Rd.nil (by decide) (by decide)).mono ?_
  rintro e w40 ⟨rfl, hb40⟩
  rw [show eqB (norm [(0, 2)]) (norm []) = false from by decide]
  have B40 := Lib.hid (via B39.out hb40)
  clear hb40 B39
  go_wp2
  go_ret
  exact ⟨rfl, B40.out⟩
end Go.Proofs.Ytamnlhlocidbkaa
