/-
  The contract of the law SpanAlgebra.
-/
import Derived.Test.YtamnlhlocidbkaaSane
namespace Go.Proofs.Ytamnlhlocidbkaa
open Go.RowKit
open Sp (Sn Mem Val norm uni inter subt)
theorem alg {a b : List Sn} (ha : Val a) (hb : Val b) (h : ∀ x, Mem x a ↔ Mem x b) : eqB a b = true := eqB_eq (Sp.canon ha hb h)
theorem lu {a b : List Sn} {n : Nat} (ha : a.length ≤ n) (hb : b.length ≤ n) : (uni a b).length ≤ n + n := Nat.le_trans (Sp.uni_len _ _) (by omega)
theorem li {a b : List Sn} {n : Nat} (ha : a.length ≤ n) (hb : b.length ≤ n) : (inter a b).length ≤ n + n := Nat.le_trans (Sp.inter_len _ _) (by omega)
theorem ls {a b : List Sn} {n : Nat} (ha : a.length ≤ n) (hb : b.length ≤ n) : (subt a b).length ≤ n + n := Nat.le_trans (Sp.subt_len _ _) (by omega)
set_option maxRecDepth 100000 in
set_option maxHeartbeats 4000000 in
theorem law7_any (A B C : Option Addr) (l0 m0 k0 : List Sn) (c d f : Nat) (w : World) (hR : Rd w A l0) (hS : Rd w B m0) (hT : Rd w C k0) (hc : l0.length ≤ c) (hcm : c ≤ maxLen) (hd : m0.length ≤ d) (hdm : d ≤ maxLen) (hf : k0.length ≤ f) (hfm : f ≤ maxLen) :
    Calls Try.prog 7 #[.slice A l0.length c, .slice B m0.length d, .slice C k0.length f] w fun e w' => e = .returned (.bool true) ∧ Below w.heap.size w w' := by
  have B0 := Lib.hid (Below.refl w.heap.size w)
  have F1 := Lib.hid (few_any A l0 c · hc hcm)
  have F2 := Lib.hid (few_any B m0 d · hd hdm)
  have F3 := Lib.hid (few_any C k0 f · hf hfm)
  have hl : (l0.take 30).length ≤ 30 := by simp; omega
  have hm : (m0.take 30).length ≤ 30 := by simp; omega
  have hk : (k0.take 30).length ≤ 30 := by simp; omega
  have R := Lib.hid (hR.take 30)
  have S := Lib.hid (hS.take 30)
  have T := Lib.hid (hT.take 30)
  clear hR hS hT hc hd hcm hdm hf hfm
  generalize l0.take 30 = l at *
  generalize m0.take 30 = m at *
  generalize k0.take 30 = k at *
  have HL := Lib.hid hl
  have HM := Lib.hid hm
  have HK := Lib.hid hk
  clear hl hm hk
  go_enter Try.func7, Try.ntmps7
  go_wp2_with fail
  refine (sane_any _).mono ?_
  rintro e w1 ⟨rfl, hb1⟩
  have B1 := Lib.hid (via B0.out hb1)
  replace R := Lib.hid (R.out.below hb1)
  replace S := Lib.hid (S.out.below hb1)
  replace T := Lib.hid (T.out.below hb1)
  clear hb1 B0
  go_wp2_with fail
  refine (F1.out _).mono ?_
  rintro e _ ⟨rfl, rfl⟩
  go_wp2_with fail
  refine (F2.out _).mono ?_
  rintro e _ ⟨rfl, rfl⟩
  go_wp2_with fail
  refine (F3.out _).mono ?_
  rintro e _ ⟨rfl, rfl⟩
  go_wp2_with fail
  refine (union_any A B l m c d _ R.out S.out (Nat.le_trans (HL.out) (by omega)) (Nat.le_trans (HM.out) (by omega))).mono ?_
  rintro e w2 ⟨A2, c2, rfl, hc2, hr2, hb2⟩
  have B2 := Lib.hid (via B1.out hb2)
  replace R := Lib.hid (R.out.below hb2)
  replace S := Lib.hid (S.out.below hb2)
  replace T := Lib.hid (T.out.below hb2)
  clear hb2 B1
  have R2 := Lib.hid hr2
  clear hr2 hc2
  go_wp2_with fail
  refine (union_any B A m l d c _ S.out R.out (Nat.le_trans (HM.out) (by omega)) (Nat.le_trans (HL.out) (by omega))).mono ?_
  rintro e w3 ⟨A3, c3, rfl, hc3, hr3, hb3⟩
  have B3 := Lib.hid (via B2.out hb3)
  replace R := Lib.hid (R.out.below hb3)
  replace S := Lib.hid (S.out.below hb3)
  replace T := Lib.hid (T.out.below hb3)
  replace R2 := Lib.hid (R2.out.below hb3)
  clear hb3 B2
  have R3 := Lib.hid hr3
  clear hr3 hc3
  go_wp2_with fail
  refine (requal_any A2 A3 (uni l m) (uni m l) c2 c3 _ R2.out R3.out (Nat.le_trans (lu (n := 30) (Nat.le_trans (HL.out) (by omega : 30 ≤ 30)) (Nat.le_trans (HM.out) (by omega : 30 ≤ 30))) (by omega)) (Nat.le_trans (lu (n := 30) (Nat.le_trans (HM.out) (by omega : 30 ≤ 30)) (Nat.le_trans (HL.out) (by omega : 30 ≤ 30))) (by omega))).mono ?_
  rintro e w4 ⟨rfl, hb4⟩
  rw [show eqB (uni l m) (uni m l) = true from alg (Sp.val_uni _ _) (Sp.val_uni _ _) fun x => by (repeat first | rw [Sp.mem_uni] | rw [Sp.mem_inter] | rw [Sp.mem_subt] | rw [Sp.norm_mem]); by_cases q1 : Mem x l <;> by_cases q2 : Mem x m <;> by_cases q3 : Mem x k <;> simp [*]]
  have B4 := Lib.hid (via B3.out hb4)
  replace R := Lib.hid (R.out.below hb4)
  replace S := Lib.hid (S.out.below hb4)
  replace T := Lib.hid (T.out.below hb4)
  replace R2 := Lib.hid (R2.out.below hb4)
  replace R3 := Lib.hid (R3.out.below hb4)
  clear hb4 B3
  clear R2
  clear R3
  go_wp2_with fail
  refine (intersect_any A B l m c d _ R.out S.out (Nat.le_trans (HL.out) (by omega)) (Nat.le_trans (HM.out) (by omega))).mono ?_
  rintro e w5 ⟨A5, c5, rfl, hc5, hr5, hb5⟩
  have B5 := Lib.hid (via B4.out hb5)
  replace R := Lib.hid (R.out.below hb5)
  replace S := Lib.hid (S.out.below hb5)
  replace T := Lib.hid (T.out.below hb5)
  clear hb5 B4
  have R5 := Lib.hid hr5
  clear hr5 hc5
  go_wp2_with fail
  refine (intersect_any B A m l d c _ S.out R.out (Nat.le_trans (HM.out) (by omega)) (Nat.le_trans (HL.out) (by omega))).mono ?_
  rintro e w6 ⟨A6, c6, rfl, hc6, hr6, hb6⟩
  have B6 := Lib.hid (via B5.out hb6)
  replace R := Lib.hid (R.out.below hb6)
  replace S := Lib.hid (S.out.below hb6)
  replace T := Lib.hid (T.out.below hb6)
  replace R5 := Lib.hid (R5.out.below hb6)
  clear hb6 B5
  have R6 := Lib.hid hr6
  clear hr6 hc6
  go_wp2_with fail
  refine (requal_any A5 A6 (inter l m) (inter m l) c5 c6 _ R5.out R6.out (Nat.le_trans (li (n := 30) (Nat.le_trans (HL.out) (by omega : 30 ≤ 30)) (Nat.le_trans (HM.out) (by omega : 30 ≤ 30))) (by omega)) (Nat.le_trans (li (n := 30) (Nat.le_trans (HM.out) (by omega : 30 ≤ 30)) (Nat.le_trans (HL.out) (by omega : 30 ≤ 30))) (by omega))).mono ?_
  rintro e w7 ⟨rfl, hb7⟩
  rw [show eqB (inter l m) (inter m l) = true from alg (Sp.val_inter _ _) (Sp.val_inter _ _) fun x => by (repeat first | rw [Sp.mem_uni] | rw [Sp.mem_inter] | rw [Sp.mem_subt] | rw [Sp.norm_mem]); by_cases q1 : Mem x l <;> by_cases q2 : Mem x m <;> by_cases q3 : Mem x k <;> simp [*]]
  have B7 := Lib.hid (via B6.out hb7)
  replace R := Lib.hid (R.out.below hb7)
  replace S := Lib.hid (S.out.below hb7)
  replace T := Lib.hid (T.out.below hb7)
  replace R5 := Lib.hid (R5.out.below hb7)
  replace R6 := Lib.hid (R6.out.below hb7)
  clear hb7 B6
  clear R5
  clear R6
  go_wp2_with fail
  refine (union_any B C m k d f _ S.out T.out (Nat.le_trans (HM.out) (by omega)) (Nat.le_trans (HK.out) (by omega))).mono ?_
  rintro e w8 ⟨A8, c8, rfl, hc8, hr8, hb8⟩
  have B8 := Lib.hid (via B7.out hb8)
  replace R := Lib.hid (R.out.below hb8)
  replace S := Lib.hid (S.out.below hb8)
  replace T := Lib.hid (T.out.below hb8)
  clear hb8 B7
  have R8 := Lib.hid hr8
  clear hr8 hc8
  go_wp2_with fail
  refine (union_any A A8 l (uni m k) c c8 _ R.out R8.out (Nat.le_trans (HL.out) (by omega)) (Nat.le_trans (lu (n := 30) (Nat.le_trans (HM.out) (by omega : 30 ≤ 30)) (Nat.le_trans (HK.out) (by omega : 30 ≤ 30))) (by omega))).mono ?_
  rintro e w9 ⟨A9, c9, rfl, hc9, hr9, hb9⟩
  have B9 := Lib.hid (via B8.out hb9)
  replace R := Lib.hid (R.out.below hb9)
  replace S := Lib.hid (S.out.below hb9)
  replace T := Lib.hid (T.out.below hb9)
  replace R8 := Lib.hid (R8.out.below hb9)
  clear hb9 B8
  have R9 := Lib.hid hr9
  clear hr9 hc9
  go_wp2_with fail
  refine (union_any A B l m c d _ R.out S.out (Nat.le_trans (HL.out) (by omega)) (Nat.le_trans (HM.out) (by omega))).mono ?_
  rintro e w10 ⟨A10, c10, rfl, hc10, hr10, hb10⟩
  have B10 := Lib.hid (via B9.out hb10)
  replace R := Lib.hid (R.out.below hb10)
  replace S := Lib.hid (S.out.below hb10)
  replace T := Lib.hid (T.out.below hb10)
  replace R8 := Lib.hid (R8.out.below hb10)
  replace R9 := Lib.hid (R9.out.below hb10)
  clear hb10 B9
  have R10 := Lib.hid hr10
  clear hr10 hc10
  go_wp2_with fail
  refine (union_any A10 C (uni l m) k c10 f _ R10.out T.out (Nat.le_trans (lu (n := 30) (Nat.le_trans (HL.out) (by omega : 30 ≤ 30)) (Nat.le_trans (HM.out) (by omega : 30 ≤ 30))) (by omega)) (Nat.le_trans (HK.out) (by omega))).mono ?_
  rintro e w11 ⟨A11, c11, rfl, hc11, hr11, hb11⟩
  have B11 := Lib.hid (via B10.out hb11)
  replace R := Lib.hid (R.out.below hb11)
  replace S := Lib.hid (S.out.below hb11)
  replace T := Lib.hid (T.out.below hb11)
  replace R8 := Lib.hid (R8.out.below hb11)
  replace R9 := Lib.hid (R9.out.below hb11)
  replace R10 := Lib.hid (R10.out.below hb11)
  clear hb11 B10
  have R11 := Lib.hid hr11
  clear hr11 hc11
  go_wp2_with fail
  refine (requal_any A9 A11 (uni l (uni m k)) (uni (uni l m) k) c9 c11 _ R9.out R11.out (Nat.le_trans (lu (n := 60) (Nat.le_trans (HL.out) (by omega : 30 ≤ 60)) (Nat.le_trans (lu (n := 30) (Nat.le_trans (HM.out) (by omega : 30 ≤ 30)) (Nat.le_trans (HK.out) (by omega : 30 ≤ 30))) (by omega : 60 ≤ 60))) (by omega)) (Nat.le_trans (lu (n := 60) (Nat.le_trans (lu (n := 30) (Nat.le_trans (HL.out) (by omega : 30 ≤ 30)) (Nat.le_trans (HM.out) (by omega : 30 ≤ 30))) (by omega : 60 ≤ 60)) (Nat.le_trans (HK.out) (by omega : 30 ≤ 60))) (by omega))).mono ?_
  rintro e w12 ⟨rfl, hb12⟩
  rw [show eqB (uni l (uni m k)) (uni (uni l m) k) = true from alg (Sp.val_uni _ _) (Sp.val_uni _ _) fun x => by (repeat first | rw [Sp.mem_uni] | rw [Sp.mem_inter] | rw [Sp.mem_subt] | rw [Sp.norm_mem]); by_cases q1 : Mem x l <;> by_cases q2 : Mem x m <;> by_cases q3 : Mem x k <;> simp [*]]
  have B12 := Lib.hid (via B11.out hb12)
  replace R := Lib.hid (R.out.below hb12)
  replace S := Lib.hid (S.out.below hb12)
  replace T := Lib.hid (T.out.below hb12)
  replace R8 := Lib.hid (R8.out.below hb12)
  replace R9 := Lib.hid (R9.out.below hb12)
  replace R10 := Lib.hid (R10.out.below hb12)
  replace R11 := Lib.hid (R11.out.below hb12)
  clear hb12 B11
  clear R8
  clear R9
  clear R10
  clear R11
  go_wp2_with fail
  refine (intersect_any B C m k d f _ S.out T.out (Nat.le_trans (HM.out) (by omega)) (Nat.le_trans (HK.out) (by omega))).mono ?_
  rintro e w13 ⟨A13, c13, rfl, hc13, hr13, hb13⟩
  have B13 := Lib.hid (via B12.out hb13)
  replace R := Lib.hid (R.out.below hb13)
  replace S := Lib.hid (S.out.below hb13)
  replace T := Lib.hid (T.out.below hb13)
  clear hb13 B12
  have R13 := Lib.hid hr13
  clear hr13 hc13
  go_wp2_with fail
  refine (intersect_any A A13 l (inter m k) c c13 _ R.out R13.out (Nat.le_trans (HL.out) (by omega)) (Nat.le_trans (li (n := 30) (Nat.le_trans (HM.out) (by omega : 30 ≤ 30)) (Nat.le_trans (HK.out) (by omega : 30 ≤ 30))) (by omega))).mono ?_
  rintro e w14 ⟨A14, c14, rfl, hc14, hr14, hb14⟩
  have B14 := Lib.hid (via B13.out hb14)
  replace R := Lib.hid (R.out.below hb14)
  replace S := Lib.hid (S.out.below hb14)
  replace T := Lib.hid (T.out.below hb14)
  replace R13 := Lib.hid (R13.out.below hb14)
  clear hb14 B13
  have R14 := Lib.hid hr14
  clear hr14 hc14
  go_wp2_with fail
  refine (intersect_any A B l m c d _ R.out S.out (Nat.le_trans (HL.out) (by omega)) (Nat.le_trans (HM.out) (by omega))).mono ?_
  rintro e w15 ⟨A15, c15, rfl, hc15, hr15, hb15⟩
  have B15 := Lib.hid (via B14.out hb15)
  replace R := Lib.hid (R.out.below hb15)
  replace S := Lib.hid (S.out.below hb15)
  replace T := Lib.hid (T.out.below hb15)
  replace R13 := Lib.hid (R13.out.below hb15)
  replace R14 := Lib.hid (R14.out.below hb15)
  clear hb15 B14
  have R15 := Lib.hid hr15
  clear hr15 hc15
  go_wp2_with fail
  refine (intersect_any A15 C (inter l m) k c15 f _ R15.out T.out (Nat.le_trans (li (n := 30) (Nat.le_trans (HL.out) (by omega : 30 ≤ 30)) (Nat.le_trans (HM.out) (by omega : 30 ≤ 30))) (by omega)) (Nat.le_trans (HK.out) (by omega))).mono ?_
  rintro e w16 ⟨A16, c16, rfl, hc16, hr16, hb16⟩
  have B16 := Lib.hid (via B15.out hb16)
  replace R := Lib.hid (R.out.below hb16)
  replace S := Lib.hid (S.out.below hb16)
  replace T := Lib.hid (T.out.below hb16)
  replace R13 := Lib.hid (R13.out.below hb16)
  replace R14 := Lib.hid (R14.out.below hb16)
  replace R15 := Lib.hid (R15.out.below hb16)
  clear hb16 B15
  have R16 := Lib.hid hr16
  clear hr16 hc16
  go_wp2_with fail
  refine (requal_any A14 A16 (inter l (inter m k)) (inter (inter l m) k) c14 c16 _ R14.out R16.out (Nat.le_trans (li (n := 60) (Nat.le_trans (HL.out) (by omega : 30 ≤ 60)) (Nat.le_trans (li (n := 30) (Nat.le_trans (HM.out) (by omega : 30 ≤ 30)) (Nat.le_trans (HK.out) (by omega : 30 ≤ 30))) (by omega : 60 ≤ 60))) (by omega)) (Nat.le_trans (li (n := 60) (Nat.le_trans (li (n := 30) (Nat.le_trans (HL.out) (by omega : 30 ≤ 30)) (Nat.le_trans (HM.out) (by omega : 30 ≤ 30))) (by omega : 60 ≤ 60)) (Nat.le_trans (HK.out) (by omega : 30 ≤ 60))) (by omega))).mono ?_
  rintro e w17 ⟨rfl, hb17⟩
  rw [show eqB (inter l (inter m k)) (inter (inter l m) k) = true from alg (Sp.val_inter _ _) (Sp.val_inter _ _) fun x => by (repeat first | rw [Sp.mem_uni] | rw [Sp.mem_inter] | rw [Sp.mem_subt] | rw [Sp.norm_mem]); by_cases q1 : Mem x l <;> by_cases q2 : Mem x m <;> by_cases q3 : Mem x k <;> simp [*]]
  have B17 := Lib.hid (via B16.out hb17)
  replace R := Lib.hid (R.out.below hb17)
  replace S := Lib.hid (S.out.below hb17)
  replace T := Lib.hid (T.out.below hb17)
  replace R13 := Lib.hid (R13.out.below hb17)
  replace R14 := Lib.hid (R14.out.below hb17)
  replace R15 := Lib.hid (R15.out.below hb17)
  replace R16 := Lib.hid (R16.out.below hb17)
  clear hb17 B16
  clear R13
  clear R14
  clear R15
  clear R16
  go_wp2_with fail
  refine (union_any A A l l c c _ R.out R.out (Nat.le_trans (HL.out) (by omega)) (Nat.le_trans (HL.out) (by omega))).mono ?_
  rintro e w18 ⟨A18, c18, rfl, hc18, hr18, hb18⟩
  have B18 := Lib.hid (via B17.out hb18)
  replace R := Lib.hid (R.out.below hb18)
  replace S := Lib.hid (S.out.below hb18)
  replace T := Lib.hid (T.out.below hb18)
  clear hb18 B17
  have R18 := Lib.hid hr18
  clear hr18 hc18
  go_wp2_with fail
  refine (normal_any A l c _ R.out (Nat.le_trans (HL.out) (by omega))).mono ?_
  rintro e w19 ⟨A19, c19, rfl, hc19, hr19, hb19⟩
  have B19 := Lib.hid (via B18.out hb19)
  replace R := Lib.hid (R.out.below hb19)
  replace S := Lib.hid (S.out.below hb19)
  replace T := Lib.hid (T.out.below hb19)
  replace R18 := Lib.hid (R18.out.below hb19)
  clear hb19 B18
  have R19 := Lib.hid hr19
  clear hr19 hc19
  go_wp2_with fail
  refine (requal_any A18 A19 (uni l l) (norm l) c18 c19 _ R18.out R19.out (Nat.le_trans (lu (n := 30) (Nat.le_trans (HL.out) (by omega : 30 ≤ 30)) (Nat.le_trans (HL.out) (by omega : 30 ≤ 30))) (by omega)) (Nat.le_trans (Nat.le_trans (Sp.norm_len _) (HL.out)) (by omega))).mono ?_
  rintro e w20 ⟨rfl, hb20⟩
  rw [show eqB (uni l l) (norm l) = true from alg (Sp.val_uni _ _) (Sp.norm_val _) fun x => by (repeat first | rw [Sp.mem_uni] | rw [Sp.mem_inter] | rw [Sp.mem_subt] | rw [Sp.norm_mem]); by_cases q1 : Mem x l <;> by_cases q2 : Mem x m <;> by_cases q3 : Mem x k <;> simp [*]]
  have B20 := Lib.hid (via B19.out hb20)
  replace R := Lib.hid (R.out.below hb20)
  replace S := Lib.hid (S.out.below hb20)
  replace T := Lib.hid (T.out.below hb20)
  replace R18 := Lib.hid (R18.out.below hb20)
  replace R19 := Lib.hid (R19.out.below hb20)
  clear hb20 B19
  clear R18
  clear R19
  go_wp2_with fail
  refine (intersect_any A A l l c c _ R.out R.out (Nat.le_trans (HL.out) (by omega)) (Nat.le_trans (HL.out) (by omega))).mono ?_
  rintro e w21 ⟨A21, c21, rfl, hc21, hr21, hb21⟩
  have B21 := Lib.hid (via B20.out hb21)
  replace R := Lib.hid (R.out.below hb21)
  replace S := Lib.hid (S.out.below hb21)
  replace T := Lib.hid (T.out.below hb21)
  clear hb21 B20
  have R21 := Lib.hid hr21
  clear hr21 hc21
  go_wp2_with fail
  refine (normal_any A l c _ R.out (Nat.le_trans (HL.out) (by omega))).mono ?_
  rintro e w22 ⟨A22, c22, rfl, hc22, hr22, hb22⟩
  have B22 := Lib.hid (via B21.out hb22)
  replace R := Lib.hid (R.out.below hb22)
  replace S := Lib.hid (S.out.below hb22)
  replace T := Lib.hid (T.out.below hb22)
  replace R21 := Lib.hid (R21.out.below hb22)
  clear hb22 B21
  have R22 := Lib.hid hr22
  clear hr22 hc22
  go_wp2_with fail
  refine (requal_any A21 A22 (inter l l) (norm l) c21 c22 _ R21.out R22.out (Nat.le_trans (li (n := 30) (Nat.le_trans (HL.out) (by omega : 30 ≤ 30)) (Nat.le_trans (HL.out) (by omega : 30 ≤ 30))) (by omega)) (Nat.le_trans (Nat.le_trans (Sp.norm_len _) (HL.out)) (by omega))).mono ?_
  rintro e w23 ⟨rfl, hb23⟩
  rw [show eqB (inter l l) (norm l) = true from alg (Sp.val_inter _ _) (Sp.norm_val _) fun x => by (repeat first | rw [Sp.mem_uni] | rw [Sp.mem_inter] | rw [Sp.mem_subt] | rw [Sp.norm_mem]); by_cases q1 : Mem x l <;> by_cases q2 : Mem x m <;> by_cases q3 : Mem x k <;> simp [*]]
  have B23 := Lib.hid (via B22.out hb23)
  replace R := Lib.hid (R.out.below hb23)
  replace S := Lib.hid (S.out.below hb23)
  replace T := Lib.hid (T.out.below hb23)
  replace R21 := Lib.hid (R21.out.below hb23)
  replace R22 := Lib.hid (R22.out.below hb23)
  clear hb23 B22
  clear R21
  clear R22
  go_wp2_with fail
  refine (subtract_any A A l l c c _ R.out R.out (Nat.le_trans (HL.out) (by omega)) (Nat.le_trans (HL.out) (by omega))).mono ?_
  rintro e w24 ⟨A24, c24, rfl, hc24, hr24, hb24⟩
  rw [show subt l l = [] from Sp.canon (Sp.val_subt _ _) Sp.val_nil fun x => by simp [Sp.mem_subt, Sp.mem_nil]]
  clear hr24 hc24
  have B24 := Lib.hid (via B23.out hb24)
  replace R := Lib.hid (R.out.below hb24)
  replace S := Lib.hid (S.out.below hb24)
  replace T := Lib.hid (T.out.below hb24)
  clear hb24 B23
  go_wp2_with fail
  refine (union_any B C m k d f _ S.out T.out (Nat.le_trans (HM.out) (by omega)) (Nat.le_trans (HK.out) (by omega))).mono ?_
  rintro e w25 ⟨A25, c25, rfl, hc25, hr25, hb25⟩
  have B25 := Lib.hid (via B24.out hb25)
  replace R := Lib.hid (R.out.below hb25)
  replace S := Lib.hid (S.out.below hb25)
  replace T := Lib.hid (T.out.below hb25)
  clear hb25 B24
  have R25 := Lib.hid hr25
  clear hr25 hc25
  go_wp2_with fail
  refine (intersect_any A A25 l (uni m k) c c25 _ R.out R25.out (Nat.le_trans (HL.out) (by omega)) (Nat.le_trans (lu (n := 30) (Nat.le_trans (HM.out) (by omega : 30 ≤ 30)) (Nat.le_trans (HK.out) (by omega : 30 ≤ 30))) (by omega))).mono ?_
  rintro e w26 ⟨A26, c26, rfl, hc26, hr26, hb26⟩
  have B26 := Lib.hid (via B25.out hb26)
  replace R := Lib.hid (R.out.below hb26)
  replace S := Lib.hid (S.out.below hb26)
  replace T := Lib.hid (T.out.below hb26)
  replace R25 := Lib.hid (R25.out.below hb26)
  clear hb26 B25
  have R26 := Lib.hid hr26
  clear hr26 hc26
  go_wp2_with fail
  refine (intersect_any A B l m c d _ R.out S.out (Nat.le_trans (HL.out) (by omega)) (Nat.le_trans (HM.out) (by omega))).mono ?_
  rintro e w27 ⟨A27, c27, rfl, hc27, hr27, hb27⟩
  have B27 := Lib.hid (via B26.out hb27)
  replace R := Lib.hid (R.out.below hb27)
  replace S := Lib.hid (S.out.below hb27)
  replace T := Lib.hid (T.out.below hb27)
  replace R25 := Lib.hid (R25.out.below hb27)
  replace R26 := Lib.hid (R26.out.below hb27)
  clear hb27 B26
  have R27 := Lib.hid hr27
  clear hr27 hc27
  go_wp2_with fail
  refine (intersect_any A C l k c f _ R.out T.out (Nat.le_trans (HL.out) (by omega)) (Nat.le_trans (HK.out) (by omega))).mono ?_
  rintro e w28 ⟨A28, c28, rfl, hc28, hr28, hb28⟩
  have B28 := Lib.hid (via B27.out hb28)
  replace R := Lib.hid (R.out.below hb28)
  replace S := Lib.hid (S.out.below hb28)
  replace T := Lib.hid (T.out.below hb28)
  replace R25 := Lib.hid (R25.out.below hb28)
  replace R26 := Lib.hid (R26.out.below hb28)
  replace R27 := Lib.hid (R27.out.below hb28)
  clear hb28 B27
  have R28 := Lib.hid hr28
  clear hr28 hc28
  go_wp2_with fail
  refine (union_any A27 A28 (inter l m) (inter l k) c27 c28 _ R27.out R28.out (Nat.le_trans (li (n := 30) (Nat.le_trans (HL.out) (by omega : 30 ≤ 30)) (Nat.le_trans (HM.out) (by omega : 30 ≤ 30))) (by omega)) (Nat.le_trans (li (n := 30) (Nat.le_trans (HL.out) (by omega : 30 ≤ 30)) (Nat.le_trans (HK.out) (by omega : 30 ≤ 30))) (by omega))).mono ?_
  rintro e w29 ⟨A29, c29, rfl, hc29, hr29, hb29⟩
  have B29 := Lib.hid (via B28.out hb29)
  replace R := Lib.hid (R.out.below hb29)
  replace S := Lib.hid (S.out.below hb29)
  replace T := Lib.hid (T.out.below hb29)
  replace R25 := Lib.hid (R25.out.below hb29)
  replace R26 := Lib.hid (R26.out.below hb29)
  replace R27 := Lib.hid (R27.out.below hb29)
  replace R28 := Lib.hid (R28.out.below hb29)
  clear hb29 B28
  have R29 := Lib.hid hr29
  clear hr29 hc29
  go_wp2_with fail
  refine (requal_any A26 A29 (inter l (uni m k)) (uni (inter l m) (inter l k)) c26 c29 _ R26.out R29.out (Nat.le_trans (li (n := 60) (Nat.le_trans (HL.out) (by omega : 30 ≤ 60)) (Nat.le_trans (lu (n := 30) (Nat.le_trans (HM.out) (by omega : 30 ≤ 30)) (Nat.le_trans (HK.out) (by omega : 30 ≤ 30))) (by omega : 60 ≤ 60))) (by omega)) (Nat.le_trans (lu (n := 60) (Nat.le_trans (li (n := 30) (Nat.le_trans (HL.out) (by omega : 30 ≤ 30)) (Nat.le_trans (HM.out) (by omega : 30 ≤ 30))) (by omega : 60 ≤ 60)) (Nat.le_trans (li (n := 30) (Nat.le_trans (HL.out) (by omega : 30 ≤ 30)) (Nat.le_trans (HK.out) (by omega : 30 ≤ 30))) (by omega : 60 ≤ 60))) (by omega))).mono ?_
  rintro e w30 ⟨rfl, hb30⟩
  rw [show eqB (inter l (uni m k)) (uni (inter l m) (inter l k)) = true from alg (Sp.val_inter _ _) (Sp.val_uni _ _) fun x => by (repeat first | rw [Sp.mem_uni] | rw [Sp.mem_inter] | rw [Sp.mem_subt] | rw [Sp.norm_mem]); by_cases q1 : Mem x l <;> by_cases q2 : Mem x m <;> by_cases q3 : Mem x k <;> simp [*]]
  have B30 := Lib.hid (via B29.out hb30)
  replace R := Lib.hid (R.out.below hb30)
  replace S := Lib.hid (S.out.below hb30)
  replace T := Lib.hid (T.out.below hb30)
  replace R25 := Lib.hid (R25.out.below hb30)
  replace R26 := Lib.hid (R26.out.below hb30)
  replace R27 := Lib.hid (R27.out.below hb30)
  replace R28 := Lib.hid (R28.out.below hb30)
  replace R29 := Lib.hid (R29.out.below hb30)
  clear hb30 B29
  clear R25
  clear R26
  clear R27
  clear R28
  clear R29
  go_wp2_with fail
  refine (intersect_any B C m k d f _ S.out T.out (Nat.le_trans (HM.out) (by omega)) (Nat.le_trans (HK.out) (by omega))).mono ?_
  rintro e w31 ⟨A31, c31, rfl, hc31, hr31, hb31⟩
  have B31 := Lib.hid (via B30.out hb31)
  replace R := Lib.hid (R.out.below hb31)
  replace S := Lib.hid (S.out.below hb31)
  replace T := Lib.hid (T.out.below hb31)
  clear hb31 B30
  have R31 := Lib.hid hr31
  clear hr31 hc31
  go_wp2_with fail
  refine (union_any A A31 l (inter m k) c c31 _ R.out R31.out (Nat.le_trans (HL.out) (by omega)) (Nat.le_trans (li (n := 30) (Nat.le_trans (HM.out) (by omega : 30 ≤ 30)) (Nat.le_trans (HK.out) (by omega : 30 ≤ 30))) (by omega))).mono ?_
  rintro e w32 ⟨A32, c32, rfl, hc32, hr32, hb32⟩
  have B32 := Lib.hid (via B31.out hb32)
  replace R := Lib.hid (R.out.below hb32)
  replace S := Lib.hid (S.out.below hb32)
  replace T := Lib.hid (T.out.below hb32)
  replace R31 := Lib.hid (R31.out.below hb32)
  clear hb32 B31
  have R32 := Lib.hid hr32
  clear hr32 hc32
  go_wp2_with fail
  refine (union_any A B l m c d _ R.out S.out (Nat.le_trans (HL.out) (by omega)) (Nat.le_trans (HM.out) (by omega))).mono ?_
  rintro e w33 ⟨A33, c33, rfl, hc33, hr33, hb33⟩
  have B33 := Lib.hid (via B32.out hb33)
  replace R := Lib.hid (R.out.below hb33)
  replace S := Lib.hid (S.out.below hb33)
  replace T := Lib.hid (T.out.below hb33)
  replace R31 := Lib.hid (R31.out.below hb33)
  replace R32 := Lib.hid (R32.out.below hb33)
  clear hb33 B32
  have R33 := Lib.hid hr33
  clear hr33 hc33
  go_wp2_with fail
  refine (union_any A C l k c f _ R.out T.out (Nat.le_trans (HL.out) (by omega)) (Nat.le_trans (HK.out) (by omega))).mono ?_
  rintro e w34 ⟨A34, c34, rfl, hc34, hr34, hb34⟩
  have B34 := Lib.hid (via B33.out hb34)
  replace R := Lib.hid (R.out.below hb34)
  replace S := Lib.hid (S.out.below hb34)
  replace T := Lib.hid (T.out.below hb34)
  replace R31 := Lib.hid (R31.out.below hb34)
  replace R32 := Lib.hid (R32.out.below hb34)
  replace R33 := Lib.hid (R33.out.below hb34)
  clear hb34 B33
  have R34 := Lib.hid hr34
  clear hr34 hc34
  go_wp2_with fail
  refine (intersect_any A33 A34 (uni l m) (uni l k) c33 c34 _ R33.out R34.out (Nat.le_trans (lu (n := 30) (Nat.le_trans (HL.out) (by omega : 30 ≤ 30)) (Nat.le_trans (HM.out) (by omega : 30 ≤ 30))) (by omega)) (Nat.le_trans (lu (n := 30) (Nat.le_trans (HL.out) (by omega : 30 ≤ 30)) (Nat.le_trans (HK.out) (by omega : 30 ≤ 30))) (by omega))).mono ?_
  rintro e w35 ⟨A35, c35, rfl, hc35, hr35, hb35⟩
  have B35 := Lib.hid (via B34.out hb35)
  replace R := Lib.hid (R.out.below hb35)
  replace S := Lib.hid (S.out.below hb35)
  replace T := Lib.hid (T.out.below hb35)
  replace R31 := Lib.hid (R31.out.below hb35)
  replace R32 := Lib.hid (R32.out.below hb35)
  replace R33 := Lib.hid (R33.out.below hb35)
  replace R34 := Lib.hid (R34.out.below hb35)
  clear hb35 B34
  have R35 := Lib.hid hr35
  clear hr35 hc35
  go_wp2_with fail
  refine (requal_any A32 A35 (uni l (inter m k)) (inter (uni l m) (uni l k)) c32 c35 _ R32.out R35.out (Nat.le_trans (lu (n := 60) (Nat.le_trans (HL.out) (by omega : 30 ≤ 60)) (Nat.le_trans (li (n := 30) (Nat.le_trans (HM.out) (by omega : 30 ≤ 30)) (Nat.le_trans (HK.out) (by omega : 30 ≤ 30))) (by omega : 60 ≤ 60))) (by omega)) (Nat.le_trans (li (n := 60) (Nat.le_trans (lu (n := 30) (Nat.le_trans (HL.out) (by omega : 30 ≤ 30)) (Nat.le_trans (HM.out) (by omega : 30 ≤ 30))) (by omega : 60 ≤ 60)) (Nat.le_trans (lu (n := 30) (Nat.le_trans (HL.out) (by omega : 30 ≤ 30)) (Nat.le_trans (HK.out) (by omega : 30 ≤ 30))) (by omega : 60 ≤ 60))) (by omega))).mono ?_
  rintro e w36 ⟨rfl, hb36⟩
  rw [show eqB (uni l (inter m k)) (inter (uni l m) (uni l k)) = true from alg (Sp.val_uni _ _) (Sp.val_inter _ _) fun x => by (repeat first | rw [Sp.mem_uni] | rw [Sp.mem_inter] | rw [Sp.mem_subt] | rw [Sp.norm_mem]); by_cases q1 : Mem x l <;> by_cases q2 : Mem x m <;> by_cases q3 : Mem x k <;> simp [*]]
  have B36 := Lib.hid (via B35.out hb36)
  replace R := Lib.hid (R.out.below hb36)
  replace S := Lib.hid (S.out.below hb36)
  replace T := Lib.hid (T.out.below hb36)
  replace R31 := Lib.hid (R31.out.below hb36)
  replace R32 := Lib.hid (R32.out.below hb36)
  replace R33 := Lib.hid (R33.out.below hb36)
  replace R34 := Lib.hid (R34.out.below hb36)
  replace R35 := Lib.hid (R35.out.below hb36)
  clear hb36 B35
  clear R31
  clear R32
  clear R33
  clear R34
  clear R35
  go_wp2_with fail
  refine (union_any B C m k d f _ S.out T.out (Nat.le_trans (HM.out) (by omega)) (Nat.le_trans (HK.out) (by omega))).mono ?_
  rintro e w37 ⟨A37, c37, rfl, hc37, hr37, hb37⟩
  have B37 := Lib.hid (via B36.out hb37)
  replace R := Lib.hid (R.out.below hb37)
  replace S := Lib.hid (S.out.below hb37)
  replace T := Lib.hid (T.out.below hb37)
  clear hb37 B36
  have R37 := Lib.hid hr37
  clear hr37 hc37
  go_wp2_with fail
  refine (subtract_any A A37 l (uni m k) c c37 _ R.out R37.out (Nat.le_trans (HL.out) (by omega)) (Nat.le_trans (lu (n := 30) (Nat.le_trans (HM.out) (by omega : 30 ≤ 30)) (Nat.le_trans (HK.out) (by omega : 30 ≤ 30))) (by omega))).mono ?_
  rintro e w38 ⟨A38, c38, rfl, hc38, hr38, hb38⟩
  have B38 := Lib.hid (via B37.out hb38)
  replace R := Lib.hid (R.out.below hb38)
  replace S := Lib.hid (S.out.below hb38)
  replace T := Lib.hid (T.out.below hb38)
  replace R37 := Lib.hid (R37.out.below hb38)
  clear hb38 B37
  have R38 := Lib.hid hr38
  clear hr38 hc38
  go_wp2_with fail
  refine (subtract_any A B l m c d _ R.out S.out (Nat.le_trans (HL.out) (by omega)) (Nat.le_trans (HM.out) (by omega))).mono ?_
  rintro e w39 ⟨A39, c39, rfl, hc39, hr39, hb39⟩
  have B39 := Lib.hid (via B38.out hb39)
  replace R := Lib.hid (R.out.below hb39)
  replace S := Lib.hid (S.out.below hb39)
  replace T := Lib.hid (T.out.below hb39)
  replace R37 := Lib.hid (R37.out.below hb39)
  replace R38 := Lib.hid (R38.out.below hb39)
  clear hb39 B38
  have R39 := Lib.hid hr39
  clear hr39 hc39
  go_wp2_with fail
  refine (subtract_any A39 C (subt l m) k c39 f _ R39.out T.out (Nat.le_trans (ls (n := 30) (Nat.le_trans (HL.out) (by omega : 30 ≤ 30)) (Nat.le_trans (HM.out) (by omega : 30 ≤ 30))) (by omega)) (Nat.le_trans (HK.out) (by omega))).mono ?_
  rintro e w40 ⟨A40, c40, rfl, hc40, hr40, hb40⟩
  have B40 := Lib.hid (via B39.out hb40)
  replace R := Lib.hid (R.out.below hb40)
  replace S := Lib.hid (S.out.below hb40)
  replace T := Lib.hid (T.out.below hb40)
  replace R37 := Lib.hid (R37.out.below hb40)
  replace R38 := Lib.hid (R38.out.below hb40)
  replace R39 := Lib.hid (R39.out.below hb40)
  clear hb40 B39
  have R40 := Lib.hid hr40
  clear hr40 hc40
  go_wp2_with fail
  refine (requal_any A38 A40 (subt l (uni m k)) (subt (subt l m) k) c38 c40 _ R38.out R40.out (Nat.le_trans (ls (n := 60) (Nat.le_trans (HL.out) (by omega : 30 ≤ 60)) (Nat.le_trans (lu (n := 30) (Nat.le_trans (HM.out) (by omega : 30 ≤ 30)) (Nat.le_trans (HK.out) (by omega : 30 ≤ 30))) (by omega : 60 ≤ 60))) (by omega)) (Nat.le_trans (ls (n := 60) (Nat.le_trans (ls (n := 30) (Nat.le_trans (HL.out) (by omega : 30 ≤ 30)) (Nat.le_trans (HM.out) (by omega : 30 ≤ 30))) (by omega : 60 ≤ 60)) (Nat.le_trans (HK.out) (by omega : 30 ≤ 60))) (by omega))).mono ?_
  rintro e w41 ⟨rfl, hb41⟩
  rw [show eqB (subt l (uni m k)) (subt (subt l m) k) = true from alg (Sp.val_subt _ _) (Sp.val_subt _ _) fun x => by (repeat first | rw [Sp.mem_uni] | rw [Sp.mem_inter] | rw [Sp.mem_subt] | rw [Sp.norm_mem]); by_cases q1 : Mem x l <;> by_cases q2 : Mem x m <;> by_cases q3 : Mem x k <;> simp [*]]
  have B41 := Lib.hid (via B40.out hb41)
  replace R := Lib.hid (R.out.below hb41)
  replace S := Lib.hid (S.out.below hb41)
  replace T := Lib.hid (T.out.below hb41)
  replace R37 := Lib.hid (R37.out.below hb41)
  replace R38 := Lib.hid (R38.out.below hb41)
  replace R39 := Lib.hid (R39.out.below hb41)
  replace R40 := Lib.hid (R40.out.below hb41)
  clear hb41 B40
  clear R37
  clear R38
  clear R39
  clear R40
  go_wp2_with fail
  refine (intersect_any A B l m c d _ R.out S.out (Nat.le_trans (HL.out) (by omega)) (Nat.le_trans (HM.out) (by omega))).mono ?_
  rintro e w42 ⟨A42, c42, rfl, hc42, hr42, hb42⟩
  have B42 := Lib.hid (via B41.out hb42)
  replace R := Lib.hid (R.out.below hb42)
  replace S := Lib.hid (S.out.below hb42)
  replace T := Lib.hid (T.out.below hb42)
  clear hb42 B41
  have R42 := Lib.hid hr42
  clear hr42 hc42
  go_wp2_with fail
  refine (subtract_any A B l m c d _ R.out S.out (Nat.le_trans (HL.out) (by omega)) (Nat.le_trans (HM.out) (by omega))).mono ?_
  rintro e w43 ⟨A43, c43, rfl, hc43, hr43, hb43⟩
  have B43 := Lib.hid (via B42.out hb43)
  replace R := Lib.hid (R.out.below hb43)
  replace S := Lib.hid (S.out.below hb43)
  replace T := Lib.hid (T.out.below hb43)
  replace R42 := Lib.hid (R42.out.below hb43)
  clear hb43 B42
  have R43 := Lib.hid hr43
  clear hr43 hc43
  go_wp2_with fail
  refine (union_any A42 A43 (inter l m) (subt l m) c42 c43 _ R42.out R43.out (Nat.le_trans (li (n := 30) (Nat.le_trans (HL.out) (by omega : 30 ≤ 30)) (Nat.le_trans (HM.out) (by omega : 30 ≤ 30))) (by omega)) (Nat.le_trans (ls (n := 30) (Nat.le_trans (HL.out) (by omega : 30 ≤ 30)) (Nat.le_trans (HM.out) (by omega : 30 ≤ 30))) (by omega))).mono ?_
  rintro e w44 ⟨A44, c44, rfl, hc44, hr44, hb44⟩
  have B44 := Lib.hid (via B43.out hb44)
  replace R := Lib.hid (R.out.below hb44)
  replace S := Lib.hid (S.out.below hb44)
  replace T := Lib.hid (T.out.below hb44)
  replace R42 := Lib.hid (R42.out.below hb44)
  replace R43 := Lib.hid (R43.out.below hb44)
  clear hb44 B43
  have R44 := Lib.hid hr44
  clear hr44 hc44
  go_wp2_with fail
  refine (normal_any A l c _ R.out (Nat.le_trans (HL.out) (by omega))).mono ?_
  rintro e w45 ⟨A45, c45, rfl, hc45, hr45, hb45⟩
  have B45 := Lib.hid (via B44.out hb45)
  replace R := Lib.hid (R.out.below hb45)
  replace S := Lib.hid (S.out.below hb45)
  replace T := Lib.hid (T.out.below hb45)
  replace R42 := Lib.hid (R42.out.below hb45)
  replace R43 := Lib.hid (R43.out.below hb45)
  replace R44 := Lib.hid (R44.out.below hb45)
  clear hb45 B44
  have R45 := Lib.hid hr45
  clear hr45 hc45
  go_wp2_with fail
  refine (requal_any A44 A45 (uni (inter l m) (subt l m)) (norm l) c44 c45 _ R44.out R45.out (Nat.le_trans (lu (n := 60) (Nat.le_trans (li (n := 30) (Nat.le_trans (HL.out) (by omega : 30 ≤ 30)) (Nat.le_trans (HM.out) (by omega : 30 ≤ 30))) (by omega : 60 ≤ 60)) (Nat.le_trans (ls (n := 30) (Nat.le_trans (HL.out) (by omega : 30 ≤ 30)) (Nat.le_trans (HM.out) (by omega : 30 ≤ 30))) (by omega : 60 ≤ 60))) (by omega)) (Nat.le_trans (Nat.le_trans (Sp.norm_len _) (HL.out)) (by omega))).mono ?_
  rintro e w46 ⟨rfl, hb46⟩
  rw [show eqB (uni (inter l m) (subt l m)) (norm l) = true from alg (Sp.val_uni _ _) (Sp.norm_val _) fun x => by (repeat first | rw [Sp.mem_uni] | rw [Sp.mem_inter] | rw [Sp.mem_subt] | rw [Sp.norm_mem]); by_cases q1 : Mem x l <;> by_cases q2 : Mem x m <;> by_cases q3 : Mem x k <;> simp [*]]
  have B46 := Lib.hid (via B45.out hb46)
  replace R := Lib.hid (R.out.below hb46)
  replace S := Lib.hid (S.out.below hb46)
  replace T := Lib.hid (T.out.below hb46)
  replace R42 := Lib.hid (R42.out.below hb46)
  replace R43 := Lib.hid (R43.out.below hb46)
  replace R44 := Lib.hid (R44.out.below hb46)
  replace R45 := Lib.hid (R45.out.below hb46)
  clear hb46 B45
  clear R42
  clear R43
  clear R44
  clear R45
  go_wp2
  go_ret
  exact ⟨rfl, B46.out⟩
end Go.Proofs.Ytamnlhlocidbkaa
