/-
  The contract of the law SpanSetsMatchReference.
-/
import Derived.Test.YtamnlhlocidbkaaSane
import Derived.Test.YtamnlhlocidbkaaBasic2
import Derived.Test.YtamnlhlocidbkaaRefB
import Derived.Test.YtamnlhlocidbkaaRefC
import Derived.Test.YtamnlhlocidbkaaRefD
namespace Go.Proofs.Ytamnlhlocidbkaa
open Go.RowKit
open Sp (Sn Mem Val norm uni inter subt)
set_option maxRecDepth 100000 in
set_option maxHeartbeats 4000000 in
theorem law4_any (A B : Option Addr) (l0 m0 : List Sn) (c d : Nat) (w : World) (hR : Rd w A l0) (hS : Rd w B m0) (hc : l0.length ≤ c) (hcm : c ≤ maxLen) (hd : m0.length ≤ d) (hdm : d ≤ maxLen) :
    Calls Try.prog 4 #[.slice A l0.length c, .slice B m0.length d] w fun e w' => e = .returned (.bool true) ∧ Below w.heap.size w w' := by
  have B0 := Lib.hid (Below.refl w.heap.size w)
  have F1 := Lib.hid (few_any A l0 c · hc hcm)
  have F2 := Lib.hid (few_any B m0 d · hd hdm)
  have hl : (l0.take 30).length ≤ 30 := by simp; omega
  have hm : (m0.take 30).length ≤ 30 := by simp; omega
  have R := Lib.hid (hR.take 30)
  have S := Lib.hid (hS.take 30)
  clear hR hS hc hd hcm hdm
  generalize l0.take 30 = l at *
  generalize m0.take 30 = m at *
  go_enter Try.func4, Try.ntmps4
  go_wp2_with fail
  refine (sane_any _).mono ?_
  rintro e w1 ⟨rfl, hb1⟩
  have B1 := Lib.hid (via B0.out hb1)
  replace R := Lib.hid (R.out.below hb1)
  replace S := Lib.hid (S.out.below hb1)
  clear hb1 B0
  go_wp2_with fail
  refine (F1.out _).mono ?_
  rintro e _ ⟨rfl, rfl⟩
  go_wp2_with fail
  refine (F2.out _).mono ?_
  rintro e _ ⟨rfl, rfl⟩
  have nu : (uni l m).length ≤ 100000 := Nat.le_trans (Sp.uni_len _ _) (by omega)
  have ni : (inter l m).length ≤ 100000 := Nat.le_trans (Sp.inter_len _ _) (by omega)
  have ns : (subt l m).length ≤ 100000 := Nat.le_trans (Sp.subt_len _ _) (by omega)
  go_wp2_with fail
  refine (union_any A B l m c d _ R.out S.out (by omega) (by omega)).mono ?_
  rintro e w2 ⟨A2, c2, rfl, hc2, hr2, hb2⟩
  have B2 := Lib.hid (via B1.out hb2)
  replace R := Lib.hid (R.out.below hb2)
  replace S := Lib.hid (S.out.below hb2)
  clear hb2 B1
  have R2 := Lib.hid hr2
  clear hr2 hc2
  go_wp2_with fail
  refine (runion_any A B l m c d _ R.out S.out (by omega) (by omega)).mono ?_
  rintro e w3 ⟨A3, c3, rfl, hc3, hr3, hb3⟩
  have B3 := Lib.hid (via B2.out hb3)
  replace R := Lib.hid (R.out.below hb3)
  replace S := Lib.hid (S.out.below hb3)
  replace R2 := Lib.hid (R2.out.below hb3)
  clear hb3 B2
  have R3 := Lib.hid hr3
  clear hr3 hc3
  go_wp2_with fail
  refine (requal_any A2 A3 (uni l m) (uni l m) c2 c3 _ R2.out R3.out nu nu).mono ?_
  rintro e w4 ⟨rfl, hb4⟩
  rw [eqB_self]
  have B4 := Lib.hid (via B3.out hb4)
  replace R := Lib.hid (R.out.below hb4)
  replace S := Lib.hid (S.out.below hb4)
  replace R2 := Lib.hid (R2.out.below hb4)
  replace R3 := Lib.hid (R3.out.below hb4)
  clear hb4 B3
  clear R2
  clear R3
  go_wp2_with fail
  refine (intersect_any A B l m c d _ R.out S.out (by omega) (by omega)).mono ?_
  rintro e w5 ⟨A5, c5, rfl, hc5, hr5, hb5⟩
  have B5 := Lib.hid (via B4.out hb5)
  replace R := Lib.hid (R.out.below hb5)
  replace S := Lib.hid (S.out.below hb5)
  clear hb5 B4
  have R5 := Lib.hid hr5
  clear hr5 hc5
  go_wp2_with fail
  refine (rinter_any A B l m c d _ R.out S.out (by omega) (by omega)).mono ?_
  rintro e w6 ⟨A6, c6, rfl, hc6, hr6, hb6⟩
  have B6 := Lib.hid (via B5.out hb6)
  replace R := Lib.hid (R.out.below hb6)
  replace S := Lib.hid (S.out.below hb6)
  replace R5 := Lib.hid (R5.out.below hb6)
  clear hb6 B5
  have R6 := Lib.hid hr6
  clear hr6 hc6
  go_wp2_with fail
  refine (requal_any A5 A6 (inter l m) (inter l m) c5 c6 _ R5.out R6.out ni ni).mono ?_
  rintro e w7 ⟨rfl, hb7⟩
  rw [eqB_self]
  have B7 := Lib.hid (via B6.out hb7)
  replace R := Lib.hid (R.out.below hb7)
  replace S := Lib.hid (S.out.below hb7)
  replace R5 := Lib.hid (R5.out.below hb7)
  replace R6 := Lib.hid (R6.out.below hb7)
  clear hb7 B6
  clear R5
  clear R6
  go_wp2_with fail
  refine (subtract_any A B l m c d _ R.out S.out (by omega) (by omega)).mono ?_
  rintro e w8 ⟨A8, c8, rfl, hc8, hr8, hb8⟩
  have B8 := Lib.hid (via B7.out hb8)
  replace R := Lib.hid (R.out.below hb8)
  replace S := Lib.hid (S.out.below hb8)
  clear hb8 B7
  have R8 := Lib.hid hr8
  clear hr8 hc8
  go_wp2_with fail
  refine (rsubt_any A B l m c d _ R.out S.out (by omega) (by omega)).mono ?_
  rintro e w9 ⟨A9, c9, rfl, hc9, hr9, hb9⟩
  have B9 := Lib.hid (via B8.out hb9)
  replace R := Lib.hid (R.out.below hb9)
  replace S := Lib.hid (S.out.below hb9)
  replace R8 := Lib.hid (R8.out.below hb9)
  clear hb9 B8
  have R9 := Lib.hid hr9
  clear hr9 hc9
  go_wp2_with fail
  refine (requal_any A8 A9 (subt l m) (subt l m) c8 c9 _ R8.out R9.out ns ns).mono ?_
  rintro e w10 ⟨rfl, hb10⟩
  rw [eqB_self]
  have B10 := Lib.hid (via B9.out hb10)
  replace R := Lib.hid (R.out.below hb10)
  replace S := Lib.hid (S.out.below hb10)
  replace R8 := Lib.hid (R8.out.below hb10)
  replace R9 := Lib.hid (R9.out.below hb10)
  clear hb10 B9
  clear R8
  clear R9
  go_wp2
  go_ret
  exact ⟨rfl, B10.out⟩
end Go.Proofs.Ytamnlhlocidbkaa
