/-
  The contract of the law SpanNormalMatchesReference.
-/
import Derived.Test.YtamnlhlocidbkaaSane
import Derived.Test.YtamnlhlocidbkaaBasic2
import Derived.Test.YtamnlhlocidbkaaRefB
import Derived.Test.YtamnlhlocidbkaaRefC
import Derived.Test.YtamnlhlocidbkaaRefD
namespace Go.Proofs.Ytamnlhlocidbkaa
open Go.RowKit
open Sp (Sn Mem Val norm uni inter subt)
set_option maxRecDepth 100000 in
set_option maxHeartbeats 4000000 in
theorem law3_any (A B : Option Addr) (l0 m0 : List Sn) (c d : Nat) (w : World) (hR : Rd w A l0) (hS : Rd w B m0) (hc : l0.length ≤ c) (hcm : c ≤ maxLen) (hd : m0.length ≤ d) (hdm : d ≤ maxLen) (hbd : Bd l0) :
    Calls Try.prog 3 #[.slice A l0.length c, .slice B m0.length d] w fun e w' => e = .returned (.bool true) ∧ Below w.heap.size w w' := by
  have B0 := Lib.hid (Below.refl w.heap.size w)
  have F1 := Lib.hid (few_any A l0 c · hc hcm)
  have F2 := Lib.hid (few_any B m0 d · hd hdm)
  have hl : (l0.take 30).length ≤ 30 := by simp; omega
  have hm : (m0.take 30).length ≤ 30 := by simp; omega
  have R := Lib.hid (hR.take 30)
  have S := Lib.hid (hS.take 30)
  have BD := Lib.hid (hbd.take 30)
  clear hR hS hc hd hcm hdm hbd
  generalize l0.take 30 = l at *
  generalize m0.take 30 = m at *
  go_enter Try.func3, Try.ntmps3
  go_wp2_with fail
  refine (sane_any _).mono ?_
  rintro e w1 ⟨rfl, hb1⟩
  have B1 := Lib.hid (via B0.out hb1)
  replace R := Lib.hid (R.out.below hb1)
  replace S := Lib.hid (S.out.below hb1)
  clear hb1 B0
  go_wp2_with fail
  refine (F1.out _).mono ?_
  rintro e _ ⟨rfl, rfl⟩
  go_wp2_with fail
  refine (F2.out _).mono ?_
  rintro e _ ⟨rfl, rfl⟩
  have nl : (norm l).length ≤ 100000 := Nat.le_trans (Sp.norm_len _) (by omega)
  go_wp2_with fail
  refine (normal_any A l c _ R.out (by omega)).mono ?_
  rintro e w2 ⟨A2, c2, rfl, hc2, hr2, hb2⟩
  have B2 := Lib.hid (via B1.out hb2)
  replace R := Lib.hid (R.out.below hb2)
  replace S := Lib.hid (S.out.below hb2)
  clear hb2 B1
  have R2 := Lib.hid hr2
  clear hr2 hc2
  go_wp2_with fail
  refine (rnormal_any A l c _ R.out (by omega)).mono ?_
  rintro e w3 ⟨A3, c3, rfl, hc3, hr3, hb3⟩
  have B3 := Lib.hid (via B2.out hb3)
  replace R := Lib.hid (R.out.below hb3)
  replace S := Lib.hid (S.out.below hb3)
  replace R2 := Lib.hid (R2.out.below hb3)
  clear hb3 B2
  have R3 := Lib.hid hr3
  clear hr3 hc3
  go_wp2_with fail
  refine (requal_any A2 A3 (norm l) (norm l) c2 c3 _ R2.out R3.out nl nl).mono ?_
  rintro e w4 ⟨rfl, hb4⟩
  rw [eqB_self]
  have B4 := Lib.hid (via B3.out hb4)
  replace R := Lib.hid (R.out.below hb4)
  replace S := Lib.hid (S.out.below hb4)
  replace R2 := Lib.hid (R2.out.below hb4)
  replace R3 := Lib.hid (R3.out.below hb4)
  clear hb4 B3
  clear R2
  clear R3
  go_wp2_with fail
  refine (valid_any A l c _ R.out (by omega)).mono ?_
  rintro e w5 ⟨rfl, hb5⟩
  have B5 := Lib.hid (via B4.out hb5)
  replace R := Lib.hid (R.out.below hb5)
  replace S := Lib.hid (S.out.below hb5)
  clear hb5 B4
  go_wp2_with fail
  refine (rvalid_any A l c _ R.out (by omega)).mono ?_
  rintro e w6 ⟨rfl, hb6⟩
  have B6 := Lib.hid (via B5.out hb6)
  replace R := Lib.hid (R.out.below hb6)
  replace S := Lib.hid (S.out.below hb6)
  clear hb6 B5
  go_wp2_with fail
  refine (same_any A B l m c d _ R.out S.out (by omega) (by omega)).mono ?_
  rintro e w7 ⟨rfl, hb7⟩
  have B7 := Lib.hid (via B6.out hb7)
  replace R := Lib.hid (R.out.below hb7)
  replace S := Lib.hid (S.out.below hb7)
  clear hb7 B6
  go_wp2_with fail
  refine (rsame_any A B l m c d _ R.out S.out (by omega) (by omega)).mono ?_
  rintro e w8 ⟨rfl, hb8⟩
  have B8 := Lib.hid (via B7.out hb8)
  replace R := Lib.hid (R.out.below hb8)
  replace S := Lib.hid (S.out.below hb8)
  clear hb8 B7
  go_wp2_with fail
  refine (total_any A l c _ R.out (by omega) BD.out).mono ?_
  rintro e w9 ⟨rfl, hb9⟩
  have B9 := Lib.hid (via B8.out hb9)
  replace R := Lib.hid (R.out.below hb9)
  replace S := Lib.hid (S.out.below hb9)
  clear hb9 B8
  go_wp2_with fail
  refine (rtotal_any A l c _ R.out (by omega) BD.out).mono ?_
  rintro e w10 ⟨rfl, hb10⟩
  have B10 := Lib.hid (via B9.out hb10)
  replace R := Lib.hid (R.out.below hb10)
  replace S := Lib.hid (S.out.below hb10)
  clear hb10 B9
  go_wp2
  go_ret
  exact ⟨rfl, B10.out⟩
end Go.Proofs.Ytamnlhlocidbkaa
