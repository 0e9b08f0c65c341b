/-
  The contract of the law SpanEarliest.
-/
import Derived.Test.YtamnlhlocidbkaaSane
import Derived.Test.YtamnlhlocidbkaaPlainH
import Derived.Test.YtamnlhlocidbkaaSmall
namespace Go.Proofs.Ytamnlhlocidbkaa
open Go.RowKit
open Sp (Sn Mem Val norm uni inter subt)
/-- what a law's round needs of a world: a list that was made, as it was -/
structure One1 (w : World) (A : Option Addr) (l : List Sn) (W : World) : Prop where
  below : Below w.heap.size w W
  ra : Rd W A l
theorem One1.next {w W W' : World} {A : Option Addr} {l : List Sn} (h : One1 w A l W) (hb : Below W.heap.size W W') : One1 w A l W' := ⟨via h.below hb, h.ra.below hb⟩
set_option maxRecDepth 100000 in
set_option maxHeartbeats 4000000 in
theorem law9_any (A : Option Addr) (l0 : List Sn) (c : Nat) (x y : Int) (w : World) (hR : Rd w A l0) (_hc : l0.length ≤ c) (hcm : c ≤ maxLen) (_hx : -9223372036854775808 ≤ x ∧ x ≤ 9223372036854775807) (_hy : -9223372036854775808 ≤ y ∧ y ≤ 9223372036854775807) :
    Calls Try.prog 9 #[.slice A l0.length c, .int .i64 x, .int .i64 y] w fun e w' => e = .returned (.bool true) ∧ Below w.heap.size w w' := by
  have B0 := Lib.hid (Below.refl w.heap.size w)
  have F1 := Lib.hid (small_any A l0 c · · (by unfold maxLen at hcm; omega))
  have R := Lib.hid hR
  have hs := sm_Sml l0 (min l0.length 12)
  have hl : (sm l0 (min l0.length 12)).length ≤ 12 := by rw [sm_len]; omega
  generalize sm l0 (min l0.length 12) = s at *
  have HS := Lib.hid hs
  have ba := tmod_bd x 50 (by omega)
  have bn := tmod_bd y 20 (by omega)
  clear hR _hc hcm hs
  go_enter Try.func9, Try.ntmps9
  go_wp2_with fail
  refine (sane_any _).mono ?_
  rintro e w1 ⟨rfl, hb1⟩
  have B1 := Lib.hid (via B0.out hb1)
  replace R := Lib.hid (R.out.below hb1)
  clear hb1 B0
  go_wp2_with fail
  refine (F1.out _ R.out).mono ?_
  rintro e w2 ⟨A2, c2, rfl, hc2, hr2, hb2⟩
  have T0 := Lib.hid (show One1 w A2 s w2 from ⟨via B1.out hb2, hr2⟩)
  clear hb2 B1 hr2 hc2 R F1
  go_wp2_with fail
  generalize x.tmod 50 = a at *
  generalize y.tmod 20 = n at *
  clear _hx _hy
  refine (earliest_any A2 s c2 a n _ T0.out.ra (by omega) HS.out.bd (by omega) (by omega)).mono ?_
  rintro e w3 ⟨rfl, hb3⟩
  replace T0 := Lib.hid (T0.out.next hb3)
  clear hb3
  by_cases hn : n ≤ 0
  · rw [show earl s a n = (a, true) by unfold earl; rw [if_pos hn]]
    go_wp2
    go_ret
    exact ⟨rfl, T0.out.below⟩
  · have hn' : 0 < n := by omega
    by_cases hok : (earl s a n).2 = true
    · obtain ⟨k1, k2, k3, k4⟩ := earl_yes HS.out hn' hok
      rw [hok]
      generalize (earl s a n).1 = g at *
      have K3 := Lib.hid k3
      have K4 := Lib.hid k4
      clear k3 k4 hok hn'
      go_wp2
      go_loopw [11] (fun u11 wr => ∃ k : Nat, a + k ≤ 60 ∧ u11 = .int .i64 (a + k) ∧ One1 w A2 s wr) (fun u11 _ => (60 - intOf u11).toNat)
      case atStart => exact ⟨0, by omega, by simp, T0.out⟩
      case round =>
        obtain ⟨k, hk, rfl, hT⟩ := hrel
        have HT := Lib.hid hT
        clear hT T0
        by_cases h60 : a + (k : Int) < 60
        · by_cases hg : a + (k : Int) < g
          · have C4 := Lib.hid (K4.out (a + k) (by omega) hg)
            have e1 : IntKind.i64.wrap (a + (k : Int) + n) = a + (k : Int) + n := IntWalk.i64_in _ (by omega)
            go_wp2_with fail
            refine (covers_any A2 s c2 (a + k, a + k + n) _ HT.out.ra (by omega)).mono ?_
            rintro e wx ⟨rfl, hbx⟩
            rw [C4.out]
            have HX := Lib.hid (HT.out.next hbx)
            clear hbx HT C4 e1
            go_wp2
            go_roundw
            case rel => exact ⟨k + 1, by omega, by go_num, HX.out⟩
            case measure => simp [intOf]; omega
          · have e1 : IntKind.i64.wrap (g + n) = g + n := IntWalk.i64_in _ (by omega)
            go_wp2_with fail
            refine (covers_any A2 s c2 (g, g + n) _ HT.out.ra (by omega)).mono ?_
            rintro e wx ⟨rfl, hbx⟩
            rw [K3.out]
            have HX := Lib.hid (HT.out.next hbx)
            clear hbx HT e1
            go_wp2
            go_ret
            exact ⟨rfl, HX.out.below⟩
        · have e1 : IntKind.i64.wrap (g + n) = g + n := IntWalk.i64_in _ (by omega)
          go_wp2_with fail
          refine (covers_any A2 s c2 (g, g + n) _ HT.out.ra (by omega)).mono ?_
          rintro e wx ⟨rfl, hbx⟩
          rw [K3.out]
          have HX := Lib.hid (HT.out.next hbx)
          clear hbx HT e1
          go_wp2
          go_ret
          exact ⟨rfl, HX.out.below⟩
    · rw [Bool.not_eq_true] at hok
      obtain ⟨k1, k4⟩ := earl_no hn' hok
      rw [hok, k1]
      have K4 := Lib.hid k4
      clear k4 hok hn' k1
      go_wp2
      go_loopw [11] (fun u11 wr => ∃ k : Nat, a + k ≤ 60 ∧ u11 = .int .i64 (a + k) ∧ One1 w A2 s wr) (fun u11 _ => (60 - intOf u11).toNat)
      case atStart => exact ⟨0, by omega, by simp, T0.out⟩
      case round =>
        obtain ⟨k, hk, rfl, hT⟩ := hrel
        have HT := Lib.hid hT
        clear hT T0
        by_cases h60 : a + (k : Int) < 60
        · have C4 := Lib.hid (K4.out (a + k) (by omega))
          have e1 : IntKind.i64.wrap (a + (k : Int) + n) = a + (k : Int) + n := IntWalk.i64_in _ (by omega)
          go_wp2_with fail
          refine (covers_any A2 s c2 (a + k, a + k + n) _ HT.out.ra (by omega)).mono ?_
          rintro e wx ⟨rfl, hbx⟩
          rw [C4.out]
          have HX := Lib.hid (HT.out.next hbx)
          clear hbx HT C4 e1
          go_wp2
          go_roundw
          case rel => exact ⟨k + 1, by omega, by go_num, HX.out⟩
          case measure => simp [intOf]; omega
        · go_wp2
          go_ret
          exact ⟨rfl, HT.out.below⟩
end Go.Proofs.Ytamnlhlocidbkaa
