/-
  The contract of the law SpanTotal.
-/
import Derived.Test.YtamnlhlocidbkaaSane
import Derived.Test.YtamnlhlocidbkaaPlainG
import Derived.Test.YtamnlhlocidbkaaSmall
namespace Go.Proofs.Ytamnlhlocidbkaa
open Go.RowKit
open Sp (Sn Mem Val norm uni inter subt)
/-- what a law's round needs of a world: two lists that were made, as they were -/
structure Two2 (w : World) (A B : Option Addr) (l m : List Sn) (W : World) : Prop where
  below : Below w.heap.size w W
  ra : Rd W A l
  rb : Rd W B m
theorem Two2.next {w W W' : World} {A B : Option Addr} {l m : List Sn} (h : Two2 w A B l m W) (hb : Below W.heap.size W W') : Two2 w A B l m W' := ⟨via h.below hb, h.ra.below hb, h.rb.below hb⟩
set_option maxRecDepth 100000 in
set_option maxHeartbeats 4000000 in
theorem law10_any (A B : Option Addr) (l0 m0 : List Sn) (c d : Nat) (w : World) (hR : Rd w A l0) (hS : Rd w B m0) (_hc : l0.length ≤ c) (_hcm : c ≤ maxLen) (_hd : m0.length ≤ d) (_hdm : d ≤ maxLen) :
    Calls Try.prog 10 #[.slice A l0.length c, .slice B m0.length d] w fun e w' => e = .returned (.bool true) ∧ Below w.heap.size w w' := by
  have B0 := Lib.hid (Below.refl w.heap.size w)
  have F1 := Lib.hid (small_any A l0 c · · (by unfold maxLen at _hcm; omega))
  have F2 := Lib.hid (small_any B m0 d · · (by unfold maxLen at _hdm; omega))
  have R := Lib.hid hR
  have S := Lib.hid hS
  have hs := sm_Sml l0 (min l0.length 12)
  have ht := sm_Sml m0 (min m0.length 12)
  have hl : (sm l0 (min l0.length 12)).length ≤ 12 := by rw [sm_len]; omega
  have hm : (sm m0 (min m0.length 12)).length ≤ 12 := by rw [sm_len]; omega
  generalize sm l0 (min l0.length 12) = s at *
  generalize sm m0 (min m0.length 12) = t at *
  have t1 := tot_cnt hs
  have t2 := tot_both hs ht
  have g1 := tot_cnt (hs.uni ht)
  have g2 := tot_cnt (hs.inter ht)
  have g3 := tot_cnt ht
  have k1 := cnt_bd (uni s t) 101
  have k2 := cnt_bd (inter s t) 101
  have k3 := cnt_bd t 101
  have k4 := cnt_bd s 101
  have nu : (uni s t).length ≤ 100000 := Nat.le_trans (Sp.uni_len _ _) (by omega)
  have ni : (inter s t).length ≤ 100000 := Nat.le_trans (Sp.inter_len _ _) (by omega)
  have e1 : IntKind.i64.wrap (totV (uni s t) + totV (inter s t)) = totV s + totV t := by rw [IntWalk.i64_in _ (by omega)]; exact t2
  have e2 : IntKind.i64.wrap (totV s + totV t) = totV s + totV t := IntWalk.i64_in _ (by omega)
  have T1 := Lib.hid t1
  have E1 := Lib.hid e1
  have E2 := Lib.hid e2
  have BS := Lib.hid hs.bd
  have BT := Lib.hid ht.bd
  have BU := Lib.hid (hs.uni ht).bd
  have BI := Lib.hid (hs.inter ht).bd
  clear hR hS _hc _hcm _hd _hdm hs ht t1 t2 g1 g2 g3 k1 k2 k3 k4 e1 e2
  go_enter Try.func10, Try.ntmps10
  go_wp2_with fail
  refine (sane_any _).mono ?_
  rintro e w1 ⟨rfl, hb1⟩
  have B1 := Lib.hid (via B0.out hb1)
  replace R := Lib.hid (R.out.below hb1)
  replace S := Lib.hid (S.out.below hb1)
  clear hb1 B0
  go_wp2_with fail
  refine (F1.out _ R.out).mono ?_
  rintro e w2 ⟨A2, c2, rfl, hc2, hr2, hb2⟩
  have B2 := Lib.hid (via B1.out hb2)
  replace R := Lib.hid (R.out.below hb2)
  replace S := Lib.hid (S.out.below hb2)
  clear hb2 B1
  have R2 := Lib.hid hr2
  clear hr2 hc2
  go_wp2_with fail
  refine (F2.out _ S.out).mono ?_
  rintro e w3 ⟨A3, c3, rfl, hc3, hr3, hb3⟩
  have B3 := Lib.hid (via B2.out hb3)
  replace R := Lib.hid (R.out.below hb3)
  replace S := Lib.hid (S.out.below hb3)
  replace R2 := Lib.hid (R2.out.below hb3)
  clear hb3 B2
  have R3 := Lib.hid hr3
  clear hr3 hc3
  clear R
  clear S
  have T0 := Lib.hid (show Two2 w A2 A3 s t w3 from ⟨B3.out, R2.out, R3.out⟩)
  clear R2 R3 B3 F1 F2
  go_wp2
  go_loopw [8, 9] (fun u8 u9 wr => ∃ k : Nat, k ≤ 101 ∧ u8 = .int .i64 (cnt s k) ∧ u9 = .int .i64 (-50 + k) ∧ Two2 w A2 A3 s t wr) (fun _ u9 _ => (51 - intOf u9).toNat)
  case atStart => exact ⟨0, by omega, rfl, rfl, T0.out⟩
  case round =>
    obtain ⟨k, hk, rfl, rfl, hT⟩ := hrel
    have HT := Lib.hid hT
    clear hT T0
    by_cases hlt : k < 101
    · have hn := cnt_bd s k
      have hle : (-50 + (k : Int)) ≤ 50 := by omega
      go_wp2_with fail
      refine (has_any A2 s c2 (-50 + k) _ HT.out.ra (by omega)).mono ?_
      rintro e wx ⟨rfl, hbx⟩
      have HX := Lib.hid (HT.out.next hbx)
      clear hbx HT
      by_cases hm : memB (-50 + (k : Int)) s = true
      · rw [hm]
        have hcn : cnt s (k + 1) = cnt s k + 1 := by rw [show cnt s (k + 1) = cnt s k + bI (memB (-50 + k) s) from rfl, hm]; rfl
        have HC := Lib.hid hcn
        clear hcn hm
        go_wp2
        go_roundw
        case rel => exact ⟨k + 1, by omega, by rw [HC.out], by go_num, HX.out⟩
        case measure => simp [intOf]; omega
      · rw [Bool.not_eq_true] at hm
        rw [hm]
        have hcn : cnt s (k + 1) = cnt s k := by rw [show cnt s (k + 1) = cnt s k + bI (memB (-50 + k) s) from rfl, hm]; simp [bI]
        have HC := Lib.hid hcn
        clear hcn hm
        go_wp2
        go_roundw
        case rel => exact ⟨k + 1, by omega, by rw [HC.out], by go_num, HX.out⟩
        case measure => simp [intOf]; omega
    · obtain rfl : k = 101 := by omega
      rw [← T1.out]

      go_wp2_with fail
      refine (total_any A2 s c2 _ HT.out.ra (by omega) BS.out).mono ?_
      rintro e x1 ⟨rfl, hb1⟩
      replace HT := Lib.hid (HT.out.next hb1)
      clear hb1
      go_wp2_with fail
      refine (union_any A2 A3 s t c2 c3 _ HT.out.ra HT.out.rb (by omega) (by omega)).mono ?_
      rintro e x2 ⟨A5, c5, rfl, hc5, hr5, hb5⟩
      replace HT := Lib.hid (HT.out.next hb5)
      clear hb5
      have R5 := Lib.hid hr5
      clear hr5 hc5
      go_wp2_with fail
      refine (total_any A5 (uni s t) c5 _ R5.out nu BU.out).mono ?_
      rintro e x3 ⟨rfl, hb6⟩
      replace HT := Lib.hid (HT.out.next hb6)
      clear hb6 R5
      go_wp2_with fail
      refine (intersect_any A2 A3 s t c2 c3 _ HT.out.ra HT.out.rb (by omega) (by omega)).mono ?_
      rintro e x4 ⟨A7, c7, rfl, hc7, hr7, hb7⟩
      replace HT := Lib.hid (HT.out.next hb7)
      clear hb7
      have R7 := Lib.hid hr7
      clear hr7 hc7
      go_wp2_with fail
      refine (total_any A7 (inter s t) c7 _ R7.out ni BI.out).mono ?_
      rintro e x5 ⟨rfl, hb8⟩
      replace HT := Lib.hid (HT.out.next hb8)
      clear hb8 R7
      have e1 := E1.out
      go_wp2_with fail
      refine (total_any A2 s c2 _ HT.out.ra (by omega) BS.out).mono ?_
      rintro e x6 ⟨rfl, hb9⟩
      replace HT := Lib.hid (HT.out.next hb9)
      clear hb9
      go_wp2_with fail
      refine (total_any A3 t c3 _ HT.out.rb (by omega) BT.out).mono ?_
      rintro e x7 ⟨rfl, hb10⟩
      replace HT := Lib.hid (HT.out.next hb10)
      clear hb10
      have e2 := E2.out
      go_wp2
      go_ret
      exact ⟨rfl, HT.out.below⟩
end Go.Proofs.Ytamnlhlocidbkaa
