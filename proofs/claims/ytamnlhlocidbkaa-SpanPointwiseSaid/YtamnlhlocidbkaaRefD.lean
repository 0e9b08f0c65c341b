/-
  The contracts of Covers, Size, Total and Earliest of the reference.
-/
import Derived.Test.YtamnlhlocidbkaaRefA
import Derived.Test.YtamnlhlocidbkaaPlainD
namespace Go.Proofs.Ytamnlhlocidbkaa
open Go.RowKit
open Sp (Sn Mem Val norm uni inter subt mem_append mem_one)
set_option maxHeartbeats 1000000 in
theorem rcovers_any (A : Option Addr) (l : List Sn) (c : Nat) (s : Sn) (w : World) (hR : Rd w A l) (hl : l.length ≤ 100000) :
    Calls Try.prog 33 #[.slice A l.length c, .agg #[.int .i64 s.1, .int .i64 s.2]] w fun e w' => e = .returned (.bool (covB l s)) ∧ Below w.heap.size w w' := by
  have R := Lib.hid hR
  clear hR
  have hn : (norm l).length ≤ 100000 := Nat.le_trans (Sp.norm_len _) hl
  go_enter Try.func33, Try.ntmps33
  go_wp2_with fail
  refine (rnormal_any A l c _ (R.out.alloc _) hl).mono ?_
  rintro e w1 ⟨A1, c1, rfl, hc1, hA1, hb1⟩
  have R1 := Lib.hid hA1
  have b0 : w1.cell? ⟨w.heap.size, 0, none⟩ = some (.int .i64 s.1) := by rw [hb1.cell (p := ⟨w.heap.size, 0, none⟩) (by simp)]; simp
  have b1 : w1.cell? ⟨w.heap.size, 1, none⟩ = some (.int .i64 s.2) := by rw [hb1.cell (p := ⟨w.heap.size, 1, none⟩) (by simp)]; simp
  have B1 := Lib.hid (((Below.refl w.heap.size w).alloc (Nat.le_refl _) (.cells #[.int .i64 s.1, .int .i64 s.2] 30)).trans (hb1.mono (by simp)))
  clear hA1 hb1
  go_wp2
  go_loopw [6] (fun i wr => ∃ k q : Nat, k ≤ (norm l).length ∧ i = .int .i64 k ∧ wr = w1.drewN q ∧ Hid (∀ j, j < k → ¬ ((el (norm l) j).1 ≤ s.1 ∧ s.2 ≤ (el (norm l) j).2))) (fun i _ => (norm l).length - (intOf i).toNat)
  case atStart => exact ⟨0, 0, Nat.zero_le _, rfl, rfl, Lib.hid (fun j hj => absurd hj (by omega))⟩
  case round =>
    obtain ⟨k, q, hk, rfl, rfl, hN⟩ := hrel
    by_cases hlt : k < (norm l).length
    · obtain ⟨g, off, rfl, hg, c1, c2⟩ := R1.out.at_ hlt
      by_cases t1 : (el (norm l) k).1 ≤ s.1
      · have d1 : decide ((el (norm l) k).1 ≤ s.1) = true := by simpa using t1
        by_cases t2 : s.2 ≤ (el (norm l) k).2
        · have d2 : decide (s.2 ≤ (el (norm l) k).2) = true := by simpa using t2
          go_wp2
          go_quiet (fail)
          go_wp2
          go_ret
          exact ⟨ret_bool (covB_yes (cov_yes hlt t1 t2)).symm, below_drewN (below_drewN B1.out _) _⟩
        · have d2 : decide (s.2 ≤ (el (norm l) k).2) = false := by simpa using t2
          go_wp2
          go_quiet (fail)
          go_wp2
          go_roundw
          case rel => exact ⟨k + 1, q + nq, by omega, by go_num, by simp, Lib.hid (fun j hj => if e : j = k then (fun hh => by subst e; omega) else hN.out j (by omega))⟩
          case measure => simp [intOf]; omega
      · have d1 : decide ((el (norm l) k).1 ≤ s.1) = false := by simpa using t1
        go_wp2
        go_quiet (fail)
        go_wp2
        go_roundw
        case rel => exact ⟨k + 1, q + nq, by omega, by go_num, by simp, Lib.hid (fun j hj => if e : j = k then (fun hh => by subst e; omega) else hN.out j (by omega))⟩
        case measure => simp [intOf]; omega
    · obtain rfl : k = (norm l).length := by omega
      go_wp2
      go_ret
      refine ⟨ret_bool ?_, below_drewN B1.out _⟩
      by_cases hs : s.1 < s.2
      · rw [covB_no (cov_no hs hN.out)]; simp; omega
      · rw [covB_yes (cov_empty hs)]; simp; omega
def szV (s : Sn) : Int := if s.2 ≤ s.1 then 0 else min (s.2 - s.1) 4611686018427387903
theorem u64_diff {a b : Int} (ha : -9223372036854775808 ≤ a ∧ a ≤ 9223372036854775807) (hb : -9223372036854775808 ≤ b ∧ b ≤ 9223372036854775807) (h : b < a) :
    IntKind.u64.wrap (IntKind.u64.wrap a - IntKind.u64.wrap b) = a - b := by
  simp only [IntKind.wrap_u64]
  omega
set_option maxHeartbeats 400000 in
theorem size_any (s : Sn) (w : World) (h1 : -9223372036854775808 ≤ s.1 ∧ s.1 ≤ 9223372036854775807) (h2 : -9223372036854775808 ≤ s.2 ∧ s.2 ≤ 9223372036854775807) :
    Calls Try.prog 43 #[.agg #[.int .i64 s.1, .int .i64 s.2]] w fun e w' => e = .returned (.int .i64 (szV s)) ∧ Below w.heap.size w w' := by
  unfold szV
  by_cases hs : s.2 ≤ s.1
  · rw [if_pos hs]
    go_enter Try.func43, Try.ntmps43
    go_wp2
    go_ret
    exact ⟨rfl, (Below.refl _ _).alloc (Nat.le_refl _) _⟩
  · rw [if_neg hs]
    have hd := u64_diff h2 h1 (by omega)
    have hp : 0 < s.2 - s.1 := by omega
    have hq : s.2 - s.1 ≤ 18446744073709551615 := by omega
    generalize hD : s.2 - s.1 = D at *
    clear hD
    by_cases hb : 4611686018427387903 < D
    · rw [Int.min_eq_right (by omega)]
      go_enter Try.func43, Try.ntmps43
      go_wp2
      go_ret
      exact ⟨rfl, (Below.refl _ _).alloc (Nat.le_refl _) _⟩
    · rw [Int.min_eq_left (by omega)]
      go_enter Try.func43, Try.ntmps43
      go_wp2
      go_ret
      exact ⟨rfl, (Below.refl _ _).alloc (Nat.le_refl _) _⟩
theorem tot_step {n : List Sn} (hv : Val n) {k : Nat} (hk : k < n.length) : min (min (sumL (n.take k)) 4611686018427387903 + szV (el n k)) 4611686018427387903 = min (sumL (n.take (k + 1))) 4611686018427387903 := by
  have h1 := val_ne hv hk
  have h2 := (sumL_take hv.2 k).1
  rw [sumL_snoc hk]
  unfold szV
  rw [if_neg (by omega)]
  omega
theorem szV_range (s : Sn) : 0 ≤ szV s ∧ szV s ≤ 4611686018427387903 := by unfold szV; split <;> omega
set_option maxHeartbeats 400000 in
theorem rtotal_any (A : Option Addr) (l : List Sn) (c : Nat) (w : World) (hR : Rd w A l) (hl : l.length ≤ 100000) (hbd : Bd l) :
    Calls Try.prog 21 #[.slice A l.length c] w fun e w' => e = .returned (.int .i64 (totV l)) ∧ Below w.heap.size w w' := by
  have R := Lib.hid hR
  have BD := Lib.hid hbd.norm
  clear hR hbd
  have hn : (norm l).length ≤ 100000 := Nat.le_trans (Sp.norm_len _) hl
  go_enter Try.func21, Try.ntmps21
  go_wp2_with fail
  refine (rnormal_any A l c _ R.out hl).mono ?_
  rintro e w1 ⟨A1, c1, rfl, hc1, hA1, hb1⟩
  have R1 := Lib.hid hA1
  have B1 := Lib.hid hb1
  clear hA1 hb1
  go_wp2
  go_loopw [3, 5] (fun t i wr => ∃ k : Nat, k ≤ (norm l).length ∧ i = .int .i64 k ∧ t = .int .i64 (min (sumL ((norm l).take k)) 4611686018427387903) ∧ Below w1.heap.size w1 wr) (fun _ i _ => (norm l).length - (intOf i).toNat)
  case atStart => exact ⟨0, Nat.zero_le _, rfl, rfl, Below.refl _ _⟩
  case round =>
    obtain ⟨k, hk, rfl, rfl, hB⟩ := hrel
    have HB := Lib.hid hB
    clear hB
    by_cases hlt : k < (norm l).length
    · obtain ⟨g, off, rfl, hg, c1, c2⟩ := (R1.out.below HB.out).at_ hlt
      obtain ⟨d1, d2⟩ := BD.out.at_ hlt
      have hst := Lib.hid (tot_step (Sp.norm_val l) hlt)
      have h0 := (sumL_take (Sp.norm_val l).2 k).1
      have hz := szV_range (el (norm l) k)
      have hm0 : 0 ≤ min (sumL ((norm l).take k)) 4611686018427387903 := by omega
      have hm1 : min (sumL ((norm l).take k)) 4611686018427387903 ≤ 4611686018427387903 := by omega
      generalize min (sumL ((norm l).take k)) 4611686018427387903 = M at *
      go_wp2_with (go_at_call 43; refine (size_any (el (norm l) k) _ d1 d2).mono ?_; rintro e w' ⟨rfl, hb'⟩)
      all_goals
        have HB' := Lib.hid (HB.out.trans (hb'.mono HB.out.size))
        clear hb'
        go_wp2
        go_roundw
        case rel => exact ⟨k + 1, by omega, by go_num, by rw [← hst.out]; congr 1; omega, HB'.out⟩
        case measure => simp [intOf]; omega
    · obtain rfl : k = (norm l).length := by omega
      go_wp2
      go_ret
      refine ⟨?_, B1.out.trans (HB.out.mono B1.out.size)⟩
      unfold totV
      rw [List.take_length]
      rfl
set_option maxHeartbeats 1000000 in
theorem rearliest_any (A : Option Addr) (l : List Sn) (c : Nat) (a n : Int) (w : World) (hR : Rd w A l) (hl : l.length ≤ 100000) (hbd : Bd l) (ha : -9223372036854775808 ≤ a ∧ a ≤ 9223372036854775807) (hnn : -9223372036854775808 ≤ n ∧ n ≤ 9223372036854775807) :
    Calls Try.prog 29 #[.slice A l.length c, .int .i64 a, .int .i64 n] w fun e w' => e = .returned (.tuple #[.int .i64 (earl l a n).1, .bool (earl l a n).2]) ∧ Below w.heap.size w w' := by
  have R := Lib.hid hR
  have BD := Lib.hid hbd.norm
  clear hR hbd
  have hn : (norm l).length ≤ 100000 := Nat.le_trans (Sp.norm_len _) hl
  unfold earl
  by_cases h0 : n ≤ 0
  · rw [if_pos h0]
    go_enter Try.func29, Try.ntmps29
    go_wp2
    go_ret2
    exact ⟨rfl, Below.refl _ _⟩
  · rw [if_neg h0]
    go_enter Try.func29, Try.ntmps29
    go_wp2_with fail
    refine (rnormal_any A l c _ R.out hl).mono ?_
    rintro e w1 ⟨A1, c1, rfl, hc1, hA1, hb1⟩
    have R1 := Lib.hid hA1
    have B1 := Lib.hid hb1
    clear hA1 hb1
    go_wp2
    go_loopw [9] (fun i wr => ∃ k : Nat, k ≤ (norm l).length ∧ i = .int .i64 k ∧ wr = w1 ∧ Hid (∀ j, j < k → ¬ (max (el (norm l) j).1 a < (el (norm l) j).2 ∧ n ≤ (el (norm l) j).2 - max (el (norm l) j).1 a))) (fun i _ => (norm l).length - (intOf i).toNat)
    case atStart => exact ⟨0, Nat.zero_le _, rfl, rfl, Lib.hid (fun j hj => absurd hj (by omega))⟩
    case round =>
      obtain ⟨k, hk, rfl, rfl, hN⟩ := hrel
      by_cases hlt : k < (norm l).length
      · obtain ⟨g, off, rfl, hg, c1, c2⟩ := R1.out.at_ hlt
        obtain ⟨d1, d2⟩ := BD.out.at_ hlt
        obtain ⟨x, hx⟩ : ∃ x, (if (el (norm l) k).1 < a then a else (el (norm l) k).1) = x := ⟨_, rfl⟩
        have X : Hid (max (el (norm l) k).1 a = x) := by show _ = _; rw [← hx]; split <;> omega
        have x1 : -9223372036854775808 ≤ x ∧ x ≤ 9223372036854775807 := by have := X.out; omega
        by_cases t1 : x < (el (norm l) k).2
        · have hd := u64_diff d2 x1 t1
          have e1 : IntKind.u64.wrap n = n := by rw [IntKind.wrap_u64]; omega
          by_cases t2 : n ≤ (el (norm l) k).2 - x
          · have hat := Lib.hid (eFind_at hlt hN.out (by rw [X.out]; exact ⟨t1, t2⟩))
            go_wp2
            go_ret2
            refine ⟨?_, B1.out⟩
            rw [hat.out, X.out]
            rfl
          · go_wp2
            go_roundw
            case rel => exact ⟨k + 1, by omega, by go_num, trivial, Lib.hid (fun j hj => if e : j = k then (fun hh => by subst e; rw [X.out] at hh; omega) else hN.out j (by omega))⟩
            case measure => simp [intOf]; omega
        · go_wp2
          go_roundw
          case rel => exact ⟨k + 1, by omega, by go_num, trivial, Lib.hid (fun j hj => if e : j = k then (fun hh => by subst e; rw [X.out] at hh; omega) else hN.out j (by omega))⟩
          case measure => simp [intOf]; omega
      · obtain rfl : k = (norm l).length := by omega
        have hat := Lib.hid (eFind_none hN.out)
        go_wp2
        go_ret2
        refine ⟨?_, B1.out⟩
        rw [hat.out]
        rfl
end Go.Proofs.Ytamnlhlocidbkaa
