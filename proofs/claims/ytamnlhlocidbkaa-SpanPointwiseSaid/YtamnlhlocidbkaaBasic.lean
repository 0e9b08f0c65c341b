/-
  The contracts of Has and Valid of the reference, of span.Valid, of Equal of the reference, of few: whatever lists of at most 100000 spans.
-/
import Derived.Test.YtamnlhlocidbkaaBase
namespace Go.Proofs.Ytamnlhlocidbkaa
open Go.RowKit
open Sp (Sn Mem Val norm uni inter subt)
set_option maxHeartbeats 400000 in
theorem rhas_any (A : Option Addr) (l : List Sn) (c : Nat) (x : Int) (w : World) (hR : Rd w A l) (hl : l.length ≤ 100000) :
    Calls Try.prog 31 #[.slice A l.length c, .int .i64 x] w fun e w' => e = .returned (.bool (memB x l)) ∧ w = w' := by
  have R := Lib.hid hR
  clear hR
  go_enter Try.func31, Try.ntmps31
  go_wp2
  go_loop [5] (fun i => ∃ k : Nat, k ≤ l.length ∧ i = .int .i64 k ∧ Hid (memB x (l.take k) = false)) (fun i => l.length - (intOf i).toNat)
  case atStart => exact ⟨0, Nat.zero_le _, rfl, Lib.hid rfl⟩
  case round =>
    obtain ⟨k, hk, rfl, hn⟩ := hrel
    by_cases hlt : k < l.length
    · obtain ⟨g, off, rfl, hg, c1, c2⟩ := R.out.at_ hlt
      go_wp2
      · go_ret
        exact ⟨ret_bool (memB_yes hlt (by assumption) (by assumption)).symm, rfl⟩
      all_goals
        go_round
        case rel => exact ⟨k + 1, by omega, by go_num, Lib.hid (by rw [memB_snoc hlt, hn.out]; simp; omega)⟩
        case measure => simp [intOf]; omega
    · go_wp2
      go_ret
      obtain rfl : k = l.length := by omega
      exact ⟨ret_bool (by rw [← hn.out, List.take_length]), rfl⟩
set_option maxHeartbeats 400000 in
theorem few_any (A : Option Addr) (l : List Sn) (c : Nat) (w : World) (hc : l.length ≤ c) (hl : c ≤ maxLen) :
    Calls Try.prog 12 #[.slice A l.length c] w fun e w' => e = .returned (.slice A (l.take 30).length c) ∧ w = w' := by
  unfold maxLen at hl
  by_cases h : 30 < l.length
  · rw [show (l.take 30).length = 30 by simp; omega]
    go_enter Try.func12, Try.ntmps12
    go_wp2
    go_ret
    exact ⟨rfl, rfl⟩
  · rw [show (l.take 30).length = l.length by simp; omega]
    go_enter Try.func12, Try.ntmps12
    go_wp2
    go_ret
    exact ⟨rfl, rfl⟩
end Go.Proofs.Ytamnlhlocidbkaa
