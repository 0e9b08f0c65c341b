/-
  The contracts of the helpers pick and rate of the statements. No condition but that the argument is an int.
-/
import Derived.Test.YtfnmjabegajniaaDoorRefFind
import Derived.Test.YtfnmjabegajniaaDoorCalc
namespace Go.Proofs.YtfnmjabegajniaaDoor
open Go.RowKit
def pickV (c n : Int) : Int := (if c < 0 then -(c + 1) else c) % n
theorem pick_range (c n : Int) (h : 0 < n) : 0 ≤ pickV c n ∧ pickV c n < n := ⟨Int.emod_nonneg _ (by omega), Int.emod_lt_of_pos _ h⟩
theorem pick_any (c n : Int) (w : World) (h0 : 1 ≤ n) (h1 : -9223372036854775808 ≤ c) (h2 : c ≤ 9223372036854775807) (h3 : n ≤ 9223372036854775807) : Calls Tryd.prog 14 #[.int .i64 c, .int .i64 n] w fun e w' => e = .returned (.int .i64 (pickV c n)) ∧ w = w' := by
  unfold pickV
  by_cases h : c < 0
  · rw [if_pos h]
    have e1 : (-(c + 1)) % n = -((c + 1).tmod n) := by rw [← Int.neg_tmod, Int.tmod_eq_emod_of_nonneg (by omega)]
    rw [e1]
    clear e1
    go_enter Tryd.func14, Tryd.ntmps14
    go_wp2
    go_ret
    exact ⟨rfl, rfl⟩
  · rw [if_neg h]
    go_enter Tryd.func14, Tryd.ntmps14
    go_wp2
    go_ret
    exact ⟨rfl, rfl⟩
set_option maxHeartbeats 1000000 in
theorem rate_any (c : Int) (w : World) (h1 : -9223372036854775808 ≤ c) (h2 : c ≤ 9223372036854775807) : Calls Tryd.prog 13 #[.int .i64 c] w fun e w' => e = .returned (rate (numT (pickV c 8).toNat) (denT (pickV c 8).toNat)) ∧ Below w.heap.size w w' := by
  obtain ⟨k, hk⟩ : ∃ k : Nat, pickV c 8 = k := ⟨(pickV c 8).toNat, by have := pick_range c 8 (by omega); omega⟩
  have hk8 : k < 8 := by have := pick_range c 8 (by omega); omega
  have hk8' : (k : Int) < 8 := by omega
  obtain ⟨t0, t1, t2, t3⟩ := tabAt k hk8
  rw [show (pickV c 8).toNat = k by omega]
  have HK := Lib.hid hk
  clear hk
  go_enter Tryd.func13, Tryd.ntmps13
  go_wp2_with fail
  refine (table_any _).mono ?_
  rintro e _ ⟨rfl, rfl⟩
  go_wp2_with fail
  refine (pick_any _ _ _ (by omega) h1 h2 (by omega)).mono ?_
  rintro e _ ⟨rfl, rfl⟩
  rw [HK.out]
  go_wp2
  go_returns
  exact ⟨rfl, by go_grown⟩
end Go.Proofs.YtfnmjabegajniaaDoor
