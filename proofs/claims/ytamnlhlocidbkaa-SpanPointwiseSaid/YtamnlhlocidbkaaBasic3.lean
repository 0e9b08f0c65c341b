/-
  The contract of span.Valid: whether the list is valid.
-/
import Derived.Test.YtamnlhlocidbkaaBasic
import Derived.IntWalk
namespace Go.Proofs.Ytamnlhlocidbkaa
open Go.RowKit
open Sp (Sn Mem Val norm uni inter subt)
set_option maxHeartbeats 1000000 in
theorem valid_any (A : Option Addr) (l : List Sn) (c : Nat) (w : World) (hR : Rd w A l) (hl : l.length ≤ 100000) :
    Calls Try.prog 16 #[.slice A l.length c] w fun e w' => e = .returned (.bool (vB l)) ∧ Below w.heap.size w w' := by
  have R := Lib.hid hR
  clear hR
  go_enter Try.func16, Try.ntmps16
  go_wp2
  go_loopw [7] (fun i wr => ∃ k : Nat, k ≤ l.length ∧ i = .int .i64 k ∧ Below w.heap.size w wr ∧ Hid (Val (l.take k))) (fun i _ => l.length - (intOf i).toNat)
  case atStart => exact ⟨0, Nat.zero_le _, rfl, Below.refl _ _, Lib.hid Sp.val_nil⟩
  case round =>
    obtain ⟨k, hk, rfl, hB, hn⟩ := hrel
    have hzz := hB.size
    by_cases hlt : k < l.length
    · have hvs := Lib.hid (val_step hlt hn.out)
      obtain ⟨g, off, rfl, hg, hcs⟩ := (R.out.below hB) (by omega)
      have c1 := (hcs k hlt).1
      have c2 := (hcs k hlt).2
      have p1 := fun h0 : 0 < k => (hcs (k - 1) (by omega)).2
      clear hcs
      by_cases t1 : (el l k).2 ≤ (el l k).1
      · have d1 : decide ((el l k).2 ≤ (el l k).1) = true := by simpa using t1
        go_wp2
        go_quiet (fail)
        go_wp2
        go_ret
        exact ⟨ret_bool (vB_no (val_not (fun h => by have := (hvs.out.1 h).1; omega))).symm, below_drewN (hB.alloc hzz _) _⟩
      · have d1 : decide ((el l k).2 ≤ (el l k).1) = false := by simpa using t1
        by_cases h0 : 0 < k
        · have p := p1 h0
          have e1 : IntKind.i64.wrap ((k : Int) - 1) = (k : Int) - 1 := IntWalk.i64_in _ (by omega)
          have e2 : ((k : Int) - 1).toNat = k - 1 := by omega
          have e3 : (0 : Int) ≤ (k : Int) - 1 := by omega
          have e4 : (k : Int) - 1 < (l.length : Int) := by omega
          have e5 : (1 : Int) ≤ (k : Int) := by omega
          have d0 : decide (0 < k) = true := by simpa using h0
          by_cases t2 : (el l k).1 ≤ (el l (k - 1)).2
          · have d2 : decide ((el l k).1 ≤ (el l (k - 1)).2) = true := by simpa using t2
            go_wp2
            go_quiet (fail)
            clear e1 e2 e3 e4 e5
            go_wp2
            go_ret
            exact ⟨ret_bool (vB_no (val_not (fun h => by have := (hvs.out.1 h).2 h0; omega))).symm, below_drewN (hB.alloc hzz _) _⟩
          · have d2 : decide ((el l k).1 ≤ (el l (k - 1)).2) = false := by simpa using t2
            go_wp2
            go_quiet (fail)
            clear e1 e2 e3 e4 e5
            go_wp2
            go_roundw
            case rel => exact ⟨k + 1, by omega, by go_num, below_drewN (hB.alloc hzz _) _, Lib.hid (hvs.out.2 ⟨by omega, fun _ => by omega⟩)⟩
            case measure => simp [intOf]; omega
        · have d0 : decide (0 < k) = false := by simpa using h0
          go_wp2
          go_quiet (fail)
          go_wp2
          go_roundw
          case rel => exact ⟨k + 1, by omega, by go_num, below_drewN (hB.alloc hzz _) _, Lib.hid (hvs.out.2 ⟨by omega, fun h => absurd h h0⟩)⟩
          case measure => simp [intOf]; omega
    · go_wp2
      go_ret
      obtain rfl : k = l.length := by omega
      exact ⟨ret_bool (vB_yes (by have := hn.out; rwa [List.take_length] at this)).symm, hB⟩
end Go.Proofs.Ytamnlhlocidbkaa
