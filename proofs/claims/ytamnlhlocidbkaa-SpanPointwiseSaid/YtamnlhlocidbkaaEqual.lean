/-
  The contracts of Equal of the reference and of slices.Equal at spans: whether two lists are equal.
-/
import Derived.Test.YtamnlhlocidbkaaBasic
namespace Go.Proofs.Ytamnlhlocidbkaa
open Go.RowKit
open Sp (Sn Mem Val norm uni inter subt)
theorem neq_no (s t : Sn) (h : s ≠ t) (w : World) : (binOp .neq 30 (.agg #[.int .i64 s.1, .int .i64 s.2]) (.agg #[.int .i64 t.1, .int .i64 t.2])).run Try.prog w = .ok (.bool true) w := by
  go_simp
  intro h1 h2
  exact h (Prod.ext h1 h2)
theorem neq_yes (s t : Sn) (h : s = t) (w : World) : (binOp .neq 30 (.agg #[.int .i64 s.1, .int .i64 s.2]) (.agg #[.int .i64 t.1, .int .i64 t.2])).run Try.prog w = .ok (.bool false) w := by
  subst h
  go_simp
set_option maxHeartbeats 400000 in
theorem requal_any (A B : Option Addr) (l m : List Sn) (c d : Nat) (w : World) (hR : Rd w A l) (hS : Rd w B m) (_hl : l.length ≤ 100000) (hm : m.length ≤ 100000) :
    Calls Try.prog 13 #[.slice A l.length c, .slice B m.length d] w fun e w' => e = .returned (.bool (eqB l m)) ∧ Below w.heap.size w w' := by
  have R := Lib.hid hR
  have S := Lib.hid hS
  clear hR hS
  by_cases hne : l.length = m.length
  · have HN := Lib.hid hne
    have hnb : ((l.length : Int) != (m.length : Int)) = false := by simp; omega
    have hle : l.length ≤ m.length := by omega
    clear hne
    go_enter Try.func13, Try.ntmps13
    go_wp2
    go_loopw [5] (fun i wr => ∃ k q : Nat, k ≤ l.length ∧ i = .int .i64 k ∧ wr = w.drewN q ∧ Hid (∀ j, j < k → el l j = el m j)) (fun i _ => l.length - (intOf i).toNat)
    case atStart => exact ⟨0, 0, Nat.zero_le _, rfl, rfl, Lib.hid (fun j hj => absurd hj (by omega))⟩
    case round =>
      obtain ⟨k, q, hk, rfl, rfl, hn⟩ := hrel
      by_cases hlt : k < l.length
      · have hlt2 : k < m.length := by omega
        obtain ⟨g, off, rfl, hg, c1, c2⟩ := R.out.at_ hlt
        obtain ⟨g', off', rfl, hg', c3, c4⟩ := S.out.at_ hlt2
        by_cases he : el l k = el m k
        · have hq := neq_yes _ _ he
          have HE := Lib.hid he
          clear he
          go_wp2
          go_quiet (fail)
          go_wp2
          go_roundw
          case rel => exact ⟨k + 1, q + nq, by omega, by go_num, by simp, Lib.hid (fun j hj => if e : j = k then by subst e; exact HE.out else hn.out j (by omega))⟩
          case measure => simp [intOf]; omega
        · have hq := neq_no _ _ he
          go_wp2
          go_quiet (fail)
          go_wp2
          go_ret
          exact ⟨ret_bool (eqB_at he).symm, below_drewN (below_drewN (Below.refl _ _) _) _⟩
      · go_wp2
        go_ret
        obtain rfl : k = l.length := by omega
        exact ⟨ret_bool (eqB_all HN.out hn.out).symm, below_drewN (Below.refl _ _) _⟩
  · have hnb : ((l.length : Int) != (m.length : Int)) = true := by simp; omega
    go_enter Try.func13, Try.ntmps13
    go_wp2
    go_ret
    exact ⟨ret_bool (eqB_len hne).symm, Below.refl _ _⟩
set_option maxHeartbeats 400000 in
theorem sequal_any (A B : Option Addr) (l m : List Sn) (c d : Nat) (w : World) (hR : Rd w A l) (hS : Rd w B m) (_hl : l.length ≤ 100000) (hm : m.length ≤ 100000) :
    Calls Try.prog 41 #[.slice A l.length c, .slice B m.length d] w fun e w' => e = .returned (.bool (eqB l m)) ∧ Below w.heap.size w w' := by
  have R := Lib.hid hR
  have S := Lib.hid hS
  clear hR hS
  by_cases hne : l.length = m.length
  · have HN := Lib.hid hne
    have hnb : ((l.length : Int) != (m.length : Int)) = false := by simp; omega
    have hle : l.length ≤ m.length := by omega
    clear hne
    go_enter Try.func41, Try.ntmps41
    go_wp2
    go_loopw [13] (fun i wr => ∃ k q : Nat, k ≤ l.length ∧ i = .int .i64 k ∧ wr = w.drewN q ∧ Hid (∀ j, j < k → el l j = el m j)) (fun i _ => l.length - (intOf i).toNat)
    case atStart => exact ⟨0, 0, Nat.zero_le _, rfl, rfl, Lib.hid (fun j hj => absurd hj (by omega))⟩
    case round =>
      obtain ⟨k, q, hk, rfl, rfl, hn⟩ := hrel
      by_cases hlt : k < l.length
      · have hlt2 : k < m.length := by omega
        obtain ⟨g, off, rfl, hg, c1, c2⟩ := R.out.at_ hlt
        obtain ⟨g', off', rfl, hg', c3, c4⟩ := S.out.at_ hlt2
        by_cases he : el l k = el m k
        · have hq := neq_yes _ _ he
          have HE := Lib.hid he
          clear he
          go_wp2
          go_quiet (fail)
          go_wp2
          go_roundw
          case rel => exact ⟨k + 1, q + nq, by omega, by go_num, by simp, Lib.hid (fun j hj => if e : j = k then by subst e; exact HE.out else hn.out j (by omega))⟩
          case measure => simp [intOf]; omega
        · have hq := neq_no _ _ he
          go_wp2
          go_quiet (fail)
          go_wp2
          go_ret
          exact ⟨ret_bool (eqB_at he).symm, below_drewN (below_drewN (Below.refl _ _) _) _⟩
      · go_wp2
        go_ret
        obtain rfl : k = l.length := by omega
        exact ⟨ret_bool (eqB_all HN.out hn.out).symm, below_drewN (Below.refl _ _) _⟩
  · have hnb : ((l.length : Int) != (m.length : Int)) = true := by simp; omega
    go_enter Try.func41, Try.ntmps41
    go_wp2
    go_ret
    exact ⟨ret_bool (eqB_len hne).symm, Below.refl _ _⟩
end Go.Proofs.Ytamnlhlocidbkaa
