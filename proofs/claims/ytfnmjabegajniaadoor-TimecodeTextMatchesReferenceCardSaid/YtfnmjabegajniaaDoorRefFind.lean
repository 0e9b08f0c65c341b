/-
  The contracts of the reference's table of rates and of its Find: for each of the eight rates the row, for any other rate none. No condition.
-/
import Derived.Test.YtfnmjabegajniaaDoorBase
import Derived.Deep.QuietTactic
import Derived.BigQuiet
import Derived.Deep.Draws
namespace Go.Proofs.YtfnmjabegajniaaDoor
open Go.RowKit
set_option maxHeartbeats 400000 in
theorem table_any (w : World) : Calls Tryd.prog 31 #[] w fun e w' => e = .returned (.slice (some ⟨w.heap.size, 0, none⟩) 8 8) ∧ w.alloc (.cells tabCells 39) = w' := by
  go_enter Tryd.func31, Tryd.ntmps31
  go_wp2
  go_ret
  exact ⟨rfl, rfl⟩
def numT (k : Nat) : Int := [24000, 24, 25, 30000, 30, 50, 60000, 60].getD k 0
def denT (k : Nat) : Int := [1001, 1, 1, 1001, 1, 1, 1001, 1].getD k 0
def baseT (k : Nat) : Int := [24, 24, 25, 30, 30, 50, 60, 60].getD k 0
def dropT (k : Nat) : Int := [0, 0, 0, 2, 0, 0, 4, 0].getD k 0
theorem tabAt (k : Nat) (h : k < 8) : tabCells[k * 4]? = some (.int .i64 (numT k)) ∧ tabCells[k * 4 + 1]? = some (.int .i64 (denT k)) ∧ tabCells[k * 4 + 2]? = some (.int .i64 (baseT k)) ∧ tabCells[k * 4 + 3]? = some (.int .i64 (dropT k)) := by
  match k, h with
  | 0, _ => exact ⟨rfl, rfl, rfl, rfl⟩
  | 1, _ => exact ⟨rfl, rfl, rfl, rfl⟩
  | 2, _ => exact ⟨rfl, rfl, rfl, rfl⟩
  | 3, _ => exact ⟨rfl, rfl, rfl, rfl⟩
  | 4, _ => exact ⟨rfl, rfl, rfl, rfl⟩
  | 5, _ => exact ⟨rfl, rfl, rfl, rfl⟩
  | 6, _ => exact ⟨rfl, rfl, rfl, rfl⟩
  | 7, _ => exact ⟨rfl, rfl, rfl, rfl⟩

def FindPost (n d : Int) (e : Ending) : Prop :=
  (∃ k : Nat, k < 8 ∧ numT k = n ∧ denT k = d ∧ e = .returned (.tuple #[rowV n d (baseT k) (dropT k), .bool true])) ∨
  ((∀ k : Nat, k < 8 → ¬ (numT k = n ∧ denT k = d)) ∧ e = .returned (.tuple #[rowV 0 0 0 0, .bool false]))
set_option maxHeartbeats 1000000 in
theorem rfind_any (n d : Int) (w : World) : Calls Tryd.prog 29 #[rate n d] w fun e w' => FindPost n d e ∧ Below w.heap.size w w' := by
  go_enter Tryd.func29, Tryd.ntmps29
  go_wp2_with fail
  refine (table_any _).mono ?_
  rintro e _ ⟨rfl, rfl⟩
  go_wp2
  go_loopw [5] (fun i wr => ∃ k m : Nat, k ≤ 8 ∧ i = .int .i64 k ∧ wr = (((w.alloc (.cells #[.int .i64 n, .int .i64 d] 23)).alloc (.cells #[.int .i64 0, .int .i64 0, .int .i64 0, .int .i64 0] 39)).alloc (.cells tabCells 39)).drewN m ∧ Hid (∀ j : Nat, j < k → ¬ (numT j = n ∧ denT j = d))) (fun i _ => 8 - (intOf i).toNat)
  case atStart => exact ⟨0, 0, by omega, rfl, rfl, Lib.hid (fun j hj => by omega)⟩
  case round =>
    obtain ⟨k, m, hk, rfl, rfl, hH⟩ := hrel
    by_cases hlt : k < 8
    · obtain ⟨t0, t1, t2, t3⟩ := tabAt k hlt
      by_cases hn : numT k = n
      · subst hn
        by_cases hd : denT k = d
        · subst hd
          have hn' : (numT k == numT k) = true := by simp
          have hd' : (denT k == denT k) = true := by simp
          go_wp2
          go_quiet (fail)
          go_wp2
          go_returns
          exact ⟨.inl ⟨k, hlt, rfl, rfl, rfl⟩, by go_grown; refine below_drewN ?_ _; go_grown⟩
        · have hn' : (numT k == numT k) = true := by simp
          have hd' : (denT k == d) = false := by simpa using hd
          clear hd
          go_wp2
          go_quiet (fail)
          go_wp2
          go_roundw
          case rel => exact ⟨k + 1, _, by omega, by go_num, rfl, Lib.hid (fun j hj => by
            by_cases e : j = k
            · subst e; intro ⟨_, h⟩; simp [h] at hd'
            · exact hH.out j (by omega))⟩
          case measure => simp [intOf]; omega
      · have hn' : (numT k == n) = false := by simpa using hn
        have HN := Lib.hid hn
        clear hn
        go_wp2
        go_quiet (fail)
        go_wp2
        go_roundw
        case rel => exact ⟨k + 1, _, by omega, by go_num, rfl, Lib.hid (fun j hj => by
            by_cases e : j = k
            · subst e; intro ⟨h, _⟩; exact HN.out h
            · exact hH.out j (by omega))⟩
        case measure => simp [intOf]; omega
    · go_wp2
      go_returns
      exact ⟨.inr ⟨fun j hj => hH.out j (by omega), rfl⟩, by go_grown; refine below_drewN ?_ _; go_grown⟩
theorem row_of (k : Nat) (h : k < 8) : Pl.Row (numT k) (denT k) (baseT k) (dropT k) := by
  match k, h with
  | 0, _ => simp [Pl.Row, numT, denT, baseT, dropT]
  | 1, _ => simp [Pl.Row, numT, denT, baseT, dropT]
  | 2, _ => simp [Pl.Row, numT, denT, baseT, dropT]
  | 3, _ => simp [Pl.Row, numT, denT, baseT, dropT]
  | 4, _ => simp [Pl.Row, numT, denT, baseT, dropT]
  | 5, _ => simp [Pl.Row, numT, denT, baseT, dropT]
  | 6, _ => simp [Pl.Row, numT, denT, baseT, dropT]
  | 7, _ => simp [Pl.Row, numT, denT, baseT, dropT]
theorem row_unique {n d b p b' p' : Int} (h : Pl.Row n d b p) (h' : Pl.Row n d b' p') : b = b' ∧ p = p' := by
  rcases h with ⟨rfl, rfl, rfl, rfl⟩ | ⟨rfl, rfl, rfl, rfl⟩ | ⟨rfl, rfl, rfl, rfl⟩ | ⟨rfl, rfl, rfl, rfl⟩ | ⟨rfl, rfl, rfl, rfl⟩ | ⟨rfl, rfl, rfl, rfl⟩ | ⟨rfl, rfl, rfl, rfl⟩ | ⟨rfl, rfl, rfl, rfl⟩ <;>
    (simp [Pl.Row] at h'; omega)
theorem norow_not {n d b p : Int} (h : Pl.Row n d b p) (hn : NoRow n d) : False := by
  obtain ⟨c0, c1, c2, c3, c4, c5, c6, c7⟩ := hn
  rcases h with ⟨rfl, rfl, rfl, rfl⟩ | ⟨rfl, rfl, rfl, rfl⟩ | ⟨rfl, rfl, rfl, rfl⟩ | ⟨rfl, rfl, rfl, rfl⟩ | ⟨rfl, rfl, rfl, rfl⟩ | ⟨rfl, rfl, rfl, rfl⟩ | ⟨rfl, rfl, rfl, rfl⟩ | ⟨rfl, rfl, rfl, rfl⟩
  · exact c0 ⟨rfl, rfl⟩
  · exact c1 ⟨rfl, rfl⟩
  · exact c2 ⟨rfl, rfl⟩
  · exact c3 ⟨rfl, rfl⟩
  · exact c4 ⟨rfl, rfl⟩
  · exact c5 ⟨rfl, rfl⟩
  · exact c6 ⟨rfl, rfl⟩
  · exact c7 ⟨rfl, rfl⟩
theorem row_at {n d b p : Int} (h : Pl.Row n d b p) : ∃ k : Nat, k < 8 ∧ numT k = n ∧ denT k = d := by
  rcases h with ⟨rfl, rfl, rfl, rfl⟩ | ⟨rfl, rfl, rfl, rfl⟩ | ⟨rfl, rfl, rfl, rfl⟩ | ⟨rfl, rfl, rfl, rfl⟩ | ⟨rfl, rfl, rfl, rfl⟩ | ⟨rfl, rfl, rfl, rfl⟩ | ⟨rfl, rfl, rfl, rfl⟩ | ⟨rfl, rfl, rfl, rfl⟩
  · exact ⟨0, by omega, rfl, rfl⟩
  · exact ⟨1, by omega, rfl, rfl⟩
  · exact ⟨2, by omega, rfl, rfl⟩
  · exact ⟨3, by omega, rfl, rfl⟩
  · exact ⟨4, by omega, rfl, rfl⟩
  · exact ⟨5, by omega, rfl, rfl⟩
  · exact ⟨6, by omega, rfl, rfl⟩
  · exact ⟨7, by omega, rfl, rfl⟩
theorem rfind_yes {n d b p : Int} (h : Pl.Row n d b p) (w : World) : Calls Tryd.prog 29 #[rate n d] w fun e w' => e = .returned (.tuple #[rowV n d b p, .bool true]) ∧ Below w.heap.size w w' := by
  refine (rfind_any n d w).mono ?_
  rintro e w' ⟨hp, hb⟩
  refine ⟨?_, hb⟩
  rcases hp with ⟨k, hk, rfl, rfl, he⟩ | ⟨hno, _⟩
  · obtain ⟨rfl, rfl⟩ := row_unique h (row_of k hk)
    exact he
  · obtain ⟨k, hk, h1, h2⟩ := row_at h
    exact absurd ⟨h1, h2⟩ (hno k hk)
theorem rfind_no {n d : Int} (h : NoRow n d) (w : World) : Calls Tryd.prog 29 #[rate n d] w fun e w' => e = .returned (.tuple #[rowV 0 0 0 0, .bool false]) ∧ Below w.heap.size w w' := by
  refine (rfind_any n d w).mono ?_
  rintro e w' ⟨hp, hb⟩
  refine ⟨?_, hb⟩
  rcases hp with ⟨k, hk, rfl, rfl, he⟩ | ⟨_, he⟩
  · exact (norow_not (row_of k hk) h).elim
  · exact he
end Go.Proofs.YtfnmjabegajniaaDoor
