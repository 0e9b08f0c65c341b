/-
  The contract of the law SpanQueriesMatchReference.
-/
import Derived.Deep.RegionLaw
import Derived.Deep.RegionHeld3
import Derived.Test.YtamnlhlocidbkaaSane
import Derived.Test.YtamnlhlocidbkaaRefD
import Derived.Test.YtamnlhlocidbkaaBasic
namespace Go.Proofs.Ytamnlhlocidbkaa
open Go.RowKit
open Sp (Sn Mem Val norm uni inter subt)
/-- what the last line of the law needs of a world: the argument's list, the boxed span -/
structure Qw (w : World) (A : Option Addr) (l : List Sn) (x y : Int) (W : World) : Prop where
  below : Below w.heap.size w W
  size : w.heap.size < W.heap.size
  rd : Rd W A l
  c0 : W.cell? ⟨w.heap.size, 0, none⟩ = some (.int .i64 x)
  c1 : W.cell? ⟨w.heap.size, 1, none⟩ = some (.int .i64 y)
section
variable {w W W' : World} {A : Option Addr} {l : List Sn} {x y : Int}
theorem Qw.next (h : Qw w A l x y W) (hb : Below W.heap.size W W') : Qw w A l x y W' :=
  ⟨via h.below hb, Nat.lt_of_lt_of_le h.size hb.size, h.rd.below hb, (hb.cell (p := ⟨w.heap.size, 0, none⟩) h.size).trans h.c0, (hb.cell (p := ⟨w.heap.size, 1, none⟩) h.size).trans h.c1⟩
theorem Qw.drew (h : Qw w A l x y W) : Qw w A l x y W.drew := h.next (Below.refl _ _).drew
theorem Qw.two (h : Qw w A l x y W) : W.cell? ⟨w.heap.size, 0, none⟩ = some (.int .i64 x) ∧ W.cell? ⟨w.heap.size, 1, none⟩ = some (.int .i64 y) := ⟨h.c0, h.c1⟩
end
set_option maxRecDepth 100000 in
set_option maxHeartbeats 4000000 in
theorem law5_any (A : Option Addr) (l0 : List Sn) (c : Nat) (x y a n : Int) (w : World) (hR : Rd w A l0) (hc : l0.length ≤ c) (hcm : c ≤ maxLen) (hbd : Bd l0) (_hx : -9223372036854775808 ≤ x ∧ x ≤ 9223372036854775807) (_hy : -9223372036854775808 ≤ y ∧ y ≤ 9223372036854775807) (ha : -9223372036854775808 ≤ a ∧ a ≤ 9223372036854775807) (hn : -9223372036854775808 ≤ n ∧ n ≤ 9223372036854775807) :
    Calls Try.prog 5 #[.slice A l0.length c, .agg #[.int .i64 x, .int .i64 y], .int .i64 a, .int .i64 n] w fun e w' => e = .returned (.bool true) ∧ Below w.heap.size w w' := by
  have B0 := Lib.hid (Below.refl w.heap.size w)
  have F1 := Lib.hid (few_any A l0 c · hc hcm)
  have hl : (l0.take 30).length ≤ 30 := by simp; omega
  have R := Lib.hid (hR.take 30)
  have BD := Lib.hid (hbd.take 30)
  clear hR hc hcm hbd
  generalize l0.take 30 = l at *
  replace B0 := Lib.hid (B0.out.alloc (Nat.le_refl _) (.cells #[.int .i64 x, .int .i64 y] 30))
  replace R := Lib.hid (R.out.alloc (.cells #[.int .i64 x, .int .i64 y] 30))
  have HA := Lib.hid ha
  have HN := Lib.hid hn
  clear _hx _hy ha hn
  go_enter Try.func5, Try.ntmps5
  go_wp2_with fail
  refine (sane_any _).mono ?_
  rintro e w1 ⟨rfl, hb1⟩
  have hz : w.heap.size < w1.heap.size := Nat.lt_of_lt_of_le (by simp) hb1.size
  have b0 : w1.cell? ⟨w.heap.size, 0, none⟩ = some (.int .i64 x) := by rw [hb1.cell (p := ⟨w.heap.size, 0, none⟩) (by simp)]; simp
  have b1 : w1.cell? ⟨w.heap.size, 1, none⟩ = some (.int .i64 y) := by rw [hb1.cell (p := ⟨w.heap.size, 1, none⟩) (by simp)]; simp
  have B1 := Lib.hid (via B0.out hb1)
  replace R := Lib.hid (R.out.below hb1)
  clear hb1 B0
  go_wp2_with fail
  refine (F1.out _).mono ?_
  rintro e _ ⟨rfl, rfl⟩
  go_wp2_with fail
  refine (earliest_any A l c a n _ R.out (by omega) BD.out HA.out HN.out).mono ?_
  rintro e w2 ⟨rfl, hb2⟩
  have B2 := Lib.hid (via B1.out hb2)
  replace R := Lib.hid (R.out.below hb2)
  replace b0 := (hb2.cell (p := ⟨w.heap.size, 0, none⟩) hz).trans b0
  replace b1 := (hb2.cell (p := ⟨w.heap.size, 1, none⟩) hz).trans b1
  replace hz := Nat.lt_of_lt_of_le hz hb2.size
  clear hb2 B1
  go_wp2_with fail
  refine (rearliest_any A l c a n _ R.out (by omega) BD.out HA.out HN.out).mono ?_
  rintro e w3 ⟨rfl, hb3⟩
  have B3 := Lib.hid (via B2.out hb3)
  replace R := Lib.hid (R.out.below hb3)
  replace b0 := (hb3.cell (p := ⟨w.heap.size, 0, none⟩) hz).trans b0
  replace b1 := (hb3.cell (p := ⟨w.heap.size, 1, none⟩) hz).trans b1
  replace hz := Nat.lt_of_lt_of_le hz hb3.size
  clear hb3 B2
  have hAcc : Qw w A l x y w3 := ⟨B3.out, hz, R.out, b0, b1⟩
  clear B3 R b0 b1 hz
  generalize (earl l a n).1 = e1 at *
  generalize (earl l a n).2 = e2 at *
  generalize hmv : memB a l = mv
  have HMV := Lib.hid hmv
  generalize hcv : covB l (x, y) = cv
  have HCV := Lib.hid hcv
  clear hmv hcv
  go_wp2_with fail
  go_region_held3 (fun W => W.cell? ⟨w.heap.size, 0, none⟩ = some (.int .i64 x) ∧ W.cell? ⟨w.heap.size, 1, none⟩ = some (.int .i64 y)) (first | exact hAcc.two | exact hAcc.drew.two)
    (first
      | (go_at_call 30; refine (has_any A l c a _ ?_ (by omega)).mono ?_; (first | exact hAcc.rd | exact hAcc.drew.rd); rintro e wx ⟨rfl, hbA⟩; rw [HMV.out]; replace hAcc : Qw w A l x y wx := by first | exact hAcc.drew.next hbA | exact hAcc.next hbA)
      | (go_at_call 31; refine (rhas_any A l c a _ ?_ (by omega)).mono ?_; (first | exact hAcc.rd | exact hAcc.drew.rd); rintro e wx ⟨rfl, hbA⟩; rw [HMV.out]; replace hAcc : Qw w A l x y wx := by first | exact hbA ▸ hAcc | exact hbA ▸ hAcc.drew)
      | (go_at_call 32; refine (covers_any A l c (x, y) _ ?_ (by omega)).mono ?_; (first | exact hAcc.rd | exact hAcc.drew.rd); rintro e wx ⟨rfl, hbA⟩; rw [HCV.out]; replace hAcc : Qw w A l x y wx := by first | exact hAcc.drew.next hbA | exact hAcc.next hbA)
      | (go_at_call 33; refine (rcovers_any A l c (x, y) _ ?_ (by omega)).mono ?_; (first | exact hAcc.rd | exact hAcc.drew.rd); rintro e wx ⟨rfl, hbA⟩; rw [HCV.out]; replace hAcc : Qw w A l x y wx := by first | exact hAcc.drew.next hbA | exact hAcc.next hbA))
  all_goals
    go_wp2
    go_ret
    exact ⟨rfl, by first | exact hAcc.below | exact hAcc.drew.below⟩
end Go.Proofs.Ytamnlhlocidbkaa
