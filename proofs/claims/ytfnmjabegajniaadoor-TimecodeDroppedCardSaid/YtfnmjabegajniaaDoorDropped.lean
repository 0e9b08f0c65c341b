/-
  TimecodeDropped: proved is the card of this statement: for every input the law returns true, and each argument reads afterwards as it read before. Conditions: the row's own (the package variable 'rates' starts as the program's text lays it; the card ties it to that text).
-/
import Derived.Test.YtfnmjabegajniaaDoorRound
import Derived.Test.YtfnmjabegajniaaDoorOpen
namespace Go.Proofs.YtfnmjabegajniaaDoor
open Go.ChangeShapes Go.WideShapes Go.ChangeAt Go.RowKit
open Go.PlainAid
set_option maxHeartbeats 400000 in
theorem ltwo_any (n : Int) (w : World) (h0 : 0 ≤ n) (h1 : n ≤ 99) : Calls Tryd.prog 32 #[.int .i64 n] w fun e w' => e = .returned (.string (strOf [48 + n / 10, 48 + n % 10])) ∧ Below w.heap.size w w' := by
  have hs := str2
  rw [show n / 10 = n / 10 % 10 by omega]
  go_enter Tryd.func32, Tryd.ntmps32
  go_wp2
  go_ret
  exact ⟨rfl, by go_grown⟩
theorem bad_sep {b p h m s f q : Int} (a0 : 0 ≤ h) (a1 : h < 100) (a2 : 0 ≤ m) (a3 : m < 100) (a4 : 0 ≤ s) (a5 : s < 100) (a6 : 0 ≤ f) (a7 : f < 100) (hq : sepC q ≠ sepC p) : ¬ Good b p (strOf (codeL h m s f q)) := by
  intro hg
  obtain ⟨_, _, _, _, _, _, _, _, _, z8, _, _⟩ := code_bytes (p := q) a0 a1 a2 a3 a4 a5 a6 a7 _ rfl
  exact hq (z8.symm.trans hg.2.2.2.1)
theorem bad_drop {b p h m s f : Int} (a0 : 0 ≤ h) (a1 : h < 100) (a2 : 0 ≤ m) (a3 : m < 100) (a4 : 0 ≤ s) (a5 : s < 100) (a6 : 0 ≤ f) (a7 : f < 100) (hd : s = 0 ∧ f < p ∧ m % 10 ≠ 0) : ¬ Good b p (strOf (codeL h m s f p)) := by
  intro hg
  obtain ⟨p0, p3, p6, p9⟩ := pt_code (p := p) a0 a1 a2 a3 a4 a5 a6 a7 _ rfl
  obtain ⟨_, _, _, _, _, _, _, _, _, _, _, _, hnd⟩ := hg
  rw [p0, p3, p6, p9] at hnd
  exact hnd ⟨by omega, hd.1, hd.2.1⟩
theorem fin {w w1 wk : World} {l t o : Obj} (B1 : Below (w.heap.size + 1) (w.alloc l) w1) (BK : Below ((w1.alloc t).heap.size + 1) ((w1.alloc t).alloc o) wk) : Ending.returned (.bool true) = .returned (.bool true) ∧ Below w.heap.size w wk := by
  have z1 := B1.size
  simp at z1
  refine ⟨rfl, ?_⟩
  exact (((((Below.refl w.heap.size w).alloc (Nat.le_refl _) l).trans (B1.mono (by omega))).alloc (by omega) t).alloc (by simp; omega) o).trans (BK.mono (by simp; omega))
namespace Dropped
/-- the part of the law behind the string: the string is that of a timecode with the separator of q -/
def semi (z : Bool) : Int := if z then 1 else 0
set_option maxRecDepth 100000 in
set_option maxHeartbeats 2000000 in
theorem walk (a0 : Int) (l0 l1 l2 l3 : Int) (z : Bool) (w0 : (Lit.int .i64 a0).wf = true) (x0 : (Lit.int .i64 l0).wf = true) (x1 : (Lit.int .i64 l1).wf = true) (x2 : (Lit.int .i64 l2).wf = true) (x3 : (Lit.int .i64 l3).wf = true) (w : World) (ht : Tab w) :
    Calls Tryd.prog 7 #[.int .i64 a0, .agg #[.int .i64 l0, .int .i64 l1, .int .i64 l2, .int .i64 l3], .bool z] w fun e w' => e = .returned (.bool true) ∧ Below w.heap.size w w' := by
  have u0 := bounds_i64 w0
  have v0 := bounds_i64 x0
  have v1 := bounds_i64 x1
  have v2 := bounds_i64 x2
  have v3 := bounds_i64 x3
  obtain ⟨k, hk⟩ : ∃ k : Nat, pickV a0 8 = k := ⟨(pickV a0 8).toNat, by have := pick_range a0 8 (by omega); omega⟩
  have hk8 : k < 8 := by have := pick_range a0 8 (by omega); omega
  have hk8' : (k : Int) < 8 := by omega
  obtain ⟨t0, t1, t2, t3⟩ := tabAt k hk8
  have hr := row_of k hk8
  generalize numT k = n at *
  generalize denT k = d at *
  generalize baseT k = b at *
  generalize dropT k = p at *
  obtain ⟨b1, b2, b3, b4, b5, b6, b7, b8⟩ := Row.bounds hr
  have HK := Lib.hid hk
  have R := Lib.hid hr
  have T := Lib.hid ht
  clear hk hr ht w0 x0 x1 x2 x3
  go_enter Tryd.func7, Tryd.ntmps7
  go_wp2_with fail
  refine (sane_any _ (T.out.alloc _)).mono ?_
  rintro e w1 ⟨rfl, hb⟩
  have B1 := Lib.hid (accB (Below.refl (w.heap.size + 1) (w.alloc (.cells #[.int .i64 l0, .int .i64 l1, .int .i64 l2, .int .i64 l3] 45))) hb)
  have T1 := Lib.hid ((T.out.alloc _).below B1.out (by omega))
  obtain ⟨c0, c1, c2, c3⟩ := cellsR B1.out
  have gin := inB B1.out
  clear hb
  go_wp2_with fail
  refine (table_any _).mono ?_
  rintro e _ ⟨rfl, rfl⟩
  go_wp2_with fail
  refine (pick_any _ _ _ (by omega) u0.1 u0.2 (by omega)).mono ?_
  rintro e _ ⟨rfl, rfl⟩
  rw [HK.out]
  go_wp2_with fail
  refine (pick_any _ _ _ (by omega) v0.1 v0.2 (by omega)).mono ?_
  rintro e _ ⟨rfl, rfl⟩
  have ph := pick_range l0 24 (by omega)
  generalize pickV l0 24 = h at *
  go_wp2_with fail
  refine (pick_any _ _ _ (by omega) v1.1 v1.2 (by omega)).mono ?_
  rintro e _ ⟨rfl, rfl⟩
  have pm := pick_range l1 60 (by omega)
  generalize pickV l1 60 = m at *
  go_wp2_with fail
  refine (pick_any _ _ _ (by omega) v2.1 v2.2 (by omega)).mono ?_
  rintro e _ ⟨rfl, rfl⟩
  have ps := pick_range l2 60 (by omega)
  generalize pickV l2 60 = s at *
  go_wp2_with fail
  refine (pick_any _ _ _ (by omega) v3.1 v3.2 (by omega)).mono ?_
  rintro e _ ⟨rfl, rfl⟩
  have pf := pick_range l3 b (by omega)
  generalize pickV l3 b = f at *
  clear c0 c1 c2 c3 t0 t1 t2 t3
  cases z
  · go_wp2_with fail
    refine (ltwo_any _ _ (by omega) (by omega)).mono ?_
    rintro e w2 ⟨rfl, hb⟩
    have B2 := Lib.hid (accB (Below.refl ((w1.alloc (.cells tabCells 39)).heap.size + 1) ((w1.alloc (.cells tabCells 39)).alloc (.cells #[.int .i64 n, .int .i64 d, .int .i64 b, .int .i64 p] 39))) hb)
    clear hb
    go_wp2_with fail
    refine (ltwo_any _ _ (by omega) (by omega)).mono ?_
    rintro e w3 ⟨rfl, hb⟩
    have B3 := Lib.hid (accB B2.out hb)
    clear hb
    go_wp2_with fail
    refine (ltwo_any _ _ (by omega) (by omega)).mono ?_
    rintro e w4 ⟨rfl, hb⟩
    have B4 := Lib.hid (accB B3.out hb)
    clear hb
    go_wp2_with fail
    refine (ltwo_any _ _ (by omega) (by omega)).mono ?_
    rintro e w5 ⟨rfl, hb⟩
    have B5 := Lib.hid (accB B4.out hb)
    have T5 := Lib.hid (((T1.out.alloc (.cells tabCells 39)).alloc (.cells #[.int .i64 n, .int .i64 d, .int .i64 b, .int .i64 p] 39)).below B5.out (by omega))
    clear hb
    obtain ⟨q0, q1, q2, q3⟩ := cellsR B5.out
    rw [show (w1.alloc (.cells tabCells 39)).heap.size = w1.heap.size + 1 by simp] at q0 q1 q2 q3
    have hcat := code_cat h m s f 0 58 (by simp)
    rw [← strOf_58] at hcat
    go_wp2_with fail
    clear hcat
    by_cases hp : 0 < p
    · have hpd : decide (0 < p) = true := by simpa using hp
      skip
      refine (parse_no R.out _ _ T5.out (bad_sep ph.1 (by omega) pm.1 (by omega) ps.1 (by omega) pf.1 (by omega) (by unfold sepC; rw [if_pos hp]; simp))).mono ?_
      rintro e w6 ⟨rfl, hb⟩
      have B6 := Lib.hid (accB B5.out hb)
      clear hb q0 q1 q2 q3
      obtain ⟨q0, q1, q2, q3⟩ := cellsR B6.out
      rw [show (w1.alloc (.cells tabCells 39)).heap.size = w1.heap.size + 1 by simp] at q0 q1 q2 q3
      generalize strOf (codeL h m s f 0) = y at *
      go_wp2
      all_goals go_ret
      all_goals exact fin B1.out B6.out
    · have hpd : decide (0 < p) = false := by simpa using hp
      rw [show codeL h m s f 0 = codeL h m s f p by simp [codeL, hp]]
      have hfp : ¬ f < p := by omega
      have hfd : decide (f < p) = false := by simpa using hfp
      have nd : ¬ ((60 * h + m) % 10 ≠ 0 ∧ s = 0 ∧ f < p) := fun hh => hfp hh.2.2
      rcases Bool.eq_false_or_eq_true (s == 0) with hs0 | hs0
      · skip
        have hg : Good b p (strOf (codeL h m s f p)) := good_code b6 ph.1 (by omega) pm.1 (by omega) ps.1 (by omega) pf.1 (by omega) nd
        obtain ⟨k0, k1, k2⟩ := good_back R.out hg
        have hD : Pl.day b p ≤ 5184000 := by unfold Pl.day; omega
        have hkm : Pl.frameAt b p (60 * pt (strOf (codeL h m s f p)) 0 + pt (strOf (codeL h m s f p)) 3) (pt (strOf (codeL h m s f p)) 6) (pt (strOf (codeL h m s f p)) 9) % Pl.day b p = Pl.frameAt b p (60 * pt (strOf (codeL h m s f p)) 0 + pt (strOf (codeL h m s f p)) 3) (pt (strOf (codeL h m s f p)) 6) (pt (strOf (codeL h m s f p)) 9) := Int.emod_eq_of_lt k0 k1
        have K2 := Lib.hid k2
        have HKM := Lib.hid hkm
        have HG := Lib.hid hg
        clear k2 hkm hg
        refine (parse_yes R.out _ _ T5.out HG.out).mono ?_
        rintro e w6 ⟨rfl, hb⟩
        have B6 := Lib.hid (accB B5.out hb)
        have T6 := Lib.hid (T5.out.below hb T5.out.pos)
        clear hb q0 q1 q2 q3 HG
        obtain ⟨q0, q1, q2, q3⟩ := cellsR B6.out
        rw [show (w1.alloc (.cells tabCells 39)).heap.size = w1.heap.size + 1 by simp] at q0 q1 q2 q3
        generalize Pl.frameAt b p (60 * pt (strOf (codeL h m s f p)) 0 + pt (strOf (codeL h m s f p)) 3) (pt (strOf (codeL h m s f p)) 6) (pt (strOf (codeL h m s f p)) 9) = F at *
        generalize strOf (codeL h m s f p) = y at *
        go_wp2_with fail
        refine (format_yes R.out _ _ T6.out (by omega) (by omega)).mono ?_
        rintro e w7 ⟨rfl, hb⟩
        have B7 := Lib.hid (accB B6.out hb)
        rw [HKM.out, K2.out]
        have hyy : (y.toList == y.toList) = true := by simp
        clear hb q0 q1 q2 q3
        obtain ⟨q0, q1, q2, q3⟩ := cellsR B7.out
        rw [show (w1.alloc (.cells tabCells 39)).heap.size = w1.heap.size + 1 by simp] at q0 q1 q2 q3
        go_wp2
        go_ret
        exact fin B1.out B7.out
      · skip
        have hg : Good b p (strOf (codeL h m s f p)) := good_code b6 ph.1 (by omega) pm.1 (by omega) ps.1 (by omega) pf.1 (by omega) nd
        obtain ⟨k0, k1, k2⟩ := good_back R.out hg
        have hD : Pl.day b p ≤ 5184000 := by unfold Pl.day; omega
        have hkm : Pl.frameAt b p (60 * pt (strOf (codeL h m s f p)) 0 + pt (strOf (codeL h m s f p)) 3) (pt (strOf (codeL h m s f p)) 6) (pt (strOf (codeL h m s f p)) 9) % Pl.day b p = Pl.frameAt b p (60 * pt (strOf (codeL h m s f p)) 0 + pt (strOf (codeL h m s f p)) 3) (pt (strOf (codeL h m s f p)) 6) (pt (strOf (codeL h m s f p)) 9) := Int.emod_eq_of_lt k0 k1
        have K2 := Lib.hid k2
        have HKM := Lib.hid hkm
        have HG := Lib.hid hg
        clear k2 hkm hg
        refine (parse_yes R.out _ _ T5.out HG.out).mono ?_
        rintro e w6 ⟨rfl, hb⟩
        have B6 := Lib.hid (accB B5.out hb)
        have T6 := Lib.hid (T5.out.below hb T5.out.pos)
        clear hb q0 q1 q2 q3 HG
        obtain ⟨q0, q1, q2, q3⟩ := cellsR B6.out
        rw [show (w1.alloc (.cells tabCells 39)).heap.size = w1.heap.size + 1 by simp] at q0 q1 q2 q3
        generalize Pl.frameAt b p (60 * pt (strOf (codeL h m s f p)) 0 + pt (strOf (codeL h m s f p)) 3) (pt (strOf (codeL h m s f p)) 6) (pt (strOf (codeL h m s f p)) 9) = F at *
        generalize strOf (codeL h m s f p) = y at *
        go_wp2_with fail
        refine (format_yes R.out _ _ T6.out (by omega) (by omega)).mono ?_
        rintro e w7 ⟨rfl, hb⟩
        have B7 := Lib.hid (accB B6.out hb)
        rw [HKM.out, K2.out]
        have hyy : (y.toList == y.toList) = true := by simp
        clear hb q0 q1 q2 q3
        obtain ⟨q0, q1, q2, q3⟩ := cellsR B7.out
        rw [show (w1.alloc (.cells tabCells 39)).heap.size = w1.heap.size + 1 by simp] at q0 q1 q2 q3
        go_wp2
        go_ret
        exact fin B1.out B7.out
  · go_wp2_with fail
    refine (ltwo_any _ _ (by omega) (by omega)).mono ?_
    rintro e w2 ⟨rfl, hb⟩
    have B2 := Lib.hid (accB (Below.refl ((w1.alloc (.cells tabCells 39)).heap.size + 1) ((w1.alloc (.cells tabCells 39)).alloc (.cells #[.int .i64 n, .int .i64 d, .int .i64 b, .int .i64 p] 39))) hb)
    clear hb
    go_wp2_with fail
    refine (ltwo_any _ _ (by omega) (by omega)).mono ?_
    rintro e w3 ⟨rfl, hb⟩
    have B3 := Lib.hid (accB B2.out hb)
    clear hb
    go_wp2_with fail
    refine (ltwo_any _ _ (by omega) (by omega)).mono ?_
    rintro e w4 ⟨rfl, hb⟩
    have B4 := Lib.hid (accB B3.out hb)
    clear hb
    go_wp2_with fail
    refine (ltwo_any _ _ (by omega) (by omega)).mono ?_
    rintro e w5 ⟨rfl, hb⟩
    have B5 := Lib.hid (accB B4.out hb)
    have T5 := Lib.hid (((T1.out.alloc (.cells tabCells 39)).alloc (.cells #[.int .i64 n, .int .i64 d, .int .i64 b, .int .i64 p] 39)).below B5.out (by omega))
    clear hb
    obtain ⟨q0, q1, q2, q3⟩ := cellsR B5.out
    rw [show (w1.alloc (.cells tabCells 39)).heap.size = w1.heap.size + 1 by simp] at q0 q1 q2 q3
    have hcat := code_cat h m s f 1 59 (by simp)
    rw [← strOf_58, ← strOf_59] at hcat
    go_wp2_with fail
    clear hcat
    by_cases hp : 0 < p
    · have hpd : decide (0 < p) = true := by simpa using hp
      rw [show codeL h m s f 1 = codeL h m s f p by simp [codeL, hp]]
      have cases4 : (s = 0 ∧ f < p ∧ m % 10 ≠ 0) ∨ (s ≠ 0) ∨ (s = 0 ∧ ¬ f < p) ∨ (s = 0 ∧ f < p ∧ m % 10 = 0) := by omega
      rcases cases4 with hd | hd | ⟨hd, hd2⟩ | ⟨hd, hd2, hd3⟩
      · have HB := Lib.hid (bad_drop (b := b) ph.1 (by omega) pm.1 (by omega) ps.1 (by omega) pf.1 (by omega) hd)
        have hs0 : (s == 0) = true := by simpa using hd.1
        have hfd : decide (f < p) = true := by simpa using hd.2.1
        have hm0 : (m % 10 != 0) = true := by simpa using hd.2.2
        clear hd
        skip
        refine (parse_no R.out _ _ T5.out HB.out).mono ?_
        rintro e w6 ⟨rfl, hb⟩
        have B6 := Lib.hid (accB B5.out hb)
        clear hb q0 q1 q2 q3
        obtain ⟨q0, q1, q2, q3⟩ := cellsR B6.out
        rw [show (w1.alloc (.cells tabCells 39)).heap.size = w1.heap.size + 1 by simp] at q0 q1 q2 q3
        generalize strOf (codeL h m s f p) = y at *
        go_wp2
        go_ret
        exact fin B1.out B6.out
      · have hs0 : (s == 0) = false := by simpa using hd
        have nd : ¬ ((60 * h + m) % 10 ≠ 0 ∧ s = 0 ∧ f < p) := fun hh => hd hh.2.1
        clear hd
        have hg : Good b p (strOf (codeL h m s f p)) := good_code b6 ph.1 (by omega) pm.1 (by omega) ps.1 (by omega) pf.1 (by omega) nd
        obtain ⟨k0, k1, k2⟩ := good_back R.out hg
        have hD : Pl.day b p ≤ 5184000 := by unfold Pl.day; omega
        have hkm : Pl.frameAt b p (60 * pt (strOf (codeL h m s f p)) 0 + pt (strOf (codeL h m s f p)) 3) (pt (strOf (codeL h m s f p)) 6) (pt (strOf (codeL h m s f p)) 9) % Pl.day b p = Pl.frameAt b p (60 * pt (strOf (codeL h m s f p)) 0 + pt (strOf (codeL h m s f p)) 3) (pt (strOf (codeL h m s f p)) 6) (pt (strOf (codeL h m s f p)) 9) := Int.emod_eq_of_lt k0 k1
        have K2 := Lib.hid k2
        have HKM := Lib.hid hkm
        have HG := Lib.hid hg
        clear k2 hkm hg
        refine (parse_yes R.out _ _ T5.out HG.out).mono ?_
        rintro e w6 ⟨rfl, hb⟩
        have B6 := Lib.hid (accB B5.out hb)
        have T6 := Lib.hid (T5.out.below hb T5.out.pos)
        clear hb q0 q1 q2 q3 HG
        obtain ⟨q0, q1, q2, q3⟩ := cellsR B6.out
        rw [show (w1.alloc (.cells tabCells 39)).heap.size = w1.heap.size + 1 by simp] at q0 q1 q2 q3
        generalize Pl.frameAt b p (60 * pt (strOf (codeL h m s f p)) 0 + pt (strOf (codeL h m s f p)) 3) (pt (strOf (codeL h m s f p)) 6) (pt (strOf (codeL h m s f p)) 9) = F at *
        generalize strOf (codeL h m s f p) = y at *
        go_wp2_with fail
        refine (format_yes R.out _ _ T6.out (by omega) (by omega)).mono ?_
        rintro e w7 ⟨rfl, hb⟩
        have B7 := Lib.hid (accB B6.out hb)
        rw [HKM.out, K2.out]
        have hyy : (y.toList == y.toList) = true := by simp
        clear hb q0 q1 q2 q3
        obtain ⟨q0, q1, q2, q3⟩ := cellsR B7.out
        rw [show (w1.alloc (.cells tabCells 39)).heap.size = w1.heap.size + 1 by simp] at q0 q1 q2 q3
        go_wp2
        go_ret
        exact fin B1.out B7.out
      · have hs0 : (s == 0) = true := by simpa using hd
        have hfd : decide (f < p) = false := by simpa using hd2
        have nd : ¬ ((60 * h + m) % 10 ≠ 0 ∧ s = 0 ∧ f < p) := fun hh => hd2 hh.2.2
        clear hd
        have hg : Good b p (strOf (codeL h m s f p)) := good_code b6 ph.1 (by omega) pm.1 (by omega) ps.1 (by omega) pf.1 (by omega) nd
        obtain ⟨k0, k1, k2⟩ := good_back R.out hg
        have hD : Pl.day b p ≤ 5184000 := by unfold Pl.day; omega
        have hkm : Pl.frameAt b p (60 * pt (strOf (codeL h m s f p)) 0 + pt (strOf (codeL h m s f p)) 3) (pt (strOf (codeL h m s f p)) 6) (pt (strOf (codeL h m s f p)) 9) % Pl.day b p = Pl.frameAt b p (60 * pt (strOf (codeL h m s f p)) 0 + pt (strOf (codeL h m s f p)) 3) (pt (strOf (codeL h m s f p)) 6) (pt (strOf (codeL h m s f p)) 9) := Int.emod_eq_of_lt k0 k1
        have K2 := Lib.hid k2
        have HKM := Lib.hid hkm
        have HG := Lib.hid hg
        clear k2 hkm hg
        refine (parse_yes R.out _ _ T5.out HG.out).mono ?_
        rintro e w6 ⟨rfl, hb⟩
        have B6 := Lib.hid (accB B5.out hb)
        have T6 := Lib.hid (T5.out.below hb T5.out.pos)
        clear hb q0 q1 q2 q3 HG
        obtain ⟨q0, q1, q2, q3⟩ := cellsR B6.out
        rw [show (w1.alloc (.cells tabCells 39)).heap.size = w1.heap.size + 1 by simp] at q0 q1 q2 q3
        generalize Pl.frameAt b p (60 * pt (strOf (codeL h m s f p)) 0 + pt (strOf (codeL h m s f p)) 3) (pt (strOf (codeL h m s f p)) 6) (pt (strOf (codeL h m s f p)) 9) = F at *
        generalize strOf (codeL h m s f p) = y at *
        go_wp2_with fail
        refine (format_yes R.out _ _ T6.out (by omega) (by omega)).mono ?_
        rintro e w7 ⟨rfl, hb⟩
        have B7 := Lib.hid (accB B6.out hb)
        rw [HKM.out, K2.out]
        have hyy : (y.toList == y.toList) = true := by simp
        clear hb q0 q1 q2 q3
        obtain ⟨q0, q1, q2, q3⟩ := cellsR B7.out
        rw [show (w1.alloc (.cells tabCells 39)).heap.size = w1.heap.size + 1 by simp] at q0 q1 q2 q3
        go_wp2
        go_ret
        exact fin B1.out B7.out
      · have hs0 : (s == 0) = true := by simpa using hd
        have hfd : decide (f < p) = true := by simpa using hd2
        have hm0 : (m % 10 != 0) = false := by simpa using hd3
        have nd : ¬ ((60 * h + m) % 10 ≠ 0 ∧ s = 0 ∧ f < p) := fun hh => by omega
        clear hd hd3
        have hg : Good b p (strOf (codeL h m s f p)) := good_code b6 ph.1 (by omega) pm.1 (by omega) ps.1 (by omega) pf.1 (by omega) nd
        obtain ⟨k0, k1, k2⟩ := good_back R.out hg
        have hD : Pl.day b p ≤ 5184000 := by unfold Pl.day; omega
        have hkm : Pl.frameAt b p (60 * pt (strOf (codeL h m s f p)) 0 + pt (strOf (codeL h m s f p)) 3) (pt (strOf (codeL h m s f p)) 6) (pt (strOf (codeL h m s f p)) 9) % Pl.day b p = Pl.frameAt b p (60 * pt (strOf (codeL h m s f p)) 0 + pt (strOf (codeL h m s f p)) 3) (pt (strOf (codeL h m s f p)) 6) (pt (strOf (codeL h m s f p)) 9) := Int.emod_eq_of_lt k0 k1
        have K2 := Lib.hid k2
        have HKM := Lib.hid hkm
        have HG := Lib.hid hg
        clear k2 hkm hg
        refine (parse_yes R.out _ _ T5.out HG.out).mono ?_
        rintro e w6 ⟨rfl, hb⟩
        have B6 := Lib.hid (accB B5.out hb)
        have T6 := Lib.hid (T5.out.below hb T5.out.pos)
        clear hb q0 q1 q2 q3 HG
        obtain ⟨q0, q1, q2, q3⟩ := cellsR B6.out
        rw [show (w1.alloc (.cells tabCells 39)).heap.size = w1.heap.size + 1 by simp] at q0 q1 q2 q3
        generalize Pl.frameAt b p (60 * pt (strOf (codeL h m s f p)) 0 + pt (strOf (codeL h m s f p)) 3) (pt (strOf (codeL h m s f p)) 6) (pt (strOf (codeL h m s f p)) 9) = F at *
        generalize strOf (codeL h m s f p) = y at *
        go_wp2_with fail
        refine (format_yes R.out _ _ T6.out (by omega) (by omega)).mono ?_
        rintro e w7 ⟨rfl, hb⟩
        have B7 := Lib.hid (accB B6.out hb)
        rw [HKM.out, K2.out]
        have hyy : (y.toList == y.toList) = true := by simp
        clear hb q0 q1 q2 q3
        obtain ⟨q0, q1, q2, q3⟩ := cellsR B7.out
        rw [show (w1.alloc (.cells tabCells 39)).heap.size = w1.heap.size + 1 by simp] at q0 q1 q2 q3
        go_wp2
        go_ret
        exact fin B1.out B7.out
    · have hpd : decide (0 < p) = false := by simpa using hp
      skip
      refine (parse_no R.out _ _ T5.out (bad_sep ph.1 (by omega) pm.1 (by omega) ps.1 (by omega) pf.1 (by omega) (by unfold sepC; rw [if_neg hp]; simp))).mono ?_
      rintro e w6 ⟨rfl, hb⟩
      have B6 := Lib.hid (accB B5.out hb)
      clear hb q0 q1 q2 q3
      obtain ⟨q0, q1, q2, q3⟩ := cellsR B6.out
      rw [show (w1.alloc (.cells tabCells 39)).heap.size = w1.heap.size + 1 by simp] at q0 q1 q2 q3
      generalize strOf (codeL h m s f 1) = y at *
      go_wp2
      all_goals go_ret
      all_goals exact fin B1.out B6.out
theorem contract (H : Type) (enc : TypeId × Value → H) (W : World) (base : Nat) (args : Array Value) (ds gs : List (DataW H)) (before : List MemPlace)
    (hval : ∀ (j : Nat) t v, Tryd.f7.params[j]? = some t → args[j]? = some v → Value.okWide Tryd.prog W .any base t v)
    (hW : DataW.Whole enc Tryd.prog Tryd.f7.params.toList Rows.timecodeDroppedSpec.vars false W args.toList ds gs before) (hL : laidMetH Tryd.prog Rows.timecodeDroppedRow.laid W) :
    Calls Tryd.prog 7 args W fun e W' => ∃ v, e = .returned v ∧ Rows.timecodeDroppedSpec.post enc Tryd.prog Tryd.f7 false true false false W args v W' := by
  have hW' := hW
  obtain ⟨p, q, hA0, hV, rfl, hfz, hnd⟩ := hW
  have hA : DataW.TrodAll enc Tryd.prog W 0 (fun _ => true) true Tryd.f7.params.toList args.toList ds p := hA0
  rw [Tryd.params7] at hA hval
  obtain ⟨v0, vs0, d0, ds0, p0, q0, hargs, rfl, rfl, h0, r0⟩ := trodAll_cons hA
  obtain ⟨v1, vs1, d1, ds1, p1, q1, rfl, rfl, rfl, h1, r1⟩ := trodAll_cons r0
  obtain ⟨v2, vs2, d2, ds2, p2, q2, rfl, rfl, rfl, h2, r2⟩ := trodAll_cons r1
  obtain ⟨rfl, rfl, rfl⟩ := trodAll_nil r2
  obtain rfl : args = #[v0, v1, v2] := by cases args; simp_all
  obtain ⟨rfl, rfl⟩ := trodVars_none hV
  obtain ⟨a0, rfl, rfl, rfl, w0⟩ := open_int Tryd.underlying3 (hval 0 3 v0 rfl rfl) h0
  obtain ⟨a1a, a1b, a1c, a1d, rfl, rfl, rfl, w1a, w1b, w1c, w1d⟩ := open_arr4 (hval 1 45 v1 rfl rfl) h1
  obtain ⟨a2, rfl, rfl, rfl⟩ := open_bool Tryd.underlying4 (hval 2 4 v2 rfl rfl) h2
  clear hA0
  simp only [List.append_nil] at hW'
  refine (walk a0 a1a a1b a1c a1d a2 w0 w1a w1b w1c w1d W (laid_tab hL)).mono fun e W' ⟨he, hg⟩ => ?_
  subst he
  exact ⟨_, rfl, post_alone hW' (fun _ _ _ => trodAll_cons_mk (shut_bool Tryd.underlying4 _) trodAll_mk0) (fun _ => (trodAll_cons_mk (shut_int Tryd.underlying3 w0) (trodAll_cons_mk (shut_arr4 w1a w1b w1c w1d) (trodAll_cons_mk (shut_bool Tryd.underlying4 _) trodAll_mk0)))) (fun _ => rfl) hg (ok_one (by kernel_rfl) rfl (okWide_bool_mk Tryd.underlying4 _))⟩
theorem laid_met (os : Os) : laidMet Tryd.prog Rows.timecodeDroppedRow.laid ((laidWorld os).forCall (fun _ _ => 0) ⟨#[], #[.int .i64 0, .agg #[.int .i64 0, .int .i64 0, .int .i64 0, .int .i64 0], .bool false], []⟩).memory :=
  laidMet_of_run' 8 (by kernel_rfl) (by kernel_rfl)
theorem reads (os : Os) {H : Type} (enc : TypeId × Value → H) : ∃ places, DataW.whole enc Tryd.prog ((laidWorld os).forCall (fun _ _ => 0) ⟨#[], #[.int .i64 0, .agg #[.int .i64 0, .int .i64 0, .int .i64 0, .int .i64 0], .bool false], []⟩).memory Tryd.f7.params.toList Rows.timecodeDroppedSpec.vars false (#[.int .i64 0, .agg #[.int .i64 0, .int .i64 0, .int .i64 0, .int .i64 0], .bool false] : Array Value).toList 8 = some ([.lit (.int .i64 0), .agg [.lit (.int .i64 0), .lit (.int .i64 0), .lit (.int .i64 0), .lit (.int .i64 0)], .lit (.bool false)], [], places) :=
  ⟨[], by kernel_rfl⟩
set_option maxRecDepth 100000 in
theorem lifted (os : Os) (started : os.Started) (H : Type) (enc : TypeId × Value → H) (F : Stop.Interp) :
    ReturnsInHanded {} Tryd.checked os 7 .any ((OpenSpec.ofChange Rows.timecodeDroppedSpec).preRow enc Tryd.prog Tryd.f7 Rows.timecodeDroppedRow.domain false Rows.timecodeDroppedRow.laid) (((OpenSpec.ofChange Rows.timecodeDroppedSpec).at F).post enc Tryd.prog Tryd.f7 false true false false) := by
  obtain ⟨places, hx⟩ := reads os enc
  refine returnsInHanded_of_row (C := Tryd.checked) (s := OpenSpec.ofChange Rows.timecodeDroppedSpec) own started (by kernel_rfl) Tryd.func7
    (witness_row_at (enc := enc) (C := Tryd.checked) false (laidWorld os) #[.int .i64 0, .agg #[.int .i64 0, .int .i64 0, .int .i64 0, .int .i64 0], .bool false] rfl (by kernel_rfl) (by kernel_rfl) (by kernel_rfl)
      (OpenSpec.preRow_of_cond 8 hx (by kernel_rfl) (fun k hk => by cases hk) (by kernel_rfl) (laid_met os))) ?_
  intro W base args ds gs before hval hW _ _ _ hL _ _
  exact contract H enc W base args ds gs before hval hW hL
theorem said : Rows.TimecodeDroppedSaid :=
  OpenClaim.holds_of_cond 7 Tryd.f7 rfl rfl rfl rfl rfl rfl rfl ⟨rfl, rfl, rfl, rfl, rfl⟩ rfl rfl rfl rfl rfl (by kernel_rfl) Tryd.func7 (by kernel_rfl)
    (of_decide_eq_true (by kernel_rfl)) (by unfold Func.isWrapper; first | (rw [if_pos (by decide +kernel)]; kernel_rfl) | (rw [if_neg (by decide +kernel)]; exact ⟨rfl, rfl⟩))
    (fun os started H enc _ F => by rw [OpenClaim.pre_eq_preRow]; exact lifted os started H enc F)
theorem plain (f : FuncId) (fn : Func) (hf : Tryd.pinned.checked.prog.funcNamed "onair/onairlaw03.TimecodeDropped" = some f) (hfn : Tryd.pinned.checked.prog.funcs[f]? = some fn) :
    false = Tryd.pinned.checked.prog.looks [] ∧ ∀ (j : Nat) t, fn.params[j]? = some t → Tryd.pinned.checked.prog.wantsStandIn t = false := by
  obtain rfl : f = 7 := Option.some.inj ((show Tryd.prog.funcNamed "onair/onairlaw03.TimecodeDropped" = some 7 by kernel_rfl).symm.trans hf) |>.symm
  obtain rfl : fn = Tryd.f7 := (Option.some.inj (Tryd.func7.symm.trans hfn)).symm
  refine ⟨by kernel_rfl, fun j t ht => ?_⟩
  rw [Tryd.params7] at ht
  have hm : t ∈ [3, 45, 4] := by simpa using Array.mem_of_getElem? ht
  have hall : ([3, 45, 4].all fun u => !Tryd.prog.wantsStandIn u) = true := by kernel_rfl
  exact (show Tryd.prog.wantsStandIn t = false by simpa using List.all_eq_true.1 hall t hm)
theorem card : Rows.TimecodeDroppedCardSaid :=
  Claim7.holds_tied_plain_at .later [] _ _ _ _ said (fun _ h => by cases h) (by kernel_rfl) (fun _ h => by cases h) timecodeDropped_row_tie rfl ⟨rfl, rfl⟩ (by kernel_rfl) rfl plain (by kernel_rfl)
#print axioms card
end Dropped
end Go.Proofs.YtfnmjabegajniaaDoor
