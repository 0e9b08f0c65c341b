/-
  The contracts of Normal, Same and Union of the reference.
-/
import Derived.Test.YtamnlhlocidbkaaAdd
import Derived.Test.YtamnlhlocidbkaaEqual
namespace Go.Proofs.Ytamnlhlocidbkaa
open Go.RowKit
open Sp (Sn Mem Val norm uni inter subt)
theorem norm_take {l : List Sn} {k : Nat} (h : k < l.length) : addS (norm (l.take k)) (el l k) = norm (l.take (k + 1)) := by rw [addS_norm, take_snoc h]
theorem norm_le (l : List Sn) (k : Nat) : (norm (l.take k)).length ≤ l.length := Nat.le_trans (Sp.norm_len _) (by simp; omega)
set_option maxHeartbeats 400000 in
theorem rnormal_any (A : Option Addr) (l : List Sn) (c : Nat) (w : World) (hR : Rd w A l) (hl : l.length ≤ 100000) :
    Calls Try.prog 15 #[.slice A l.length c] w (RetS w (norm l)) := by
  have R := Lib.hid hR
  clear hR
  go_enter Try.func15, Try.ntmps15
  go_wp2
  go_loopw [3, 4] (fun v i wr => ∃ (k : Nat) (B : Option Addr) (d : Nat) (m : List Sn), k ≤ l.length ∧ i = .int .i64 k ∧ v = .slice B m.length d ∧ m.length ≤ d ∧ Rd wr B m ∧ Below w.heap.size w wr ∧ Hid (m = norm (l.take k))) (fun _ i _ => l.length - (intOf i).toNat)
  case atStart => exact ⟨0, none, 0, [], Nat.zero_le _, rfl, rfl, Nat.le_refl _, Rd.nil, Below.refl _ _, Lib.hid rfl⟩
  case round =>
    obtain ⟨k, B, d, m, hk, rfl, rfl, hmd, hm, hB, hN⟩ := hrel
    have M := Lib.hid hm
    have HB := Lib.hid hB
    clear hm hB
    by_cases hlt : k < l.length
    · obtain ⟨g, off, rfl, hg, c1, c2⟩ := (R.out.below HB.out).at_ hlt
      have hml : m.length ≤ 100000 := by rw [hN.out]; exact Nat.le_trans (norm_le l k) hl
      have hmv : Hid (Val m) := by rw [hN.out]; exact Sp.norm_val _
      have hnx : Hid (addS m (el l k) = norm (l.take (k + 1))) := by rw [hN.out]; exact norm_take hlt
      go_wp2_with (go_at_call 40; refine (radd_any B m d (el l k) _ M.out hmv.out hml hmd).mono ?_; rintro e w' ⟨B', d', rfl, hd', hm', hb'⟩)
      have M' := Lib.hid hm'
      have HB' := Lib.hid (HB.out.trans (hb'.mono HB.out.size))
      clear hm' hb'
      go_wp2
      go_roundw
      case rel => exact ⟨k + 1, B', d', addS m (el l k), by omega, by go_num, rfl, hd', M'.out, HB'.out, Lib.hid hnx.out⟩
      case measure => simp [intOf]; omega
    · go_wp2
      go_ret
      obtain rfl : k = l.length := by omega
      have hN' := hN.out
      rw [List.take_length] at hN'
      subst hN'
      exact ⟨B, d, rfl, hmd, M.out, HB.out⟩
set_option maxHeartbeats 400000 in
theorem rsame_any (A B : Option Addr) (l m : List Sn) (c d : Nat) (w : World) (hR : Rd w A l) (hS : Rd w B m) (hl : l.length ≤ 100000) (hm : m.length ≤ 100000) :
    Calls Try.prog 19 #[.slice A l.length c, .slice B m.length d] w fun e w' => e = .returned (.bool (eqB (norm l) (norm m))) ∧ Below w.heap.size w w' := by
  have R := Lib.hid hR
  have S := Lib.hid hS
  clear hR hS
  have n1 : (norm l).length ≤ 100000 := Nat.le_trans (Sp.norm_len _) hl
  have n2 : (norm m).length ≤ 100000 := Nat.le_trans (Sp.norm_len _) hm
  go_enter Try.func19, Try.ntmps19
  go_wp2_with fail
  refine (rnormal_any A l c _ R.out hl).mono ?_
  rintro e w1 ⟨A1, c1, rfl, _, hA1, hb1⟩
  have R1 := Lib.hid hA1
  have B1 := Lib.hid hb1
  clear hA1 hb1
  go_wp2_with fail
  refine (rnormal_any B m d _ (S.out.below B1.out) hm).mono ?_
  rintro e w2 ⟨A2, c2, rfl, _, hA2, hb2⟩
  have R2 := Lib.hid hA2
  have B2 := Lib.hid hb2
  clear hA2 hb2
  go_wp2_with fail
  refine (requal_any A1 A2 (norm l) (norm m) c1 c2 _ (R1.out.below B2.out) R2.out n1 n2).mono ?_
  rintro e w3 ⟨rfl, hb3⟩
  go_wp2
  go_ret
  exact ⟨rfl, (B1.out.trans (B2.out.mono B1.out.size)).trans (hb3.mono (Nat.le_trans B1.out.size B2.out.size))⟩
theorem uni_take {l m : List Sn} {k : Nat} (h : k < m.length) : addS (uni l (m.take k)) (el m k) = uni l (m.take (k + 1)) := by
  unfold uni; rw [addS_norm, take_snoc h, List.append_assoc]
theorem uni_nil (l : List Sn) : uni l [] = norm l := by unfold uni; rw [List.append_nil]
set_option maxHeartbeats 400000 in
theorem runion_any (A B : Option Addr) (l m : List Sn) (c d : Nat) (w : World) (hR : Rd w A l) (hS : Rd w B m) (hl : l.length ≤ 40000) (hm : m.length ≤ 40000) :
    Calls Try.prog 23 #[.slice A l.length c, .slice B m.length d] w (RetS w (uni l m)) := by
  have R := Lib.hid hR
  have S := Lib.hid hS
  clear hR hS
  go_enter Try.func23, Try.ntmps23
  go_wp2_with fail
  refine (rnormal_any A l c _ R.out (by omega)).mono ?_
  rintro e w1 ⟨A1, c1, rfl, hc1, hA1, hb1⟩
  have R1 := Lib.hid hA1
  have B1 := Lib.hid hb1
  clear hA1 hb1
  go_wp2
  go_loopw [5, 6] (fun v i wr => ∃ (k : Nat) (B : Option Addr) (d : Nat) (o : List Sn), k ≤ m.length ∧ i = .int .i64 k ∧ v = .slice B o.length d ∧ o.length ≤ d ∧ Rd wr B o ∧ Below w.heap.size w wr ∧ Hid (o = uni l (m.take k))) (fun _ i _ => m.length - (intOf i).toNat)
  case atStart => exact ⟨0, A1, c1, norm l, Nat.zero_le _, rfl, rfl, hc1, R1.out, B1.out, Lib.hid (uni_nil l).symm⟩
  case round =>
    obtain ⟨k, B', d', o, hk, rfl, rfl, hmd, hm', hB, hN⟩ := hrel
    have M := Lib.hid hm'
    have HB := Lib.hid hB
    clear hm' hB
    by_cases hlt : k < m.length
    · obtain ⟨g, off, rfl, hg, q1, q2⟩ := (S.out.below HB.out).at_ hlt
      have hml : o.length ≤ 100000 := by rw [hN.out]; have := Sp.uni_len l (m.take k); simp at this; omega
      have hmv : Hid (Val o) := by rw [hN.out]; exact Sp.norm_val _
      have hnx : Hid (addS o (el m k) = uni l (m.take (k + 1))) := by rw [hN.out]; exact uni_take hlt
      go_wp2_with (go_at_call 40; refine (radd_any B' o d' (el m k) _ M.out hmv.out hml hmd).mono ?_; rintro e w' ⟨B2, d2, rfl, hd2, hm2, hb2⟩)
      have M' := Lib.hid hm2
      have HB' := Lib.hid (HB.out.trans (hb2.mono HB.out.size))
      clear hm2 hb2
      go_wp2
      go_roundw
      case rel => exact ⟨k + 1, B2, d2, addS o (el m k), by omega, by go_num, rfl, hd2, M'.out, HB'.out, Lib.hid hnx.out⟩
      case measure => simp [intOf]; omega
    · go_wp2
      go_ret
      obtain rfl : k = m.length := by omega
      have hN' := hN.out
      rw [List.take_length] at hN'
      subst hN'
      exact ⟨B', d', rfl, hmd, M.out, HB.out⟩
end Go.Proofs.Ytamnlhlocidbkaa
