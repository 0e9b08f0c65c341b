/-
  The contracts of span.Has, span.Covers, interval.size, span.Total and span.Earliest.
-/
import Derived.Test.YtamnlhlocidbkaaSub
import Derived.Test.YtamnlhlocidbkaaRefD
namespace Go.Proofs.Ytamnlhlocidbkaa
open Go.RowKit
open Sp (Sn Mem Val norm uni inter subt)
set_option maxHeartbeats 400000 in
theorem hasIn_yes (s : Sn) (x : Int) (X : Nat) (w : World) (hX : X < w.heap.size) (hc : w.cell? ⟨X, 0, none⟩ = some (.int .i64 x)) (h1 : s.1 ≤ x) (h2 : x < s.2) :
    Calls Try.prog 48 #[.agg #[.int .i64 s.1, .int .i64 s.2], .pointer (some ⟨X, 0, none⟩)] w fun e w' => e = .returned (.bool true) ∧ Below w.heap.size w w' := by
  go_enter Try.func48, Try.ntmps48
  go_wp2
  go_ret
  exact ⟨rfl, (Below.refl _ _).alloc (Nat.le_refl _) _⟩
set_option maxHeartbeats 400000 in
theorem hasIn_no (s : Sn) (x : Int) (X : Nat) (w : World) (hX : X < w.heap.size) (hc : w.cell? ⟨X, 0, none⟩ = some (.int .i64 x)) (h : ¬ (s.1 ≤ x ∧ x < s.2)) :
    Calls Try.prog 48 #[.agg #[.int .i64 s.1, .int .i64 s.2], .pointer (some ⟨X, 0, none⟩)] w fun e w' => e = .returned (.bool false) ∧ Below w.heap.size w w' := by
  by_cases h1 : s.1 ≤ x
  · have h2 : ¬ x < s.2 := fun h2 => h ⟨h1, h2⟩
    clear h
    go_enter Try.func48, Try.ntmps48
    go_wp2
    go_ret
    exact ⟨rfl, (Below.refl _ _).alloc (Nat.le_refl _) _⟩
  · clear h
    go_enter Try.func48, Try.ntmps48
    go_wp2
    go_ret
    exact ⟨rfl, (Below.refl _ _).alloc (Nat.le_refl _) _⟩
def IdxH (x : Int) (l : List Sn) (w : World) (e : Ending) (w' : World) : Prop :=
  ((Mem x l ∧ ∃ k : Nat, k < l.length ∧ e = .returned (.int .i64 k)) ∨ (¬ Mem x l ∧ e = .returned (.int .i64 (-1)))) ∧ Below w.heap.size w w'
set_option maxHeartbeats 400000 in
theorem indexH_any (A : Option Addr) (l : List Sn) (c : Nat) (x : Int) (X : Nat) (w : World) (hR : Rd w A l) (hl : l.length ≤ 100000) (hX : X < w.heap.size) (hc : w.cell? ⟨X, 0, none⟩ = some (.int .i64 x)) :
    Calls Try.prog 55 #[.slice A l.length c, .func (.func 48) #[] #[.pointer (some ⟨X, 0, none⟩)]] w (IdxH x l w) := by
  have R := Lib.hid hR
  have HX := Lib.hid hc
  clear hR hc
  go_enter Try.func55, Try.ntmps55
  go_wp2
  go_loopw [8] (fun i wr => ∃ k : Nat, k ≤ l.length ∧ i = .int .i64 k ∧ Below w.heap.size w wr ∧ Hid (∀ j, j < k → ¬ ((el l j).1 ≤ x ∧ x < (el l j).2))) (fun i _ => l.length - (intOf i).toNat)
  case atStart => exact ⟨0, Nat.zero_le _, rfl, Below.refl _ _, Lib.hid (fun j hj => absurd hj (by omega))⟩
  case round =>
    obtain ⟨k, hk, rfl, hB, hN⟩ := hrel
    have HB := Lib.hid hB
    have hXr : X < wr.heap.size := Nat.lt_of_lt_of_le hX hB.size
    have hcr : Hid (wr.cell? ⟨X, 0, none⟩ = some (.int .i64 x)) := (hB.cell (p := ⟨X, 0, none⟩) hX).trans HX.out
    clear hB
    by_cases hlt : k < l.length
    · obtain ⟨g, off, rfl, hg, c1, c2⟩ := (R.out.below HB.out).at_ hlt
      by_cases he : (el l k).1 ≤ x ∧ x < (el l k).2
      · go_wp2_with (go_at_call 48; refine (hasIn_yes (el l k) x X _ hXr hcr.out he.1 he.2).mono ?_; rintro e w' ⟨rfl, hb'⟩)
        go_ret
        exact ⟨.inl ⟨⟨_, el_mem hlt, he⟩, k, hlt, rfl⟩, HB.out.trans (hb'.mono HB.out.size)⟩
      · have HE := Lib.hid he
        clear he
        go_wp2_with (go_at_call 48; refine (hasIn_no (el l k) x X _ hXr hcr.out HE.out).mono ?_; rintro e w' ⟨rfl, hb'⟩)
        have HB' := Lib.hid (HB.out.trans (hb'.mono HB.out.size))
        clear hb'
        go_wp2
        go_roundw
        case rel => exact ⟨k + 1, by omega, by go_num, HB'.out, Lib.hid (fun j hj => if e : j = k then by subst e; exact HE.out else hN.out j (by omega))⟩
        case measure => simp [intOf]; omega
    · obtain rfl : k = l.length := by omega
      go_wp2
      go_ret
      refine ⟨.inr ⟨?_, rfl⟩, HB.out⟩
      rintro ⟨s, hs, hx⟩
      obtain ⟨j, hj, rfl⟩ := mem_el hs
      exact hN.out j hj hx
set_option maxHeartbeats 400000 in
theorem contains_any (A : Option Addr) (l : List Sn) (c : Nat) (x : Int) (X : Nat) (w : World) (hR : Rd w A l) (hl : l.length ≤ 100000) (hX : X < w.heap.size) (hc : w.cell? ⟨X, 0, none⟩ = some (.int .i64 x)) :
    Calls Try.prog 47 #[.slice A l.length c, .func (.func 48) #[] #[.pointer (some ⟨X, 0, none⟩)]] w fun e w' => e = .returned (.bool (memB x l)) ∧ Below w.heap.size w w' := by
  have R := Lib.hid hR
  have HX := Lib.hid hc
  clear hR hc
  go_enter Try.func47, Try.ntmps47
  go_wp2_with fail
  refine (indexH_any A l c x X _ R.out hl hX HX.out).mono ?_
  rintro e w1 ⟨⟨hm, k, hk, rfl⟩ | ⟨hm, rfl⟩, hb⟩
  · have hmb := Lib.hid ((memB_iff x l).2 hm)
    go_wp2
    go_ret
    exact ⟨ret_bool (by rw [hmb.out]), hb⟩
  · have hmb := Lib.hid ((memB_no x l).2 hm)
    go_wp2
    go_ret
    exact ⟨ret_bool (by rw [hmb.out]), hb⟩
set_option maxHeartbeats 400000 in
theorem has_any (A : Option Addr) (l : List Sn) (c : Nat) (x : Int) (w : World) (hR : Rd w A l) (hl : l.length ≤ 100000) :
    Calls Try.prog 30 #[.slice A l.length c, .int .i64 x] w fun e w' => e = .returned (.bool (memB x l)) ∧ Below w.heap.size w w' := by
  have R := Lib.hid hR
  clear hR
  go_enter Try.func30, Try.ntmps30
  go_wp2_with fail
  refine (contains_any A l c x w.heap.size _ (R.out.alloc _) hl (by simp) (by simp)).mono ?_
  rintro e w1 ⟨rfl, hb⟩
  go_wp2
  go_ret
  exact ⟨rfl, ((Below.refl w.heap.size w).alloc (Nat.le_refl _) (.cells #[.int .i64 x] 3)).trans (hb.mono (by simp))⟩
theorem rd_one (w : World) (s : Sn) : Rd (w.alloc (.cells #[.int .i64 s.1, .int .i64 s.2] 30)) (some ⟨w.heap.size, 0, none⟩) [s] := fun _ => ⟨w.heap.size, 0, rfl, by simp, fun j hj => by
  obtain rfl : j = 0 := by simp at hj; omega
  simp [el]⟩
set_option maxHeartbeats 400000 in
theorem covers_any (A : Option Addr) (l : List Sn) (c : Nat) (s : Sn) (w : World) (hR : Rd w A l) (hl : l.length ≤ 40000) :
    Calls Try.prog 32 #[.slice A l.length c, .agg #[.int .i64 s.1, .int .i64 s.2]] w fun e w' => e = .returned (.bool (covB l s)) ∧ Below w.heap.size w w' := by
  have R := Lib.hid hR
  clear hR
  go_enter Try.func32, Try.ntmps32
  go_wp2_with fail
  refine (subtract_any (some ⟨w.heap.size + 1, 0, none⟩) A [s] l 1 c _ ?_ ((R.out.alloc _).alloc _) (by simp) hl).mono ?_
  · have := rd_one (w.alloc (.cells #[.int .i64 s.1, .int .i64 s.2] 30)) s
    simpa using this
  rintro e w1 ⟨A1, c1, rfl, hc1, hA1, hb1⟩
  have hb : Below w.heap.size w w1 := (((Below.refl w.heap.size w).alloc (Nat.le_refl _) (.cells #[.int .i64 s.1, .int .i64 s.2] 30)).alloc (by simp) (.cells #[.int .i64 s.1, .int .i64 s.2] 30)).trans (hb1.mono (by simp; omega))
  have HB := Lib.hid hb
  clear hb hb1 hA1 hc1
  by_cases h0 : subt [s] l = []
  · have hcv := Lib.hid (covB_yes (cov_sub.2 h0))
    rw [h0]
    go_wp2
    go_ret
    exact ⟨ret_bool (by rw [hcv.out]), HB.out⟩
  · have hcv := Lib.hid (covB_no (fun hc => h0 (cov_sub.1 hc)))
    have hp := List.length_pos_iff.2 h0
    clear h0
    generalize subt [s] l = k at *
    have hn0 : ((k.length : Int) == 0) = false := by rw [beq_eq_false_iff_ne]; omega
    go_wp2
    go_ret
    exact ⟨ret_bool (by rw [hcv.out]), HB.out⟩
set_option maxHeartbeats 400000 in
theorem isize_any (s : Sn) (w : World) (h1 : -9223372036854775808 ≤ s.1 ∧ s.1 ≤ 9223372036854775807) (h2 : -9223372036854775808 ≤ s.2 ∧ s.2 ≤ 9223372036854775807) (h : s.1 < s.2) :
    Calls Try.prog 42 #[.agg #[.int .i64 s.1, .int .i64 s.2]] w fun e w' => e = .returned (.int .u64 (s.2 - s.1)) ∧ Below w.heap.size w w' := by
  have hd := u64_diff h2 h1 h
  generalize hD : s.2 - s.1 = D at *
  clear hD
  go_enter Try.func42, Try.ntmps42
  go_wp2
  go_ret
  exact ⟨rfl, (Below.refl _ _).alloc (Nat.le_refl _) _⟩
set_option maxHeartbeats 1000000 in
theorem total_any (A : Option Addr) (l : List Sn) (c : Nat) (w : World) (hR : Rd w A l) (hl : l.length ≤ 100000) (hbd : Bd l) :
    Calls Try.prog 20 #[.slice A l.length c] w fun e w' => e = .returned (.int .i64 (totV l)) ∧ Below w.heap.size w w' := by
  have R := Lib.hid hR
  have BD := Lib.hid hbd.norm
  clear hR hbd
  unfold totV
  have hnv := Lib.hid (Sp.norm_val l)
  obtain ⟨n, hnn⟩ : ∃ n, norm l = n := ⟨_, rfl⟩
  have hn : n.length ≤ 100000 := by rw [← hnn]; exact Nat.le_trans (Sp.norm_len _) hl
  rw [hnn] at BD hnv ⊢
  have HN := Lib.hid hnn
  clear hnn
  go_enter Try.func20, Try.ntmps20
  go_wp2_with fail
  refine (normal_any A l c _ R.out hl).mono ?_
  rintro e w1 ⟨A1, c1, rfl, hc1, hA1, hb1⟩
  rw [HN.out] at hA1 hc1 ⊢
  have R1 := Lib.hid hA1
  have B1 := Lib.hid hb1
  clear hA1 hb1
  go_wp2
  go_loopw [3, 10] (fun t i wr => ∃ k : Nat, k ≤ n.length ∧ i = .int .i64 k ∧ t = .int .u64 (sumL (n.take k)) ∧ sumL (n.take k) ≤ 4611686018427387903 ∧ Below w1.heap.size w1 wr) (fun _ i _ => n.length - (intOf i).toNat)
  case atStart => exact ⟨0, Nat.zero_le _, rfl, rfl, by simp [sumL], Below.refl _ _⟩
  case round =>
    obtain ⟨k, hk, rfl, rfl, hle, hB⟩ := hrel
    have HB := Lib.hid hB
    have hzz := hB.size
    have h0 := (sumL_take hnv.out.2 k).1
    clear hB
    by_cases hlt : k < n.length
    · obtain ⟨g, off, rfl, hg, q1, q2⟩ := (R1.out.below HB.out).at_ hlt
      obtain ⟨d1, d2⟩ := BD.out.at_ hlt
      have hne := val_ne hnv.out hlt
      have hst := Lib.hid (sumL_snoc hlt)
      have hup := (sumL_take hnv.out.2 (k + 1)).2
      rw [hst.out] at hup
      generalize sumL (n.take k) = T at *
      by_cases hbig : 4611686018427387903 - T < (el n k).2 - (el n k).1
      · go_wp2_with (go_at_call 42; refine (isize_any (el n k) _ d1 d2 hne).mono ?_; rintro e w' ⟨rfl, hb'⟩)
        go_ret
        refine ⟨ret_int (by omega), B1.out.trans ((((Below.refl w1.heap.size w1).trans HB.out).alloc hzz _).trans (hb'.mono (by simp; omega)) |>.mono B1.out.size)⟩
      · go_wp2_with (go_at_call 42; refine (isize_any (el n k) _ d1 d2 hne).mono ?_; rintro e w' ⟨rfl, hb'⟩)
        have HB' := Lib.hid ((HB.out.alloc hzz _).trans (hb'.mono (by simp; omega)))
        clear hb'
        go_wp2
        go_roundw
        case rel => exact ⟨k + 1, by omega, by go_num, by rw [hst.out], by rw [hst.out]; omega, HB'.out⟩
        case measure => simp [intOf]; omega
    · obtain rfl : k = n.length := by omega
      rw [List.take_length] at *
      go_wp2
      go_ret
      exact ⟨ret_int (by omega), B1.out.trans (HB.out.mono B1.out.size)⟩
set_option maxHeartbeats 1000000 in
theorem earliest_any (A : Option Addr) (l : List Sn) (c : Nat) (a n : Int) (w : World) (hR : Rd w A l) (hl : l.length ≤ 100000) (hbd : Bd l) (ha : -9223372036854775808 ≤ a ∧ a ≤ 9223372036854775807) (hnn : -9223372036854775808 ≤ n ∧ n ≤ 9223372036854775807) :
    Calls Try.prog 28 #[.slice A l.length c, .int .i64 a, .int .i64 n] w fun e w' => e = .returned (.tuple #[.int .i64 (earl l a n).1, .bool (earl l a n).2]) ∧ Below w.heap.size w w' := by
  have R := Lib.hid hR
  have BD := Lib.hid hbd.norm
  clear hR hbd
  unfold earl
  by_cases h0 : n ≤ 0
  · rw [if_pos h0]
    go_enter Try.func28, Try.ntmps28
    go_wp2
    go_ret2
    exact ⟨rfl, Below.refl _ _⟩
  · rw [if_neg h0]
    obtain ⟨m, hmm⟩ : ∃ m, norm l = m := ⟨_, rfl⟩
    have hn : m.length ≤ 100000 := by rw [← hmm]; exact Nat.le_trans (Sp.norm_len _) hl
    rw [hmm] at BD ⊢
    have HM := Lib.hid hmm
    clear hmm
    go_enter Try.func28, Try.ntmps28
    go_wp2_with fail
    refine (normal_any A l c _ R.out hl).mono ?_
    rintro e w1 ⟨A1, c1, rfl, hc1, hA1, hb1⟩
    rw [HM.out] at hA1 hc1 ⊢
    have R1 := Lib.hid hA1
    have B1 := Lib.hid hb1
    clear hA1 hb1
    go_wp2
    go_loopw [17] (fun i wr => ∃ k : Nat, k ≤ m.length ∧ i = .int .i64 k ∧ Below w1.heap.size w1 wr ∧ Hid (∀ j, j < k → ¬ (max (el m j).1 a < (el m j).2 ∧ n ≤ (el m j).2 - max (el m j).1 a))) (fun i _ => m.length - (intOf i).toNat)
    case atStart => exact ⟨0, Nat.zero_le _, rfl, Below.refl _ _, Lib.hid (fun j hj => absurd hj (by omega))⟩
    case round =>
      obtain ⟨k, hk, rfl, hB, hN⟩ := hrel
      have HB := Lib.hid hB
      have hzz := hB.size
      clear hB
      by_cases hlt : k < m.length
      · obtain ⟨g, off, rfl, hg, q1, q2⟩ := (R1.out.below HB.out).at_ hlt
        obtain ⟨d1, d2⟩ := BD.out.at_ hlt
        have hx1 : -9223372036854775808 ≤ max (el m k).1 a ∧ max (el m k).1 a ≤ 9223372036854775807 := by omega
        have hat1 := fun hc => Lib.hid (eFind_at (a := a) (n := n) hlt hN.out hc)
        go_wp2_with fail
        generalize hx : max (el m k).1 a = x at *
        have X := Lib.hid hx
        clear hx
        have HBB := Lib.hid ((HB.out.alloc hzz (.cells #[.int .i64 (el m k).1, .int .i64 (el m k).2] 30)).alloc (Nat.le_trans hzz (by simp)) (.cells #[.int .i64 x, .int .i64 (el m k).2] 43))
        by_cases t1 : x < (el m k).2
        · refine (empty_no (x, (el m k).2) _ (by simp only; omega)).mono ?_
          rintro e w2 ⟨rfl, hb2⟩
          have b0 : w2.cell? ⟨wr.heap.size + 1, 0, none⟩ = some (.int .i64 x) := by rw [hb2.cell (p := ⟨wr.heap.size + 1, 0, none⟩) (by simp)]; have := alloc_two wr (.cells #[.int .i64 (el m k).1, .int .i64 (el m k).2] 30) (.cells #[.int .i64 x, .int .i64 (el m k).2] 43); rw [cell_of_row _ _ 0 _ 43 (0, 0) this]; rfl
          have b1 : w2.cell? ⟨wr.heap.size + 1, 1, none⟩ = some (.int .i64 (el m k).2) := by rw [hb2.cell (p := ⟨wr.heap.size + 1, 1, none⟩) (by simp)]; have := alloc_two wr (.cells #[.int .i64 (el m k).1, .int .i64 (el m k).2] 30) (.cells #[.int .i64 x, .int .i64 (el m k).2] 43); rw [cell_of_row _ _ 1 _ 43 (0, 0) this]; rfl
          have hlt2 : wr.heap.size + 1 < w2.heap.size := by have := hb2.size; simp at this; omega
          have HB2 := Lib.hid (HBB.out.trans (hb2.mono (by simp; omega)))
          clear hb2 HBB
          have e1 : IntKind.u64.wrap n = n := by rw [IntKind.wrap_u64]; omega
          by_cases t2 : n ≤ (el m k).2 - x
          · go_wp2_with fail
            refine (isize_any (x, (el m k).2) _ hx1 d2 t1).mono ?_
            rintro e w3 ⟨rfl, hb3⟩
            have b0' : w3.cell? ⟨wr.heap.size + 1, 0, none⟩ = some (.int .i64 x) := (hb3.cell (p := ⟨wr.heap.size + 1, 0, none⟩) hlt2).trans b0
            have HB3 := Lib.hid (HB2.out.trans (hb3.mono HB2.out.size))
            clear hb3 b0 b1
            go_wp2
            go_ret2
            refine ⟨?_, B1.out.trans (HB3.out.mono B1.out.size)⟩
            rw [(hat1 ⟨t1, t2⟩).out]
            rfl
          · go_wp2_with fail
            refine (isize_any (x, (el m k).2) _ hx1 d2 t1).mono ?_
            rintro e w3 ⟨rfl, hb3⟩
            have HB3 := Lib.hid (HB2.out.trans (hb3.mono HB2.out.size))
            clear hb3 b0 b1
            go_wp2
            go_roundw
            case rel => exact ⟨k + 1, by omega, by go_num, HB3.out, Lib.hid (fun j hj => if e : j = k then (fun hh => by subst e; rw [X.out] at hh; omega) else hN.out j (by omega))⟩
            case measure => simp [intOf]; omega
        · refine (empty_yes (x, (el m k).2) _ (by simp only; omega)).mono ?_
          rintro e w2 ⟨rfl, hb2⟩
          have HB2 := Lib.hid (HBB.out.trans (hb2.mono (by simp; omega)))
          clear hb2 HBB
          go_wp2
          go_roundw
          case rel => exact ⟨k + 1, by omega, by go_num, HB2.out, Lib.hid (fun j hj => if e : j = k then (fun hh => by subst e; rw [X.out] at hh; omega) else hN.out j (by omega))⟩
          case measure => simp [intOf]; omega
      · obtain rfl : k = m.length := by omega
        have hat := Lib.hid (eFind_none hN.out)
        go_wp2
        go_ret2
        refine ⟨?_, B1.out.trans (HB.out.mono B1.out.size)⟩
        rw [hat.out]
        rfl
end Go.Proofs.Ytamnlhlocidbkaa
