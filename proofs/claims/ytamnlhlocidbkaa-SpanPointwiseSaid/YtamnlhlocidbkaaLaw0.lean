/-
  The contracts of the laws' helpers spans and small.
-/
import Derived.Test.YtamnlhlocidbkaaOwn
import Derived.Deep.RegionHeld3
import Derived.Deep.RegionLaw
import Derived.IntWalk
namespace Go.Proofs.Ytamnlhlocidbkaa
open Go.RowKit
open Sp (Sn Mem Val norm uni inter subt)
section
variable {w : World} {ops : Array Oper} {o : Oper} {a : Act} {K : Act → World → Prop} {Q : Exit → Act → World → Prop} {E : Prop}
theorem stepApp1 (hgd : o.guard = none) (s x : Operand) (ho : o.op = .call { callee := .builtin .append, args := #[s, x], argTypes := #[22, 22] })
    (base : Nat) (v : Value) (l : List Sn) (hs : a.eval s = v) (hown : Own w base v l) (t : Sn) (B : Nat) (hx : a.eval x = .slice (some ⟨B, 0, none⟩) 1 1)
    (hb : w.heap[B]? = some (.cells #[.int .i64 t.1, .int .i64 t.2] 30 (0, 0))) (hl : l.length ≤ 1000000) (hbase : base ≤ w.heap.size)
    (h : ∀ g cap w', Own w' base (.slice (some ⟨g, 0, none⟩) (l.length + 1) cap) (l ++ [t]) → w.grownBy w' v.ownBlock → K (a.put o.dst (.slice (some ⟨g, 0, none⟩) (l.length + 1) cap)) w') :
    if Region.wanted o (yielded ops a.tmps) = true then Oper.wp Try.prog o a w K Q else E := by
  obtain ⟨i0, hi0, hz0, hz1, hz2⟩ := info_parts info30
  refine step_append_lies w hgd s x 22 ho base 30 i0 _ 2 16 Try.underlying22 hi0 hz0 hz1 hz2 rfl (by omega) v l.length (cellsOf l) hs hown ⟨B, 0, none⟩ 1 1 (cellsOf [t]) hx rfl (World.news_of_block hb) (cellsOf_one _) (by omega) (by unfold maxLen; omega) (by omega) hbase w.heap.size rfl ?_
  intro g cap w' ho' hg hat hlt
  rw [← cellsOf_append] at ho'
  exact h g cap w' (by unfold Own; rw [List.length_append]; exact ho') hg
end
/-- numbers, two by two -/
def prs (zs : List Int) (k : Nat) : List Sn := (List.range k).map fun j => (zs.getD (2 * j) 0, zs.getD (2 * j + 1) 0)
theorem prs_succ (zs : List Int) (k : Nat) : prs zs (k + 1) = prs zs k ++ [(zs.getD (2 * k) 0, zs.getD (2 * k + 1) 0)] := by simp [prs, List.range_succ]
theorem prs_len (zs : List Int) (k : Nat) : (prs zs k).length = k := by simp [prs]
set_option maxRecDepth 100000 in
set_option maxHeartbeats 1000000 in
theorem spans_any (g c : Nat) (zs : List Int) (w : World) (hg : g < w.heap.size) (hc : ∀ j, j < zs.length → w.cell? ⟨g, j, none⟩ = some (.int .i64 (zs.getD j 0))) (hl : zs.length ≤ 1000) :
    Calls Try.prog 35 #[.slice (some ⟨g, 0, none⟩) zs.length c] w (RetS w (prs zs (zs.length / 2))) := by
  have HC := Lib.hid hc
  clear hc
  go_enter Try.func35, Try.ntmps35
  go_wp2
  go_loopw [3, 4] (fun u3 u4 wr => ∃ k : Nat, 2 * k ≤ zs.length ∧ u4 = .int .i64 ((2 * k : Nat) : Int) ∧ Own wr w.heap.size u3 (prs zs k) ∧ Below w.heap.size w wr) (fun _ u4 _ => zs.length - (intOf u4).toNat)
  case atStart => exact ⟨0, by omega, rfl, Own.nil _ _, Below.refl _ _⟩
  case round =>
    obtain ⟨k, hk, rfl, hO, hB⟩ := hrel
    have HO := Lib.hid hO
    have HB := Lib.hid hB
    have hzz := hB.size
    have hpl := prs_len zs k
    have hpl2 : (prs zs k).length ≤ 1000000 := by omega
    have HPS := Lib.hid (prs_succ zs k)
    clear hO hB hpl
    by_cases hlt : 2 * k + 1 < zs.length
    · have cw1 := HC.out (2 * k) (by omega)
      have cw2 := HC.out (2 * k + 1) hlt
      generalize zs.getD (2 * k) 0 = z0 at *
      generalize zs.getD (2 * k + 1) 0 = z1 at *
      have TC : ∀ W, Below w.heap.size w W → W.cell? ⟨g, 2 * k, none⟩ = some (.int .i64 z0) ∧ W.cell? ⟨g, 2 * k + 1, none⟩ = some (.int .i64 z1) := fun W hb => ⟨(hb.cell (p := ⟨g, 2 * k, none⟩) hg).trans cw1, (hb.cell (p := ⟨g, 2 * k + 1, none⟩) hg).trans cw2⟩
      have HT := Lib.hid TC
      clear cw1 cw2 TC
      go_wp2
      have hAcc := HB.out.drew
      have e1 : IntKind.i64.wrap (2 * (k : Int) + 1) = 2 * (k : Int) + 1 := IntWalk.i64_in _ (by omega)
      have e2 : (2 * (k : Int) + 1).toNat = 2 * k + 1 := by omega
      have e3 : (2 * (k : Int)).toNat = 2 * k := by omega
      have e4 : (0 : Int) ≤ 2 * (k : Int) := by omega
      have e5 : (0 : Int) ≤ 2 * (k : Int) + 1 := by omega
      have e6 : 2 * (k : Int) + 1 < (zs.length : Int) := by omega
      have e7 : 2 * (k : Int) < (zs.length : Int) := by omega
      go_region_held3 (fun W => W.cell? ⟨g, 2 * k, none⟩ = some (.int .i64 z0) ∧ W.cell? ⟨g, 2 * k + 1, none⟩ = some (.int .i64 z1)) (first | exact HT.out _ hAcc | exact HT.out _ (hAcc.alloc hzz _))
        ((refine stepApp1 (by rfl) _ _ (by rfl) w.heap.size u3 (prs zs k) (by rfl) ((HO.out.drewN 1).alloc _) (z0, z1) wr.heap.size (by rfl) (heap_alloc_new _ _) hpl2 (by simp; omega) ?_; intro g' cap' wx ho hgrow; replace hAcc : Below w.heap.size w wx := (hAcc.alloc hzz _).grown hgrow (Nat.le_trans hzz (by simp)) (fun j hj => (HO.out.lt j hj).1)))
      clear e1 e2 e3 e4 e5 e6 e7
      have HO2 := Lib.hid ho
      rw [← HPS.out] at HO2
      have HA := Lib.hid hAcc
      clear ho hgrow hAcc
      go_wp2
      go_roundw
      case rel => exact ⟨k + 1, by omega, by go_num, HO2.out, HA.out⟩
      case measure => simp [intOf]; omega
    · have hkk : zs.length / 2 = k := by omega
      have HK := Lib.hid hkk
      clear hkk
      go_wp2
      go_ret
      rw [HK.out]
      exact HO.out.ret HB.out
def smV (s : Sn) : Sn := (s.1.tmod 40 + min 0 (s.1.tmod 3), s.2.tmod 40)
def sm (l : List Sn) (k : Nat) : List Sn := (List.range k).map fun j => smV (el l j)
theorem sm_succ (l : List Sn) (k : Nat) : sm l (k + 1) = sm l k ++ [smV (el l k)] := by simp [sm, List.range_succ]
theorem sm_len (l : List Sn) (k : Nat) : (sm l k).length = k := by simp [sm]
theorem tmod_bd (a : Int) (n : Int) (hn : 0 < n) : -n < a.tmod n ∧ a.tmod n < n := by
  rcases Int.lt_or_le a 0 with h | h
  · have h1 : a.tmod n = -((-a).tmod n) := by rw [Int.neg_tmod]; omega
    rw [h1, Int.tmod_eq_emod_of_nonneg (by omega)]
    have := Int.emod_nonneg (-a) (by omega : n ≠ 0)
    have := Int.emod_lt_of_pos (-a) hn
    omega
  · rw [Int.tmod_eq_emod_of_nonneg h]
    have := Int.emod_nonneg a (by omega : n ≠ 0)
    have := Int.emod_lt_of_pos a hn
    omega
set_option maxRecDepth 100000 in
set_option maxHeartbeats 1000000 in
theorem small_any (A : Option Addr) (l : List Sn) (c : Nat) (w : World) (hR : Rd w A l) (hl : l.length ≤ 9223372036854775807) :
    Calls Try.prog 34 #[.slice A l.length c] w (RetS w (sm l (min l.length 12))) := by
  have R := Lib.hid hR
  clear hR
  go_enter Try.func34, Try.ntmps34
  go_wp2
  go_loopw [3, 4] (fun u3 u4 wr => ∃ k : Nat, k ≤ l.length ∧ k ≤ 12 ∧ u4 = .int .i64 k ∧ Own wr w.heap.size u3 (sm l k) ∧ Below w.heap.size w wr) (fun _ u4 _ => 12 - (intOf u4).toNat)
  case atStart => exact ⟨0, by omega, by omega, rfl, Own.nil _ _, Below.refl _ _⟩
  case round =>
    obtain ⟨k, hk, hk2, rfl, hO, hB⟩ := hrel
    have HO := Lib.hid hO
    have HB := Lib.hid hB
    have hzz := hB.size
    have hpl := sm_len l k
    have hpl2 : (sm l k).length ≤ 1000000 := by omega
    have HPS := Lib.hid (sm_succ l k)
    clear hO hB hpl
    by_cases hlt : k < l.length ∧ k < 12
    · obtain ⟨h1, h2⟩ := hlt
      obtain ⟨g, off, rfl, hg, cw1, cw2⟩ := R.out.at_ h1
      have TC : ∀ W, Below w.heap.size w W → W.cell? ⟨g, off + k * 2, none⟩ = some (.int .i64 (el l k).1) ∧ W.cell? ⟨g, off + k * 2 + 1, none⟩ = some (.int .i64 (el l k).2) := fun W hb => ⟨(hb.cell (p := ⟨g, off + k * 2, none⟩) hg).trans cw1, (hb.cell (p := ⟨g, off + k * 2 + 1, none⟩) hg).trans cw2⟩
      have HT := Lib.hid TC
      clear cw1 cw2 TC
      have b1 := tmod_bd (el l k).1 40 (by omega)
      have b2 := tmod_bd (el l k).1 3 (by omega)
      have b3 := tmod_bd (el l k).2 40 (by omega)
      go_wp2
      have hAcc := HB.out.drew
      have dk : decide ((k : Int) < 12) = true := by simp; omega
      obtain ⟨x, hx⟩ : ∃ x, (if (el l k).1.tmod 3 < 0 then (el l k).1.tmod 3 else 0) = x := ⟨_, rfl⟩
      have hx2 : min 0 ((el l k).1.tmod 3) = x := by rw [← hx]; split <;> omega
      have hx3 : -3 < x ∧ x ≤ 0 := by rw [← hx2]; omega
      have HX := Lib.hid (show smV (el l k) = ((el l k).1.tmod 40 + x, (el l k).2.tmod 40) by unfold smV; rw [hx2])
      have e1 : IntKind.i64.wrap ((el l k).1.tmod 40 + x) = (el l k).1.tmod 40 + x := IntWalk.i64_in _ (by omega)
      go_region_held3 (fun W => W.cell? ⟨g, off + k * 2, none⟩ = some (.int .i64 (el l k).1) ∧ W.cell? ⟨g, off + k * 2 + 1, none⟩ = some (.int .i64 (el l k).2)) (first | exact HT.out _ hAcc | exact HT.out _ (hAcc.alloc hzz _))
        ((refine stepApp1 (by rfl) _ _ (by rfl) w.heap.size u3 (sm l k) (by rfl) ((HO.out.drewN 1).alloc _) ((el l k).1.tmod 40 + x, (el l k).2.tmod 40) wr.heap.size (by rfl) (heap_alloc_new _ _) hpl2 (by simp; omega) ?_; intro g' cap' wx ho hgrow; replace hAcc : Below w.heap.size w wx := (hAcc.alloc hzz _).grown hgrow (Nat.le_trans hzz (by simp)) (fun j hj => (HO.out.lt j hj).1)))
      rw [← HX.out, ← HPS.out] at ho
      have HO2 := Lib.hid ho
      have HA := Lib.hid hAcc
      clear ho hgrow hAcc hx hx2 e1
      go_wp2
      go_roundw
      case rel => exact ⟨k + 1, by omega, by omega, by go_num, HO2.out, HA.out⟩
      case measure => simp [intOf]; omega
    · have hkk : min l.length 12 = k := by omega
      have HK := Lib.hid hkk
      clear hkk
      by_cases h1 : k < l.length
      · have h2 : ¬ k < 12 := fun h2 => hlt ⟨h1, h2⟩
        clear hlt
        go_wp2
        go_ret
        rw [HK.out]
        exact HO.out.ret HB.out
      · clear hlt
        go_wp2
        go_ret
        rw [HK.out]
        exact HO.out.ret HB.out
end Go.Proofs.Ytamnlhlocidbkaa
