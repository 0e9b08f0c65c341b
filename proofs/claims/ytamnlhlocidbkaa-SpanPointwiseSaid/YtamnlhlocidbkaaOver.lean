/-
  The iterator of overlaps: it yields, one by one, the spans that two valid lists have in common.
-/
import Derived.RangeFuncNested
import Derived.RangeFuncBound
import Derived.RangeFuncCalls
import Derived.RangeFuncLeaves
import Derived.Shelf.Abstract
import Derived.Shelf.RegionOpen
import Derived.OwnWalkIn
import Derived.TacticsInMore
import Derived.LoopNIn
import Derived.LoopIn
import Derived.Test.YtamnlhlocidbkaaNorm
import Derived.Deep.RegionHeld3
namespace Go.Proofs.Ytamnlhlocidbkaa
open Go.RowKit Go.Shelf
open Sp (Sn Mem Val norm uni inter subt)
attribute [local go_sem] Oper.semAt_some
/-- whatever lies below n₀ is as it was, but for block B -/
structure KpB (n₀ B : Nat) (W W' : World) : Prop where
  size : W.heap.size ≤ W'.heap.size
  same : ∀ k, k < n₀ → k ≠ B → W'.heap[k]? = W.heap[k]?
theorem KpB.refl (n₀ B : Nat) (W : World) : KpB n₀ B W W := ⟨Nat.le_refl _, fun _ _ _ => rfl⟩
theorem KpB.trans {n₀ B : Nat} {X Y Z : World} (h : KpB n₀ B X Y) (k : KpB n₀ B Y Z) : KpB n₀ B X Z := ⟨Nat.le_trans h.size k.size, fun i hi hne => (k.same i hi hne).trans (h.same i hi hne)⟩
theorem KpB.of_below {n₀ B : Nat} {W W' : World} (hn : n₀ ≤ W.heap.size) (h : Below W.heap.size W W') : KpB n₀ B W W' := ⟨h.size, fun k hk _ => h.block k (by omega)⟩
def RdX (n₀ B : Nat) (w : World) (A : Option Addr) (l : List Sn) : Prop :=
  0 < l.length → ∃ g off, A = some ⟨g, off, none⟩ ∧ g < n₀ ∧ g ≠ B ∧ ∀ j, j < l.length → w.cell? ⟨g, off + j * 2, none⟩ = some (.int .i64 (el l j).1) ∧ w.cell? ⟨g, off + j * 2 + 1, none⟩ = some (.int .i64 (el l j).2)
theorem RdX.kept {n₀ B : Nat} {w w' : World} {A : Option Addr} {l : List Sn} (h : RdX n₀ B w A l) (k : KpB n₀ B w w') : RdX n₀ B w' A l := fun hl => by
  obtain ⟨g, off, e, h1, h2, hc⟩ := h hl
  refine ⟨g, off, e, h1, h2, fun j hj => ?_⟩
  rw [World.cell?_of_block (a := ⟨g, off + j * 2, none⟩) (k.same g h1 h2), World.cell?_of_block (a := ⟨g, off + j * 2 + 1, none⟩) (k.same g h1 h2)]
  exact hc j hj
theorem RdX.of_rd {B : Nat} {w : World} {A : Option Addr} {l : List Sn} (h : Rd w A l) {v : Value} (hv : w.heap[B]? = some (.cells #[v] 22 (0, 0))) : RdX w.heap.size B w A l := fun hl => by
  obtain ⟨g, off, rfl, hg, hc⟩ := h hl
  refine ⟨g, off, rfl, hg, ?_, hc⟩
  rintro rfl
  have h2 := (hc 0 hl).2
  rw [cell_of_row w g (off + 0 * 2 + 1) #[v] 22 (0, 0) hv] at h2
  simp at h2
theorem RdX.more {n₀ n₁ B : Nat} {w : World} {A : Option Addr} {l : List Sn} (h : RdX n₀ B w A l) (hn : n₀ ≤ n₁) : RdX n₁ B w A l := fun hl => by
  obtain ⟨g, off, e, h1, h2, hc⟩ := h hl
  exact ⟨g, off, e, by omega, h2, hc⟩
/-- what the iterator reads -/
structure OvW (n₀ B Ba Bb : Nat) (A1 A2 : Option Addr) (a b : List Sn) (c1 c2 : Nat) (W : World) : Prop where
  sz : n₀ ≤ W.heap.size
  la : Ba < n₀ ∧ Ba ≠ B
  lb : Bb < n₀ ∧ Bb ≠ B
  ca : W.cell? ⟨Ba, 0, none⟩ = some (.slice A1 a.length c1)
  cb : W.cell? ⟨Bb, 0, none⟩ = some (.slice A2 b.length c2)
  ra : RdX n₀ B W A1 a
  rb : RdX n₀ B W A2 b
section
variable {n₀ B Ba Bb : Nat} {A1 A2 : Option Addr} {a b : List Sn} {c1 c2 : Nat} {W W' : World}
theorem OvW.kept (h : OvW n₀ B Ba Bb A1 A2 a b c1 c2 W) (k : KpB n₀ B W W') : OvW n₀ B Ba Bb A1 A2 a b c1 c2 W' where
  sz := Nat.le_trans h.sz k.size
  la := h.la
  lb := h.lb
  ca := (World.cell?_of_block (a := ⟨Ba, 0, none⟩) (k.same Ba h.la.1 h.la.2)).trans h.ca
  cb := (World.cell?_of_block (a := ⟨Bb, 0, none⟩) (k.same Bb h.lb.1 h.lb.2)).trans h.cb
  ra := h.ra.kept k
  rb := h.rb.kept k
theorem OvW.next (h : OvW n₀ B Ba Bb A1 A2 a b c1 c2 W) (hb : Below W.heap.size W W') : OvW n₀ B Ba Bb A1 A2 a b c1 c2 W' := h.kept (KpB.of_below h.sz hb)
theorem OvW.six {g off g' off' : Nat} (h : OvW n₀ B Ba Bb (some ⟨g, off, none⟩) (some ⟨g', off', none⟩) a b c1 c2 W) {i j : Nat} (hi : i < a.length) (hj : j < b.length) :
    W.cell? ⟨Ba, 0, none⟩ = some (.slice (some ⟨g, off, none⟩) a.length c1) ∧ W.cell? ⟨Bb, 0, none⟩ = some (.slice (some ⟨g', off', none⟩) b.length c2) ∧
    W.cell? ⟨g, off + i * 2, none⟩ = some (.int .i64 (el a i).1) ∧ W.cell? ⟨g, off + i * 2 + 1, none⟩ = some (.int .i64 (el a i).2) ∧ W.cell? ⟨g', off' + j * 2, none⟩ = some (.int .i64 (el b j).1) ∧ W.cell? ⟨g', off' + j * 2 + 1, none⟩ = some (.int .i64 (el b j).2) := by
  obtain ⟨_, _, e, _, _, hc⟩ := h.ra (by omega)
  cases e
  obtain ⟨_, _, e, _, _, hd⟩ := h.rb (by omega)
  cases e
  exact ⟨h.ca, h.cb, (hc i hi).1, (hc i hi).2, (hd j hj).1, (hd j hj).2⟩
end
theorem abides_drewN {β : Type} {B : Nat} {J : β → World → Prop} (h : AbidesFrom B J) {s : β} {W : World} (hj : J s W) (n : Nat) : J s (W.drewN n) :=
  h s W _ none hj ⟨rfl, rfl, rfl, Nat.le_refl _, fun _ _ _ => rfl⟩ (fun r e => by cases e)
set_option maxRecDepth 100000 in
set_option maxHeartbeats 2000000 in
theorem over1 (n : Nat) (hn : 1 ≤ n) (l n₀ B Ba Bb : Nat) (A1 A2 : Option Addr) (a b : List Sn) (c1 c2 : Nat) (J Jx : List Sn → World → Prop) (va : Val a) (vb : Val b) (hal : a.length ≤ 100000) (hbl : b.length ≤ 100000)
    (hY : ∀ pre (x : Sn) W, J pre W → pre.length < a.length + b.length → YieldAt Fence.wide (n - 1) Try.prog l #[.agg #[.int .i64 x.1, .int .i64 x.2]] W fun e W' =>
      (e = .returned (.bool true) ∧ J (pre ++ [x]) W' ∧ KpB n₀ B W W') ∨ (e = .returned (.bool false) ∧ Jx (pre ++ [x]) W'))
    (W : World) (hO : OvW n₀ B Ba Bb A1 A2 a b c1 c2 W) (hJ : AbidesFrom W.heap.size J) (h0 : J [] W) :
    CallsIn Fence.wide n Try.prog 54 #[.func (.yield l) #[] #[], .pointer (some ⟨Ba, 0, none⟩), .pointer (some ⟨Bb, 0, none⟩)] W fun e W' => (∃ v, e = .returned v) ∧
      ((∃ ys, ys = inter a b ∧ J ys W') ∨ (∃ pre, True ∧ Jx pre W')) := by
  have VA := Lib.hid va
  have VB := Lib.hid vb
  have HY := Lib.hid hY
  have HJ := Lib.hid hJ
  have O0 := Lib.hid hO
  have J0 := Lib.hid h0
  clear va vb hY hJ hO h0
  refine callsIn_wide.2 ?_
  go_enter Try.func54, Try.ntmps54
  go_wp2
  go_loopw [4, 5] (fun u4 u5 wr => ∃ (i j : Nat) (out : List Sn), u4 = .int .i64 i ∧ u5 = .int .i64 j ∧ i ≤ a.length ∧ j ≤ b.length ∧ OvW n₀ B Ba Bb A1 A2 a b c1 c2 wr ∧ W.heap.size ≤ wr.heap.size ∧ Hid (J out wr) ∧ IntInv a b i j out) (fun u4 u5 _ => a.length + b.length - (intOf u4).toNat - (intOf u5).toNat)
  case atStart => exact ⟨0, 0, [], rfl, rfl, Nat.zero_le _, Nat.zero_le _, O0.out, Nat.le_refl _, J0, IntInv.start a b⟩
  case round =>
    obtain ⟨i, j, out, rfl, rfl, hi, hj, hOw, hWs, hJr, hI⟩ := hrel
    have HI := Lib.hid hI
    have HO := Lib.hid hOw
    clear hI
    by_cases hboth : i < a.length ∧ j < b.length
    · obtain ⟨hia, hjb⟩ := hboth
      obtain ⟨g, off, rfl, _, _, _⟩ := hOw.ra (by omega)
      obtain ⟨g', off', rfl, _, _, _⟩ := hOw.rb (by omega)
      obtain ⟨q1, q2, q3, q4, q5, q6⟩ := hOw.six hia hjb
      clear hOw
      have di : decide (i < a.length) = true := by simpa using hia
      have dj : decide (j < b.length) = true := by simpa using hjb
      have HN := Lib.hid (HI.out.step VA.out VB.out hia hjb)
      have n1 := World.new_ne wr _ q1
      have n2 := World.new_ne wr _ q2
      have n3 := World.new_ne wr _ q3
      have n4 := World.new_ne wr _ q4
      have n5 := World.new_ne wr _ q5
      have n6 := World.new_ne wr _ q6
      go_wp2
      go_upto_region 2 with fail
      go_cut [6] (fun s6 wx => s6 = .pointer (some ⟨wr.heap.size, 0, none⟩) ∧ wx = (wr.alloc (.cells #[.int .i64 (max (el a i).1 (el b j).1), .int .i64 (min (el a i).2 (el b j).2)] 30)).drew)
      case first =>
        go_region_held3 (fun W => W.cell? ⟨Ba, 0, none⟩ = some (.slice (some ⟨g, off, none⟩) a.length c1) ∧ W.cell? ⟨Bb, 0, none⟩ = some (.slice (some ⟨g', off', none⟩) b.length c2) ∧ W.cell? ⟨g, off + i * 2, none⟩ = some (.int .i64 (el a i).1) ∧ W.cell? ⟨g, off + i * 2 + 1, none⟩ = some (.int .i64 (el a i).2) ∧ W.cell? ⟨g', off' + j * 2, none⟩ = some (.int .i64 (el b j).1) ∧ W.cell? ⟨g', off' + j * 2 + 1, none⟩ = some (.int .i64 (el b j).2)) (go_keep) (fail)
        all_goals
          go_wp2_with fail
          go_meet
          exact ⟨rfl, rfl⟩
      case rest =>
        obtain ⟨rfl, rfl⟩ := hcut
        clear n1 n2 n3 n4 n5 n6 q1 q2 q3 q4 q5 q6
        have hbel : Below wr.heap.size wr (wr.alloc (.cells #[.int .i64 (max (el a i).1 (el b j).1), .int .i64 (min (el a i).2 (el b j).2)] 30)).drew := ((Below.refl _ _).alloc (Nat.le_refl _) _).drew
        have HO2 := Lib.hid (HO.out.next hbel)
        have J2 := Lib.hid (HJ.out out wr _ none hJr.out ⟨hbel.os, hbel.tape, hbel.output, hbel.size, fun k hk _ => hbel.block k hk⟩ (fun r e => by cases e))
        have hs2 := hbel.size
        clear hbel
        by_cases hx : max (el a i).1 (el b j).1 < min (el a i).2 (el b j).2
        · have hol : out.length < a.length + b.length := by have := HI.out.len; omega
          obtain ⟨fn, tmps, assign, body, hy, hR⟩ := HY.out out (max (el a i).1 (el b j).1, min (el a i).2 (el b j).2) _ J2.out hol
          dsimp only at hy
          have HR := Lib.hid hR
          clear hR
          go_upto_region 3 with fail
          refine (wpIn_wide (n := n)).1 ?_
          gi_wp2
          refine HR.out.mono ?_
          rintro e W3 (⟨rfl, hJ3, hk3⟩ | ⟨rfl, hJx3⟩)
          · have HO3 := Lib.hid (HO2.out.kept hk3)
            have J3 := Lib.hid hJ3
            have hs3 := hk3.size
            clear hJ3 hk3 hy
            obtain ⟨q1, q2, q3, q4, q5, q6⟩ := HO3.out.six hia hjb
            gi_wp2
            go_wp2
            by_cases c : (el a i).2 < (el b j).2
            · have dc : decide ((el a i).2 < (el b j).2) = true := by simpa using c
              have HN' := HN.out
              simp only [if_pos c, if_pos hx] at HN'
              have HN2 := Lib.hid HN'
              clear HN'
              go_quiet (fail)
              have HO4 := Lib.hid (HO3.out.next (below_drewN (Below.refl _ _) nq))
              have J4 := Lib.hid (abides_drewN HJ.out J3.out nq)
              go_wp2
              go_roundw
              case rel => exact ⟨i + 1, j, _, by go_num, rfl, by omega, hj, HO4.out, Nat.le_trans hWs (Nat.le_trans hs2 hs3), J4, HN2.out⟩
              case measure => simp [intOf]; omega
            · have dc : decide ((el a i).2 < (el b j).2) = false := by simpa using c
              have HN' := HN.out
              simp only [if_neg c, if_pos hx] at HN'
              have HN2 := Lib.hid HN'
              clear HN'
              go_quiet (fail)
              have HO4 := Lib.hid (HO3.out.next (below_drewN (Below.refl _ _) nq))
              have J4 := Lib.hid (abides_drewN HJ.out J3.out nq)
              go_wp2
              go_roundw
              case rel => exact ⟨i, j + 1, _, rfl, by go_num, hi, by omega, HO4.out, Nat.le_trans hWs (Nat.le_trans hs2 hs3), J4, HN2.out⟩
              case measure => simp [intOf]; omega
          · have J3 := Lib.hid hJx3
            clear hJx3 hy
            gi_wp2
            go_wp2
            refine bodyPost_ret (results_none rfl _ _ _) rfl ?_
            exact ⟨⟨_, rfl⟩, .inr ⟨_, trivial, J3.out⟩⟩
        · have dx : decide (max (el a i).1 (el b j).1 < min (el a i).2 (el b j).2) = false := by simpa using hx
          obtain ⟨q1, q2, q3, q4, q5, q6⟩ := HO2.out.six hia hjb
          have HN' := HN.out
          simp only [if_neg hx] at HN'
          have hb0 : (wr.alloc (.cells #[.int .i64 (max (el a i).1 (el b j).1), .int .i64 (min (el a i).2 (el b j).2)] 30)).drew.cell? ⟨wr.heap.size, 0, none⟩ = some (.int .i64 (max (el a i).1 (el b j).1)) := by simp
          have hb1 : (wr.alloc (.cells #[.int .i64 (max (el a i).1 (el b j).1), .int .i64 (min (el a i).2 (el b j).2)] 30)).drew.cell? ⟨wr.heap.size, 1, none⟩ = some (.int .i64 (min (el a i).2 (el b j).2)) := by simp
          generalize max (el a i).1 (el b j).1 = mx at *
          generalize min (el a i).2 (el b j).2 = mn at *
          generalize (wr.alloc (.cells #[.int .i64 mx, .int .i64 mn] 30)).drew = wz at *
          by_cases c : (el a i).2 < (el b j).2
          · have dc : decide ((el a i).2 < (el b j).2) = true := by simpa using c
            simp only [if_pos c] at HN'
            have HN2 := Lib.hid HN'
            clear HN'
            go_wp2
            go_quiet (fail)
            have HO4 := Lib.hid (HO2.out.next (below_drewN (Below.refl _ _) nq))
            have J4 := Lib.hid (abides_drewN HJ.out J2.out nq)
            go_wp2
            go_roundw
            case rel => exact ⟨i + 1, j, _, by go_num, rfl, by omega, hj, HO4.out, Nat.le_trans hWs hs2, J4, HN2.out⟩
            case measure => simp [intOf]; omega
          · have dc : decide ((el a i).2 < (el b j).2) = false := by simpa using c
            simp only [if_neg c] at HN'
            have HN2 := Lib.hid HN'
            clear HN'
            go_wp2
            go_quiet (fail)
            have HO4 := Lib.hid (HO2.out.next (below_drewN (Below.refl _ _) nq))
            have J4 := Lib.hid (abides_drewN HJ.out J2.out nq)
            go_wp2
            go_roundw
            case rel => exact ⟨i, j + 1, _, rfl, by go_num, hi, by omega, HO4.out, Nat.le_trans hWs hs2, J4, HN2.out⟩
            case measure => simp [intOf]; omega
    · have hd := Lib.hid (HI.out.done hboth)
      have q1 := hOw.ca
      have q2 := hOw.cb
      clear hOw
      by_cases hia : i < a.length
      · have hjb : ¬ j < b.length := fun h => hboth ⟨hia, h⟩
        have di : decide (i < a.length) = true := by simpa using hia
        have dj : decide (j < b.length) = false := by simpa using hjb
        clear hboth
        go_wp2
        go_end0
        exact ⟨⟨_, rfl⟩, .inl ⟨_, hd.out, hJr.out⟩⟩
      · have di : decide (i < a.length) = false := by simpa using hia
        clear hboth
        go_wp2
        go_end0
        exact ⟨⟨_, rfl⟩, .inl ⟨_, hd.out, hJr.out⟩⟩
theorem over_stops (n : Nat) (hn : 1 ≤ n) (n₀ B Ba Bb : Nat) (A1 A2 : Option Addr) (a b : List Sn) (c1 c2 : Nat) (va : Val a) (vb : Val b) (hal : a.length ≤ 100000) (hbl : b.length ≤ 100000) (w : World) (hO : OvW n₀ B Ba Bb A1 A2 a b c1 c2 w) :
    SeqStopsK Fence.wide n Try.prog 54 #[.pointer (some ⟨Ba, 0, none⟩), .pointer (some ⟨Bb, 0, none⟩)] (fun x : Sn => #[Value.agg #[.int .i64 x.1, .int .i64 x.2]]) (KpB n₀ B) (fun ys => ys = inter a b) (fun _ => True) (a.length + b.length) w :=
  fun l J Jx W hW hJ _ hY h0 => over1 n hn l n₀ B Ba Bb A1 A2 a b c1 c2 J Jx va vb hal hbl hY W (hO.next hW) hJ h0
end Go.Proofs.Ytamnlhlocidbkaa
