/-
  The contract of the reference's add: a valid list with a further span.
-/
import Derived.Test.YtamnlhlocidbkaaOwn
import Derived.Test.YtamnlhlocidbkaaPlainC
import Derived.RegionTactic
import Derived.Deep.RegionLaw
import Derived.IntWalk
import Derived.Outline
import Derived.Deep.DeepCutAuto
namespace Go.Proofs.Ytamnlhlocidbkaa
open Go.RowKit
open Sp (Sn Mem Val norm uni inter subt)
structure AddR (w : World) (v5 v6 : Value) (bl al : List Sn) (t : Sn) (wr : World) : Prop where
  old : Below w.heap.size w wr
  size : w.heap.size + 1 ≤ wr.heap.size
  b0 : wr.cell? ⟨w.heap.size, 0, none⟩ = some (.int .i64 t.1)
  b1 : wr.cell? ⟨w.heap.size, 1, none⟩ = some (.int .i64 t.2)
  fz : ∀ o, wr.frozen? ⟨w.heap.size, o, none⟩ = false
  o5 : Own wr (w.heap.size + 1) v5 bl
  o6 : Own wr (w.heap.size + 1) v6 al
  dis : ∀ g, v5.ownBlock = some g → v6.ownBlock ≠ some g
  nil : al = [] → v6 = .slice none 0 0
section
variable {w wr wx : World} {v5 v6 : Value} {bl al : List Sn} {t : Sn}
theorem AddR.start (w : World) (s : Sn) : AddR w (.slice none 0 0) (.slice none 0 0) [] [] s (w.alloc (.cells #[.int .i64 s.1, .int .i64 s.2] 30)) where
  old := (Below.refl _ _).alloc (Nat.le_refl _) _
  size := by simp
  b0 := by simp
  b1 := by simp
  fz := fun o => by simp
  o5 := Own.nil _ _
  o6 := Own.nil _ _
  dis := fun g h => by simp [Value.ownBlock] at h
  nil := fun _ => rfl
theorem AddR.next (h : AddR w v5 v6 bl al t wr) (hb : Below wr.heap.size wr wx) : AddR w v5 v6 bl al t wx where
  old := h.old.trans (hb.mono h.old.size)
  size := Nat.le_trans h.size hb.size
  b0 := (hb.cell (p := ⟨w.heap.size, 0, none⟩) (by have := h.size; show w.heap.size < _; omega)).trans h.b0
  b1 := (hb.cell (p := ⟨w.heap.size, 1, none⟩) (by have := h.size; show w.heap.size < _; omega)).trans h.b1
  fz := fun o => (hb.frozen (p := ⟨w.heap.size, o, none⟩) (by have := h.size; show w.heap.size < _; omega)).trans (h.fz o)
  o5 := h.o5.below hb
  o6 := h.o6.below hb
  dis := h.dis
  nil := h.nil
/-- one more before -/
theorem AddR.push5 (h : AddR w v5 v6 bl al t wr) {g cap n : Nat} {bl' : List Sn} (ho : Own wx (w.heap.size + 1) (.slice (some ⟨g, 0, none⟩) n cap) bl') (hg : wr.grownBy wx v5.ownBlock) {H : Nat} (hat : v5.ownBlock = some g ∨ g = H) (hH : wr.heap.size ≤ H) :
    AddR w (.slice (some ⟨g, 0, none⟩) n cap) v6 bl' al t wx where
  old := h.old.grown hg h.old.size (fun k hk => by have := (h.o5.lt k hk).1; omega)
  size := Nat.le_trans h.size hg.size
  b0 := (hg.cell_far ⟨w.heap.size, 0, none⟩ (by have := h.size; show w.heap.size < _; omega) (fun e => absurd (h.o5.lt _ e.symm).1 (Nat.not_succ_le_self w.heap.size))).trans h.b0
  b1 := (hg.cell_far ⟨w.heap.size, 1, none⟩ (by have := h.size; show w.heap.size < _; omega) (fun e => absurd (h.o5.lt _ e.symm).1 (Nat.not_succ_le_self w.heap.size))).trans h.b1
  fz := fun o => (hg.frozen_far ⟨w.heap.size, o, none⟩ (by have := h.size; show w.heap.size < _; omega) (fun e => absurd (h.o5.lt _ e.symm).1 (Nat.not_succ_le_self w.heap.size))).trans (h.fz o)
  o5 := ho
  o6 := h.o6.kept hg (by
    cases e : v6.ownBlock with
    | none => exact .inl rfl
    | some k => exact .inr fun e' => h.dis k e'.symm e)
  dis := fun k hk e => by
    obtain rfl : g = k := by simpa [Value.ownBlock] using hk
    rcases hat with hat | hat
    · exact h.dis g hat e
    · have := (h.o6.lt g e).2; omega
  nil := h.nil
/-- one more behind -/
theorem AddR.push6 (h : AddR w v5 v6 bl al t wr) {g cap n : Nat} {al' : List Sn} (ho : Own wx (w.heap.size + 1) (.slice (some ⟨g, 0, none⟩) n cap) al') (hg : wr.grownBy wx v6.ownBlock) {H : Nat} (hat : v6.ownBlock = some g ∨ g = H) (hH : wr.heap.size ≤ H) (hne : al' ≠ []) :
    AddR w v5 (.slice (some ⟨g, 0, none⟩) n cap) bl al' t wx where
  old := h.old.grown hg h.old.size (fun k hk => by have := (h.o6.lt k hk).1; omega)
  size := Nat.le_trans h.size hg.size
  b0 := (hg.cell_far ⟨w.heap.size, 0, none⟩ (by have := h.size; show w.heap.size < _; omega) (fun e => absurd (h.o6.lt _ e.symm).1 (Nat.not_succ_le_self w.heap.size))).trans h.b0
  b1 := (hg.cell_far ⟨w.heap.size, 1, none⟩ (by have := h.size; show w.heap.size < _; omega) (fun e => absurd (h.o6.lt _ e.symm).1 (Nat.not_succ_le_self w.heap.size))).trans h.b1
  fz := fun o => (hg.frozen_far ⟨w.heap.size, o, none⟩ (by have := h.size; show w.heap.size < _; omega) (fun e => absurd (h.o6.lt _ e.symm).1 (Nat.not_succ_le_self w.heap.size))).trans (h.fz o)
  o5 := h.o5.kept hg (by
    cases e : v5.ownBlock with
    | none => exact .inl rfl
    | some k => exact .inr fun e' => h.dis k e e'.symm)
  o6 := ho
  dis := fun k hk e => by
    obtain rfl : g = k := by simpa [Value.ownBlock] using e
    rcases hat with hat | hat
    · exact h.dis g hk hat
    · have := (h.o5.lt g hk).2; omega
  nil := fun e => absurd e hne
theorem AddR.store0 (h : AddR w v5 v6 bl al t wr) (x : Int) : AddR w v5 v6 bl al (x, t.2) (wr.setCell ⟨w.heap.size, 0, none⟩ (.int .i64 x)) where
  old := h.old.setCell (p := ⟨w.heap.size, 0, none⟩) (Nat.le_refl _) _
  size := by simpa using h.size
  b0 := World.cell?_setCell_same _ _ _ h.b0
  b1 := (World.cell?_setCell_other wr ⟨w.heap.size, 0, none⟩ ⟨w.heap.size, 1, none⟩ _ (by simp)).trans h.b1
  fz := fun o => by simpa using h.fz o
  o5 := h.o5.far (fun e => absurd (h.o5.lt _ e).1 (Nat.not_succ_le_self w.heap.size)) _
  o6 := h.o6.far (fun e => absurd (h.o6.lt _ e).1 (Nat.not_succ_le_self w.heap.size)) _
  dis := h.dis
  nil := h.nil
theorem AddR.store1 (h : AddR w v5 v6 bl al t wr) (x : Int) : AddR w v5 v6 bl al (t.1, x) (wr.setCell ⟨w.heap.size, 1, none⟩ (.int .i64 x)) where
  old := h.old.setCell (p := ⟨w.heap.size, 1, none⟩) (Nat.le_refl _) _
  size := by simpa using h.size
  b0 := (World.cell?_setCell_other wr ⟨w.heap.size, 1, none⟩ ⟨w.heap.size, 0, none⟩ _ (by simp)).trans h.b0
  b1 := World.cell?_setCell_same _ _ _ h.b1
  fz := fun o => by simpa using h.fz o
  o5 := h.o5.far (fun e => absurd (h.o5.lt _ e).1 (Nat.not_succ_le_self w.heap.size)) _
  o6 := h.o6.far (fun e => absurd (h.o6.lt _ e).1 (Nat.not_succ_le_self w.heap.size)) _
  dis := h.dis
  nil := h.nil
end
theorem own_cells {w : World} {base g off n c : Nat} {l : List Sn} (h : Own w base (.slice (some ⟨g, off, none⟩) n c) l) (hl : 0 < l.length) :
    ∀ j, j < l.length → w.cell? ⟨g, off + j * 2, none⟩ = some (.int .i64 (el l j).1) ∧ w.cell? ⟨g, off + j * 2 + 1, none⟩ = some (.int .i64 (el l j).2) := by
  obtain ⟨A, c', e, _, _, hr⟩ := h.rd
  injection e with e1
  obtain ⟨g', off', e', _, hc⟩ := hr hl
  rw [e'] at e1
  injection e1 with e1
  injection e1 with e2 e3
  subst e2 e3
  exact hc
theorem below_self_drewN (w : World) (n : Nat) : Below w.heap.size w (w.drewN n) := below_drewN (Below.refl _ _) n
set_option maxHeartbeats 1000000 in
theorem radd_any (A : Option Addr) (l : List Sn) (c : Nat) (s : Sn) (w : World) (hR : Rd w A l) (hv : Val l) (hl : l.length ≤ 100000) (hc : l.length ≤ c) :
    Calls Try.prog 40 #[.slice A l.length c, .agg #[.int .i64 s.1, .int .i64 s.2]] w (RetS w (addS l s)) := by
  have R := Lib.hid hR
  have V := Lib.hid hv
  by_cases hs : s.1 < s.2
  · clear hR hv
    go_enter Try.func40, Try.ntmps40
    go_wp2
    go_loopw [5, 6, 7] (fun u5 u6 i wr => ∃ (k : Nat) (bl al : List Sn) (t : Sn), k ≤ l.length ∧ i = .int .i64 k ∧ AddR w u5 u6 bl al t wr ∧ AddInv s (l.take k) bl al t) (fun _ _ i _ => l.length - (intOf i).toNat)
    case atStart => exact ⟨0, [], [], s, Nat.zero_le _, rfl, AddR.start w s, AddInv.start hs⟩
    case round =>
      obtain ⟨k, bl, al, t, hk, rfl, hA, hI⟩ := hrel
      have lb : bl.length + al.length ≤ k := by have := hI.lb; simp at this; omega
      have HA := Lib.hid hA
      have HI := Lib.hid hI
      have b0 := hA.b0
      have b1 := hA.b1
      have fz := hA.fz
      have hz := hA.size
      clear hA hI
      by_cases hlt : k < l.length
      · obtain ⟨g, off, rfl, hg, c1, c2⟩ := (R.out.below HA.out.old).at_ hlt
        have hv1 : Hid (Val (l.take k ++ [el l k])) := by rw [← take_snoc hlt]; exact val_take _ V.out
        have hts := Lib.hid (take_snoc hlt)
        by_cases t1 : (el l k).2 < t.1
        · have d1 : decide ((el l k).2 < t.1) = true := by simpa using t1
          go_wp2
          go_quiet (fail)
          have HB := Lib.hid (HA.out.next (below_drewN (Below.refl _ _) nq))
          go_wp2_with (at_builtin; (refine app1 rfl _ _ rfl (w.heap.size + 1) u5 bl rfl (HB.out.o5.alloc _) (el l k) wr.heap.size rfl (heap_alloc_new _ _) (by omega) (by simp; omega) (wr.heap.size + 1) (by simp) ?_); intro g' cap' wx ho hgr hat hlt')
          have HC := Lib.hid ((HB.out.next ((Below.refl _ _).alloc (Nat.le_refl _) (.cells #[.int .i64 (el l k).1, .int .i64 (el l k).2] 30))).push5 ho hgr hat (by simp))
          clear ho hgr hat hlt'
          go_roundw
          case rel => exact ⟨k + 1, _, _, _, by omega, by go_num, HC.out, by rw [hts.out]; exact HI.out.before hv1.out t1⟩
          case measure => simp [intOf]; omega
        · have d1 : decide ((el l k).2 < t.1) = false := by simpa using t1
          by_cases t2 : t.2 < (el l k).1
          · have d2 : decide (t.2 < (el l k).1) = true := by simpa using t2
            go_wp2
            go_quiet (fail)
            have HB := Lib.hid (HA.out.next (below_drewN (Below.refl _ _) nq))
            generalize wr.drewN nq = wq at *
            clear c1 c2 b0 b1 fz hz hg
            obtain ⟨_, _, he, hg, c1, c2⟩ := (R.out.below HB.out.old).at_ hlt
            cases he
            have b0 := HB.out.b0
            have b1 := HB.out.b1
            have hz := HB.out.size
            go_wp2
            go_quiet (fail)
            have HB2 := Lib.hid (HB.out.next (below_drewN (Below.refl _ _) nq))
            go_wp2_with (at_builtin; refine app1 rfl _ _ rfl (w.heap.size + 1) u6 al rfl (HB2.out.o6.alloc _) (el l k) wq.heap.size rfl (heap_alloc_new _ _) (by omega) (by simp; omega) (wq.heap.size + 1) (by simp) ?_; intro g' cap' wx ho hgr hat hlt')
            have HC := Lib.hid ((HB2.out.next ((Below.refl _ _).alloc (Nat.le_refl _) (.cells #[.int .i64 (el l k).1, .int .i64 (el l k).2] 30))).push6 ho hgr hat (by simp) (by simp))
            clear ho hgr hat hlt'
            go_roundw
            case rel => exact ⟨k + 1, _, _, _, by omega, by go_num, HC.out, by rw [hts.out]; exact HI.out.after hv1.out t2⟩
            case measure => simp [intOf]; omega
          · have d2 : decide (t.2 < (el l k).1) = false := by simpa using t2
            go_wp2
            go_quiet (fail)
            have HB := Lib.hid (HA.out.next (below_drewN (Below.refl _ _) nq))
            generalize wr.drewN nq = wq at *
            clear c1 c2 b0 b1 fz hz hg
            obtain ⟨_, _, he, hg, c1, c2⟩ := (R.out.below HB.out.old).at_ hlt
            cases he
            have b0 := HB.out.b0
            have b1 := HB.out.b1
            have hz := HB.out.size
            go_wp2
            go_quiet (fail)
            have HB2 := Lib.hid (HB.out.next (below_drewN (Below.refl _ _) nq))
            generalize wq.drewN nq = wq2 at *
            clear c1 c2 b0 b1 hz hg HB
            obtain ⟨_, _, he, hg, c1, c2⟩ := (R.out.below HB2.out.old).at_ hlt
            cases he
            have b0 := HB2.out.b0
            have b1 := HB2.out.b1
            have fz := HB2.out.fz
            have hz := HB2.out.size
            go_upto_region 12 with fail
            go_cut [] (fun wx => AddR w u5 u6 bl al (min t.1 (el l k).1, t.2) wx)
            case first =>
              by_cases q : (el l k).1 < t.1
              all_goals
                go_region
                go_wp2_with fail
                go_meet
                first
                  | (rw [show min t.1 (el l k).1 = (el l k).1 by omega]; exact (HB2.out.store0 _).next (below_drewN (Below.refl _ _) 1))
                  | (rw [show min t.1 (el l k).1 = t.1 by omega]; exact (HB2.out.store0 _).next (below_drewN (Below.refl _ _) 1))
            case rest =>
              have HB3 := Lib.hid hcut
              clear hcut c1 c2 b0 b1 hz hg HB2 fz
              obtain ⟨_, _, he, hg, c1, c2⟩ := (R.out.below HB3.out.old).at_ hlt
              cases he
              have b0 := HB3.out.b0
              have b1 := HB3.out.b1
              have fz := HB3.out.fz
              have hz := HB3.out.size
              generalize hm0 : min t.1 (el l k).1 = m0 at *
              have M0 := Lib.hid hm0
              clear hm0
              go_wp2
              by_cases q : t.2 < (el l k).2
              · have HQ := Lib.hid (show max t.2 (el l k).2 = (el l k).2 by omega)
                go_region
                have HB4 := Lib.hid ((HB3.out.store1 (el l k).2).next (below_drewN (Below.refl _ _) 1))
                clear c1 c2 b0 b1 hz hg HB3 fz
                go_wp2
                go_roundw
                case rel => exact ⟨k + 1, bl, al, (m0, max t.2 (el l k).2), by omega, by go_num, by rw [HQ.out]; exact HB4.out, by rw [hts.out, ← M0.out]; exact HI.out.join hv1.out (by omega) (by omega)⟩
                case measure => simp [intOf]; omega
              · have HQ := Lib.hid (show max t.2 (el l k).2 = t.2 by omega)
                go_region
                have HB4 := Lib.hid ((HB3.out.store1 t.2).next (below_drewN (Below.refl _ _) 1))
                clear c1 c2 b0 b1 hz hg HB3 fz
                go_wp2
                go_roundw
                case rel => exact ⟨k + 1, bl, al, (m0, max t.2 (el l k).2), by omega, by go_num, by rw [HQ.out]; exact HB4.out, by rw [hts.out, ← M0.out]; exact HI.out.join hv1.out (by omega) (by omega)⟩
                case measure => simp [intOf]; omega
      · obtain rfl : k = l.length := by omega
        have hdone : Hid (bl ++ t :: al = addS l s) := by have := HI.out.done; rwa [List.take_length] at this
        have hlen : bl.length + 1 + al.length ≤ l.length + 1 := by omega
        clear HI
        by_cases hal : al = []
        · have hu6 := HA.out.nil hal
          subst hal
          obtain rfl := hu6
          go_wp2_with (first
            | (at_builtin; refine app1 rfl (.tmp 68) (.tmp 70) rfl (w.heap.size + 1) u5 bl rfl (HA.out.o5.alloc _) t wr.heap.size rfl (heap_alloc_new _ _) (by omega) (by simp; omega) (wr.heap.size + 1) (by simp) ?_; intro g' cap' wx ho hgr hat hlt'; have HO := Lib.hid ho; clear ho)
            | (at_builtin; refine app0 rfl (.tmp 71) (.tmp 72) rfl (w.heap.size + 1) _ (bl ++ [t]) rfl HO.out rfl ?_))
          go_ret
          have HC := (HA.out.next ((Below.refl _ _).alloc (Nat.le_refl _) (.cells #[.int .i64 t.1, .int .i64 t.2] 30))).push5 HO.out hgr hat (by simp)
          have hr := HO.out.ret HC.old
          rw [hdone.out] at hr
          exact hr
        · have hpos : 0 < al.length := List.length_pos_iff.2 hal
          obtain ⟨A6, c6, rfl, hc6, _, hr6⟩ := HA.out.o6.rd
          obtain ⟨g6, o6, rfl, hg6, hcs6⟩ := hr6 hpos
          go_wp2_with (first
            | (at_builtin; refine app1 rfl (.tmp 68) (.tmp 70) rfl (w.heap.size + 1) u5 bl rfl (HA.out.o5.alloc _) t wr.heap.size rfl (heap_alloc_new _ _) (by omega) (by simp; omega) (wr.heap.size + 1) (by simp) ?_; intro g' cap' wx ho hgr hat hlt'; have HC := Lib.hid ((HA.out.next ((Below.refl _ _).alloc (Nat.le_refl _) (.cells #[.int .i64 t.1, .int .i64 t.2] 30))).push5 ho hgr hat (by simp)); clear ho hgr hat hlt')
            | (at_builtin; (refine appN rfl (.tmp 71) (.tmp 72) rfl (w.heap.size + 1) _ (bl ++ [t]) rfl HC.out.o5 al g6 o6 c6 rfl (own_cells HC.out.o6 hpos) hpos (by simp; omega) (Nat.le_trans (by omega) HC.out.size) wx.heap.size rfl ?_); intro g2 cap2 wy ho2 hgr2 hat2 hlt2))
          go_ret
          have hr := ho2.ret (HC.out.old.grown hgr2 HC.out.old.size (fun k hk => by have := (HC.out.o5.lt k hk).1; omega))
          rw [List.append_assoc, show [t] ++ al = t :: al from rfl, hdone.out] at hr
          simp only [List.length_append, List.length_singleton] at hr
          exact hr
  · go_enter Try.func40, Try.ntmps40
    go_wp2
    go_ret
    rw [addS_no hv (by omega)]
    exact ⟨A, c, rfl, hc, hR.alloc _, (Below.refl _ _).alloc (Nat.le_refl _) _⟩
end Go.Proofs.Ytamnlhlocidbkaa
