/-
  The contract of span.Normal: the valid list of the integers of a list.
-/
import Derived.Test.YtamnlhlocidbkaaSort
import Derived.Test.YtamnlhlocidbkaaPlainF
import Derived.RegionTactic
import Derived.IntWalk
import Derived.Deep.DeepCutAuto
namespace Go.Proofs.Ytamnlhlocidbkaa
open Go.RowKit
open Sp (Sn Mem Val norm uni inter subt)
theorem info43 : (Try.prog.info? 43).map (fun i => (i.zero, i.size, i.bytes)) = some (some (.agg #[.int .i64 0, .int .i64 0]), 2, 16) := by kernel_rfl
/-- v is a slice of intervals of the call's own that holds l -/
def OwnI (w : World) (base : Nat) (v : Value) (l : List Sn) : Prop := w.ownsRow base 43 2 v l.length (cellsOf l)
theorem OwnI.alloc {w : World} {base : Nat} {v : Value} {l : List Sn} (h : OwnI w base v l) (o : Obj) : OwnI (w.alloc o) base v l := World.ownsRow.alloc h o
theorem OwnI.row {w : World} {base g c : Nat} {l : List Sn} (h : OwnI w base (.slice (some ⟨g, 0, none⟩) l.length c) l) : Row w g l := by
  refine ⟨(World.ownsRow.lt h g rfl).2, fun j hj => ?_⟩
  obtain ⟨e1, e2⟩ := cellsOf_get l j hj
  exact ⟨⟨(World.ownsRow.cellAt h (j * 2) (by omega)).trans e1, World.ownsRow.frozenAt h _⟩, (World.ownsRow.cellAt h (j * 2 + 1) (by omega)).trans e2, World.ownsRow.frozenAt h _⟩
section
variable {w : World} {ops : Array Oper} {rest : List Oper} {o : Oper} {a : Act} {Q : Exit → Act → World → Prop}
theorem app1I (hgd : o.guard = none) (s x : Operand) (ho : o.op = .call { callee := .builtin .append, args := #[s, x], argTypes := #[41, 41] })
    (base : Nat) (v : Value) (l : List Sn) (hs : a.eval s = v) (hown : OwnI w base v l) (t : Sn) (B : Nat) (hx : a.eval x = .slice (some ⟨B, 0, none⟩) 1 1)
    (hb : w.heap[B]? = some (.cells #[.int .i64 t.1, .int .i64 t.2] 43 (0, 0))) (hl : l.length ≤ 1000000) (hbase : base ≤ w.heap.size)
    (h : ∀ g cap w', OwnI w' base (.slice (some ⟨g, 0, none⟩) (l.length + 1) cap) (l ++ [t]) → w.grownBy w' v.ownBlock → wpList Try.prog ops Q rest (a.put o.dst (.slice (some ⟨g, 0, none⟩) (l.length + 1) cap)) w') :
    wpList Try.prog ops Q (o :: rest) a w := by
  obtain ⟨i0, hi0, hz0, hz1, hz2⟩ := info_parts info43
  refine wpList_append_lies w hgd s x 41 ho base 43 i0 _ 2 16 Try.underlying41 hi0 hz0 hz1 hz2 rfl (by omega) v l.length (cellsOf l) hs hown ⟨B, 0, none⟩ 1 1 (cellsOf [t]) hx rfl (World.news_of_block hb) (cellsOf_one _) (by omega) (by unfold maxLen; omega) (by omega) hbase w.heap.size rfl ?_
  intro g cap w' ho' hg hat hlt
  rw [← cellsOf_append] at ho'
  exact h g cap w' (by unfold OwnI; rw [List.length_append]; exact ho') hg
end
theorem run_make41 (n : Nat) (hn : n ≤ 100000) : ∃ cs : Array Value, cs.size = n * 2 ∧ ∀ W : World, (Instr.makeSlice 41 (.int .i64 0) (.int .i64 (n : Int))).run Try.prog W = .ok (.slice (some ⟨W.heap.size, 0, none⟩) 0 n) (W.alloc (.cells cs 43)) := by
  obtain ⟨i0, hi0, hz0, hz1, hz2⟩ := info_parts info43
  refine ⟨madeCells (Value.agg #[.int .i64 0, .int .i64 0]).cells (n * 2), size_madeCells _ _, fun W => ?_⟩
  have hr := run_make (P := Try.prog) W 41 43 i0 _ Try.underlying41 hi0 hz0 .i64 .i64 0 n (by omega) (by omega) (by rw [hz2]; omega) (by omega)
  rw [hz1] at hr
  simp only [Int.toNat_natCast] at hr
  exact hr
theorem alloc_two (w : World) (a b : Obj) : ((w.alloc a).alloc b).heap[w.heap.size + 1]? = some b := by
  have := heap_alloc_new (w.alloc a) b
  rwa [show (w.alloc a).heap.size = w.heap.size + 1 by simp] at this
theorem alloc_two' (w : World) (a b : Obj) (n : Nat) : (((w.alloc a).drewN n).alloc b).heap[w.heap.size + 1]? = some b := by
  have := heap_alloc_new ((w.alloc a).drewN n) b
  rwa [show ((w.alloc a).drewN n).heap.size = w.heap.size + 1 by simp] at this
/-- what the second loop of Normal keeps -/
structure NrmW (w w2 : World) (g : Nat) (l' : List Sn) (v : Value) (out : List Sn) (wr : World) : Prop where
  old : Below w.heap.size w wr
  row : Row wr g l'
  lt : g < w2.heap.size
  own : Own wr w2.heap.size v out
  sz : w2.heap.size ≤ wr.heap.size
section
variable {w w2 wr wx : World} {g : Nat} {l' out : List Sn} {v : Value}
theorem NrmW.next (h : NrmW w w2 g l' v out wr) (hb : Below wr.heap.size wr wx) : NrmW w w2 g l' v out wx :=
  ⟨h.old.trans (hb.mono h.old.size), h.row.below hb, h.lt, h.own.below hb, Nat.le_trans h.sz hb.size⟩
theorem NrmW.push (h : NrmW w w2 g l' v out wr) (hw : w.heap.size ≤ w2.heap.size) {v' : Value} {out' : List Sn} (ho : Own wx w2.heap.size v' out') (hg : wr.grownBy wx v.ownBlock) : NrmW w w2 g l' v' out' wx := by
  have hne : some g ≠ v.ownBlock := fun e => by have := (h.own.lt g e.symm).1; have := h.lt; omega
  refine ⟨h.old.grown hg h.old.size (fun k hk => by have := (h.own.lt k hk).1; omega), ⟨Nat.lt_of_lt_of_le h.row.lt hg.size, fun j hj => ?_⟩, h.lt, ho, Nat.le_trans h.sz hg.size⟩
  obtain ⟨⟨a1, a2⟩, b1, b2⟩ := h.row.at_ j hj
  exact ⟨⟨(hg.cell_far ⟨g, j * 2, none⟩ h.row.lt hne).trans a1, (hg.frozen_far ⟨g, j * 2, none⟩ h.row.lt hne).trans a2⟩, (hg.cell_far ⟨g, j * 2 + 1, none⟩ h.row.lt hne).trans b1, (hg.frozen_far ⟨g, j * 2 + 1, none⟩ h.row.lt hne).trans b2⟩
end
theorem mem_flt (x : Int) (l : List Sn) : Mem x (flt l) ↔ Mem x l := by
  unfold flt Mem
  constructor
  · rintro ⟨s, hs, hx⟩; exact ⟨s, (List.mem_filter.1 hs).1, hx⟩
  · rintro ⟨s, hs, hx⟩; exact ⟨s, List.mem_filter.2 ⟨hs, by simp; omega⟩, hx⟩
theorem flt_ne (l : List Sn) : ∀ s ∈ flt l, s.1 < s.2 := fun s hs => by simpa using (List.mem_filter.1 hs).2
theorem Own.set_ {w : World} {base go n cap : Nat} {o : List Sn} (h : Own w base (.slice (some ⟨go, 0, none⟩) n cap) o) (hn : n = o.length) {j : Nat} (b : Int) :
    Own (w.setCell ⟨go, j * 2 + 1, none⟩ (.int .i64 b)) base (.slice (some ⟨go, 0, none⟩) n cap) (o.set j ((el o j).1, b)) ∧ w.grownBy (w.setCell ⟨go, j * 2 + 1, none⟩ (.int .i64 b)) (some go) := by
  subst hn
  have := World.ownsRow.stored h (j * 2 + 1) (.int .i64 b)
  rw [cellsOf_set] at this
  unfold Own
  rw [List.length_set]
  exact this
set_option maxRecDepth 100000 in
set_option maxHeartbeats 2000000 in
theorem normal_any (A : Option Addr) (l : List Sn) (c : Nat) (w : World) (hR : Rd w A l) (hl : l.length ≤ 100000) :
    Calls Try.prog 14 #[.slice A l.length c] w (RetS w (norm l)) := by
  have R := Lib.hid hR
  clear hR
  obtain ⟨cs, hcs, hmk⟩ := run_make41 l.length hl
  have CS := Lib.hid hcs
  clear hcs
  go_enter Try.func14, Try.ntmps14
  go_wp2
  clear hmk
  go_loopw [3, 15] (fun u3 u15 wr => ∃ k g cap : Nat, k ≤ l.length ∧ u15 = .int .i64 k ∧ u3 = .slice (some ⟨g, 0, none⟩) k cap ∧ OwnI wr w.heap.size (.slice (some ⟨g, 0, none⟩) k cap) (l.take k) ∧ Below w.heap.size w wr) (fun _ u15 _ => l.length - (intOf u15).toNat)
  case atStart => exact ⟨0, w.heap.size, l.length, Nat.zero_le _, rfl, rfl, ⟨rfl, .inr ⟨w.heap.size, l.length, cs, rfl, Nat.le_refl _, heap_alloc_new w _, Nat.zero_le _, by unfold maxLen; omega, CS.out, rfl⟩⟩, (Below.refl _ _).alloc (Nat.le_refl _) _⟩
  case round =>
    obtain ⟨k, g, cap, hk, rfl, rfl, hO, hB⟩ := hrel
    have HO := Lib.hid hO
    have HB := Lib.hid hB
    have hz := hB.size
    clear hO hB
    by_cases hlt : k < l.length
    · obtain ⟨g0, off, rfl, hg, c1, c2⟩ := (R.out.below HB.out).at_ hlt
      have hts := Lib.hid (take_snoc hlt)
      have htl : (l.take k).length = k := by simp; omega
      have TL := Lib.hid htl
      have htl2 : (l.take k).length ≤ 1000000 := by omega
      clear htl
      go_wp2_with (at_builtin; (refine app1I rfl (.tmp 19) (.tmp 22) rfl w.heap.size (.slice (some ⟨g, 0, none⟩) k cap) (l.take k) rfl ((HO.out.alloc _).alloc _) (el l k) (wr.heap.size + 1) rfl (alloc_two _ _ _) htl2 (by simp; omega) ?_); intro g' cap' wx ho hgr)
      rw [← hts.out] at ho
      rw [TL.out] at ho
      have HO' := Lib.hid ho
      have HB' := Lib.hid ((((HB.out.alloc HB.out.size _).alloc (Nat.le_trans HB.out.size (by simp)) _)).grown hgr (Nat.le_trans HB.out.size (by simp; omega)) (fun j hj => by have := (World.ownsRow.lt HO.out j hj).1; exact this))
      clear ho hgr
      go_roundw
      case rel => exact ⟨k + 1, g', cap', by omega, by go_num, rfl, HO'.out, HB'.out⟩
      case measure => simp [intOf]; omega
    · obtain rfl : k = l.length := by omega
      have hO2 : OwnI wr w.heap.size (.slice (some ⟨g, 0, none⟩) l.length cap) l := by have := HO.out; rwa [List.take_length] at this
      have hgw := (World.ownsRow.lt hO2 g rfl).1
      have hcap : l.length ≤ cap ∧ cap ≤ 9223372036854775807 := by
        rcases hO2.2 with ⟨h1, _⟩ | ⟨g', cap', cur, h1, _, _, h2, h3, _⟩
        · simp at h1
        · injection h1 with _ _ h1
          subst h1
          unfold maxLen at h3
          exact ⟨h2, h3⟩
      have RW := Lib.hid hO2.row
      clear hO2 HO
      go_wp2_with fail
      refine (delete_any g cap l _ RW.out hl hcap.1 hcap.2).mono ?_
      rintro e w1 ⟨rfl, hr1, hg1⟩
      have hfl := flt_len l
      have hmem := Lib.hid (fun x => mem_flt x l)
      have hne := Lib.hid (flt_ne l)
      generalize flt l = f at *
      have RW1 := Lib.hid hr1
      have B1 := Lib.hid (HB.out.grown hg1 HB.out.size (fun j hj => by injection hj with hj; omega))
      clear hr1 hg1 RW HB
      go_wp2_with fail
      refine (sort_any g cap f _ RW1.out (by omega)).mono ?_
      rintro e w2 ⟨rfl, l', hp, hs, hr2, hg2⟩
      have hlen : f.length = l'.length := hp.length_eq.symm
      have B2 := Lib.hid (B1.out.grown hg2 B1.out.size (fun j hj => by injection hj with hj; omega))
      have RW2 := Lib.hid hr2
      have hgl := hr2.lt
      have hmem2 : Hid (∀ x, Mem x l' ↔ Mem x l) := fun x => (mem_perm hp x).trans (hmem.out x)
      have hne2 : Hid (∀ j, j < l'.length → (el l' j).1 < (el l' j).2) := fun j hj => hne.out _ (hp.mem_iff.1 (el_mem hj))
      have HS := Lib.hid hs
      rw [hlen] at hfl ⊢
      clear hp hs hr2 hg2 B1 RW1 hmem hne hlen
      have hw2 := B2.out.size
      go_wp2
      go_loopw [6, 31] (fun u6 u31 wr => ∃ (k : Nat) (out : List Sn), k ≤ l'.length ∧ u31 = .int .i64 k ∧ NrmW w w2 g l' u6 out wr ∧ NrmInv (l'.take k) out) (fun _ u31 _ => l'.length - (intOf u31).toNat)
      case atStart => exact ⟨0, [], Nat.zero_le _, rfl, ⟨B2.out, RW2.out, hgl, Own.nil _ _, Nat.le_refl _⟩, NrmInv.start⟩
      case round =>
        obtain ⟨k, out, hk, rfl, hN, hI⟩ := hrel
        have HN := Lib.hid hN
        have HI := Lib.hid hI
        have hol : out.length ≤ k := by have := hI.len; simp at this; omega
        have hzr := hN.sz
        clear hN hI
        by_cases hlt : k < l'.length
        · obtain ⟨⟨q1, _⟩, q2, _⟩ := HN.out.row.at_ k hlt
          have hgr := HN.out.row.lt
          have hv := hne2.out k hlt
          have hts := Lib.hid (take_snoc hlt)
          have hso := Lib.hid (sorted_le HS.out hlt)
          have HN1 := Lib.hid (HN.out.next ((Below.refl _ _).alloc (Nat.le_refl _) (.cells #[.int .i64 (el l' k).1, .int .i64 (el l' k).2] 43)))
          by_cases ho : 0 < out.length
          · obtain ⟨go, cap', rfl, _, hglt⟩ := World.ownsRow.form HN.out.own ho
            have e1 : IntKind.i64.wrap ((out.length : Int) - 1) = (out.length : Int) - 1 := IntWalk.i64_in _ (by omega)
            have e2 : ((out.length : Int) - 1).toNat = out.length - 1 := by omega
            have e3 : (0 : Int) ≤ (out.length : Int) - 1 := by omega
            have e4 : (out.length : Int) - 1 < (out.length : Int) := by omega
            have e5 : (1 : Int) ≤ (out.length : Int) := by omega
            have d0 : decide (0 < out.length) = true := by simpa using ho
            have o1 : wr.cell? ⟨go, (out.length - 1) * 2 + 1, none⟩ = some (.int .i64 (el out (out.length - 1)).2) := (World.ownsRow.cellAt HN.out.own ((out.length - 1) * 2 + 1) (by omega)).trans (cellsOf_get out (out.length - 1) (by omega)).2
            by_cases cc : (el l' k).1 ≤ (el out (out.length - 1)).2
            · have dc : decide ((el l' k).1 ≤ (el out (out.length - 1)).2) = true := by simpa using cc
              go_wp2
              go_quiet (fail)
              have HN2 := Lib.hid (HN1.out.next (below_drewN (Below.refl _ _) nq))
              have bx1 : ((wr.alloc (.cells #[.int .i64 (el l' k).1, .int .i64 (el l' k).2] 43)).drewN nq).cell? ⟨wr.heap.size, 1, none⟩ = some (.int .i64 (el l' k).2) := by simp
              obtain ⟨sb, hsb⟩ : ∃ sb, sb = wr.heap.size := ⟨_, rfl⟩
              rw [← hsb] at bx1 ⊢
              generalize (wr.alloc (.cells #[.int .i64 (el l' k).1, .int .i64 (el l' k).2] 43)).drewN nq = wq at *
              clear hsb q1 q2 hgr o1 dc HN1 HN hglt hzr
              have o1 : wq.cell? ⟨go, (out.length - 1) * 2 + 1, none⟩ = some (.int .i64 (el out (out.length - 1)).2) := (World.ownsRow.cellAt HN2.out.own ((out.length - 1) * 2 + 1) (by omega)).trans (cellsOf_get out (out.length - 1) (by omega)).2
              have f1 : wq.frozen? ⟨go, (out.length - 1) * 2 + 1, none⟩ = false := World.ownsRow.frozenAt HN2.out.own _
              have hst := HN2.out.own.set_ rfl (j := out.length - 1) (max (el out (out.length - 1)).2 (el l' k).2)
              have HN3 := Lib.hid ((HN2.out.push hw2 hst.1 hst.2).next (below_drewN (Below.refl _ _) 1))
              have hI2 := Lib.hid (HI.out.widen ho hv hso.out cc (m := max (el out (out.length - 1)).2 (el l' k).2) rfl)
              clear hst
              go_wp2
              go_region
              clear e1 e2 e3 e4 e5
              go_wp2
              go_roundw
              case rel => exact ⟨k + 1, _, by omega, by go_num, HN3.out, by rw [hts.out]; exact hI2.out⟩
              case measure => simp [intOf]; omega
            · have dc : decide ((el l' k).1 ≤ (el out (out.length - 1)).2) = false := by simpa using cc
              have hI2 := Lib.hid (HI.out.pushed ho hv cc)
              go_wp2
              go_quiet (fail)
              clear e1 e2 e3 e4 e5
              have HN2 := Lib.hid (HN1.out.next (below_drewN (Below.refl _ _) nq))
              go_wp2_with (at_builtin; refine app1 rfl (.tmp 66) (.tmp 69) rfl w2.heap.size _ out rfl (HN2.out.own.alloc _) (el l' k) (wr.heap.size + 1) rfl (alloc_two' _ _ _ _) (by omega) (by simp; omega) (wr.heap.size + 2) (by simp) ?_; intro g' cp wx ho' hgr' hat hlt')
              have HN3 := Lib.hid ((HN2.out.next ((Below.refl _ _).alloc (Nat.le_refl _) (.cells #[.int .i64 (el l' k).1, .int .i64 (el l' k).2] 30))).push hw2 ho' hgr')
              clear ho' hgr' hat hlt'
              go_roundw
              case rel => exact ⟨k + 1, _, by omega, by go_num, HN3.out, by rw [hts.out]; exact hI2.out⟩
              case measure => simp [intOf]; omega
          · obtain rfl : out = [] := List.eq_nil_of_length_eq_zero (by omega)
            obtain ⟨Ao, co, rfl, hco, hcm, hro⟩ := HN.out.own.rd
            have hI2 := Lib.hid (HI.out.first hv)
            go_wp2
            go_quiet (fail)
            have HN2 := Lib.hid (HN1.out.next (below_drewN (Below.refl _ _) nq))
            go_wp2_with (at_builtin; refine app1 rfl (.tmp 66) (.tmp 69) rfl w2.heap.size _ [] rfl (HN2.out.own.alloc _) (el l' k) (wr.heap.size + 1) rfl (alloc_two' _ _ _ _) (by simp) (by simp; omega) (wr.heap.size + 2) (by simp) ?_; intro g' cp wx ho' hgr' hat hlt')
            have HN3 := Lib.hid ((HN2.out.next ((Below.refl _ _).alloc (Nat.le_refl _) (.cells #[.int .i64 (el l' k).1, .int .i64 (el l' k).2] 30))).push hw2 ho' hgr')
            clear ho' hgr' hat hlt'
            go_roundw
            case rel => exact ⟨k + 1, _, by omega, by go_num, HN3.out, by rw [hts.out]; exact hI2.out⟩
            case measure => simp [intOf]; omega
        · obtain rfl : k = l'.length := by omega
          have hI' := HI.out
          rw [List.take_length] at hI'
          have hfin := Lib.hid (hI'.fin hmem2.out)
          clear hI'
          go_wp2
          go_ret
          have hr := HN.out.own.ret HN.out.old
          rw [hfin.out] at hr
          exact hr
end Go.Proofs.Ytamnlhlocidbkaa
