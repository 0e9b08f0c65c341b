/-
  The contract of span.Intersect.
-/
import Derived.Test.YtamnlhlocidbkaaOver
import Derived.Maps.AppendAt
namespace Go.Proofs.Ytamnlhlocidbkaa
open Go.RowKit Go.Shelf
open Sp (Sn Mem Val norm uni inter subt)
attribute [local go_sem] Oper.semAt_some
theorem overlaps_any (A1 A2 : Option Addr) (n m c1 c2 : Nat) (w : World) : Calls Try.prog 45 #[.slice A1 n c1, .slice A2 m c2] w fun e w' =>
    e = .returned (.func (.func 54) #[] #[.pointer (some ⟨w.heap.size, 0, none⟩), .pointer (some ⟨w.heap.size + 1, 0, none⟩)]) ∧ (w.alloc (.cells #[.slice A1 n c1] 22)).alloc (.cells #[.slice A2 m c2] 22) = w' := by
  go_enter Try.func45, Try.ntmps45
  go_wp2
  go_ret
  exact ⟨rfl, rfl⟩
theorem ovw_start {wK : World} {Bx c1 c2 : Nat} {A1 A2 : Option Addr} {a h : List Sn} {v : Value} (hlt : Bx < wK.heap.size) (hv : wK.heap[Bx]? = some (.cells #[v] 22 (0, 0))) (h1 : Rd wK A1 a) (h2 : Rd wK A2 h) :
    OvW (wK.heap.size + 2) Bx wK.heap.size (wK.heap.size + 1) A1 A2 a h c1 c2 ((wK.alloc (.cells #[.slice A1 a.length c1] 22)).alloc (.cells #[.slice A2 h.length c2] 22)) := by
  have hb : Below wK.heap.size wK ((wK.alloc (.cells #[.slice A1 a.length c1] 22)).alloc (.cells #[.slice A2 h.length c2] 22)) := ((Below.refl _ _).alloc (Nat.le_refl _) _).alloc (by simp) _
  have hv' := (hb.block Bx hlt).trans hv
  have e1 := RdX.of_rd (h1.below hb) hv'
  have e2 := RdX.of_rd (h2.below hb) hv'
  rw [show ((wK.alloc (.cells #[.slice A1 a.length c1] 22)).alloc (.cells #[.slice A2 h.length c2] 22)).heap.size = wK.heap.size + 2 by simp] at e1 e2
  refine ⟨by simp, ⟨by omega, by omega⟩, ⟨by omega, by omega⟩, by simp [World.cell?_alloc_past], ?_, e1, e2⟩
  have := alloc_two wK (.cells #[.slice A1 a.length c1] 22) (.cells #[.slice A2 h.length c2] 22)
  rw [cell_of_row _ _ 0 _ 22 (0, 0) this]
  rfl
theorem own_grown {n₀ B : Nat} (w : World) (hn : w.heap.size = n₀) : _root_.Go.OwnFrom n₀ (fun (_ : List Sn) W => w.grownBy W (some B)) := fun _ X Y row hs hg hr =>
  ⟨hg.os.trans hs.os, hg.tape.trans hs.tape, hg.output.trans hs.output, Nat.le_trans hs.size hg.size, fun k hk hne => (hg.block k (Nat.lt_of_lt_of_le hk hs.size) (fun e => by have := (hr k e.symm).1; omega)).trans (hs.block k hk hne)⟩
theorem kp_put {n₀ B : Nat} (W : World) (l : Nat) (o' : Obj) (hl : n₀ ≤ l) : KpB n₀ B W (W.putObj l o') :=
  ⟨(grownBy_putObj' W l o').size, fun k hk _ => World.putObj_heap_other (fun e => by omega)⟩
theorem kp_grown {n₀ B : Nat} {W W' : World} (hn : n₀ ≤ W.heap.size) {row : Option Nat} (hg : W.grownBy W' row) (hr : ∀ k, row = some k → n₀ ≤ k ∨ k = B) : KpB n₀ B W W' :=
  ⟨hg.size, fun k hk hne => hg.block k (by omega) (fun e => by rcases hr k e.symm with h | h <;> omega)⟩
theorem ownsRow_base {W : World} {b b' : Nat} {e : TypeId} {size n : Nat} {v : Value} {xs : List Value} (h : W.ownsRow b e size v n xs) (hb : b' ≤ b) : W.ownsRow b' e size v n xs := by
  refine ⟨h.1, ?_⟩
  rcases h.2 with h | ⟨g, cap, cur, h1, h2, r⟩
  · exact .inl h
  · exact .inr ⟨g, cap, cur, h1, by omega, r⟩
/-- what the loop of Intersect has laid -/
def IntI (wZ : World) (Bx : Nat) (pre : List Sn) (W : World) : Prop := (∃ v, Boxed W Bx 22 v ∧ W.ownsRow wZ.heap.size 30 2 v pre.length (cellsOf pre) ∧ True) ∧ wZ.grownBy W (some Bx)
theorem intI_own (wZ : World) (Bx : Nat) : _root_.Go.OwnFrom wZ.heap.size (IntI wZ Bx) :=
  _root_.Go.OwnFrom.and (_root_.Go.Own.from (holdsRow_own wZ.heap.size Bx 22 30 2 (fun pre : List Sn => pre.length) cellsOf (fun _ _ => True)) _) (own_grown wZ rfl)
/-- the frame of a round: the span lies in a block of its own -/
def IntA (wZ : World) (fr : Sn → Nat → Act) (x : Sn) (a' : Act) (W : World) : Prop := ∃ Bb, wZ.heap.size ≤ Bb ∧ W.heap[Bb]? = some (.cells #[.int .i64 x.1, .int .i64 x.2] 30 (0, 0)) ∧ a' = fr x Bb
theorem intA_own (wZ : World) (fr : Sn → Nat → Act) (x : Sn) (a' : Act) : _root_.Go.OwnFrom wZ.heap.size (fun (_ : Unit) W => IntA wZ fr x a' W) := by
  rintro _ X Y row ⟨Bb, h1, h2, h3⟩ hg hr
  refine ⟨Bb, h1, (hg.block Bb (Array.getElem?_eq_some_iff.1 h2).1 (fun e => ?_)).trans h2, h3⟩
  obtain ⟨o, ho, hc⟩ := (hr Bb e.symm).2
  rw [h2] at ho
  cases ho
  cases hc
set_option maxRecDepth 100000 in
set_option maxHeartbeats 2000000 in
theorem intersect_any (A B : Option Addr) (l m : List Sn) (c d : Nat) (w : World) (hR : Rd w A l) (hS : Rd w B m) (hl : l.length ≤ 40000) (hm : m.length ≤ 40000) :
    Calls Try.prog 24 #[.slice A l.length c, .slice B m.length d] w (RetS w (inter l m)) := by
  have R := Lib.hid hR
  have S := Lib.hid hS
  clear hR hS
  obtain ⟨a, ha⟩ : ∃ a, norm l = a := ⟨_, rfl⟩
  obtain ⟨h, hh⟩ : ∃ h, norm m = h := ⟨_, rfl⟩
  have hal : a.length ≤ 40000 := by rw [← ha]; exact Nat.le_trans (Sp.norm_len _) hl
  have hhl : h.length ≤ 40000 := by rw [← hh]; exact Nat.le_trans (Sp.norm_len _) hm
  have Va : Hid (Val a) := by rw [← ha]; exact Sp.norm_val _
  have Vh : Hid (Val h) := by rw [← hh]; exact Sp.norm_val _
  have hsub : inter l m = inter a h := by rw [← ha, ← hh]; exact (inter_norm l m).symm
  rw [hsub]
  have HA := Lib.hid ha
  have HH := Lib.hid hh
  clear ha hh hsub
  refine (callsIn_wide (n := 5)).1 ?_
  refine callsIn_of_wp_marks Try.func24 rfl trivial ?_ rfl
  simp only [Try.ntmps24, List.size_toArray, List.length_cons, List.length_nil, Nat.reduceAdd, Nat.reduceSub, Array.replicate_succ, Array.replicate_zero, List.push_toArray, List.append_toArray, List.nil_append, List.cons_append]
  refine wpIn_wide.2 ?_
  go_wp2_with fail
  refine (normal_any A l c _ (R.out.alloc _) (by omega)).mono ?_
  rintro e w1 ⟨A1, c1, rfl, hc1, hA1, hb1⟩
  rw [HA.out] at hA1 hc1 ⊢
  have R1 := Lib.hid hA1
  have B1 := Lib.hid hb1
  clear hA1 hb1
  go_wp2_with fail
  refine (normal_any B m d _ ((S.out.alloc _).below B1.out) (by omega)).mono ?_
  rintro e wK ⟨A2, c2, rfl, hc2, hA2, hb2⟩
  rw [HH.out] at hA2 hc2 ⊢
  have R2 := Lib.hid hA2
  have R1' := Lib.hid (R1.out.below hb2)
  have BK := Lib.hid (B1.out.trans (hb2.mono B1.out.size))
  clear hA2 hb2 R1 B1
  have hBlt : w.heap.size < wK.heap.size := by have := BK.out.size; simp at this; omega
  have hblk : Hid (wK.heap[w.heap.size]? = some (.cells #[.slice none 0 0] 22 (0, 0))) := (BK.out.block w.heap.size (by simp)).trans (heap_alloc_new w _)
  go_wp2_with fail
  refine (overlaps_any A1 A2 a.length h.length c1 c2 _).mono ?_
  rintro e wZ ⟨rfl, hwZ⟩
  have hO := ovw_start (c1 := c1) (c2 := c2) hBlt hblk.out R1'.out R2.out
  have hbZ : Below wK.heap.size wK wZ := by rw [← hwZ]; exact ((Below.refl _ _).alloc (Nat.le_refl _) _).alloc (by simp) _
  have hsZ : wZ.heap.size = wK.heap.size + 2 := by rw [← hwZ]; simp
  rw [hwZ, ← hsZ] at hO
  have HO := Lib.hid hO
  have hbx : Hid (Boxed wZ w.heap.size 22 (.slice none 0 0)) := (hbZ.block w.heap.size hBlt).trans hblk.out
  have HBZ := Lib.hid (((Below.refl w.heap.size w).alloc (Nat.le_refl _) (.cells #[.slice none 0 0] 22)).trans ((BK.out.trans (hbZ.mono BK.out.size)).mono (by simp)))
  have hBZ : w.heap.size < wZ.heap.size := by omega
  have HSZ := Lib.hid hsZ
  clear hwZ hO hbZ hblk BK R1' R2 hsZ
  obtain ⟨ba, hba⟩ : ∃ ba, wK.heap.size = ba := ⟨_, rfl⟩
  rw [hba] at HO HSZ ⊢
  clear hba hBlt
  obtain ⟨Bx, hBx⟩ : ∃ b, w.heap.size = b := ⟨_, rfl⟩
  have HBX := Lib.hid hBx
  rw [hBx] at HO hbx hBZ ⊢
  clear hBx
  go_wp2
  refine (wpIn_wide (n := 5)).1 ?_
  refine wpIn_rangeFunc_ownH rfl (by omega) (gf := 54) (lb := #[.pointer (some ⟨ba, 0, none⟩), .pointer (some ⟨ba + 1, 0, none⟩)]) rfl trivial (enters_of Try.func54 (by kernel_rfl) rfl)
    (over_stops 4 (by omega) wZ.heap.size Bx ba (ba + 1) A1 A2 a h c1 c2 Va.out Vh.out (by omega) (by omega) wZ HO.out) KpB.trans (fun W l o o' hl _ _ _ => kp_put W l o' hl) (Below.refl _ _) (fun _ => rfl)
    (IntI wZ Bx) (fun _ _ _ => False) (intI_own wZ Bx) (fun _ _ _ _ _ hs _ _ => hs) ⟨⟨_, hbx.out, World.ownsRow_nil _ _ _ _, trivial⟩, World.grownBy.refl _ _⟩
    (IntA wZ (fun x Bb => { tmps := #[.slice A l.length c, .slice B m.length d, undef, undef, .slice none 0 0, .pointer (some ⟨Bx, 0, none⟩), .pointer (some ⟨Bb, 0, none⟩), .slice A l.length c, .slice A1 a.length c1, .slice B m.length d, .slice A2 h.length c2, .func (.func 54) #[] #[.pointer (some ⟨ba, 0, none⟩), .pointer (some ⟨ba + 1, 0, none⟩)], .agg #[.int .i64 x.1, .int .i64 x.2], undef, undef, undef, undef, undef], defers := [] })) (fun x a' => intA_own wZ _ x a') ?assign ?body ?done ?stop
  case assign =>
    rintro lp pre x W K hi hK
    have hsz : wZ.heap.size ≤ W.heap.size := hi.2.size
    gi_wp2
    refine hK _ _ ((KeepsOthers.alloc _ _).from _) (KpB.of_below hsz ((Below.refl _ W).alloc (Nat.le_refl _) _)) (_root_.Go.OwnFrom.alloc (intI_own wZ Bx) _ hi) ⟨W.heap.size, hsz, heap_alloc_new W _, rfl⟩
  case body =>
    rintro lp pre x a' W hlp ⟨r, hr⟩ ⟨⟨v, hv, hrow, _⟩, hG⟩ ⟨Bb, hBb, hX, rfl⟩ hlt
    obtain ⟨i0, hi0, hz0, hz1, hz2⟩ := info_parts info30
    have hc := hv.cell
    have x0 : W.cell? ⟨Bb, 0, none⟩ = some (.int .i64 x.1) := by rw [cell_of_row W Bb 0 _ 30 (0, 0) hX]; rfl
    have x1 : W.cell? ⟨Bb, 1, none⟩ = some (.int .i64 x.2) := by rw [cell_of_row W Bb 1 _ 30 (0, 0) hX]; rfl
    have hsz : wZ.heap.size ≤ W.heap.size := hG.size
    have HV := Lib.hid hv
    have HROW := Lib.hid hrow
    have HG := Lib.hid hG
    have I0 := Lib.hid (And.intro hi0 (And.intro hz0 (And.intro hz1 hz2)))
    have hple : pre.length ≤ 1000000 := by omega
    clear hv hrow hG hr hX hi0 hz0 hz1 hz2 HO
    gi_wp2_with (gi_at_builtin; refine wpListIn_append_own _ rfl (.tmp 13) (.tmp 15) 22 rfl wZ.heap.size 30 i0 _ 2 16 Try.underlying22 I0.out.1 I0.out.2.1 I0.out.2.2.1 I0.out.2.2.2 rfl (by omega) v pre.length (cellsOf pre) rfl (HROW.out.alloc _) ⟨W.heap.size, 0, none⟩ 1 1 (cellsOf [x]) rfl rfl (World.news_of_block (heap_alloc_new _ _)) (cellsOf_one _) (by unfold maxLen; omega) (by omega) (by simp; omega) ?_; intro v' w1 hown' hgrow _; obtain ⟨g', cap', rfl⟩ := ownsRow_succ hown'; obtain ⟨hv1, hv2, _, hk2, _⟩ := HV.out.appended (by decide) (ownsRow_base HROW.out (show Bx ≤ wZ.heap.size by omega)) (by omega) (Nat.le_refl _) (ownsRow_base hown' (show Bx ≤ wZ.heap.size by omega)) hgrow; have hc1 := hv1.cell; have hf1 := hv1.frozen; have HW := Lib.hid hown'; have HGR := Lib.hid hgrow; have HV1 := Lib.hid hv1; have HV2 := Lib.hid hv2; have HK2 := Lib.hid hk2; clear hown' hgrow hv1 hv2 hk2)
    have hrb : ∀ k, v.ownBlock = some k → wZ.heap.size ≤ k := fun k hk => (World.ownsRow.lt HROW.out k hk).1
    have hr2 := HW.out.kept (grownBy_setCell' w1 Bx (.slice (some ⟨g', 0, none⟩) (pre.length + 1) cap')) (.inr (HV1.out.not_row (by decide) HW.out).symm)
    rw [← cellsOf_append] at hr2
    refine ⟨HK2.out.from _, ?_, ⟨_, HV2.out, by rw [List.length_append]; exact hr2, trivial⟩, ?_⟩
    · exact ((KpB.of_below hsz ((Below.refl _ W).alloc (Nat.le_refl _) _)).trans (kp_grown (by simp; omega) HGR.out (fun k hk => .inl (hrb k hk)))).trans (kp_grown (Nat.le_trans hsz (Nat.le_trans (by simp) HGR.out.size)) (grownBy_setCell' w1 Bx _) (fun k hk => .inr (by injection hk with hk; exact hk.symm)))
    · refine only_setCell (g := Bx) ?_ 0 _
      refine ⟨HGR.out.os.trans HG.out.os, HGR.out.tape.trans HG.out.tape, HGR.out.output.trans HG.out.output, Nat.le_trans hsz (Nat.le_trans (by simp) HGR.out.size), fun i hi hne => ?_⟩
      rw [HGR.out.block i (by simp; omega) (fun e => by have := hrb i e.symm; omega)]
      exact (Below.heap_alloc W _ i (by omega)).trans (HG.out.block i hi hne)
  case done =>
    rintro D ys W hD rfl ⟨⟨v, hv, hrow, _⟩, hG⟩ hK
    have hc := hv.cell
    have HROW := Lib.hid hrow
    have HG := Lib.hid hG
    have HKD := Lib.hid hK
    clear hv hrow hG hK
    gi_wp2
    go_wp2
    refine ⟨by simp, .inl ⟨_, _, rfl, run_takeDeferred HKD.out, ?_⟩⟩
    have hown : Own (W.putObj D (.deferred none)) wZ.heap.size v (inter a h) := ownsRow_putObj HROW.out _ HKD.out rfl
    have hB : Below w.heap.size w W := HBZ.out.grown HG.out (by rw [HBX.out]; omega) (fun k hk => by rw [HBX.out]; injection hk with hk; omega)
    refine ⟨_, results_tmp (t := 4) rfl _ _ _, ?_⟩
    exact hown.ret (hB.trans (belowK_b (w := w) (Nat.le_refl _) W D _ _ (by rw [HBX.out]; omega) HKD.out rfl rfl))
  case stop =>
    rintro D c pre W _ _ h _
    exact h.elim
end Go.Proofs.Ytamnlhlocidbkaa
