/-
  The contract of span.Subtract.
-/
import Derived.Test.YtamnlhlocidbkaaNorm
import Derived.Test.YtamnlhlocidbkaaPlainE
import Derived.OneCell
import Derived.Deep.DeepCutAuto
import Derived.WalkMore
import Derived.Deep.LoopGhost
namespace Go.Proofs.Ytamnlhlocidbkaa
open Go.RowKit
open Sp (Sn Mem Val norm uni inter subt)
/-- block B is a captured variable that holds a slice of the call's own, the spans o; what was there is as it was -/
structure CapW (wK : World) (B : Nat) (o : List Sn) (wr : World) : Prop where
  lt : B < wK.heap.size
  gr : wK.grownBy wr (some B)
  var : ∃ v, wr.heap[B]? = some (.cells #[v] 22 (0, 0)) ∧ Own wr wK.heap.size v o
section
variable {wK wr wx : World} {B : Nat} {o : List Sn}
theorem CapW.start (hlt : B < wK.heap.size) (h : wK.heap[B]? = some (.cells #[.slice none 0 0] 22 (0, 0))) : CapW wK B [] wK := ⟨hlt, World.grownBy.refl _ _, _, h, Own.nil _ _⟩
theorem CapW.next (h : CapW wK B o wr) (hb : Below wr.heap.size wr wx) : CapW wK B o wx := by
  obtain ⟨v, h1, h2⟩ := h.var
  exact ⟨h.lt, only_below h.gr hb, v, (hb.block B (Nat.lt_of_lt_of_le h.lt h.gr.size)).trans h1, h2.below hb⟩
/-- a slice that was read before is read still -/
theorem CapW.rd (h : CapW wK B o wr) (hK : ∃ v, wK.heap[B]? = some (.cells #[v] 22 (0, 0))) {A : Option Addr} {l : List Sn} (hr : Rd wK A l) : Rd wr A l := fun hl => by
  obtain ⟨g, off, rfl, hg, hc⟩ := hr hl
  obtain ⟨v, hv⟩ := hK
  have hne : g ≠ B := by
    rintro rfl
    have h2 := (hc 0 hl).2
    rw [cell_of_row wK g (off + 0 * 2 + 1) #[v] 22 (0, 0) hv] at h2
    simp at h2
  have hkeep : ∀ p, wr.cell? ⟨g, p, none⟩ = wK.cell? ⟨g, p, none⟩ := fun p => h.gr.cell_far ⟨g, p, none⟩ hg (fun e => hne (by injection e))
  exact ⟨g, off, rfl, Nat.lt_of_lt_of_le hg h.gr.size, fun j hj => by rw [hkeep, hkeep]; exact hc j hj⟩
theorem CapW.kept (h : CapW wK B o wr) {v : Value} (h1 : wr.heap[B]? = some (.cells #[v] 22 (0, 0))) (h2 : Own wr wK.heap.size v o) {ob : Obj} (hg : (wr.alloc ob).grownBy wx v.ownBlock) : wx.heap[B]? = some (.cells #[v] 22 (0, 0)) := by
  have hB : B < wr.heap.size := Nat.lt_of_lt_of_le h.lt h.gr.size
  rw [hg.block B (by simp; omega) (fun e => by have := (h2.lt B e.symm).1; have := h.lt; omega)]
  exact (Below.heap_alloc wr ob B hB).trans h1
theorem CapW.put (h : CapW wK B o wr) {v v' : Value} {o' : List Sn} (h1 : wr.heap[B]? = some (.cells #[v] 22 (0, 0))) (h2 : Own wr wK.heap.size v o) {ob : Obj} (hg : (wr.alloc ob).grownBy wx v.ownBlock) (ho : Own wx wK.heap.size v' o') :
    CapW wK B o' (wx.setCell ⟨B, 0, none⟩ v') := by
  have hB := h.kept h1 h2 hg
  refine ⟨h.lt, ?_, v', one_setCell hB, ho.far (fun e => by have := (ho.lt _ e).1; have := h.lt; simp at *; omega) _⟩
  refine only_setCell (g := B) ?_ 0 v'
  have hs := h.gr.size
  refine ⟨hg.os.trans h.gr.os, hg.tape.trans h.gr.tape, hg.output.trans h.gr.output, Nat.le_trans hs (Nat.le_trans (by simp) hg.size), fun i hi hne => ?_⟩
  rw [hg.block i (by simp; omega) (fun e => by have := (h2.lt i e.symm).1; omega)]
  exact (Below.heap_alloc wr ob i (by omega)).trans (h.gr.block i hi hne)
end
/-- block p, not the variable's nor its row's -/
structure Box (B p : Nat) (X : Obj) (wr : World) : Prop where
  at_ : wr.heap[p]? = some X
  ne : p ≠ B
  dis : ∀ v, wr.heap[B]? = some (.cells #[v] 22 (0, 0)) → v.ownBlock ≠ some p
theorem Box.next {B p : Nat} {X : Obj} {wr wx : World} (h : Box B p X wr) (hB : B < wr.heap.size) (hb : Below wr.heap.size wr wx) : Box B p X wx :=
  ⟨(hb.block p (lt_of_block h.at_)).trans h.at_, h.ne, fun v hv => h.dis v ((hb.block B hB).symm.trans hv)⟩
theorem Box.new {wK wr : World} {B : Nat} {o : List Sn} (h : CapW wK B o wr) (X : Obj) : Box B wr.heap.size X (wr.alloc X) := by
  obtain ⟨v, h1, h2⟩ := h.var
  have hB : B < wr.heap.size := Nat.lt_of_lt_of_le h.lt h.gr.size
  refine ⟨heap_alloc_new wr X, by omega, fun v' hv' e => ?_⟩
  rw [Below.heap_alloc wr X B hB, h1] at hv'
  have hvv : v = v' := by simpa using hv'
  subst hvv
  have := (h2.lt _ e).2
  omega
theorem Box.put {wK wr wx : World} {B p : Nat} {X : Obj} {o : List Sn} (q : Box B p X wr) (h : CapW wK B o wr) {v : Value} (h1 : wr.heap[B]? = some (.cells #[v] 22 (0, 0))) (h2 : Own wr wK.heap.size v o) {ob : Obj} (hg : (wr.alloc ob).grownBy wx v.ownBlock)
    {g n cap H : Nat} (hat : v.ownBlock = some g ∨ g = H) (hH : wr.heap.size ≤ H) : Box B p X (wx.setCell ⟨B, 0, none⟩ (.slice (some ⟨g, 0, none⟩) n cap)) := by
  have hp : p < wr.heap.size := lt_of_block q.at_
  have hB := h.kept h1 h2 hg
  refine ⟨?_, q.ne, fun v' hv' e => ?_⟩
  · rw [Below.heap_setCell wx ⟨B, 0, none⟩ _ p q.ne, hg.block p (by simp; omega) (fun e => q.dis v h1 e.symm)]
    exact (Below.heap_alloc wr ob p hp).trans q.at_
  · rw [one_setCell hB] at hv'
    have hvv : Value.slice (some ⟨g, 0, none⟩) n cap = v' := by simpa using hv'
    subst hvv
    obtain rfl : g = p := by simpa [Value.ownBlock] using e
    rcases hat with hat | hat
    · exact q.dis v h1 hat
    · omega
set_option maxHeartbeats 400000 in
theorem subadd_any (x y : Int) (wK : World) (B : Nat) (o : List Sn) (wr : World) (h : CapW wK B o wr) (ho : o.length ≤ 1000000) :
    Calls Try.prog 46 #[.int .i64 x, .int .i64 y, .pointer (some ⟨B, 0, none⟩)] wr fun e w' => e = .returned (.tuple #[]) ∧ CapW wK B (push o x y) w' ∧ ∀ p X, Box B p X wr → Box B p X w' := by
  have H := Lib.hid h
  unfold push
  by_cases hxy : x < y
  · rw [if_pos hxy]
    obtain ⟨v, h1, h2⟩ := h.var
    have b0 : wr.cell? ⟨B, 0, none⟩ = some v := by rw [cell_of_row wr B 0 #[v] 22 (0, 0) h1]; rfl
    have hBlt : B < wr.heap.size := Nat.lt_of_lt_of_le h.lt h.gr.size
    have H1 := Lib.hid h1
    have H2 := Lib.hid h2
    have hsz := h.gr.size
    clear h h1 h2
    go_enter Try.func46, Try.ntmps46
    go_wp2_with (at_builtin; refine app1 rfl (.tmp 8) (.tmp 12) rfl wK.heap.size v o rfl (H2.out.alloc _) (x, y) wr.heap.size rfl (heap_alloc_new _ _) ho (by simp; omega) (wr.heap.size + 1) (by simp) ?_; intro g' cap' wx ho' hgr hat hlt'; have hk := H.out.kept H1.out H2.out hgr; have q0 := cell_of_one hk; have f0 := free_of_one hk; have HO := Lib.hid ho'; have HG := Lib.hid hgr; clear ho' hgr hk)
    go_end0
    exact ⟨rfl, H.out.put H1.out H2.out HG.out HO.out, fun p X q => q.put H.out H1.out H2.out HG.out hat (by omega)⟩
  · rw [if_neg hxy]
    clear h
    go_enter Try.func46, Try.ntmps46
    go_wp2
    go_end0
    exact ⟨rfl, H.out, fun _ _ q => q⟩
set_option maxRecDepth 100000 in
set_option maxHeartbeats 2000000 in
theorem subtract_any (A B : Option Addr) (l m : List Sn) (c d : Nat) (w : World) (hR : Rd w A l) (hS : Rd w B m) (hl : l.length ≤ 40000) (hm : m.length ≤ 40000) :
    Calls Try.prog 26 #[.slice A l.length c, .slice B m.length d] w (RetS w (subt l m)) := by
  have R := Lib.hid hR
  have S := Lib.hid hS
  clear hR hS
  obtain ⟨a, ha⟩ : ∃ a, norm l = a := ⟨_, rfl⟩
  obtain ⟨h, hh⟩ : ∃ h, norm m = h := ⟨_, rfl⟩
  have hal : a.length ≤ 40000 := by rw [← ha]; exact Nat.le_trans (Sp.norm_len _) hl
  have hhl : h.length ≤ 40000 := by rw [← hh]; exact Nat.le_trans (Sp.norm_len _) hm
  have Va : Hid (Val a) := by rw [← ha]; exact Sp.norm_val _
  have Vh : Hid (Val h) := by rw [← hh]; exact Sp.norm_val _
  have hsub : subt l m = subt a h := by rw [← ha, ← hh]; exact (subt_norm l m).symm
  rw [hsub]
  have HA := Lib.hid ha
  have HH := Lib.hid hh
  clear ha hh hsub
  go_enter Try.func26, Try.ntmps26
  go_wp2
  go_step3
  go_wp2_with fail
  refine (normal_any B m d _ (S.out.alloc _) (by omega)).mono ?_
  rintro e w1 ⟨A2, c2, rfl, hc2, hA2, hb2⟩
  rw [HH.out] at hA2 hc2 ⊢
  have R2 := Lib.hid hA2
  have B2 := Lib.hid hb2
  clear hA2 hb2
  go_wp2
  go_step3
  go_wp2_with fail
  refine (normal_any A l c _ ((R.out.alloc _).below B2.out) (by omega)).mono ?_
  rintro e wK ⟨A1, c1, rfl, hc1, hA1, hb1⟩
  rw [HA.out] at hA1 hc1 ⊢
  have R1 := Lib.hid hA1
  have R2' := Lib.hid (R2.out.below hb1)
  have BK := Lib.hid (B2.out.trans (hb1.mono B2.out.size))
  clear hA1 hb1 R2 B2
  have hBlt : w.heap.size < wK.heap.size := by have := BK.out.size; simp at this; omega
  have hblk : Hid (wK.heap[w.heap.size]? = some (.cells #[.slice none 0 0] 22 (0, 0))) := (BK.out.block w.heap.size (by simp)).trans (heap_alloc_new w _)
  have C0 := Lib.hid (CapW.start hBlt hblk.out)
  have hKv : Hid (∃ v, wK.heap[w.heap.size]? = some (.cells #[v] 22 (0, 0))) := ⟨_, hblk.out⟩
  clear hblk
  obtain ⟨Bx, hBx⟩ : ∃ b, b = w.heap.size := ⟨_, rfl⟩
  rw [← hBx] at C0 hKv hBlt ⊢
  have HBX := Lib.hid hBx
  clear hBx
  go_wp2
  go_loopg [8, 18] a.length (fun gg u8 u18 wr => ∃ (k i : Nat) (o : List Sn), u18 = .int .i64 k ∧ u8 = .int .i64 i ∧ k ≤ a.length ∧ a.length - k ≤ gg ∧ CapW wK Bx o wr ∧ OutInv a h k i o)
  case atStart => exact ⟨0, 0, [], rfl, rfl, Nat.zero_le _, by omega, C0.out, OutInv.start a h⟩
  case round =>
    obtain ⟨k, i, o, rfl, rfl, hk, hgg, hC, hO⟩ := hrel
    have HC := Lib.hid hC
    have HO := Lib.hid hO
    have hil := hO.ile
    clear hC hO
    by_cases hlt : k < a.length
    · obtain ⟨g, off, rfl, hg, q1, q2⟩ := (HC.out.rd hKv.out R1.out).at_ hlt
      have BX0 := Lib.hid (Box.new HC.out (.cells #[.int .i64 (el a k).1, .int .i64 (el a k).2] 30))
      have HC1 := Lib.hid (HC.out.next ((Below.refl _ _).alloc (Nat.le_refl _) (.cells #[.int .i64 (el a k).1, .int .i64 (el a k).2] 30)))
      have I0 := Lib.hid (HO.out.enter Va.out hlt)
      go_wp2
      obtain ⟨sb, hsb⟩ : ∃ sb, sb = wr.heap.size := ⟨_, rfl⟩
      rw [← hsb] at BX0 ⊢
      clear hsb hg q1 q2
      generalize wr.alloc (.cells #[.int .i64 (el a k).1, .int .i64 (el a k).2] 30) = wo at *
      clear HC HO
      go_loopg [8, 11] h.length (fun gi u8 u11 wr => ∃ (i : Nat) (fr : Int) (o : List Sn), u8 = .int .i64 i ∧ u11 = .int .i64 fr ∧ h.length - i ≤ gi ∧ CapW wK Bx o wr ∧ Box Bx sb (.cells #[.int .i64 (el a k).1, .int .i64 (el a k).2] 30) wr ∧ InInv a h k i fr o)
      case atStart => exact ⟨i, _, o, rfl, rfl, by omega, HC1.out, BX0.out, I0.out⟩
      case round =>
        obtain ⟨i, fr, o, rfl, rfl, hgi, hC, hX, hI⟩ := hrel
        have s1 : wr.cell? ⟨sb, 0, none⟩ = some (.int .i64 (el a k).1) := by rw [cell_of_row wr sb 0 _ 30 (0, 0) hX.at_]; rfl
        have s2 : wr.cell? ⟨sb, 1, none⟩ = some (.int .i64 (el a k).2) := by rw [cell_of_row wr sb 1 _ 30 (0, 0) hX.at_]; rfl
        have hol : o.length ≤ 100000 := by have := hI.len; have := hI.ile; omega
        have hil := hI.ile
        have HI := Lib.hid hI
        have HC := Lib.hid hC
        have HX := Lib.hid hX
        have hBr : Bx < wr.heap.size := Nat.lt_of_lt_of_le hBlt hC.gr.size
        clear hI hC hX HC1 BX0 I0
        by_cases hin : i < h.length ∧ (el h i).1 < (el a k).2
        · obtain ⟨hi, c1⟩ := hin
          obtain ⟨g', off', rfl, hg', q3, q4⟩ := (HC.out.rd hKv.out R2'.out).at_ hi
          have di : decide (i < h.length) = true := by simpa using hi
          have d1 : decide ((el h i).1 < (el a k).2) = true := by simpa using c1
          go_wp2
          go_quiet (fail)
          have HC2 := Lib.hid (HC.out.next (below_drewN (Below.refl _ _) nq))
          have HX2 := Lib.hid (HX.out.next hBr (below_drewN (Below.refl _ _) nq))
          generalize wr.drewN nq = wq at *
          clear q3 q4 hg' s1 s2
          obtain ⟨_, _, he, hg', q3, q4⟩ := (HC2.out.rd hKv.out R2'.out).at_ hi
          cases he
          go_wp2_with fail
          refine (subadd_any fr (el h i).1 wK Bx o _ HC2.out (by omega)).mono ?_
          rintro e w' ⟨rfl, hC3, hX3⟩
          have HC3 := Lib.hid hC3
          have HX3 := Lib.hid (hX3 _ _ HX2.out)
          clear hC3 hX3 q3 q4 hg'
          obtain ⟨_, _, he, hg', q3, q4⟩ := (HC3.out.rd hKv.out R2'.out).at_ hi
          cases he
          have s2 : w'.cell? ⟨sb, 1, none⟩ = some (.int .i64 (el a k).2) := by rw [cell_of_row w' sb 1 _ 30 (0, 0) HX3.out.at_]; rfl
          obtain ⟨x, hx⟩ : ∃ x, (if fr < (el h i).2 then (el h i).2 else fr) = x := ⟨_, rfl⟩
          have X : Hid (max fr (el h i).2 = x) := by show _ = _; rw [← hx]; split <;> omega
          by_cases c2 : (el a k).2 ≤ x
          · have hf := Lib.hid (HI.out.full Va.out Vh.out hlt hi c1 (by rw [X.out]; omega))
            go_wp2
            go_roundg (a.length - (k + 1))
            case measure => omega
            case rel => exact ⟨k + 1, i, _, by go_num, rfl, by omega, Nat.le_refl _, HC3.out, hf.out⟩
          · have hf := Lib.hid (HI.out.step Vh.out hi c1 (by rw [X.out]; omega))
            go_wp2
            go_roundg (h.length - (i + 1))
            case measure => omega
            case rel => exact ⟨i + 1, max fr (el h i).2, _, by go_num, (by first | rfl | rw [X.out]), Nat.le_refl _, HC3.out, HX3.out, hf.out⟩
        · have hlv := Lib.hid (HI.out.leave Va.out Vh.out hlt (fun h1 h2 => hin ⟨h1, h2⟩))
          by_cases hi : i < h.length
          · have c1 : ¬ (el h i).1 < (el a k).2 := fun h2 => hin ⟨hi, h2⟩
            clear hin
            obtain ⟨g', off', rfl, hg', q3, q4⟩ := (HC.out.rd hKv.out R2'.out).at_ hi
            have di : decide (i < h.length) = true := by simpa using hi
            have d1 : decide ((el h i).1 < (el a k).2) = false := by simpa using c1
            go_wp2
            go_quiet (fail)
            have HC2 := Lib.hid (HC.out.next (below_drewN (Below.refl _ _) nq))
            go_wp2_with fail
            refine (subadd_any fr (el a k).2 wK Bx o _ HC2.out (by omega)).mono ?_
            rintro e w' ⟨rfl, hC3, hX3⟩
            have HC3 := Lib.hid hC3
            clear hC3 hX3 q3 q4 hg'
            go_wp2
            go_roundg (a.length - (k + 1))
            case measure => omega
            case rel => exact ⟨k + 1, i, _, by go_num, rfl, by omega, Nat.le_refl _, HC3.out, hlv.out⟩
          · clear hin
            have di : decide (i < h.length) = false := by simpa using hi
            go_wp2
            go_quiet (fail)
            have HC2 := Lib.hid (HC.out.next (below_drewN (Below.refl _ _) nq))
            go_wp2_with fail
            refine (subadd_any fr (el a k).2 wK Bx o _ HC2.out (by omega)).mono ?_
            rintro e w' ⟨rfl, hC3, hX3⟩
            have HC3 := Lib.hid hC3
            clear hC3 hX3
            go_wp2
            go_roundg (a.length - (k + 1))
            case measure => omega
            case rel => exact ⟨k + 1, i, _, by go_num, rfl, by omega, Nat.le_refl _, HC3.out, hlv.out⟩
    · obtain rfl : k = a.length := by omega
      have hd := Lib.hid HO.out.done
      obtain ⟨v, h1, h2⟩ := HC.out.var
      have q0 := cell_of_one h1
      have HV := Lib.hid h2
      clear h1 h2
      go_wp2
      try rw [Exit.noGoto_ret]
      go_ret
      have hB : Below w.heap.size w wr := by
        have h3 := HC.out.gr
        have h4 := ((Below.refl w.heap.size w).alloc (Nat.le_refl _) (.cells #[.slice none 0 0] 22)).trans (BK.out.mono (by simp))
        exact h4.grown h3 (by rw [← HBX.out]; omega) (fun j hj => by rw [← HBX.out]; injection hj with hj; omega)
      have hr := HV.out.ret hB
      rw [hd.out] at hr
      exact hr
end Go.Proofs.Ytamnlhlocidbkaa
