/-
  The contracts of Valid, Seconds, Frames, Ticks, Convert of the program and of the reference, each by one function of the arguments, whatever they are.
-/
import Derived.Test.YtfnmjabegajniaaDoorCommon2
import Derived.Test.YtfnmjabegajniaaDoorRefCalc
import Derived.Deep.DeepCutAuto
namespace Go.Proofs.YtfnmjabegajniaaDoor
open Go.ChangeShapes Go.WideShapes Go.ChangeAt Go.RowKit
def inT (n d : Int) : Bool := (n == 24000 && d == 1001) || (n == 24 && d == 1) || (n == 25 && d == 1) || (n == 30000 && d == 1001) || (n == 30 && d == 1) || (n == 50 && d == 1) || (n == 60000 && d == 1001) || (n == 60 && d == 1)
theorem inT_row {n d b p : Int} (h : Pl.Row n d b p) : inT n d = true := by
  rcases h with ⟨rfl, rfl, rfl, rfl⟩ | ⟨rfl, rfl, rfl, rfl⟩ | ⟨rfl, rfl, rfl, rfl⟩ | ⟨rfl, rfl, rfl, rfl⟩ | ⟨rfl, rfl, rfl, rfl⟩ | ⟨rfl, rfl, rfl, rfl⟩ | ⟨rfl, rfl, rfl, rfl⟩ | ⟨rfl, rfl, rfl, rfl⟩ <;> rfl
theorem inT_no {n d : Int} (h : NoRow n d) : inT n d = false := by
  obtain ⟨c0, c1, c2, c3, c4, c5, c6, c7⟩ := h
  unfold inT
  simp only [Bool.or_eq_false_iff, Bool.and_eq_false_iff, beq_eq_false_iff_ne]
  refine ⟨⟨⟨⟨⟨⟨⟨?_, ?_⟩, ?_⟩, ?_⟩, ?_⟩, ?_⟩, ?_⟩, ?_⟩ <;> omega
def secV (n d f : Int) : Int := if inT n d = true ∧ 0 ≤ f ∧ f ≤ 100000000 then f * d / n else -1
def frmV (n d f : Int) : Int := if inT n d = true ∧ 0 ≤ f ∧ f ≤ 10000000000 then (f * n + d - 1) / d else -1
def tckV (n d f : Int) : Int := if inT n d = true ∧ 0 ≤ f ∧ f ≤ 100000000 then f * 90000 * d / n % 8589934592 else -1
def cnvV (n d f n' d' : Int) : Int := if inT n d = true ∧ inT n' d' = true ∧ 0 ≤ f ∧ f ≤ 100000000 then (f * d * n' + n * d' - 1) / (n * d') else -1
theorem no1 {n d : Int} {P : Prop} (h : NoRow n d) : ¬ (inT n d = true ∧ P) := fun q => by rw [inT_no h] at q; cases q.1
theorem valid_u (n d : Int) (w : World) (ht : Tab w) : Calls Tryd.prog 23 #[rate n d] w fun e w' => e = .returned (.bool (inT n d)) ∧ Below w.heap.size w w' := by
  rcases row_or n d with ⟨b, p, h⟩ | h
  · rw [inT_row h]; exact valid_yes h w ht
  · rw [inT_no h]; exact valid_no h w ht
theorem rvalid_u (n d : Int) (w : World) : Calls Tryd.prog 24 #[rate n d] w fun e w' => e = .returned (.bool (inT n d)) ∧ Below w.heap.size w w' := by
  rcases row_or n d with ⟨b, p, h⟩ | h
  · rw [inT_row h]; exact rvalid_yes h w
  · rw [inT_no h]; exact rvalid_no h w
theorem sec_u (n d f : Int) (w : World) (ht : Tab w) : Calls Tryd.prog 15 #[rate n d, .int .i64 f] w fun e w' => e = .returned (.int .i64 (secV n d f)) ∧ Below w.heap.size w w' := by
  unfold secV
  rcases row_or n d with ⟨b, p, h⟩ | h
  · by_cases hf : 0 ≤ f ∧ f ≤ 100000000
    · rw [if_pos ⟨inT_row h, hf⟩]; exact seconds_yes h f w ht hf.1 hf.2
    · rw [if_neg (fun q => hf q.2)]; exact seconds_noframe h f w ht hf
  · rw [if_neg (no1 h)]; exact seconds_norow h f w ht
theorem rsec_u (n d f : Int) (w : World) : Calls Tryd.prog 16 #[rate n d, .int .i64 f] w fun e w' => e = .returned (.int .i64 (secV n d f)) ∧ Below w.heap.size w w' := by
  unfold secV
  rcases row_or n d with ⟨b, p, h⟩ | h
  · by_cases hf : 0 ≤ f ∧ f ≤ 100000000
    · rw [if_pos ⟨inT_row h, hf⟩]; exact rseconds_yes h f w hf.1 hf.2
    · rw [if_neg (fun q => hf q.2)]; exact rseconds_noframe h f w hf
  · rw [if_neg (no1 h)]; exact rseconds_norow h f w
theorem frm_u (n d f : Int) (w : World) (ht : Tab w) : Calls Tryd.prog 17 #[rate n d, .int .i64 f] w fun e w' => e = .returned (.int .i64 (frmV n d f)) ∧ Below w.heap.size w w' := by
  unfold frmV
  rcases row_or n d with ⟨b, p, h⟩ | h
  · by_cases hf : 0 ≤ f ∧ f ≤ 10000000000
    · rw [if_pos ⟨inT_row h, hf⟩]; exact frames_yes h f w ht hf.1 hf.2
    · rw [if_neg (fun q => hf q.2)]; exact frames_noframe h f w ht hf
  · rw [if_neg (no1 h)]; exact frames_norow h f w ht
theorem rfrm_u (n d f : Int) (w : World) : Calls Tryd.prog 18 #[rate n d, .int .i64 f] w fun e w' => e = .returned (.int .i64 (frmV n d f)) ∧ Below w.heap.size w w' := by
  unfold frmV
  rcases row_or n d with ⟨b, p, h⟩ | h
  · by_cases hf : 0 ≤ f ∧ f ≤ 10000000000
    · rw [if_pos ⟨inT_row h, hf⟩]; exact rframes_yes h f w hf.1 hf.2
    · rw [if_neg (fun q => hf q.2)]; exact rframes_noframe h f w hf
  · rw [if_neg (no1 h)]; exact rframes_norow h f w
theorem tck_u (n d f : Int) (w : World) (ht : Tab w) : Calls Tryd.prog 19 #[rate n d, .int .i64 f] w fun e w' => e = .returned (.int .i64 (tckV n d f)) ∧ Below w.heap.size w w' := by
  unfold tckV
  rcases row_or n d with ⟨b, p, h⟩ | h
  · by_cases hf : 0 ≤ f ∧ f ≤ 100000000
    · rw [if_pos ⟨inT_row h, hf⟩]; exact ticks_yes h f w ht hf.1 hf.2
    · rw [if_neg (fun q => hf q.2)]; exact ticks_noframe h f w ht hf
  · rw [if_neg (no1 h)]; exact ticks_norow h f w ht
theorem rtck_u (n d f : Int) (w : World) : Calls Tryd.prog 20 #[rate n d, .int .i64 f] w fun e w' => e = .returned (.int .i64 (tckV n d f)) ∧ Below w.heap.size w w' := by
  unfold tckV
  rcases row_or n d with ⟨b, p, h⟩ | h
  · by_cases hf : 0 ≤ f ∧ f ≤ 100000000
    · rw [if_pos ⟨inT_row h, hf⟩]; exact rticks_yes h f w hf.1 hf.2
    · rw [if_neg (fun q => hf q.2)]; exact rticks_noframe h f w hf
  · rw [if_neg (no1 h)]; exact rticks_norow h f w
theorem cnv_u (n d f n' d' : Int) (w : World) (ht : Tab w) : Calls Tryd.prog 21 #[rate n d, .int .i64 f, rate n' d'] w fun e w' => e = .returned (.int .i64 (cnvV n d f n' d')) ∧ Below w.heap.size w w' := by
  unfold cnvV
  rcases row_or n d with ⟨b, p, h⟩ | h
  · rcases row_or n' d' with ⟨b', p', h'⟩ | h'
    · by_cases hf : 0 ≤ f ∧ f ≤ 100000000
      · rw [if_pos ⟨inT_row h, inT_row h', hf⟩]; exact convert_yes h h' f w ht hf.1 hf.2
      · rw [if_neg (fun q => hf q.2.2)]; exact convert_noframe h h' f w ht hf
    · rw [if_neg (fun q => no1 h' q.2)]; exact convert_norow2 h h' f w ht
  · rw [if_neg (no1 h)]; exact convert_norow h f w ht
theorem rcnv_u (n d f n' d' : Int) (w : World) : Calls Tryd.prog 22 #[rate n d, .int .i64 f, rate n' d'] w fun e w' => e = .returned (.int .i64 (cnvV n d f n' d')) ∧ Below w.heap.size w w' := by
  unfold cnvV
  rcases row_or n d with ⟨b, p, h⟩ | h
  · rcases row_or n' d' with ⟨b', p', h'⟩ | h'
    · by_cases hf : 0 ≤ f ∧ f ≤ 100000000
      · rw [if_pos ⟨inT_row h, inT_row h', hf⟩]; exact rconvert_yes h h' f w hf.1 hf.2
      · rw [if_neg (fun q => hf q.2.2)]; exact rconvert_noframe h h' f w hf
    · rw [if_neg (fun q => no1 h' q.2)]; exact rconvert_norow2 h h' f w
  · rw [if_neg (no1 h)]; exact rconvert_norow h f w
/-- two rates lie in the blocks that w's next two are; nothing else that was there has turned -/
structure Two (w : World) (n d n' d' : Int) (wx : World) : Prop where
  old : Below w.heap.size w wx
  size : w.heap.size + 2 ≤ wx.heap.size
  r0 : wx.cell? ⟨w.heap.size, 0, none⟩ = some (.int .i64 n)
  r1 : wx.cell? ⟨w.heap.size, 1, none⟩ = some (.int .i64 d)
  s0 : wx.cell? ⟨w.heap.size + 1, 0, none⟩ = some (.int .i64 n')
  s1 : wx.cell? ⟨w.heap.size + 1, 1, none⟩ = some (.int .i64 d')
  f0 : ∀ o, wx.frozen? ⟨w.heap.size, o, none⟩ = false
  f1 : ∀ o, wx.frozen? ⟨w.heap.size + 1, o, none⟩ = false
theorem Two.next {w wx wy : World} {n d n' d' : Int} (h : Two w n d n' d' wx) (hb : Below wx.heap.size wx wy) : Two w n d n' d' wy where
  old := h.old.trans (hb.mono h.old.size)
  size := Nat.le_trans h.size hb.size
  r0 := (hb.cell (p := ⟨w.heap.size, 0, none⟩) (by have := h.size; show w.heap.size < _; omega)).trans h.r0
  r1 := (hb.cell (p := ⟨w.heap.size, 1, none⟩) (by have := h.size; show w.heap.size < _; omega)).trans h.r1
  s0 := (hb.cell (p := ⟨w.heap.size + 1, 0, none⟩) (by have := h.size; show w.heap.size + 1 < _; omega)).trans h.s0
  s1 := (hb.cell (p := ⟨w.heap.size + 1, 1, none⟩) (by have := h.size; show w.heap.size + 1 < _; omega)).trans h.s1
  f0 := fun o => (hb.frozen (p := ⟨w.heap.size, o, none⟩) (by have := h.size; show w.heap.size < _; omega)).trans (h.f0 o)
  f1 := fun o => (hb.frozen (p := ⟨w.heap.size + 1, o, none⟩) (by have := h.size; show w.heap.size + 1 < _; omega)).trans (h.f1 o)
theorem Two.drew {w wx : World} {n d n' d' : Int} (h : Two w n d n' d' wx) : Two w n d n' d' wx.drew := ⟨h.old.drew, h.size, h.r0, h.r1, h.s0, h.s1, h.f0, h.f1⟩
theorem Two.tab {w wx : World} {n d n' d' : Int} (h : Two w n d n' d' wx) (ht : Tab w) : Tab wx := ht.below h.old ht.pos
theorem Two.start (w : World) (n d n' d' : Int) : Two w n d n' d' ((w.alloc (.cells #[.int .i64 n, .int .i64 d] 23)).alloc (.cells #[.int .i64 n', .int .i64 d'] 23)) where
  old := ((Below.refl _ _).alloc (Nat.le_refl _) _).alloc (by simp) _
  size := by simp
  r0 := by simp [World.cell?_alloc_past]
  r1 := by simp [World.cell?_alloc_past]
  s0 := by simp
  s1 := by simp
  f0 := fun o => by simp
  f1 := fun o => by simp
theorem two_set {wx : World} {g : Nat} {x0 x1 x y : Value} (h0 : wx.cell? ⟨g, 0, none⟩ = some x0) (h1 : wx.cell? ⟨g, 1, none⟩ = some x1) :
    ((wx.setCell ⟨g, 0, none⟩ x).setCell ⟨g, 1, none⟩ y).cell? ⟨g, 0, none⟩ = some x ∧ ((wx.setCell ⟨g, 0, none⟩ x).setCell ⟨g, 1, none⟩ y).cell? ⟨g, 1, none⟩ = some y := by
  have e : (wx.setCell ⟨g, 0, none⟩ x).cell? ⟨g, 1, none⟩ = some x1 := (World.cell?_setCell_other wx ⟨g, 0, none⟩ ⟨g, 1, none⟩ x (by simp)).trans h1
  refine ⟨?_, ?_⟩
  · rw [World.cell?_setCell_other _ ⟨g, 1, none⟩ ⟨g, 0, none⟩ y (by simp)]
    exact World.cell?_setCell_same _ _ _ h0
  · exact World.cell?_setCell_same _ _ _ e
theorem two_far {wx : World} {g j : Nat} {x y : Value} (h : j ≠ g) (o : Nat) : ((wx.setCell ⟨g, 0, none⟩ x).setCell ⟨g, 1, none⟩ y).cell? ⟨j, o, none⟩ = wx.cell? ⟨j, o, none⟩ := by
  rw [World.cell?_setCell_other _ ⟨g, 1, none⟩ ⟨j, o, none⟩ y (fun e => h (by injection e with e1; exact e1.symm)), World.cell?_setCell_other _ ⟨g, 0, none⟩ ⟨j, o, none⟩ x (fun e => h (by injection e with e1; exact e1.symm))]
theorem Two.store {w wx : World} {n d n' d' : Int} (h : Two w n d n' d' wx) (x y : Int) : Two w x y n' d' ((wx.setCell ⟨w.heap.size, 0, none⟩ (.int .i64 x)).setCell ⟨w.heap.size, 1, none⟩ (.int .i64 y)) where
  old := (h.old.setCell (p := ⟨w.heap.size, 0, none⟩) (Nat.le_refl _) _).setCell (p := ⟨w.heap.size, 1, none⟩) (Nat.le_refl _) _
  size := by simpa using h.size
  r0 := (two_set h.r0 h.r1).1
  r1 := (two_set h.r0 h.r1).2
  s0 := (two_far (by omega) 0).trans h.s0
  s1 := (two_far (by omega) 1).trans h.s1
  f0 := fun o => by simpa using h.f0 o
  f1 := fun o => by simpa using h.f1 o
theorem Two.store2 {w wx : World} {n d n' d' : Int} (h : Two w n d n' d' wx) (x y : Int) : Two w n d x y ((wx.setCell ⟨w.heap.size + 1, 0, none⟩ (.int .i64 x)).setCell ⟨w.heap.size + 1, 1, none⟩ (.int .i64 y)) where
  old := (h.old.setCell (p := ⟨w.heap.size + 1, 0, none⟩) (Nat.le_succ _) _).setCell (p := ⟨w.heap.size + 1, 1, none⟩) (Nat.le_succ _) _
  size := by simpa using h.size
  r0 := (two_far (by omega) 0).trans h.r0
  r1 := (two_far (by omega) 1).trans h.r1
  s0 := (two_set h.s0 h.s1).1
  s1 := (two_set h.s0 h.s1).2
  f0 := fun o => by simpa using h.f0 o
  f1 := fun o => by simpa using h.f1 o
end Go.Proofs.YtfnmjabegajniaaDoor
