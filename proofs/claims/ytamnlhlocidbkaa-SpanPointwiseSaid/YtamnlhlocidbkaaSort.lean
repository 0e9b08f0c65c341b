/-
  The contract of slices.SortFunc at intervals, by interval.compare: a permutation, ascending by the beginnings.
-/
import Derived.Test.YtamnlhlocidbkaaShelf
import Derived.Test.YtamnlhlocidbkaaDel
namespace Go.Proofs.Ytamnlhlocidbkaa
open Go.RowKit Go.Shelf Go.Lib Go.Sort
open Sp (Sn Mem Val norm uni inter subt)
def encS (x : Sn) : List Value := [.int .i64 x.1, .int .i64 x.2]
theorem nan_any (x : Int) (W : World) : Calls Try.prog 66 #[.int .i64 x] W fun e w' => e = .returned (.bool false) ∧ W = w' := by
  go_enter Try.func66, Try.ntmps66
  go_wp2
  go_ret
  exact ⟨ret_bool (by simp), rfl⟩
set_option maxHeartbeats 400000 in
theorem cmp_any (x y : Int) (W : World) : Calls Try.prog 52 #[.int .i64 x, .int .i64 y] W fun e w' => e = .returned (.int .i64 (Lib.compareInt x y)) ∧ W = w' := by
  unfold Lib.compareInt
  by_cases h1 : x < y
  · rw [if_pos h1]
    go_enter Try.func52, Try.ntmps52
    go_wp2_with (go_at_call 66; refine (nan_any _ _).mono ?_; rintro e w' ⟨rfl, rfl⟩)
    go_ret
    exact ⟨rfl, rfl⟩
  · rw [if_neg h1]
    by_cases h2 : x > y
    · rw [if_pos h2]
      go_enter Try.func52, Try.ntmps52
      go_wp2_with (go_at_call 66; refine (nan_any _ _).mono ?_; rintro e w' ⟨rfl, rfl⟩)
      go_ret
      exact ⟨rfl, rfl⟩
    · rw [if_neg h2]
      go_enter Try.func52, Try.ntmps52
      go_wp2_with (go_at_call 66; refine (nan_any _ _).mono ?_; rintro e w' ⟨rfl, rfl⟩)
      go_ret
      exact ⟨rfl, rfl⟩
set_option maxHeartbeats 400000 in
theorem compare_any (x y : Sn) (W : World) : Calls Try.prog 39 #[.agg #[.int .i64 x.1, .int .i64 x.2], .agg #[.int .i64 y.1, .int .i64 y.2]] W fun e w' => e = .returned (.int .i64 (Lib.compareInt x.1 y.1)) ∧ ∃ q os', w' = grow (W.drewN q) os' := by
  have hcon := fun W' => Lib.hid (cmp_any x.1 y.1 W')
  generalize Lib.compareInt x.1 y.1 = r at hcon ⊢
  go_enter Try.func39, Try.ntmps39
  go_wp2_with (go_at_call 52; refine (hcon _).out.mono ?_; rintro e w' ⟨rfl, rfl⟩)
  go_ret
  exact ⟨rfl, 0, _, by rw [alloc_eq_grow, alloc_eq_grow, grow_grow]; rfl⟩
theorem cmpLays (blk off size : Nat) (w : World) : CmpLays Try.prog 39 #[] encS 2 (fun x y => Lib.compareInt x.1 y.1) blk off size w :=
  fun _ _ _ _ x y => compare_any x y _
theorem ltLo (x y : Sn) : ltOf (fun x y : Sn => Lib.compareInt x.1 y.1) x y = decide (x.1 < y.1) := by
  unfold ltOf Lib.compareInt
  by_cases h1 : x.1 < y.1
  · simp [h1]
  · by_cases h2 : y.1 < x.1 <;> simp [h1, h2]
theorem swoLo : SWO (ltOf fun x y : Sn => Lib.compareInt x.1 y.1) where
  irrefl x := by rw [ltLo]; simp
  trans x y z h1 h2 := by rw [ltLo] at *; simp at *; omega
  ntrans x y z h1 h2 := by rw [ltLo] at *; simp at *; omega
theorem el_arr {l : List Sn} {i : Nat} (h : i < l.length) : l.toArray[i]! = el l i := by
  rw [el_eq h, getElem!_pos l.toArray i (by simpa using h)]; simp
theorem Row.holds {w : World} {g : Nat} {l : List Sn} (h : Row w g l) : HoldsK encS 2 w g 0 l.toArray := fun t ht => by
  have ht' : t < l.length * 2 := by simpa using ht
  rw [get_flatK _ _ _ _ (by simpa using ht'), el_arr (show t / 2 < l.length by omega), Nat.zero_add]
  obtain ⟨⟨a1, a2⟩, b1, b2⟩ := h.at_ (t / 2) (by omega)
  rcases Nat.mod_two_eq_zero_or_one t with h0 | h0
  · rw [show t / 2 * 2 = t by omega] at a1 a2
    rw [h0]
    exact ⟨a1, a2⟩
  · rw [show t / 2 * 2 + 1 = t by omega] at b1 b2
    rw [h0]
    exact ⟨b1, b2⟩
theorem Row.of_holds {w : World} {g : Nat} {d : Array Sn} (hg : g < w.heap.size) (h : HoldsK encS 2 w g 0 d) : Row w g d.toList := by
  refine ⟨hg, fun j hj => ?_⟩
  have hj' : j < d.size := by simpa using hj
  have he : d[j]! = el d.toList j := by rw [← el_arr hj]
  have h1 := HoldsK.cell h (i := j) (c := 0) hj' (by omega)
  have h2 := HoldsK.cell h (i := j) (c := 1) hj' (by omega)
  rw [he] at h1 h2
  simp only [Nat.zero_add, Nat.add_zero] at h1 h2
  exact ⟨h1, h2⟩
theorem grown_sorted {w : World} {g n : Nat} {os : Array Obj} (d : Array Sn) : w.grownBy (sortWorldK encS 2 w g 0 n d os) (some g) := by
  unfold sortWorldK putRowK
  refine ⟨rfl, rfl, rfl, by simp [Sort.ahead], fun k hk hne => ?_⟩
  rw [heap_grow_old _ _ (by simpa [Sort.ahead] using hk)]
  have hkg : g ≠ k := fun e => hne (by rw [e])
  simp [putRow, mapBlock, Sort.ahead, Array.getElem?_modify, hkg]
def SortPost (g : Nat) (l : List Sn) (w : World) (e : Ending) (w' : World) : Prop :=
  e = .returned (.tuple #[]) ∧ ∃ l' : List Sn, l'.Perm l ∧ (∀ i j, i < j → j < l'.length → (el l' i).1 ≤ (el l' j).1) ∧ Row w' g l' ∧ w.grownBy w' (some g)
theorem sort_any (g c : Nat) (l : List Sn) (w : World) (hR : Row w g l) (hl : l.length ≤ 100000) :
    Calls Try.prog 38 #[.slice (some ⟨g, 0, none⟩) l.length c, .func (.func 39) #[] #[]] w (SortPost g l w) := by
  have eg : ∀ args w, (callFunc 39 args).run Try.prog w = .ok (.enter 39 args) w := enters_of Try.func39 (by kernel_rfl) rfl
  have hcon := AnyQ.slices_SortFunc Try.sortIv 2 Try.isAgg43 Try.sizeOf43 encS (fun _ => rfl) (fun x v hv => by simp [encS] at hv; rcases hv with rfl | rfl <;> rfl) (fun x y => Lib.compareInt x.1 y.1) swoLo 39 #[] g 0 c l.toArray w eg (cmpLays g 0 _ w) hR.holds hR.lt (by simp; omega)
  refine hcon.mono ?_
  rintro e w' ⟨rfl, d', n, os, hp, hs, rfl⟩
  obtain ⟨hsz, _, hpp⟩ := hp
  have hsz' : d'.size = l.length := by simpa using hsz
  refine ⟨rfl, d'.toList, ?_, fun i j hij hj => ?_, Row.of_holds ?_ (holdsK_sortWorldK_c (d := l.toArray) (dk := d') (m := n) (os := os) (hH := hR.holds) (hblk := hR.lt) (hs := hsz)), grown_sorted d'⟩
  · have h1 : d'.extract 0 l.toArray.size = d' := by rw [← hsz]; simp
    have h2 : l.toArray.extract 0 l.toArray.size = l.toArray := by simp
    rw [h1, h2] at hpp
    simpa using hpp
  · have hj' : j < d'.size := by simpa using hj
    have := hs i j (Nat.zero_le _) hij (by rw [← hsz]; exact hj')
    rw [ltLo] at this
    have e1 : d'[i]! = el d'.toList i := by rw [← el_arr (by simp; omega)]
    have e2 : d'[j]! = el d'.toList j := by rw [← el_arr hj]
    rw [e1, e2] at this
    simp at this
    omega
  · have := (grown_sorted (w := w) (g := g) (n := n) (os := os) d').size
    exact Nat.lt_of_lt_of_le hR.lt this
end Go.Proofs.Ytamnlhlocidbkaa
