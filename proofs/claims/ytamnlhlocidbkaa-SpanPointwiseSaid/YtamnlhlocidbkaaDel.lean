/-
  The contract of slices.DeleteFunc at intervals, by interval.empty: the spans that are not empty stay, in their order.
-/
import Derived.Test.YtamnlhlocidbkaaOwn
import Derived.Lib.SliceRun
import Derived.Deep.LoopGhost
namespace Go.Proofs.Ytamnlhlocidbkaa
open Go.RowKit
open Sp (Sn Mem Val norm uni inter subt mem_append mem_one)
theorem addr_ne {g a b : Nat} (h : a ≠ b) : (⟨g, a, none⟩ : Addr) ≠ ⟨g, b, none⟩ := fun e => h (by injection e)
/-- block g holds the spans l, and may be written -/
structure Row (w : World) (g : Nat) (l : List Sn) : Prop where
  lt : g < w.heap.size
  at_ : ∀ j, j < l.length → (w.cell? ⟨g, j * 2, none⟩ = some (.int .i64 (el l j).1) ∧ w.frozen? ⟨g, j * 2, none⟩ = false) ∧ (w.cell? ⟨g, j * 2 + 1, none⟩ = some (.int .i64 (el l j).2) ∧ w.frozen? ⟨g, j * 2 + 1, none⟩ = false)
section
variable {w w' : World} {g : Nat} {l : List Sn}
theorem Row.below (h : Row w g l) (hb : Below w.heap.size w w') : Row w' g l :=
  ⟨Nat.lt_of_lt_of_le h.lt hb.size, fun j hj => ⟨⟨(hb.cell (p := ⟨g, j * 2, none⟩) h.lt).trans (h.at_ j hj).1.1, (hb.frozen (p := ⟨g, j * 2, none⟩) h.lt).trans (h.at_ j hj).1.2⟩, (hb.cell (p := ⟨g, j * 2 + 1, none⟩) h.lt).trans (h.at_ j hj).2.1, (hb.frozen (p := ⟨g, j * 2 + 1, none⟩) h.lt).trans (h.at_ j hj).2.2⟩⟩
theorem Row.rd (h : Row w g l) : Rd w (some ⟨g, 0, none⟩) l := fun _ => ⟨g, 0, rfl, h.lt, fun j hj => by rw [Nat.zero_add]; exact ⟨(h.at_ j hj).1.1, (h.at_ j hj).2.1⟩⟩
theorem Row.store (h : Row w g l) {i : Nat} (_hi : i < l.length) (s : Sn) : Row ((w.setCell ⟨g, i * 2, none⟩ (.int .i64 s.1)).setCell ⟨g, i * 2 + 1, none⟩ (.int .i64 s.2)) g (l.set i s) := by
  refine ⟨by simpa using h.lt, fun j hj => ?_⟩
  have hj' : j < l.length := by simpa using hj
  obtain ⟨⟨a1, a2⟩, b1, b2⟩ := h.at_ j hj'
  rw [el_set hj']
  by_cases e : i = j
  · subst e
    rw [if_pos rfl]
    refine ⟨⟨?_, by simpa using a2⟩, ?_, by simpa using b2⟩
    · rw [World.cell?_setCell_other _ ⟨g, i * 2 + 1, none⟩ ⟨g, i * 2, none⟩ _ (addr_ne (by omega))]
      exact World.cell?_setCell_same _ _ _ a1
    · exact World.cell?_setCell_same _ _ _ ((World.cell?_setCell_other w ⟨g, i * 2, none⟩ ⟨g, i * 2 + 1, none⟩ _ (addr_ne (by omega))).trans b1)
  · rw [if_neg e]
    refine ⟨⟨?_, by simpa using a2⟩, ?_, by simpa using b2⟩
    · rw [World.cell?_setCell_other _ ⟨g, i * 2 + 1, none⟩ ⟨g, j * 2, none⟩ _ (addr_ne (by omega)), World.cell?_setCell_other _ ⟨g, i * 2, none⟩ ⟨g, j * 2, none⟩ _ (addr_ne (by omega))]
      exact a1
    · rw [World.cell?_setCell_other _ ⟨g, i * 2 + 1, none⟩ ⟨g, j * 2 + 1, none⟩ _ (addr_ne (by omega)), World.cell?_setCell_other _ ⟨g, i * 2, none⟩ ⟨g, j * 2 + 1, none⟩ _ (addr_ne (by omega))]
      exact b1
theorem Row.take (h : Row w g l) (k : Nat) : Row w g (l.take k) := ⟨h.lt, fun j hj => by
  simp only [List.length_take] at hj
  rw [show el (l.take k) j = el l j by rw [el_eq (by simp; omega), el_eq (by omega)]; simp]
  exact h.at_ j (by omega)⟩
end
theorem only_alloc {a w : World} {row : Option Nat} (h : a.grownBy w row) (o : Obj) : a.grownBy (w.alloc o) row :=
  ⟨h.os, h.tape, h.output, Nat.le_trans h.size (by simp), fun i hi hne => (Below.heap_alloc w o i (Nat.lt_of_lt_of_le hi h.size)).trans (h.block i hi hne)⟩
theorem only_setCell {a w : World} {g : Nat} (h : a.grownBy w (some g)) (o : Nat) (u : Value) : a.grownBy (w.setCell ⟨g, o, none⟩ u) (some g) :=
  ⟨h.os, h.tape, h.output, by simpa using h.size, fun i hi hne => (Below.heap_setCell w ⟨g, o, none⟩ u i (fun e => hne (by rw [e]))).trans (h.block i hi hne)⟩
theorem only_below {a w w' : World} {row : Option Nat} (h : a.grownBy w row) (hb : Below w.heap.size w w') : a.grownBy w' row :=
  ⟨hb.os.trans h.os, hb.tape.trans h.tape, hb.output.trans h.output, Nat.le_trans h.size hb.size, fun i hi hne => (hb.block i (Nat.lt_of_lt_of_le hi h.size)).trans (h.block i hi hne)⟩
theorem empty_any (s : Sn) (w : World) : Calls Try.prog 37 #[.agg #[.int .i64 s.1, .int .i64 s.2]] w fun e w' => e = .returned (.bool (decide (s.2 ≤ s.1))) ∧ Below w.heap.size w w' := by
  go_enter Try.func37, Try.ntmps37
  go_wp2
  go_ret
  exact ⟨rfl, (Below.refl _ _).alloc (Nat.le_refl _) _⟩
theorem empty_yes (s : Sn) (w : World) (h : s.2 ≤ s.1) : Calls Try.prog 37 #[.agg #[.int .i64 s.1, .int .i64 s.2]] w fun e w' => e = .returned (.bool true) ∧ Below w.heap.size w w' :=
  (empty_any s w).mono fun _ _ hh => ⟨by rw [hh.1]; simp [h], hh.2⟩
theorem empty_no (s : Sn) (w : World) (h : ¬ s.2 ≤ s.1) : Calls Try.prog 37 #[.agg #[.int .i64 s.1, .int .i64 s.2]] w fun e w' => e = .returned (.bool false) ∧ Below w.heap.size w w' :=
  (empty_any s w).mono fun _ _ hh => ⟨by rw [hh.1]; simp; omega, hh.2⟩
def IdxPost (l : List Sn) (w : World) (e : Ending) (w' : World) : Prop :=
  ((∃ k : Nat, k < l.length ∧ e = .returned (.int .i64 k) ∧ (el l k).2 ≤ (el l k).1 ∧ ∀ j, j < k → (el l j).1 < (el l j).2) ∨ (e = .returned (.int .i64 (-1)) ∧ ∀ j, j < l.length → (el l j).1 < (el l j).2)) ∧ Below w.heap.size w w'
set_option maxHeartbeats 400000 in
theorem index_any (g c : Nat) (l : List Sn) (w : World) (hR : Row w g l) (hl : l.length ≤ 100000) :
    Calls Try.prog 49 #[.slice (some ⟨g, 0, none⟩) l.length c, .func (.func 37) #[] #[]] w (IdxPost l w) := by
  have R := Lib.hid hR
  clear hR
  go_enter Try.func49, Try.ntmps49
  go_wp2
  go_loopw [8] (fun i wr => ∃ k : Nat, k ≤ l.length ∧ i = .int .i64 k ∧ Below w.heap.size w wr ∧ Hid (∀ j, j < k → (el l j).1 < (el l j).2)) (fun i _ => l.length - (intOf i).toNat)
  case atStart => exact ⟨0, Nat.zero_le _, rfl, Below.refl _ _, Lib.hid (fun j hj => absurd hj (by omega))⟩
  case round =>
    obtain ⟨k, hk, rfl, hB, hN⟩ := hrel
    have HB := Lib.hid hB
    clear hB
    by_cases hlt : k < l.length
    · obtain ⟨⟨c1, _⟩, c2, _⟩ := (R.out.below HB.out).at_ k hlt
      by_cases he : (el l k).2 ≤ (el l k).1
      · go_wp2_with (go_at_call 37; refine (empty_yes (el l k) _ he).mono ?_; rintro e w' ⟨rfl, hb'⟩)
        go_ret
        exact ⟨.inl ⟨k, hlt, rfl, he, hN.out⟩, HB.out.trans (hb'.mono HB.out.size)⟩
      · go_wp2_with (go_at_call 37; refine (empty_no (el l k) _ he).mono ?_; rintro e w' ⟨rfl, hb'⟩)
        have HB' := Lib.hid (HB.out.trans (hb'.mono HB.out.size))
        clear hb'
        go_wp2
        go_roundw
        case rel => exact ⟨k + 1, by omega, by go_num, HB'.out, Lib.hid (fun j hj => if e : j = k then by subst e; omega else hN.out j (by omega))⟩
        case measure => simp [intOf]; omega
    · obtain rfl : k = l.length := by omega
      go_wp2
      go_ret
      exact ⟨.inr ⟨rfl, hN.out⟩, HB.out⟩
def flt (l : List Sn) : List Sn := l.filter fun s => decide (s.1 < s.2)
theorem flt_snoc_yes {l : List Sn} {s : Sn} (h : s.1 < s.2) : flt (l ++ [s]) = flt l ++ [s] := by simp [flt, h]
theorem flt_snoc_no {l : List Sn} {s : Sn} (h : ¬ s.1 < s.2) : flt (l ++ [s]) = flt l := by simp [flt]; omega
theorem flt_all {l : List Sn} (h : ∀ j, j < l.length → (el l j).1 < (el l j).2) : flt l = l := by
  unfold flt
  rw [List.filter_eq_self]
  intro s hs
  obtain ⟨j, hj, rfl⟩ := mem_el hs
  simpa using h j hj
theorem flt_len (l : List Sn) : (flt l).length ≤ l.length := List.length_filter_le _ _
/-- DeleteFunc's loop: j have been looked at, i of them stay -/
structure DelInv (l : List Sn) (i j : Nat) (d : List Sn) : Prop where
  lt : i < j
  le : j ≤ l.length
  len : d.length = l.length
  head : d.take i = flt (l.take j)
  rest : ∀ t, j ≤ t → t < l.length → el d t = el l t
theorem DelInv.start {l : List Sn} {k : Nat} (hk : k < l.length) (he : (el l k).2 ≤ (el l k).1) (h : ∀ j, j < k → (el l j).1 < (el l j).2) : DelInv l k (k + 1) l where
  lt := by omega
  le := hk
  len := rfl
  head := by
    rw [take_snoc hk, flt_snoc_no (by omega), flt_all]
    intro j hj
    have : j < k := by simp at hj; omega
    rw [el_take this (by omega)]
    exact h j this
  rest := fun _ _ _ => rfl
theorem DelInv.keep {l d : List Sn} {i j : Nat} (h : DelInv l i j d) (hj : j < l.length) (hs : (el l j).1 < (el l j).2) : DelInv l (i + 1) (j + 1) (d.set i (el l j)) where
  lt := by have := h.lt; omega
  le := hj
  len := by simpa using h.len
  head := by
    have h1 := h.lt
    have h2 := h.len
    rw [take_snoc hj, flt_snoc_yes hs, ← h.head, take_snoc (by simp; omega), el_set (by omega), if_pos rfl, List.take_set_of_le (Nat.le_refl _)]
  rest := fun t ht htl => by
    have h1 := h.lt
    rw [el_set (by rw [h.len]; exact htl), if_neg (by omega)]
    exact h.rest t (by omega) htl
theorem DelInv.skip {l d : List Sn} {i j : Nat} (h : DelInv l i j d) (hj : j < l.length) (hs : ¬ (el l j).1 < (el l j).2) : DelInv l i (j + 1) d where
  lt := by have := h.lt; omega
  le := hj
  len := h.len
  head := by rw [take_snoc hj, flt_snoc_no hs, h.head]
  rest := fun t ht htl => h.rest t (by omega) htl
theorem DelInv.done {l d : List Sn} {i : Nat} (h : DelInv l i l.length d) : d.take i = flt l ∧ i = (flt l).length := by
  have h1 := h.head
  rw [List.take_length] at h1
  refine ⟨h1, ?_⟩
  rw [← h1, List.length_take, h.len]
  have := h.lt
  omega
theorem run_clear43 (w : World) (ty : TypeId) (g o n c : Nat) (hn : 0 < n) (hc : ∀ j, j < n * 2 → (w.cell? ⟨g, o + j, none⟩).isSome = true) (hf : ∀ j, j < n * 2 → w.frozen? ⟨g, o + j, none⟩ = false) :
    ∃ zs : List Value, zs.length = n * 2 ∧ (Builtin.clear_ #[41] ty #[.slice (some ⟨g, o, none⟩) n c]).run Try.prog w = .ok (.tuple #[]) (w.setCells g o zs) := by
  refine ⟨(Builtin.zeroCells #[.int .i64 0, .int .i64 0] n).toList, by simp [size_zeroCells], ?_⟩
  have hst := run_storeCells_cells (P := Try.prog) g o (Builtin.zeroCells #[.int .i64 0, .int .i64 0] n).toList 0 w (by simpa [size_zeroCells] using hc) (by simpa [size_zeroCells] using hf) (by
    intro v hv
    simp [Builtin.zeroCells] at hv
    obtain ⟨a, _, rfl⟩ := hv
    rcases Nat.mod_two_eq_zero_or_one a with h | h <;> simp [h, Value.oneCell'])
  simp only [Nat.add_zero] at hst
  obtain ⟨m, rfl⟩ : ∃ m, n = m + 1 := ⟨n - 1, by omega⟩
  simp [Builtin.clear_, run_underlying Try.underlying41, Value.cells, hst]
theorem Row.cleared {g : Nat} {l : List Sn} : ∀ (zs : List Value) (o : Nat) {w : World}, Row w g l → l.length * 2 ≤ o → Row (w.setCells g o zs) g l
  | [], _, _, h, _ => h
  | z :: zs, o, w, h, ho => by
    refine Row.cleared zs (o + 1) (w := w.setCell ⟨g, o, none⟩ z) ⟨by simpa using h.lt, fun j hj => ?_⟩ (by omega)
    obtain ⟨⟨a1, a2⟩, b1, b2⟩ := h.at_ j hj
    exact ⟨⟨(World.cell?_setCell_other _ _ _ _ (addr_ne (by omega))).trans a1, by simpa using a2⟩, (World.cell?_setCell_other _ _ _ _ (addr_ne (by omega))).trans b1, by simpa using b2⟩
theorem only_cleared {a : World} {g : Nat} : ∀ (zs : List Value) (o : Nat) {w : World}, a.grownBy w (some g) → a.grownBy (w.setCells g o zs) (some g)
  | [], _, _, h => h
  | _ :: zs, o, _, h => only_cleared zs (o + 1) (only_setCell h o _)
/-- what DeleteFunc leaves -/
def DelPost (g c : Nat) (l : List Sn) (w : World) (e : Ending) (w' : World) : Prop := e = .returned (.slice (some ⟨g, 0, none⟩) (flt l).length c) ∧ Row w' g (flt l) ∧ w.grownBy w' (some g)
theorem Row.some_ {w : World} {g : Nat} {d : List Sn} (h : Row w g d) {i n : Nat} (hi : i + n ≤ d.length) : (∀ j, j < n * 2 → (w.cell? ⟨g, i * 2 + j, none⟩).isSome = true) ∧ ∀ j, j < n * 2 → w.frozen? ⟨g, i * 2 + j, none⟩ = false := by
  constructor
  · intro j hj
    obtain ⟨⟨a1, a2⟩, b1, b2⟩ := h.at_ (i + j / 2) (by omega)
    rcases Nat.mod_two_eq_zero_or_one j with h0 | h0
    · rw [show i * 2 + j = (i + j / 2) * 2 by omega, a1]; rfl
    · rw [show i * 2 + j = (i + j / 2) * 2 + 1 by omega, b1]; rfl
  · intro j hj
    obtain ⟨⟨a1, a2⟩, b1, b2⟩ := h.at_ (i + j / 2) (by omega)
    rcases Nat.mod_two_eq_zero_or_one j with h0 | h0
    · rw [show i * 2 + j = (i + j / 2) * 2 by omega, a2]
    · rw [show i * 2 + j = (i + j / 2) * 2 + 1 by omega, b2]
set_option maxHeartbeats 1000000 in
theorem delete_any (g c : Nat) (l : List Sn) (w : World) (hR : Row w g l) (hl : l.length ≤ 100000) (hc : l.length ≤ c) (hcm : c ≤ 9223372036854775807) :
    Calls Try.prog 36 #[.slice (some ⟨g, 0, none⟩) l.length c, .func (.func 37) #[] #[]] w (DelPost g c l w) := by
  have R := Lib.hid hR
  clear hR
  go_enter Try.func36, Try.ntmps36
  go_wp2_with fail
  refine (index_any g c l _ R.out hl).mono ?_
  rintro e w1 ⟨⟨k0, hk0, rfl, he0, hN⟩ | ⟨rfl, hN⟩, hb1⟩
  · have I0 := Lib.hid (DelInv.start hk0 he0 hN)
    have R1 := Lib.hid (R.out.below hb1)
    have G1 := Lib.hid (only_below (World.grownBy.refl w (some g)) hb1)
    clear hN hb1
    have hne1 : ((k0 : Int) == -1) = false := by rw [beq_eq_false_iff_ne]; omega
    go_wp2
    go_loopw [5, 6] (fun s5 s6 wr => ∃ (i j : Nat) (d : List Sn), s5 = .int .i64 i ∧ s6 = .int .i64 j ∧ Row wr g d ∧ w.grownBy wr (some g) ∧ DelInv l i j d) (fun _ s6 _ => l.length - (intOf s6).toNat)
    case atStart => exact ⟨k0, k0 + 1, l, rfl, by go_num, R1.out, G1.out, I0.out⟩
    case round =>
      obtain ⟨i, j, d, rfl, rfl, hRw, hG, hI⟩ := hrel
      have hij := hI.lt
      have hjl := hI.le
      have hdl := hI.len
      have HI := Lib.hid hI
      have HR := Lib.hid hRw
      have HG := Lib.hid hG
      have DL := Lib.hid hdl
      by_cases hlt : j < l.length
      · obtain ⟨⟨c1, _⟩, c2, _⟩ := hRw.at_ j (by omega)
        rw [hI.rest j (Nat.le_refl _) hlt] at c1 c2
        obtain ⟨⟨c3, f3⟩, c4, f4⟩ := hRw.at_ i (by omega)
        have hglt := hRw.lt
        have hi2 : i < d.length := by omega
        clear hRw hG hI hdl
        by_cases he : (el l j).1 < (el l j).2
        · go_wp2_with fail
          refine (empty_no (el l j) _ (by omega)).mono ?_
          rintro e w' ⟨rfl, hb'⟩
          have b0 : w'.cell? ⟨wr.heap.size, 0, none⟩ = some (.int .i64 (el l j).1) := by rw [hb'.cell (p := ⟨wr.heap.size, 0, none⟩) (by simp)]; simp
          have b1 : w'.cell? ⟨wr.heap.size, 1, none⟩ = some (.int .i64 (el l j).2) := by rw [hb'.cell (p := ⟨wr.heap.size, 1, none⟩) (by simp)]; simp
          have HB := Lib.hid (((Below.refl wr.heap.size wr).alloc (Nat.le_refl _) (.cells #[.int .i64 (el l j).1, .int .i64 (el l j).2] 43)).trans (hb'.mono (by simp)))
          have HR' := Lib.hid (HR.out.below HB.out)
          have HG' := Lib.hid (only_below HG.out HB.out)
          clear c1 c2 c3 f3 c4 f4 hglt hb' HR HG
          obtain ⟨⟨c3, f3⟩, c4, f4⟩ := HR'.out.at_ i hi2
          go_wp2
          go_roundw
          case rel => exact ⟨i + 1, j + 1, _, by go_num, by go_num, HR'.out.store hi2 (el l j), only_setCell (only_setCell HG'.out _ _) _ _, HI.out.keep hlt he⟩
          case measure => simp [intOf]; omega
        · go_wp2_with fail
          refine (empty_yes (el l j) _ (by omega)).mono ?_
          rintro e w' ⟨rfl, hb'⟩
          have HB := Lib.hid (((Below.refl wr.heap.size wr).alloc (Nat.le_refl _) (.cells #[.int .i64 (el l j).1, .int .i64 (el l j).2] 43)).trans (hb'.mono (by simp)))
          have HR' := Lib.hid (HR.out.below HB.out)
          have HG' := Lib.hid (only_below HG.out HB.out)
          clear c1 c2 c3 f3 c4 f4 hglt hb' HR HG
          go_wp2
          go_roundw
          case rel => exact ⟨i, j + 1, d, rfl, by go_num, HR'.out, HG'.out, HI.out.skip hlt (by omega)⟩
          case measure => simp [intOf]; omega
      · obtain rfl : j = l.length := by omega
        obtain ⟨hs1, hs2⟩ := hRw.some_ (i := i) (n := l.length - i) (by omega)
        have hcl := fun ty => run_clear43 wr ty g (i * 2) (l.length - i) (c - i) (by omega) hs1 hs2
        clear hs1 hs2 hRw hG hI hdl
        obtain ⟨zs, hzs, hcl⟩ := hcl 0
        go_wp2
        go_ret
        obtain ⟨h1, h2⟩ := HI.out.done
        have hr := (HR.out.take i).cleared zs (i * 2) (by simp; omega)
        rw [h1] at hr
        refine ⟨?_, hr, only_cleared zs _ HG.out⟩
        rw [← h2]
        rfl
  · have hf := Lib.hid (flt_all hN)
    have R1 := Lib.hid (R.out.below hb1)
    have G1 := Lib.hid (only_below (World.grownBy.refl w (some g)) hb1)
    clear hN hb1
    go_wp2
    go_ret
    unfold DelPost
    rw [hf.out]
    exact ⟨rfl, R1.out, G1.out⟩
end Go.Proofs.Ytamnlhlocidbkaa
