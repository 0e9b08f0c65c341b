/-
  Plain facts on lists of spans, element by element: validity step by step, equality, what lists of ends hold. No program in sight.
-/
import Derived.Test.YtamnlhlocidbkaaPlain
namespace Go.Proofs.Ytamnlhlocidbkaa
open Sp (Sn Mem Val norm uni inter subt)
def el (l : List Sn) (k : Nat) : Sn := l.getD k (0, 0)
theorem el_eq {l : List Sn} {k : Nat} (h : k < l.length) : el l k = l[k] := by unfold el; rw [List.getD_eq_getElem?_getD, List.getElem?_eq_getElem h]; rfl
theorem el_mem {l : List Sn} {k : Nat} (h : k < l.length) : el l k ∈ l := by rw [el_eq h]; exact List.getElem_mem h
theorem take_snoc {l : List Sn} {k : Nat} (h : k < l.length) : l.take (k + 1) = l.take k ++ [el l k] := by rw [el_eq h, List.take_succ_eq_append_getElem h]
theorem drop_el {l : List Sn} {k : Nat} (h : k < l.length) : l.drop k = el l k :: l.drop (k + 1) := by rw [el_eq h, List.drop_eq_getElem_cons h]
theorem el_append {l : List Sn} {s : Sn} : el (l ++ [s]) l.length = s := by simp [el]
theorem el_append_lt {l m : List Sn} {j : Nat} (h : j < l.length) : el (l ++ m) j = el l j := by rw [el_eq (by simp; omega), el_eq h, List.getElem_append_left h]
theorem el_take {l : List Sn} {k j : Nat} (h : j < k) (hk : k ≤ l.length) : el (l.take k) j = el l j := by
  rw [el_eq (by simp; omega), el_eq (by omega)]; simp
theorem el_set {l : List Sn} {i j : Nat} {s : Sn} (hj : j < l.length) : el (l.set i s) j = if i = j then s else el l j := by
  rw [el_eq (by simpa using hj), el_eq hj, List.getElem_set]
theorem ext_el {l m : List Sn} (hl : l.length = m.length) (h : ∀ j, j < l.length → el l j = el m j) : l = m :=
  List.ext_getElem hl fun j h1 h2 => by have := h j h1; rwa [el_eq h1, el_eq h2] at this
theorem mem_el {l : List Sn} {s : Sn} (h : s ∈ l) : ∃ j, j < l.length ∧ s = el l j := by
  obtain ⟨j, hj, e⟩ := List.getElem_of_mem h
  exact ⟨j, hj, by rw [el_eq hj, e]⟩
theorem el_drop {l : List Sn} {k j : Nat} : el (l.drop k) j = el l (k + j) := by simp [el, List.getD_eq_getElem?_getD]
def memB (x : Int) (l : List Sn) : Bool := l.any fun s => decide (s.1 ≤ x) && decide (x < s.2)
theorem memB_iff (x : Int) (l : List Sn) : memB x l = true ↔ Mem x l := by simp [memB, Mem, List.any_eq_true]
theorem memB_no (x : Int) (l : List Sn) : memB x l = false ↔ ¬ Mem x l := by rw [← memB_iff]; cases memB x l <;> simp
theorem memB_eq {x y : Int} {l m : List Sn} (h : Mem x l ↔ Mem y m) : memB x l = memB y m := by rw [Bool.eq_iff_iff, memB_iff, memB_iff]; exact h
theorem memB_snoc {x : Int} {l : List Sn} {k : Nat} (h : k < l.length) : memB x (l.take (k + 1)) = (memB x (l.take k) || (decide ((el l k).1 ≤ x) && decide (x < (el l k).2))) := by
  rw [take_snoc h]; simp [memB]
theorem memB_yes {x : Int} {l : List Sn} {k : Nat} (h : k < l.length) (h1 : (el l k).1 ≤ x) (h2 : x < (el l k).2) : memB x l = true := by
  rw [memB_iff]; exact ⟨_, el_mem h, h1, h2⟩
open Classical in
noncomputable def vB (l : List Sn) : Bool := decide (Val l)
theorem vB_yes {l : List Sn} (h : Val l) : vB l = true := by unfold vB; simpa using h
theorem vB_no {l : List Sn} (h : ¬ Val l) : vB l = false := by unfold vB; simpa using h
theorem vB_iff {l : List Sn} : vB l = true ↔ Val l := by unfold vB; simp
theorem val_prefix {l m : List Sn} (h : Val (l ++ m)) : Val l := ⟨(List.pairwise_append.1 h.1).1, fun s hs => h.2 s (by simp [hs])⟩
theorem val_take {l : List Sn} (k : Nat) (h : Val l) : Val (l.take k) := val_prefix (m := l.drop k) (by rw [List.take_append_drop]; exact h)
theorem val_drop {l : List Sn} (k : Nat) (h : Val l) : Val (l.drop k) := by
  have h' : Val (l.take k ++ l.drop k) := by rw [List.take_append_drop]; exact h
  exact ⟨(List.pairwise_append.1 h'.1).2.1, fun s hs => h'.2 s (List.mem_append_right _ hs)⟩
/-- in a valid list the last element ends last -/
theorem val_last {l : List Sn} {u : Sn} (h : Val (l ++ [u])) : ∀ t ∈ l, t.2 < u.1 := ((Sp.val_snoc u l).1 h).2.1
theorem val_lt {l : List Sn} (h : Val l) {i j : Nat} (hij : i < j) (hj : j < l.length) : (el l i).2 < (el l j).1 := by
  rw [el_eq (by omega), el_eq hj]
  exact List.pairwise_iff_getElem.1 h.1 i j (by omega) hj hij
theorem val_ne {l : List Sn} (h : Val l) {i : Nat} (hi : i < l.length) : (el l i).1 < (el l i).2 := h.2 _ (el_mem hi)
theorem val_step {l : List Sn} {k : Nat} (hk : k < l.length) (h : Val (l.take k)) : Val (l.take (k + 1)) ↔ (el l k).1 < (el l k).2 ∧ (0 < k → (el l (k - 1)).2 < (el l k).1) := by
  rw [take_snoc hk, Sp.val_snoc]
  constructor
  · rintro ⟨a, b, _⟩
    refine ⟨a, fun h0 => b _ ?_⟩
    have := el_mem (l := l.take k) (k := k - 1) (by simp; omega)
    rwa [el_take (by omega) (by omega)] at this
  · rintro ⟨a, b⟩
    refine ⟨a, fun t ht => ?_, h⟩
    obtain ⟨j, hj, rfl⟩ := mem_el ht
    have hjk : j < k := by simp at hj; omega
    have hb := b (by omega)
    rcases Nat.lt_or_ge j (k - 1) with hlt | hge
    · have h1 := val_lt h hlt (by simp; omega)
      have h2 := val_ne h (i := k - 1) (by simp; omega)
      rw [el_take (by omega) (by omega), el_take (by omega) (by omega)] at h1
      rw [el_take (by omega) (by omega)] at h2
      rw [el_take (by omega) (by omega)]
      omega
    · obtain rfl : j = k - 1 := by omega
      rw [el_take (by omega) (by omega)]
      exact hb
theorem val_not {l : List Sn} {k : Nat} (h : ¬ Val (l.take k)) : ¬ Val l := fun hv => h (val_take k hv)
def eqB (l m : List Sn) : Bool := decide (l = m)
theorem eqB_len {l m : List Sn} (h : l.length ≠ m.length) : eqB l m = false := by unfold eqB; simp; rintro rfl; exact h rfl
theorem eqB_at {l m : List Sn} {k : Nat} (h : el l k ≠ el m k) : eqB l m = false := by unfold eqB; simp; rintro rfl; exact h rfl
theorem eqB_all {l m : List Sn} (hl : l.length = m.length) (h : ∀ j, j < l.length → el l j = el m j) : eqB l m = true := by unfold eqB; simpa using ext_el hl h
theorem eqB_self (l : List Sn) : eqB l l = true := by simp [eqB]
theorem eqB_eq {l m : List Sn} (h : l = m) : eqB l m = true := by simp [eqB, h]
/-- a list as the cells that hold it -/
theorem take_len (l : List Sn) : l.take l.length = l := List.take_length
end Go.Proofs.Ytamnlhlocidbkaa
