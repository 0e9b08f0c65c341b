/-
  Plain facts: what a list covers, the first place for n integers, how many integers. No program in sight.
-/
import Derived.Test.YtamnlhlocidbkaaPlainC
namespace Go.Proofs.Ytamnlhlocidbkaa
open Sp (Sn Mem Val norm uni inter subt val_cons val_snoc mem_cons mem_append mem_one)
def Bd (l : List Sn) : Prop := ∀ s ∈ l, (-9223372036854775808 ≤ s.1 ∧ s.1 ≤ 9223372036854775807) ∧ (-9223372036854775808 ≤ s.2 ∧ s.2 ≤ 9223372036854775807)
theorem Bd.norm {l : List Sn} (h : Bd l) : Bd (norm l) := Sp.norm_ends (P := fun x => -9223372036854775808 ≤ x ∧ x ≤ 9223372036854775807) h
theorem Bd.at_ {l : List Sn} (h : Bd l) {k : Nat} (hk : k < l.length) : (-9223372036854775808 ≤ (el l k).1 ∧ (el l k).1 ≤ 9223372036854775807) ∧ (-9223372036854775808 ≤ (el l k).2 ∧ (el l k).2 ≤ 9223372036854775807) := h _ (el_mem hk)
theorem Bd.take {l : List Sn} (h : Bd l) (k : Nat) : Bd (l.take k) := fun s hs => h s (List.mem_of_mem_take hs)
theorem Bd.append {l m : List Sn} (h : Bd l) (k : Bd m) : Bd (l ++ m) := fun s hs => (List.mem_append.1 hs).elim (h s) (k s)
theorem Bd.uni {l m : List Sn} (h : Bd l) (k : Bd m) : Bd (uni l m) := (h.append k).norm
theorem Bd.inter {l m : List Sn} (h : Bd l) (k : Bd m) : Bd (inter l m) := by
  refine Bd.norm (l := Sp.pairs l m) fun s hs => ?_
  obtain ⟨a, ha, hs⟩ := List.mem_flatMap.1 hs
  obtain ⟨b, hb, rfl⟩ := List.mem_map.1 hs
  have := h a ha
  have := k b hb
  simp only
  omega
/-- every integer of s is in l -/
def Cov (l : List Sn) (s : Sn) : Prop := ∀ x, s.1 ≤ x → x < s.2 → Mem x l
open Classical in
noncomputable def covB (l : List Sn) (s : Sn) : Bool := decide (Cov l s)
theorem covB_yes {l : List Sn} {s : Sn} (h : Cov l s) : covB l s = true := by unfold covB; simpa using h
theorem covB_no {l : List Sn} {s : Sn} (h : ¬ Cov l s) : covB l s = false := by unfold covB; simpa using h
theorem covB_iff {l : List Sn} {s : Sn} : covB l s = true ↔ Cov l s := by unfold covB; simp
theorem end_not {l : List Sn} (h : Val l) {i : Nat} (hi : i < l.length) : ¬ Mem (el l i).2 l := by
  rintro ⟨u, hu, h1, h2⟩
  obtain ⟨j, hj, rfl⟩ := mem_el hu
  have ni := val_ne h hi
  rcases Nat.lt_trichotomy i j with hij | rfl | hij
  · have := val_lt h hij hj; omega
  · omega
  · have := val_lt h hij hi; omega
theorem cov_at {l : List Sn} {s : Sn} (h : Val l) (hs : s.1 < s.2) (hc : Cov l s) : ∃ i, i < l.length ∧ (el l i).1 ≤ s.1 ∧ s.2 ≤ (el l i).2 := by
  obtain ⟨u, hu, h1, h2⟩ := hc s.1 (Int.le_refl _) hs
  obtain ⟨i, hi, rfl⟩ := mem_el hu
  refine ⟨i, hi, h1, ?_⟩
  rcases Int.lt_or_le (el l i).2 s.2 with hlt | hle
  · exact absurd (hc (el l i).2 (by omega) hlt) (end_not h hi)
  · exact hle
theorem cov_yes {l : List Sn} {s : Sn} {i : Nat} (hi : i < (norm l).length) (h1 : (el (norm l) i).1 ≤ s.1) (h2 : s.2 ≤ (el (norm l) i).2) : Cov l s := fun x hx hy => by
  rw [← Sp.norm_mem]
  exact ⟨_, el_mem hi, by omega, by omega⟩
theorem cov_no {l : List Sn} {s : Sn} (hs : s.1 < s.2) (h : ∀ i, i < (norm l).length → ¬ ((el (norm l) i).1 ≤ s.1 ∧ s.2 ≤ (el (norm l) i).2)) : ¬ Cov l s := fun hc => by
  obtain ⟨i, hi, h1, h2⟩ := cov_at (l := norm l) (Sp.norm_val l) hs (fun x hx hy => (Sp.norm_mem x l).2 (hc x hx hy))
  exact h i hi ⟨h1, h2⟩
theorem cov_empty {l : List Sn} {s : Sn} (hs : ¬ s.1 < s.2) : Cov l s := fun x h1 h2 => by omega
theorem cov_sub {l : List Sn} {s : Sn} : Cov l s ↔ subt [s] l = [] := by
  constructor
  · intro h
    refine (Sp.subt_uniq Sp.val_nil fun x => ?_).symm
    rw [mem_one]
    exact ⟨fun h => absurd h (Sp.mem_nil x), fun ⟨h1, h2⟩ => absurd (h x h1.1 h1.2) h2⟩
  · intro h x h1 h2
    refine Classical.byContradiction fun hn => Sp.mem_nil x ?_
    rw [← h, Sp.mem_subt, mem_one]
    exact ⟨⟨h1, h2⟩, hn⟩
/-- the first place from 'a' on in a list for n integers -/
def eFind : List Sn → Int → Int → Int × Bool
  | [], _, _ => (0, false)
  | s :: r, a, n => if max s.1 a < s.2 ∧ n ≤ s.2 - max s.1 a then (max s.1 a, true) else eFind r a n
def earl (l : List Sn) (a n : Int) : Int × Bool := if n ≤ 0 then (a, true) else eFind (norm l) a n
theorem eFind_skip {l : List Sn} {a n : Int} : ∀ k, k ≤ l.length → (∀ j, j < k → ¬ (max (el l j).1 a < (el l j).2 ∧ n ≤ (el l j).2 - max (el l j).1 a)) → eFind l a n = eFind (l.drop k) a n
  | 0, _, _ => by rw [List.drop_zero]
  | k + 1, hk, h => by
    rw [eFind_skip k (by omega) fun j hj => h j (by omega), drop_el (by omega), eFind, if_neg (h k (by omega))]
theorem eFind_at {l : List Sn} {a n : Int} {k : Nat} (hk : k < l.length) (h : ∀ j, j < k → ¬ (max (el l j).1 a < (el l j).2 ∧ n ≤ (el l j).2 - max (el l j).1 a)) (hc : max (el l k).1 a < (el l k).2 ∧ n ≤ (el l k).2 - max (el l k).1 a) : eFind l a n = (max (el l k).1 a, true) := by
  rw [eFind_skip k (by omega) h, drop_el hk, eFind, if_pos hc]
theorem eFind_none {l : List Sn} {a n : Int} (h : ∀ j, j < l.length → ¬ (max (el l j).1 a < (el l j).2 ∧ n ≤ (el l j).2 - max (el l j).1 a)) : eFind l a n = (0, false) := by
  rw [eFind_skip l.length (Nat.le_refl _) h, List.drop_length, eFind]
/-- how many integers the spans of a valid list hold -/
def sumL : List Sn → Int
  | [] => 0
  | s :: l => (s.2 - s.1) + sumL l
theorem sumL_append : ∀ l m : List Sn, sumL (l ++ m) = sumL l + sumL m
  | [], m => by simp [sumL]
  | s :: l, m => by simp only [List.cons_append, sumL, sumL_append l m]; omega
theorem sumL_snoc {l : List Sn} {k : Nat} (h : k < l.length) : sumL (l.take (k + 1)) = sumL (l.take k) + ((el l k).2 - (el l k).1) := by rw [take_snoc h, sumL_append]; simp [sumL]
theorem sumL_nonneg : ∀ {l : List Sn}, (∀ s ∈ l, s.1 < s.2) → 0 ≤ sumL l
  | [], _ => Int.le_refl _
  | s :: l, h => by
    have := h s List.mem_cons_self
    have := sumL_nonneg (l := l) fun t ht => h t (List.mem_cons_of_mem _ ht)
    simp only [sumL]; omega
theorem sumL_take {l : List Sn} (h : ∀ s ∈ l, s.1 < s.2) (k : Nat) : 0 ≤ sumL (l.take k) ∧ sumL (l.take k) ≤ sumL l := by
  have h1 := sumL_nonneg (l := l.take k) fun s hs => h s (List.mem_of_mem_take hs)
  have h2 := sumL_nonneg (l := l.drop k) fun s hs => h s (List.mem_of_mem_drop hs)
  have h3 := sumL_append (l.take k) (l.drop k)
  rw [List.take_append_drop] at h3
  omega
def totV (l : List Sn) : Int := min (sumL (norm l)) 4611686018427387903
end Go.Proofs.Ytamnlhlocidbkaa
