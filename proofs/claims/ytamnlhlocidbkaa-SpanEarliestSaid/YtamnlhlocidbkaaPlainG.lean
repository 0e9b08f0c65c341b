/-
  Counting the integers that the spans of a list hold.
-/
import Derived.Test.YtamnlhlocidbkaaPlainD
namespace Go.Proofs.Ytamnlhlocidbkaa
open Sp (Sn Mem Val norm uni inter subt)
def bI (b : Bool) : Int := if b then 1 else 0
/-- how many of the first k integers from -50 on the list holds -/
def cnt (l : List Sn) : Nat → Int
  | 0 => 0
  | k + 1 => cnt l k + bI (memB (-50 + k) l)
theorem cnt_bd (l : List Sn) : ∀ k, 0 ≤ cnt l k ∧ cnt l k ≤ k
  | 0 => by simp [cnt]
  | k + 1 => by
    have := cnt_bd l k
    unfold cnt bI
    split <;> omega
theorem cnt_nil : ∀ k, cnt [] k = 0
  | 0 => rfl
  | k + 1 => by unfold cnt; rw [cnt_nil k]; rfl
theorem bI_one (x : Int) (s : Sn) : bI (memB x [s]) = if s.1 ≤ x ∧ x < s.2 then 1 else 0 := by
  unfold bI
  have : memB x [s] = decide (s.1 ≤ x ∧ x < s.2) := by simp [memB]
  rw [this]
  simp
theorem cnt_one (s : Sn) (h0 : -50 ≤ s.1) (h1 : s.1 < s.2) : ∀ k : Nat, cnt [s] k = if (-50 + k : Int) ≤ s.1 then 0 else if (-50 + k : Int) ≤ s.2 then -50 + k - s.1 else s.2 - s.1
  | 0 => by simp [cnt]; omega
  | k + 1 => by
    unfold cnt
    rw [cnt_one s h0 h1 k, bI_one]
    push_cast
    split <;> split <;> (try split) <;> (try split) <;> (try split) <;> omega
theorem cnt_cons (s : Sn) (l : List Sn) (h : ∀ x, s.1 ≤ x → x < s.2 → ¬ Mem x l) : ∀ k, cnt (s :: l) k = cnt [s] k + cnt l k
  | 0 => rfl
  | k + 1 => by
    unfold cnt
    rw [cnt_cons s l h k]
    have : bI (memB (-50 + k) (s :: l)) = bI (memB (-50 + k) [s]) + bI (memB (-50 + k) l) := by
      by_cases h1 : Mem (-50 + (k : Int)) [s]
      · have h2 := h _ ((Sp.mem_one _ _).1 h1).1 ((Sp.mem_one _ _).1 h1).2
        have h3 : Mem (-50 + (k : Int)) (s :: l) := (Sp.mem_cons _ _ _).2 (.inl ((Sp.mem_one _ _).1 h1))
        rw [(memB_iff _ _).2 h1, (memB_iff _ _).2 h3, (memB_no _ _).2 h2]
        rfl
      · have h3 : Mem (-50 + (k : Int)) (s :: l) ↔ Mem (-50 + (k : Int)) l := by
          rw [Sp.mem_cons, ← Sp.mem_one]
          exact ⟨fun q => q.elim (fun q => absurd q h1) id, .inr⟩
        rw [(memB_no _ _).2 h1, memB_eq h3]
        simp [bI]
    omega
theorem cnt_sum : ∀ {l : List Sn}, Val l → (∀ s ∈ l, (-50 ≤ s.1 ∧ s.1 ≤ 51) ∧ (-50 ≤ s.2 ∧ s.2 ≤ 51)) → cnt l 101 = sumL l
  | [], _, _ => cnt_nil _
  | s :: l, hv, hb => by
    obtain ⟨h1, h2, h3⟩ := (Sp.val_cons s l).1 hv
    have hs := hb s List.mem_cons_self
    rw [cnt_cons s l (fun x q1 q2 => by
      rintro ⟨t, ht, hx⟩
      have := h2 t ht
      omega), cnt_one s hs.1.1 h1, cnt_sum h3 fun t ht => hb t (List.mem_cons_of_mem _ ht)]
    rw [show sumL (s :: l) = (s.2 - s.1) + sumL l from rfl]
    split <;> (try split) <;> omega
theorem cnt_congr {l m : List Sn} (h : ∀ x, Mem x l ↔ Mem x m) : ∀ k, cnt l k = cnt m k
  | 0 => rfl
  | k + 1 => by unfold cnt; rw [cnt_congr h k, memB_eq (h _)]
/-- the ends of a small list -/
def Sml (l : List Sn) : Prop := ∀ s ∈ l, (-50 ≤ s.1 ∧ s.1 ≤ 51) ∧ (-50 ≤ s.2 ∧ s.2 ≤ 51)
theorem Sml.norm {l : List Sn} (h : Sml l) : Sml (norm l) := Sp.norm_ends (P := fun x => -50 ≤ x ∧ x ≤ 51) h
theorem Sml.bd {l : List Sn} (h : Sml l) : Bd l := fun s hs => by have := h s hs; omega
theorem Sml.uni {l m : List Sn} (h : Sml l) (k : Sml m) : Sml (uni l m) := Sml.norm (l := l ++ m) fun s hs => (List.mem_append.1 hs).elim (h s) (k s)
theorem Sml.inter {l m : List Sn} (h : Sml l) (k : Sml m) : Sml (inter l m) := by
  refine Sml.norm (l := Sp.pairs l m) fun s hs => ?_
  obtain ⟨a, ha, hs⟩ := List.mem_flatMap.1 hs
  obtain ⟨b, hb, rfl⟩ := List.mem_map.1 hs
  have := h a ha
  have := k b hb
  simp only
  omega
theorem tot_cnt {l : List Sn} (h : Sml l) : totV l = cnt l 101 := by
  unfold totV
  rw [← cnt_sum (Sp.norm_val l) h.norm, cnt_congr (fun x => Sp.norm_mem x l)]
  have := cnt_bd l 101
  omega
theorem cnt_both (l m : List Sn) : ∀ k, cnt (uni l m) k + cnt (inter l m) k = cnt l k + cnt m k
  | 0 => rfl
  | k + 1 => by
    have h := cnt_both l m k
    have e : bI (memB (-50 + k) (uni l m)) + bI (memB (-50 + k) (inter l m)) = bI (memB (-50 + k) l) + bI (memB (-50 + k) m) := by
      have hu : memB (-50 + k) (uni l m) = (memB (-50 + k) l || memB (-50 + k) m) := by rw [Bool.eq_iff_iff, memB_iff, Sp.mem_uni, Bool.or_eq_true, memB_iff, memB_iff]
      have hi : memB (-50 + k) (inter l m) = (memB (-50 + k) l && memB (-50 + k) m) := by rw [Bool.eq_iff_iff, memB_iff, Sp.mem_inter, Bool.and_eq_true, memB_iff, memB_iff]
      rw [hu, hi]
      cases memB (-50 + k) l <;> cases memB (-50 + k) m <;> rfl
    unfold cnt
    omega
theorem tot_both {l m : List Sn} (h : Sml l) (k : Sml m) : totV (uni l m) + totV (inter l m) = totV l + totV m := by
  rw [tot_cnt h, tot_cnt k, tot_cnt (h.uni k), tot_cnt (h.inter k), cnt_both]
end Go.Proofs.Ytamnlhlocidbkaa
