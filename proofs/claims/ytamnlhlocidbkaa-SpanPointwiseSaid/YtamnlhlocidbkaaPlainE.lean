/-
  Plain facts: the loops of span.Subtract. No program in sight.
-/
import Derived.Test.YtamnlhlocidbkaaPlainC
namespace Go.Proofs.Ytamnlhlocidbkaa
open Sp (Sn Mem Val norm uni inter subt val_cons val_snoc mem_cons mem_append mem_one)
/-- k spans are done, i holes are past -/
structure OutInv (a h : List Sn) (k i : Nat) (o : List Sn) : Prop where
  val : Val o
  mem : ∀ x, Mem x o ↔ Mem x (a.take k) ∧ ¬ Mem x h
  far : ∀ u ∈ o, ∀ j, k ≤ j → j < a.length → u.2 < (el a j).1
  past : ∀ n, n < i → ∀ j, k ≤ j → j < a.length → (el h n).2 ≤ (el a j).1
  ile : i ≤ h.length
  len : o.length ≤ k + i
/-- within span k, all up to fr is done -/
structure InInv (a h : List Sn) (k i : Nat) (fr : Int) (o : List Sn) : Prop where
  lo : (el a k).1 ≤ fr
  hi : fr < (el a k).2
  val : Val o
  mem : ∀ x, Mem x o ↔ (Mem x (a.take k) ∧ ¬ Mem x h) ∨ ((el a k).1 ≤ x ∧ x < fr ∧ ¬ Mem x h)
  far : ∀ u ∈ o, u.2 < fr
  past : ∀ n, n < i → (el h n).2 ≤ fr
  ile : i ≤ h.length
  len : o.length ≤ k + i
theorem OutInv.start (a h : List Sn) : OutInv a h 0 0 [] := ⟨Sp.val_nil, fun x => by simp [Sp.mem_nil], (fun u hu => by cases hu), (fun n hn => by omega), Nat.zero_le _, Nat.le_refl _⟩
section
variable {a h o : List Sn} {k i : Nat} {fr : Int}
theorem OutInv.enter (q : OutInv a h k i o) (ha : Val a) (hk : k < a.length) : InInv a h k i (el a k).1 o := by
  refine ⟨Int.le_refl _, val_ne ha hk, q.val, fun x => ?_, fun u hu => q.far u hu k (Nat.le_refl _) hk, fun n hn => q.past n hn k (Nat.le_refl _) hk, q.ile, q.len⟩
  rw [q.mem x]
  exact ⟨.inl, fun hx => hx.elim id fun hx => by omega⟩
theorem mem_hole {h : List Sn} {x : Int} : Mem x h ↔ ∃ n, n < h.length ∧ (el h n).1 ≤ x ∧ x < (el h n).2 := by
  constructor
  · rintro ⟨u, hu, hx⟩
    obtain ⟨n, hn, rfl⟩ := mem_el hu
    exact ⟨n, hn, hx⟩
  · rintro ⟨n, hn, hx⟩
    exact ⟨_, el_mem hn, hx⟩
theorem start_le {h : List Sn} (hh : Val h) {i n : Nat} (hin : i ≤ n) (hn : n < h.length) : (el h i).1 ≤ (el h n).1 := by
  rcases Nat.lt_or_ge i n with hlt | hge
  · have h1 := val_lt hh hlt hn
    have h2 := val_ne hh (i := i) (by omega)
    omega
  · rw [show i = n by omega]; exact Int.le_refl _
/-- between fr and the next hole there is none -/
theorem InInv.gap (q : InInv a h k i fr o) {z x : Int} (hz : ∀ n, i ≤ n → n < h.length → z ≤ (el h n).1) (h1 : fr ≤ x) (h2 : x < z) : ¬ Mem x h := by
  rw [mem_hole]
  rintro ⟨n, hn, hx⟩
  rcases Nat.lt_or_ge n i with hlt | hge
  · have := q.past n hlt; omega
  · have := hz n hge hn; omega
def push (o : List Sn) (x y : Int) : List Sn := if x < y then o ++ [(x, y)] else o
theorem push_len (o : List Sn) (x y : Int) : (push o x y).length ≤ o.length + 1 := by unfold push; split <;> simp
theorem mem_push (z : Int) (o : List Sn) (x y : Int) : Mem z (push o x y) ↔ Mem z o ∨ (x ≤ z ∧ z < y) := by
  unfold push
  split
  · rw [mem_append, mem_one]
  · exact ⟨.inl, fun h => h.elim id fun h => by omega⟩
theorem val_push {o : List Sn} {x y : Int} (hv : Val o) (hf : ∀ u ∈ o, u.2 < x) : Val (push o x y) := by
  unfold push
  split
  · exact (val_snoc _ _).2 ⟨by assumption, hf, hv⟩
  · exact hv
theorem push_far {o : List Sn} {x y z : Int} (hf : ∀ u ∈ o, u.2 < z) (hy : y < z) : ∀ u ∈ push o x y, u.2 < z := fun u hu => by
  unfold push at hu
  split at hu
  · rcases List.mem_append.1 hu with hu | hu
    · exact hf u hu
    · obtain rfl : u = (x, y) := by simpa using hu
      exact hy
  · exact hf u hu
theorem InInv.step (q : InInv a h k i fr o) (hh : Val h) (hi : i < h.length) (_c : (el h i).1 < (el a k).2) (c2 : max fr (el h i).2 < (el a k).2) : InInv a h k (i + 1) (max fr (el h i).2) (push o fr (el h i).1) := by
  have ne := val_ne hh hi
  have gp := fun x => q.gap (z := (el h i).1) (x := x) fun n h1 h2 => start_le hh h1 h2
  refine ⟨by have := q.lo; omega, c2, val_push q.val q.far, fun x => ?_, push_far (fun u hu => by have := q.far u hu; omega) (by omega), fun n hn => ?_, hi, by have := push_len o fr (el h i).1; have := q.len; omega⟩
  · rw [mem_push, q.mem x]
    have lo := q.lo
    constructor
    · rintro ((h1 | h1) | h1)
      · exact .inl h1
      · exact .inr ⟨h1.1, by omega, h1.2.2⟩
      · exact .inr ⟨by omega, by omega, gp x h1.1 h1.2⟩
    · rintro (h1 | ⟨h1, h2, h3⟩)
      · exact .inl (.inl h1)
      · by_cases hx : x < fr
        · exact .inl (.inr ⟨h1, hx, h3⟩)
        · by_cases hx2 : x < (el h i).1
          · exact .inr ⟨by omega, hx2⟩
          · exact absurd (mem_hole.2 ⟨i, hi, by omega, by omega⟩) h3
  · rcases Nat.lt_or_ge n i with hlt | hge
    · have := q.past n hlt; omega
    · rw [show n = i by omega]; omega
theorem take_mem {a : List Sn} {k : Nat} (hk : k < a.length) (x : Int) : Mem x (a.take (k + 1)) ↔ Mem x (a.take k) ∨ ((el a k).1 ≤ x ∧ x < (el a k).2) := by rw [take_snoc hk, mem_append, mem_one]
theorem InInv.full (q : InInv a h k i fr o) (ha : Val a) (hh : Val h) (hk : k < a.length) (hi : i < h.length) (c : (el h i).1 < (el a k).2) (c2 : ¬ max fr (el h i).2 < (el a k).2) : OutInv a h (k + 1) i (push o fr (el h i).1) := by
  have ne := val_ne hh hi
  have gp := fun x => q.gap (z := (el h i).1) (x := x) fun n h1 h2 => start_le hh h1 h2
  have hfs := q.hi
  refine ⟨val_push q.val q.far, fun x => ?_, fun u hu j hj hjl => ?_, fun n hn j hj hjl => ?_, q.ile, by have := push_len o fr (el h i).1; have := q.len; omega⟩
  · rw [mem_push, q.mem x, take_mem hk]
    have lo := q.lo
    constructor
    · rintro ((h1 | h1) | h1)
      · exact ⟨.inl h1.1, h1.2⟩
      · exact ⟨.inr ⟨h1.1, by omega⟩, h1.2.2⟩
      · exact ⟨.inr ⟨by omega, by omega⟩, gp x h1.1 h1.2⟩
    · rintro ⟨h1 | h1, h3⟩
      · exact .inl (.inl ⟨h1, h3⟩)
      · by_cases hx : x < fr
        · exact .inl (.inr ⟨h1.1, hx, h3⟩)
        · by_cases hx2 : x < (el h i).1
          · exact .inr ⟨by omega, hx2⟩
          · exact absurd (mem_hole.2 ⟨i, hi, by omega, by omega⟩) h3
  · have h1 := val_lt ha (show k < j by omega) hjl
    exact push_far (z := (el a j).1) (fun u hu => by have := q.far u hu; omega) (by omega) u hu
  · have h1 := val_lt ha (show k < j by omega) hjl
    have := q.past n hn
    omega
theorem InInv.leave (q : InInv a h k i fr o) (ha : Val a) (hh : Val h) (hk : k < a.length) (c : i < h.length → ¬ (el h i).1 < (el a k).2) : OutInv a h (k + 1) i (push o fr (el a k).2) := by
  have hfs := q.hi
  have gp := fun x => q.gap (z := (el a k).2) (x := x) fun n h1 h2 => by
    have h3 := start_le hh h1 h2
    have h4 := c (by omega)
    omega
  refine ⟨val_push q.val q.far, fun x => ?_, fun u hu j hj hjl => ?_, fun n hn j hj hjl => ?_, q.ile, by have := push_len o fr (el a k).2; have := q.len; omega⟩
  · rw [mem_push, q.mem x, take_mem hk]
    have lo := q.lo
    constructor
    · rintro ((h1 | h1) | h1)
      · exact ⟨.inl h1.1, h1.2⟩
      · exact ⟨.inr ⟨h1.1, by omega⟩, h1.2.2⟩
      · exact ⟨.inr ⟨by omega, by omega⟩, gp x h1.1 h1.2⟩
    · rintro ⟨h1 | h1, h3⟩
      · exact .inl (.inl ⟨h1, h3⟩)
      · by_cases hx : x < fr
        · exact .inl (.inr ⟨h1.1, hx, h3⟩)
        · exact .inr ⟨by omega, by omega⟩
  · have h1 := val_lt ha (show k < j by omega) hjl
    exact push_far (z := (el a j).1) (fun u hu => by have := q.far u hu; omega) (by omega) u hu
  · have h1 := val_lt ha (show k < j by omega) hjl
    have := q.past n hn
    omega
theorem OutInv.done (q : OutInv a h a.length i o) : o = subt a h := by
  refine Sp.subt_uniq q.val fun x => ?_
  rw [q.mem x, List.take_length]
end
end Go.Proofs.Ytamnlhlocidbkaa
