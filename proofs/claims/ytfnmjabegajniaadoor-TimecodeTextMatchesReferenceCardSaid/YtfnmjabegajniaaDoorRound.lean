/-
  Plain facts: the timecode of a frame is accepted, and parsing returns the frame; a string that is accepted is the timecode of the frame that parsing returns.
-/
import Derived.Test.YtfnmjabegajniaaDoorBytes
namespace Go.Proofs.YtfnmjabegajniaaDoor
open Go.ChangeShapes Go.WideShapes Go.ChangeAt Go.RowKit Go.PlainAid
theorem bt_ext {s t : ByteArray} (hs : s.size = t.size) (h : ∀ k, k < s.size → bt s k = bt t k) : s = t := by
  apply ByteArray.ext
  apply Array.ext
  · exact hs
  · intro k h1 h2
    have hk := h k h1
    unfold bt at hk
    rw [dif_pos (show k < s.size from h1), dif_pos (show k < t.size from h2)] at hk
    apply UInt8.toNat_inj.1
    exact Int.ofNat.inj hk
theorem pt_code {h m s f p : Int} (a0 : 0 ≤ h) (a1 : h < 100) (a2 : 0 ≤ m) (a3 : m < 100) (a4 : 0 ≤ s) (a5 : s < 100) (a6 : 0 ≤ f) (a7 : f < 100) (z : ByteArray) (hz : strOf (codeL h m s f p) = z) :
    pt z 0 = h ∧ pt z 3 = m ∧ pt z 6 = s ∧ pt z 9 = f := by
  obtain ⟨_, z0, z1, _, z3, z4, _, z6, z7, _, z9, z10⟩ := code_bytes a0 a1 a2 a3 a4 a5 a6 a7 z hz
  simp only [pt, Nat.reduceAdd, z0, z1, z3, z4, z6, z7, z9, z10]
  omega
theorem good_code {b p h m s f : Int} (hb : b ≤ 60) (a0 : 0 ≤ h) (a1 : h < 24) (a2 : 0 ≤ m) (a3 : m < 60) (a4 : 0 ≤ s) (a5 : s < 60) (a6 : 0 ≤ f) (a7 : f < b) (hd : ¬ ((60 * h + m) % 10 ≠ 0 ∧ s = 0 ∧ f < p)) :
    Good b p (strOf (codeL h m s f p)) := by
  obtain ⟨z11, z0, z1, z2, z3, z4, z5, z6, z7, z8, z9, z10⟩ := code_bytes (p := p) a0 (by omega) a2 (by omega) a4 (by omega) a6 (by omega) _ rfl
  obtain ⟨p0, p3, p6, p9⟩ := pt_code (p := p) a0 (by omega) a2 (by omega) a4 (by omega) a6 (by omega) _ rfl
  refine ⟨z11, z2, z5, z8, ?_, ?_, ?_, ?_, by omega, by omega, by omega, by omega, ?_⟩
  · simp only [Dig, Nat.reduceAdd, z0, z1]; omega
  · simp only [Dig, Nat.reduceAdd, z3, z4]; omega
  · simp only [Dig, Nat.reduceAdd, z6, z7]; omega
  · simp only [Dig, Nat.reduceAdd, z9, z10]; omega
  · rw [p0, p3, p6, p9]; exact hd
theorem good_eq {b p : Int} {s : ByteArray} (hb : b ≤ 60) (hg : Good b p s) : s = strOf (codeL (pt s 0) (pt s 3) (pt s 6) (pt s 9) p) := by
  obtain ⟨h11, h2, h5, h8, d0, d3, d6, d9, r0, r3, r6, r9, _⟩ := hg
  simp only [Dig, Nat.reduceAdd] at d0 d3 d6 d9
  have q0 : 0 ≤ pt s 0 := by simp only [pt, Nat.reduceAdd]; omega
  have q3 : 0 ≤ pt s 3 := by simp only [pt, Nat.reduceAdd]; omega
  have q6 : 0 ≤ pt s 6 := by simp only [pt, Nat.reduceAdd]; omega
  have q9 : 0 ≤ pt s 9 := by simp only [pt, Nat.reduceAdd]; omega
  obtain ⟨z11, z0, z1, z2, z3, z4, z5, z6, z7, z8, z9, z10⟩ := code_bytes (p := p) q0 (by omega) q3 (by omega) q6 (by omega) q9 (by omega) _ rfl
  refine bt_ext (by omega) fun k hk => ?_
  rw [h11] at hk
  have e0 : pt s 0 = 10 * (bt s 0 - 48) + (bt s 1 - 48) := rfl
  have e3 : pt s 3 = 10 * (bt s 3 - 48) + (bt s 4 - 48) := rfl
  have e6 : pt s 6 = 10 * (bt s 6 - 48) + (bt s 7 - 48) := rfl
  have e9 : pt s 9 = 10 * (bt s 9 - 48) + (bt s 10 - 48) := rfl
  match k, hk with
  | 0, _ => rw [z0]; omega
  | 1, _ => rw [z1]; omega
  | 2, _ => rw [z2]; exact h2
  | 3, _ => rw [z3]; omega
  | 4, _ => rw [z4]; omega
  | 5, _ => rw [z5]; exact h5
  | 6, _ => rw [z6]; omega
  | 7, _ => rw [z7]; omega
  | 8, _ => rw [z8]; exact h8
  | 9, _ => rw [z9]; omega
  | 10, _ => rw [z10]; omega
theorem good_number {n d b p : Int} (h : Pl.Row n d b p) (i : Int) (h0 : 0 ≤ i) (h1 : i < Pl.day b p) :
    Good b p (codeOf b p (Pl.number b p i)) ∧ Pl.frameAt b p (60 * pt (codeOf b p (Pl.number b p i)) 0 + pt (codeOf b p (Pl.number b p i)) 3) (pt (codeOf b p (Pl.number b p i)) 6) (pt (codeOf b p (Pl.number b p i)) 9) = i := by
  obtain ⟨b1, b2, b3, b4, b5, b6, b7, b8⟩ := Row.bounds h
  have nr := Pl.number_range h i h0 h1
  have s0 : 0 ≤ Pl.number b p i / b := Int.ediv_nonneg nr.1 (by omega)
  have s1 : Pl.number b p i / b < 86400 := Int.ediv_lt_of_lt_mul (by omega) nr.2
  have f0 : 0 ≤ Pl.number b p i % b := Int.emod_nonneg _ (by omega)
  have f1 : Pl.number b p i % b < b := Int.emod_lt_of_pos _ (by omega)
  have nd := Pl.notDropped h i
  have fa := Pl.frameAt_number h i
  unfold codeOf
  generalize Pl.number b p i / b = S at *
  generalize Pl.number b p i % b = f at *
  have em : 60 * (S / 3600) + S / 60 % 60 = S / 60 := by omega
  obtain ⟨p0, p3, p6, p9⟩ := pt_code (h := S / 3600) (m := S / 60 % 60) (s := S % 60) (f := f) (p := p) (by omega) (by omega) (by omega) (by omega) (by omega) (by omega) f0 (by omega) _ rfl
  refine ⟨good_code b6 (by omega) (by omega) (by omega) (by omega) (by omega) (by omega) f0 f1 (by rw [em]; exact nd), ?_⟩
  rw [p0, p3, p6, p9, em]
  exact fa
theorem good_back {n d b p : Int} (h : Pl.Row n d b p) {s : ByteArray} (hg : Good b p s) :
    0 ≤ Pl.frameAt b p (60 * pt s 0 + pt s 3) (pt s 6) (pt s 9) ∧ Pl.frameAt b p (60 * pt s 0 + pt s 3) (pt s 6) (pt s 9) < Pl.day b p ∧
      codeOf b p (Pl.number b p (Pl.frameAt b p (60 * pt s 0 + pt s 3) (pt s 6) (pt s 9))) = s := by
  obtain ⟨b1, b2, b3, b4, b5, b6, b7, b8⟩ := Row.bounds h
  have he := good_eq b6 hg
  obtain ⟨h11, h2, h5, h8, d0, d3, d6, d9, r0, r3, r6, r9, nd⟩ := hg
  simp only [Dig, Nat.reduceAdd] at d0 d3 d6 d9
  have q0 : 0 ≤ pt s 0 := by simp only [pt, Nat.reduceAdd]; omega
  have q3 : 0 ≤ pt s 3 := by simp only [pt, Nat.reduceAdd]; omega
  have q6 : 0 ≤ pt s 6 := by simp only [pt, Nat.reduceAdd]; omega
  have q9 : 0 ≤ pt s 9 := by simp only [pt, Nat.reduceAdd]; omega
  obtain ⟨e1, e2, e3⟩ := Pl.number_frameAt h (60 * pt s 0 + pt s 3) (pt s 6) (pt s 9) (by omega) (by omega) q6 r6 q9 r9 nd
  refine ⟨e2, e3, ?_⟩
  rw [e1]
  unfold codeOf
  have hq : ((60 * (60 * pt s 0 + pt s 3) + pt s 6) * b + pt s 9) / b = 60 * (60 * pt s 0 + pt s 3) + pt s 6 := by
    rw [Int.add_comm, Int.add_mul_ediv_right _ _ (by omega : b ≠ 0), Int.ediv_eq_zero_of_lt q9 r9, Int.zero_add]
  have hm : ((60 * (60 * pt s 0 + pt s 3) + pt s 6) * b + pt s 9) % b = pt s 9 := by
    rw [Int.add_comm, Int.add_mul_emod_self_right, Int.emod_eq_of_lt q9 r9]
  rw [hq, hm]
  rw [show (60 * (60 * pt s 0 + pt s 3) + pt s 6) / 3600 = pt s 0 by omega, show (60 * (60 * pt s 0 + pt s 3) + pt s 6) / 60 % 60 = pt s 3 by omega, show (60 * (60 * pt s 0 + pt s 3) + pt s 6) % 60 = pt s 6 by omega]
  exact he.symm
end Go.Proofs.YtfnmjabegajniaaDoor
