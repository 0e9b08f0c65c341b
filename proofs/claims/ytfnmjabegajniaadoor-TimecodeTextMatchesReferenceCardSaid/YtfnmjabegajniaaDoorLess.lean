/-
  Plain facts on timecodes as strings: a greater number has a greater timecode; what the bytes of a timecode are.
-/
import Derived.Test.YtfnmjabegajniaaDoorParse
import Derived.Test.YtfnmjabegajniaaDoorFormat
namespace Go.Proofs.YtfnmjabegajniaaDoor
open Go.RowKit Go.PlainAid
theorem foldl_push (xs : List Int) : ∀ (r : ByteArray), (xs.foldl (fun r n => r.push (UInt8.ofNat n.toNat)) r).data = r.data ++ (xs.map fun n => UInt8.ofNat n.toNat).toArray := by
  induction xs with
  | nil => intro r; simp
  | cons x xs ih => intro r; rw [List.foldl_cons, ih]; simp [ByteArray.push]
theorem strOf_data (xs : List Int) : (strOf xs).data = (xs.map fun n => UInt8.ofNat n.toNat).toArray := by
  unfold strOf; rw [foldl_push]; simp
theorem strOf_eq (xs : List Int) : strOf xs = ⟨(xs.map fun n => UInt8.ofNat n.toNat).toArray⟩ := by
  rw [← strOf_data]
theorem strOf_size (xs : List Int) : (strOf xs).size = xs.length := by
  rw [strOf_eq]; simp [ByteArray.size]
theorem strOf_toList (xs : List Int) : (strOf xs).toList = xs.map fun n => UInt8.ofNat n.toNat := by
  rw [ByteArray.toList_eq, strOf_data]
abbrev u8 (k : Int) : UInt8 := UInt8.ofNat k.toNat
theorem u8_lt {a b : Int} (h0 : 0 ≤ a) (h1 : a < b) (h2 : b < 256) : u8 a < u8 b := by
  rw [UInt8.lt_iff_toNat_lt]
  simp only [u8, UInt8.toNat_ofNat']
  omega
theorem less_lt {a b : Int} {x y : List UInt8} (h0 : 0 ≤ a) (h1 : a < b) (h2 : b < 256) : Op.bytesLess (u8 a :: x) (u8 b :: y) = true := by
  simp [Op.bytesLess, u8_lt h0 h1 h2]
theorem less_eq (a : UInt8) (x y : List UInt8) : Op.bytesLess (a :: x) (a :: y) = Op.bytesLess x y := by
  simp [Op.bytesLess]
theorem less_irrefl (x : List UInt8) : Op.bytesLess x x = false := by
  induction x with
  | nil => rfl
  | cons a x ih => rw [less_eq, ih]
theorem less_two {n m : Int} {x y : List UInt8} (h0 : 0 ≤ n) (h1 : n < m) (h2 : m < 100) : Op.bytesLess (u8 (48 + n / 10) :: u8 (48 + n % 10) :: x) (u8 (48 + m / 10) :: u8 (48 + m % 10) :: y) = true := by
  by_cases h : n / 10 = m / 10
  · rw [h, less_eq]
    exact less_lt (by omega) (by omega) (by omega)
  · exact less_lt (by omega) (by omega) (by omega)
theorem code_less_parts {h m s f h' m' s' f' p : Int} (a0 : 0 ≤ h) (a1 : 0 ≤ m) (a2 : 0 ≤ s) (a3 : 0 ≤ f) (b0 : h' < 100) (b1 : m' < 100) (b2 : s' < 100) (b3 : f' < 100)
    (hl : h < h' ∨ h = h' ∧ (m < m' ∨ m = m' ∧ (s < s' ∨ s = s' ∧ f < f'))) :
    Op.bytesLess (strOf (codeL h m s f p)).toList (strOf (codeL h' m' s' f' p)).toList = true := by
  rw [strOf_toList, strOf_toList]
  simp only [codeL, List.map_cons, List.map_nil]
  rcases hl with hl | ⟨rfl, hl⟩
  · exact less_two a0 hl b0
  rw [less_eq, less_eq, less_eq]
  rcases hl with hl | ⟨rfl, hl⟩
  · exact less_two a1 hl b1
  rw [less_eq, less_eq, less_eq]
  rcases hl with hl | ⟨rfl, hl⟩
  · exact less_two a2 hl b2
  rw [less_eq, less_eq, less_eq]
  exact less_two a3 hl b3
theorem code_less {b p N M : Int} (hb : 0 < b) (hb' : b ≤ 60) (h0 : 0 ≤ N) (h1 : N < M) (h2 : M < 86400 * b) : Op.bytesLess (codeOf b p N).toList (codeOf b p M).toList = true := by
  have n1 := Int.emod_add_mul_ediv N b
  have m1 := Int.emod_add_mul_ediv M b
  have n2 := Int.emod_nonneg N (show b ≠ 0 by omega)
  have n3 := Int.emod_lt_of_pos N hb
  have m2 := Int.emod_nonneg M (show b ≠ 0 by omega)
  have m3 := Int.emod_lt_of_pos M hb
  have q0 : 0 ≤ N / b := Int.ediv_nonneg h0 (by omega)
  have q1 : N / b ≤ M / b := Int.ediv_le_ediv hb (by omega)
  have q2 : M / b < 86400 := Int.ediv_lt_of_lt_mul hb h2
  unfold codeOf
  have key : N / b < M / b ∨ N / b = M / b ∧ N % b < M % b := by
    by_cases h : N / b = M / b
    · rw [h] at n1; exact .inr ⟨h, by omega⟩
    · exact .inl (by omega)
  clear n1 m1
  generalize N / b = S at *
  generalize M / b = R at *
  generalize N % b = f at *
  generalize M % b = g at *
  refine code_less_parts (by omega) (by omega) (by omega) n2 (by omega) (by omega) (by omega) (by omega) ?_
  rcases key with hk | ⟨rfl, hk⟩
  · omega
  · exact .inr ⟨rfl, .inr ⟨rfl, .inr ⟨rfl, hk⟩⟩⟩
/-- the bytes of a string that is given by its bytes -/
theorem bt_strOf (xs : List Int) (k : Nat) (hk : k < xs.length) (h0 : 0 ≤ xs[k]) (h1 : xs[k] < 256) : bt (strOf xs) k = xs[k] := by
  have hs := strOf_size xs
  unfold bt
  rw [dif_pos (by omega)]
  have : (strOf xs)[k]'(by omega) = u8 xs[k] := by
    show (strOf xs).data[k]'_ = _
    simp [strOf_data]
  rw [this]
  simp only [u8, UInt8.toNat_ofNat']
  omega
end Go.Proofs.YtfnmjabegajniaaDoor
