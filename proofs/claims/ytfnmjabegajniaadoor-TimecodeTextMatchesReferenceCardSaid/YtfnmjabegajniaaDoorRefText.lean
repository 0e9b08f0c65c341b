/-
  The contracts of the reference's Text, dropped and Day. No condition.
-/
import Derived.Test.YtfnmjabegajniaaDoorLess
import Derived.Test.YtfnmjabegajniaaDoorRefCalc
import Derived.Deep.RegionHeld3
namespace Go.Proofs.YtfnmjabegajniaaDoor
open Go.RowKit
theorem strOf_append (xs ys : List Int) : strOf xs ++ strOf ys = strOf (xs ++ ys) := by
  apply ByteArray.ext
  rw [ByteArray.data_append, strOf_data, strOf_data, strOf_data]
  simp
theorem strOf_58 : (⟨#[58]⟩ : ByteArray) = strOf [58] := by decide +kernel
theorem strOf_59 : (⟨#[59]⟩ : ByteArray) = strOf [59] := by decide +kernel
theorem code_cat (h m s f p x : Int) (hx : (if 0 < p then 59 else 58) = x) :
    strOf [48 + h / 10, 48 + h % 10] ++ strOf [58] ++ strOf [48 + m / 10, 48 + m % 10] ++ strOf [58] ++ strOf [48 + s / 10, 48 + s % 10] ++ strOf [x] ++ strOf [48 + f / 10, 48 + f % 10] = strOf (codeL h m s f p) := by
  subst hx
  simp only [strOf_append, codeL, List.cons_append, List.nil_append]
theorem str2 (W : World) (g : Nat) (hg : g = W.heap.size) (x0 x1 : Int) (t : TypeId) (cap : Nat) :
    (convert 59 9 (.slice (some ⟨g, 0, none⟩) 2 cap)).run Tryd.prog (W.alloc (.cells #[.int .u8 x0, .int .u8 x1] t)) = .ok (.string (strOf [x0, x1])) (W.alloc (.cells #[.int .u8 x0, .int .u8 x1] t)) := by
  subst hg
  refine str_cells _ _ cap [x0, x1] ?_
  intro j v hv
  have hadd : (⟨W.heap.size, 0, none⟩ : Addr).add j = ⟨W.heap.size, j, none⟩ := by unfold Addr.add; split <;> simp_all
  rw [hadd, cell_of_row (W.alloc _) W.heap.size j _ _ _ (heap_alloc_new W _), ← hv]
  simp
set_option maxHeartbeats 400000 in
theorem rtwo_any (n : Int) (w : World) (h0 : 0 ≤ n) (h1 : n ≤ 99) : Calls Tryd.prog 41 #[.int .i64 n] w fun e w' => e = .returned (.string (strOf [48 + n / 10, 48 + n % 10])) ∧ Below w.heap.size w w' := by
  have hs := str2
  go_enter Tryd.func41, Tryd.ntmps41
  go_wp2
  go_ret
  exact ⟨rfl, by go_grown⟩
set_option maxHeartbeats 400000 in
theorem rtext_drop (n d b p m s f : Int) (w : World) (hm0 : 0 ≤ m) (hm1 : m < 1440) (hs0 : 0 ≤ s) (hs1 : s < 60) (hf0 : 0 ≤ f) (hf1 : f < 60) (hp : 0 < p) :
    Calls Tryd.prog 40 #[rowV n d b p, .int .i64 m, .int .i64 s, .int .i64 f] w fun e w' => e = .returned (.string (strOf (codeL (m / 60) (m % 60) s f p))) ∧ Below w.heap.size w w' := by
  go_enter Tryd.func40, Tryd.ntmps40
  go_wp2_with fail
  refine (rtwo_any _ _ (by omega) (by omega)).mono ?_
  rintro e w1 ⟨rfl, hb⟩
  have hb1 : Below w.heap.size w w1 := Below.via (by go_grown) (by go_size) hb
  clear hb
  go_wp2_with fail
  refine (rtwo_any _ _ (by omega) (by omega)).mono ?_
  rintro e w2 ⟨rfl, hb⟩
  have hb2 : Below w.heap.size w w2 := Below.via hb1 hb1.size hb
  clear hb hb1
  go_wp2_with fail
  refine (rtwo_any _ _ (by omega) (by omega)).mono ?_
  rintro e w3 ⟨rfl, hb⟩
  have hb3 : Below w.heap.size w w3 := Below.via hb2 hb2.size hb
  clear hb hb2
  go_wp2_with fail
  refine (rtwo_any _ _ (by omega) (by omega)).mono ?_
  rintro e w4 ⟨rfl, hb⟩
  have hb4 : Below w.heap.size w w4 := Below.via hb3 hb3.size hb
  clear hb hb3
  go_wp2
  go_ret
  refine ⟨?_, hb4⟩
  have e1 : m % 60 % 10 = m % 10 := by omega
  rw [← code_cat (m / 60) (m % 60) s f p 59 (if_pos hp), e1, ← strOf_58, ← strOf_59]
  rfl
set_option maxHeartbeats 400000 in
theorem rtext_plain (n d b p m s f : Int) (w : World) (hm0 : 0 ≤ m) (hm1 : m < 1440) (hs0 : 0 ≤ s) (hs1 : s < 60) (hf0 : 0 ≤ f) (hf1 : f < 60) (hp : ¬ 0 < p) :
    Calls Tryd.prog 40 #[rowV n d b p, .int .i64 m, .int .i64 s, .int .i64 f] w fun e w' => e = .returned (.string (strOf (codeL (m / 60) (m % 60) s f p))) ∧ Below w.heap.size w w' := by
  go_enter Tryd.func40, Tryd.ntmps40
  go_wp2_with fail
  refine (rtwo_any _ _ (by omega) (by omega)).mono ?_
  rintro e w1 ⟨rfl, hb⟩
  have hb1 : Below w.heap.size w w1 := Below.via (by go_grown) (by go_size) hb
  clear hb
  go_wp2_with fail
  refine (rtwo_any _ _ (by omega) (by omega)).mono ?_
  rintro e w2 ⟨rfl, hb⟩
  have hb2 : Below w.heap.size w w2 := Below.via hb1 hb1.size hb
  clear hb hb1
  go_wp2_with fail
  refine (rtwo_any _ _ (by omega) (by omega)).mono ?_
  rintro e w3 ⟨rfl, hb⟩
  have hb3 : Below w.heap.size w w3 := Below.via hb2 hb2.size hb
  clear hb hb2
  go_wp2_with fail
  refine (rtwo_any _ _ (by omega) (by omega)).mono ?_
  rintro e w4 ⟨rfl, hb⟩
  have hb4 : Below w.heap.size w w4 := Below.via hb3 hb3.size hb
  clear hb hb3
  go_wp2
  go_ret
  refine ⟨?_, hb4⟩
  have e1 : m % 60 % 10 = m % 10 := by omega
  rw [← code_cat (m / 60) (m % 60) s f p 58 (if_neg (by omega)), e1, ← strOf_58]
  rfl

theorem rtext_any (n d b p m s f : Int) (w : World) (hm0 : 0 ≤ m) (hm1 : m < 1440) (hs0 : 0 ≤ s) (hs1 : s < 60) (hf0 : 0 ≤ f) (hf1 : f < 60) :
    Calls Tryd.prog 40 #[rowV n d b p, .int .i64 m, .int .i64 s, .int .i64 f] w fun e w' => e = .returned (.string (strOf (codeL (m / 60) (m % 60) s f p))) ∧ Below w.heap.size w w' := by
  by_cases hp : 0 < p
  · exact rtext_drop n d b p m s f w hm0 hm1 hs0 hs1 hf0 hf1 hp
  · exact rtext_plain n d b p m s f w hm0 hm1 hs0 hs1 hf0 hf1 hp
theorem rdropped_any (n d b p m : Int) (w : World) (hm0 : 0 ≤ m) : Calls Tryd.prog 39 #[rowV n d b p, .int .i64 m] w fun e w' => e = .returned (.int .i64 (Pl.skip p m)) ∧ w.alloc (.cells #[.int .i64 n, .int .i64 d, .int .i64 b, .int .i64 p] 39) = w' := by
  unfold Pl.skip
  by_cases h : m % 10 = 0
  · rw [if_pos h]
    have h' : (m % 10 == 0) = true := by simpa using h
    clear h
    go_enter Tryd.func39, Tryd.ntmps39
    go_wp2
    go_ret
    exact ⟨rfl, rfl⟩
  · rw [if_neg h]
    have h' : (m % 10 == 0) = false := by simpa using h
    clear h
    go_enter Tryd.func39, Tryd.ntmps39
    go_wp2
    go_ret
    exact ⟨rfl, rfl⟩
theorem rday_any (n d b p : Int) (w : World) (h0 : 0 ≤ b) (h1 : b ≤ 100) (h2 : 0 ≤ p) (h3 : p ≤ 100) : Calls Tryd.prog 30 #[rowV n d b p] w fun e w' => e = .returned (.int .i64 (86400 * b - 1296 * p)) ∧ w.alloc (.cells #[.int .i64 n, .int .i64 d, .int .i64 b, .int .i64 p] 39) = w' := by
  go_enter Tryd.func30, Tryd.ntmps30
  go_wp2
  go_ret
  exact ⟨rfl, rfl⟩
end Go.Proofs.YtfnmjabegajniaaDoor
