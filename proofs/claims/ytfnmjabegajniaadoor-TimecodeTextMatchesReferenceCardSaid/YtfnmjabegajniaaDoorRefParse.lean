/-
  The contract of the reference's Parse: a string is accepted exactly if it is Good (eleven bytes, the separators, digits, ranges, not dropped), and what it returns then. No condition.
-/
import Derived.Test.YtfnmjabegajniaaDoorRefFormat
import Derived.Test.YtfnmjabegajniaaDoorRound
import Derived.Deep.AppendLies
import Derived.Deep.RegionWith
import Derived.Deep.RegionLaw
import Derived.Deep.DeepCutAuto
namespace Go.Proofs.YtfnmjabegajniaaDoor
open Go.RowKit Go.PlainAid
theorem info3 : (Tryd.prog.info? 3).map (fun i => (i.zero, i.size, i.bytes)) = some (some (.int .i64 0), 1, 8) := by kernel_rfl
def parts (s : ByteArray) (k : Nat) : List Value := (List.range k).map fun j => Value.int .i64 (pt s (3 * j))
theorem parts_succ (s : ByteArray) (k : Nat) : parts s (k + 1) = parts s k ++ [.int .i64 (pt s (3 * k))] := by simp [parts, List.range_succ]
theorem good_dig {b p : Int} {s : ByteArray} (hg : Good b p s) {k : Nat} (hk : k < 4) : Dig s (3 * k) := by
  obtain ⟨_, _, _, _, d0, d3, d6, d9, _⟩ := hg
  match k, hk with
  | 0, _ => exact d0
  | 1, _ => exact d3
  | 2, _ => exact d6
  | 3, _ => exact d9
theorem pt_comm (s : ByteArray) (k : Nat) : (bt s k - 48) * 10 + (bt s (k + 1) - 48) = pt s k := by unfold pt; omega
/-- a row lies in block a, a list of four numbers in block g; what was there at first is as it was -/
structure PX (w : World) (a g : Nat) (n d b p x0 x1 x2 x3 : Int) (wx : World) : Prop where
  old : Below w.heap.size w wx
  la : a < wx.heap.size
  lg : g < wx.heap.size
  y0 : wx.cell? ⟨a, 0, none⟩ = some (.int .i64 n)
  y1 : wx.cell? ⟨a, 1, none⟩ = some (.int .i64 d)
  y2 : wx.cell? ⟨a, 2, none⟩ = some (.int .i64 b)
  y3 : wx.cell? ⟨a, 3, none⟩ = some (.int .i64 p)
  z0 : wx.cell? ⟨g, 0, none⟩ = some (.int .i64 x0)
  z1 : wx.cell? ⟨g, 1, none⟩ = some (.int .i64 x1)
  z2 : wx.cell? ⟨g, 2, none⟩ = some (.int .i64 x2)
  z3 : wx.cell? ⟨g, 3, none⟩ = some (.int .i64 x3)
theorem PX.next {w wx wy : World} {a g : Nat} {n d b p x0 x1 x2 x3 : Int} (h : PX w a g n d b p x0 x1 x2 x3 wx) (hb : Below wx.heap.size wx wy) : PX w a g n d b p x0 x1 x2 x3 wy where
  old := h.old.trans (hb.mono h.old.size)
  la := Nat.lt_of_lt_of_le h.la hb.size
  lg := Nat.lt_of_lt_of_le h.lg hb.size
  y0 := (hb.cell (p := ⟨a, 0, none⟩) h.la).trans h.y0
  y1 := (hb.cell (p := ⟨a, 1, none⟩) h.la).trans h.y1
  y2 := (hb.cell (p := ⟨a, 2, none⟩) h.la).trans h.y2
  y3 := (hb.cell (p := ⟨a, 3, none⟩) h.la).trans h.y3
  z0 := (hb.cell (p := ⟨g, 0, none⟩) h.lg).trans h.z0
  z1 := (hb.cell (p := ⟨g, 1, none⟩) h.lg).trans h.z1
  z2 := (hb.cell (p := ⟨g, 2, none⟩) h.lg).trans h.z2
  z3 := (hb.cell (p := ⟨g, 3, none⟩) h.lg).trans h.z3
theorem PX.drew {w wx : World} {a g : Nat} {n d b p x0 x1 x2 x3 : Int} (h : PX w a g n d b p x0 x1 x2 x3 wx) : PX w a g n d b p x0 x1 x2 x3 wx.drew := ⟨h.old.drew, h.la, h.lg, h.y0, h.y1, h.y2, h.y3, h.z0, h.z1, h.z2, h.z3⟩
theorem PX.drewN {w wx : World} {a g : Nat} {n d b p x0 x1 x2 x3 : Int} (h : PX w a g n d b p x0 x1 x2 x3 wx) (k : Nat) : PX w a g n d b p x0 x1 x2 x3 (wx.drewN k) := ⟨below_drewN h.old k, h.la, h.lg, h.y0, h.y1, h.y2, h.y3, h.z0, h.z1, h.z2, h.z3⟩
theorem PX.six {w wx : World} {a g : Nat} {n d b p x0 x1 x2 x3 : Int} (h : PX w a g n d b p x0 x1 x2 x3 wx) : wx.cell? ⟨a, 0, none⟩ = some (.int .i64 n) ∧ wx.cell? ⟨a, 1, none⟩ = some (.int .i64 d) ∧ wx.cell? ⟨a, 2, none⟩ = some (.int .i64 b) ∧ wx.cell? ⟨a, 3, none⟩ = some (.int .i64 p) ∧ wx.cell? ⟨g, 2, none⟩ = some (.int .i64 x2) ∧ wx.cell? ⟨g, 3, none⟩ = some (.int .i64 x3) := ⟨h.y0, h.y1, h.y2, h.y3, h.z2, h.z3⟩
theorem rdropped_b (n d b p m : Int) (w : World) (hm0 : 0 ≤ m) : Calls Tryd.prog 39 #[rowV n d b p, .int .i64 m] w fun e w' => e = .returned (.int .i64 (Pl.skip p m)) ∧ Below w.heap.size w w' :=
  (rdropped_any n d b p m w hm0).mono fun _ _ hh => ⟨hh.1, by rw [← hh.2]; exact (Below.refl _ _).alloc (Nat.le_refl _) _⟩
theorem rtext_is {n d b p m s f : Int} {z : ByteArray} (hz : strOf (codeL (m / 60) (m % 60) s f p) = z) (w : World) (hm0 : 0 ≤ m) (hm1 : m < 1440) (hs0 : 0 ≤ s) (hs1 : s < 60) (hf0 : 0 ≤ f) (hf1 : f < 60) :
    Calls Tryd.prog 40 #[rowV n d b p, .int .i64 m, .int .i64 s, .int .i64 f] w fun e w' => e = .returned (.string z) ∧ Below w.heap.size w w' := by
  subst hz
  exact rtext_any n d b p m s f w hm0 hm1 hs0 hs1 hf0 hf1
theorem start_le {n d b p : Int} (h : Pl.Row n d b p) (k : Nat) : Pl.start b p k ≤ 3600 * k := by
  induction k with
  | zero => rw [show ((0 : Nat) : Int) = 0 from rfl, start_zero]; omega
  | succ k ih =>
    have := Row.bounds h
    have hs := skip_range h k
    rw [show ((k + 1 : Nat) : Int) = (k : Int) + 1 by omega, Pl.start_succ]
    omega
theorem start_frame (b p M s f : Int) : Pl.start b p M + s * b + f - Pl.skip p M = Pl.frameAt b p M s f := by
  unfold Pl.start Pl.skip Pl.frameAt
  have e1 : (60 * M + s) * b = 60 * b * M + s * b := by
    rw [Int.add_mul, Int.mul_assoc, Int.mul_comm M b, ← Int.mul_assoc]
  rw [e1]
  by_cases h : M % 10 = 0
  · rw [if_pos h, show (M + 9) / 10 = M / 10 by omega]; omega
  · rw [if_neg h, show (M + 9) / 10 = M / 10 + 1 by omega, show M - (M / 10 + 1) = M - M / 10 - 1 by omega, Int.sub_mul (M - M / 10) 1 p]; omega
theorem good_of_text {b p D x6 x9 : Int} {s : ByteArray} (hb : b ≤ 60) (hD0 : 0 ≤ D) (hD1 : D < 1440) (a4 : 0 ≤ x6) (a5 : x6 < 60) (a6 : 0 ≤ x9) (a7 : x9 < b) (hz : strOf (codeL (D / 60) (D % 60) x6 x9 p) = s) (hd : ¬ (x6 = 0 ∧ x9 < Pl.skip p D)) : Good b p s := by
  rw [← hz]
  refine good_code hb (by omega) (by omega) (by omega) (by omega) a4 a5 a6 a7 ?_
  rw [show 60 * (D / 60) + D % 60 = D by omega]
  rintro ⟨h1, h2, h3⟩
  exact hd ⟨h2, by unfold Pl.skip; rw [if_neg h1]; exact h3⟩
theorem bad_of_drop {b p D : Int} {s : ByteArray} (hD : 60 * pt s 0 + pt s 3 = D) (h6 : pt s 6 = 0) (h9 : pt s 9 < Pl.skip p D) (h0 : 0 ≤ pt s 9) : ¬ Good b p s := by
  rintro ⟨_, _, _, _, _, _, _, _, _, _, _, _, nd⟩
  rw [hD] at nd
  unfold Pl.skip at h9
  split at h9
  · omega
  · exact nd ⟨by assumption, h6, h9⟩
theorem text_of_good {b p D : Int} {s : ByteArray} (hb : b ≤ 60) (hD : pt s 0 * 60 + pt s 3 = D) (hg : Good b p s) : strOf (codeL (D / 60) (D % 60) (pt s 6) (pt s 9) p) = s := by
  have he := good_eq hb hg
  obtain ⟨_, _, _, _, _, d3, _, _, _, r3, _, _, _⟩ := hg
  simp only [Dig, Nat.reduceAdd] at d3
  have q3 : 0 ≤ pt s 3 := by simp only [pt, Nat.reduceAdd]; omega
  rw [show D / 60 = pt s 0 by omega, show D % 60 = pt s 3 by omega]
  exact he.symm
set_option maxRecDepth 100000 in
set_option maxHeartbeats 2000000 in
theorem rparse_main {n d b p : Int} (h : Pl.Row n d b p) (s : ByteArray) (w : World) (hs : s.size = 11) :
    Calls Tryd.prog 28 #[rate n d, .string s] w fun e w' => ParsePost b p s e ∧ Below w.heap.size w w' := by
  obtain ⟨b1, b2, b3, b4, b5, b6, b7, b8⟩ := Row.bounds h
  obtain ⟨i0, hi0, hz0, hz1, hz2⟩ := info_parts info3
  have H := Lib.hid h
  have I0 := Lib.hid (And.intro hi0 (And.intro hz0 (And.intro hz1 hz2)))
  have hbt := get_bt s
  clear h hi0 hz0 hz1 hz2
  go_enter Tryd.func28, Tryd.ntmps28
  go_wp2_with fail
  refine (rfind_yes H.out _).mono ?_
  rintro e w1 ⟨rfl, hb⟩
  have hb1 : Below w.heap.size w w1 := Below.via (by go_grown) (by go_size) hb
  have hz : w.heap.size ≤ w1.heap.size := hb1.size
  obtain ⟨hc, hf⟩ := bcell hb
  go_wp2
  clear hc hf hb
  go_loopw [8, 9] (fun s8 s9 wr => ∃ k : Nat, k ≤ 4 ∧ s9 = .int .i64 ((3 * k : Nat) : Int) ∧ wr.ownsRow (w1.heap.size + 1) 3 1 s8 k (parts s k) ∧ Below (w1.heap.size + 1) (w1.alloc (.cells #[.int .i64 n, .int .i64 d, .int .i64 b, .int .i64 p] 39)) wr ∧ Hid (∀ j, j < k → Dig s (3 * j))) (fun _ s9 _ => 12 - (intOf s9).toNat)
  case atStart => exact ⟨0, by omega, rfl, ⟨by simp [parts], .inl ⟨rfl, rfl⟩⟩, by go_grown, Lib.hid (fun j hj => by omega)⟩
  case round =>
    obtain ⟨k, hk, rfl, hown, hB, hD⟩ := hrel
    by_cases hlt : k < 4
    · have k1 : 3 * k < 11 := by omega
      have k2 : 3 * k + 1 < 11 := by omega
      have k3 : ((3 * k : Nat) : Int) < 11 := by omega
      have l0 := bt_nonneg s (3 * k)
      have m0 := bt_le s (3 * k)
      have l1 := bt_nonneg s (3 * k + 1)
      have m1 := bt_le s (3 * k + 1)
      have O := Lib.hid hown
      have B := Lib.hid hB
      clear hown hB
      have fin : Below w.heap.size w wr := (hb1.alloc hb1.size _).trans (B.out.mono (by omega))
      have FN := Lib.hid fin
      clear fin
      go_wp2
      any_goals (go_ret2; refine ⟨.inr ⟨fun hg => ?_, rfl⟩, FN.out⟩; have hgd := good_dig hg hlt; unfold Dig at hgd; omega)
      have e1 : IntKind.i64.wrap (3 * (k : Int) + 1) = 3 * (k : Int) + 1 := IntWalk.i64_in _ (by omega)
      have e2 : (3 * (k : Int) + 1).toNat = 3 * k + 1 := by omega
      have e3 : (3 * (k : Int)).toNat = 3 * k := by omega
      have e4 : (0 : Int) ≤ 3 * (k : Int) := by omega
      have e5 : (0 : Int) ≤ 3 * (k : Int) + 1 := by omega
      have e6 : 3 * (k : Int) + 1 < 11 := by omega
      have e7 : IntKind.u8.wrap (bt s (3 * k) - 48) = bt s (3 * k) - 48 := IntWalk.u8_in _ (by omega)
      have e8 : IntKind.u8.wrap (bt s (3 * k + 1) - 48) = bt s (3 * k + 1) - 48 := IntWalk.u8_in _ (by omega)
      have e9 : IntKind.i64.wrap (bt s (3 * k) - 48) = bt s (3 * k) - 48 := IntWalk.i64_in _ (by omega)
      have e10 : IntKind.i64.wrap (bt s (3 * k + 1) - 48) = bt s (3 * k + 1) - 48 := IntWalk.i64_in _ (by omega)
      have e11 : IntKind.i64.wrap ((bt s (3 * k) - 48) * 10) = (bt s (3 * k) - 48) * 10 := IntWalk.i64_in _ (by omega)
      have e12 : IntKind.i64.wrap ((bt s (3 * k) - 48) * 10 + (bt s (3 * k + 1) - 48)) = (bt s (3 * k) - 48) * 10 + (bt s (3 * k + 1) - 48) := IntWalk.i64_in _ (by omega)
      go_region_law ((refine step_append_lies _ (by rfl) _ _ _ (by rfl) (w1.heap.size + 1) 3 i0 _ 1 8 Tryd.underlying27 I0.out.1 I0.out.2.1 I0.out.2.2.1 I0.out.2.2.2 rfl (by omega) u8 k (parts s k) (by rfl) ((O.out.alloc _).drew) ⟨wr.heap.size, 0, none⟩ 1 1 [.int .i64 ((bt s (3 * k) - 48) * 10 + (bt s (3 * k + 1) - 48))] (by rfl) (by rfl) (World.news_of_block (cs := #[.int .i64 ((bt s (3 * k) - 48) * 10 + (bt s (3 * k + 1) - 48))]) (t := 3) (fr := (0, 0)) (heap_alloc_new wr _)) (by simp [Value.oneCell']) (by omega) (by unfold maxLen; omega) (by omega) (by simp; have := B.out.size; simp at this; omega) (wr.heap.size + 1) (by simp) ?_; intro gg cap w5 hown1 hgrow hat hglt))
      all_goals
        have hB5 : Below (w1.heap.size + 1) (w1.alloc (.cells #[.int .i64 n, .int .i64 d, .int .i64 b, .int .i64 p] 39)) w5 := by
          have hz4 := B.out.size
          simp at hz4
          exact Below.grown ((B.out.alloc (by omega) _).drew) hgrow (by simp; omega) (fun q hq => (O.out.lt q hq).1)
        rw [pt_comm, ← parts_succ] at hown1
        have O1 := Lib.hid hown1
        have B5 := Lib.hid hB5
        have D1 := Lib.hid (fun j (hj : j < k + 1) => if e : j = k then (by subst e; exact ⟨by omega, by omega, by omega, by omega⟩ : Dig s (3 * j)) else hD.out j (by omega))
        clear hown1 hB5 hgrow hat hglt e1 e2 e3 e4 e5 e6 e7 e8 e9 e10 e11 e12
        go_wp2
        go_roundw
        case rel => exact ⟨k + 1, by omega, by go_num, O1.out, B5.out, D1⟩
        case measure => simp [intOf]; omega
    · obtain rfl : k = 4 := by omega
      obtain ⟨g, cap, cur, rfl, hgB, hgc, hcap, _, _, htk⟩ : ∃ g cap cur, u8 = .slice (some ⟨g, 0, none⟩) 4 cap ∧ w1.heap.size + 1 ≤ g ∧ wr.heap[g]? = some (.cells cur 3 (0, 0)) ∧ 4 ≤ cap ∧ cap ≤ maxLen ∧ cur.size = cap * 1 ∧ cur.toList.take (4 * 1) = parts s 4 := by
        rcases hown.2 with ⟨_, h0⟩ | hh
        · omega
        · exact hh
      have hcl := hown.cells (g := g) rfl
      have x0 : wr.cell? ⟨g, 0, none⟩ = some (.int .i64 (pt s 0)) := hcl 0 _ rfl
      have x1 : wr.cell? ⟨g, 1, none⟩ = some (.int .i64 (pt s 3)) := hcl 1 _ rfl
      have x2 : wr.cell? ⟨g, 2, none⟩ = some (.int .i64 (pt s 6)) := hcl 2 _ rfl
      have x3 : wr.cell? ⟨g, 3, none⟩ = some (.int .i64 (pt s 9)) := hcl 3 _ rfl
      have hglt : g < wr.heap.size := (hown.lt g rfl).2
      obtain ⟨y0, y1, y2, y3⟩ := keepX hB
      have B := Lib.hid hB
      have d0 := hD.out 0 (by omega)
      have d3 := hD.out 1 (by omega)
      have d6 := hD.out 2 (by omega)
      have d9 := hD.out 3 (by omega)
      clear hown hcl htk hgc hB hD
      simp only [Dig, Nat.reduceMul, Nat.reduceAdd] at d0 d3 d6 d9
      have r0 : 0 ≤ pt s 0 ∧ pt s 0 ≤ 99 := by simp only [pt, Nat.reduceAdd]; omega
      have r3 : 0 ≤ pt s 3 ∧ pt s 3 ≤ 99 := by simp only [pt, Nat.reduceAdd]; omega
      have r6 : 0 ≤ pt s 6 ∧ pt s 6 ≤ 99 := by simp only [pt, Nat.reduceAdd]; omega
      have r9 : 0 ≤ pt s 9 ∧ pt s 9 ≤ 99 := by simp only [pt, Nat.reduceAdd]; omega
      have fin : Below w.heap.size w wr := (hb1.alloc hb1.size _).trans (B.out.mono (by omega))
      have FN := Lib.hid fin
      clear fin
      by_cases t0 : 23 < pt s 0
      · have td0 : decide (23 < pt s 0) = true := by simpa using t0
        go_wp2
        go_quiet (fail)
        go_wp2
        go_ret2
        refine ⟨.inr ⟨fun hg => ?_, rfl⟩, ?_⟩
        · obtain ⟨_, _, _, _, _, _, _, _, q0, q3, q6, q9, _⟩ := hg; omega
        · exact below_drewN FN.out _
      have td0 : decide (23 < pt s 0) = false := by simpa using t0
      by_cases t1 : 59 < pt s 3
      · have td1 : decide (59 < pt s 3) = true := by simpa using t1
        go_wp2
        go_quiet (fail)
        go_wp2
        go_ret2
        refine ⟨.inr ⟨fun hg => ?_, rfl⟩, ?_⟩
        · obtain ⟨_, _, _, _, _, _, _, _, q0, q3, q6, q9, _⟩ := hg; omega
        · exact below_drewN FN.out _
      have td1 : decide (59 < pt s 3) = false := by simpa using t1
      by_cases t2 : 59 < pt s 6
      · have td2 : decide (59 < pt s 6) = true := by simpa using t2
        go_wp2
        go_quiet (fail)
        go_wp2
        go_ret2
        refine ⟨.inr ⟨fun hg => ?_, rfl⟩, ?_⟩
        · obtain ⟨_, _, _, _, _, _, _, _, q0, q3, q6, q9, _⟩ := hg; omega
        · exact below_drewN FN.out _
      have td2 : decide (59 < pt s 6) = false := by simpa using t2
      by_cases t3 : b ≤ pt s 9
      · have td3 : decide (b ≤ pt s 9) = true := by simpa using t3
        go_wp2
        go_quiet (fail)
        go_wp2
        go_ret2
        refine ⟨.inr ⟨fun hg => ?_, rfl⟩, ?_⟩
        · obtain ⟨_, _, _, _, _, _, _, _, q0, q3, q6, q9, _⟩ := hg; omega
        · exact below_drewN FN.out _
      have td3 : decide (b ≤ pt s 9) = false := by simpa using t3
      have P0 : PX w w1.heap.size g n d b p (pt s 0) (pt s 3) (pt s 6) (pt s 9) wr := ⟨FN.out, by have := B.out.size; simp at this; omega, hglt, y0, y1, y2, y3, x0, x1, x2, x3⟩
      have PX0 := Lib.hid P0
      clear P0 B
      go_wp2
      go_quiet (fail)
      have hA1 := PX0.out.drewN nq
      generalize wr.drewN nq = wq1 at *
      have a0 := hA1.z0
      have a1 := hA1.z1
      have HA1 := Lib.hid hA1
      clear hA1
      go_wp2
      go_quiet (fail)
      have hAcc := HA1.out.drewN nq
      generalize wq1.drewN nq = wq at *
      clear a0 a1
      go_wp2
      have hD0 : 0 ≤ pt s 0 * 60 + pt s 3 := by omega
      have hD1 : pt s 0 * 60 + pt s 3 < 1440 := by omega
      generalize hdd : pt s 0 * 60 + pt s 3 = D at *
      have HD := Lib.hid hdd
      clear hdd x0 x1 x2 x3 y0 y1 y2 y3 PX0 FN
      obtain ⟨DN, rfl⟩ : ∃ DN : Nat, (DN : Int) = D := ⟨D.toNat, by omega⟩
      obtain ⟨x2, x3⟩ : wq.cell? ⟨g, 2, none⟩ = some (.int .i64 (pt s 6)) ∧ wq.cell? ⟨g, 3, none⟩ = some (.int .i64 (pt s 9)) := ⟨hAcc.z2, hAcc.z3⟩
      have v0 := hAcc.y0
      have v1 := hAcc.y1
      have v2 := hAcc.y2
      have v3 := hAcc.y3
      by_cases hzs : strOf (codeL ((DN : Int) / 60) ((DN : Int) % 60) (pt s 6) (pt s 9) p) = s
      · have HZ := Lib.hid hzs
        clear hzs
        have hq2 : (s.toList != s.toList) = false := by simp
        obtain ⟨DR, hDR⟩ : ∃ DR : Bool, DR = decide (pt s 6 = 0 ∧ pt s 9 < Pl.skip p DN) := ⟨_, rfl⟩
        have HDR := Lib.hid hDR
        clear hDR
        go_upto_region 14 with fail
        go_cut [126] (fun s126 wx => s126 = .bool DR ∧ PX w w1.heap.size g n d b p (pt s 0) (pt s 3) (pt s 6) (pt s 9) wx)
        case first =>
          by_cases h6 : pt s 6 = 0
          · have q6 : (pt s 6 == 0) = true := by simp [h6]
            have H6 := Lib.hid h6
            clear h6
            go_region_held3 (fun w' => w'.cell? ⟨w1.heap.size, 0, none⟩ = some (.int .i64 n) ∧ w'.cell? ⟨w1.heap.size, 1, none⟩ = some (.int .i64 d) ∧ w'.cell? ⟨w1.heap.size, 2, none⟩ = some (.int .i64 b) ∧ w'.cell? ⟨w1.heap.size, 3, none⟩ = some (.int .i64 p) ∧ w'.cell? ⟨g, 2, none⟩ = some (.int .i64 (pt s 6)) ∧ w'.cell? ⟨g, 3, none⟩ = some (.int .i64 (pt s 9))) (first | exact hAcc.six | exact hAcc.drew.six)
              (first
                | (go_at_call 40; refine (rtext_is HZ.out _ (by omega) (by omega) (by omega) (by omega) (by omega) (by omega)).mono ?_; rintro e wx ⟨rfl, hbT⟩; replace hAcc : PX w w1.heap.size g n d b p (pt s 0) (pt s 3) (pt s 6) (pt s 9) wx := by first | exact hAcc.drew.next hbT | exact hAcc.next hbT)
                | (go_at_call 39; refine (rdropped_b _ _ _ _ _ _ (by omega)).mono ?_; rintro e wx ⟨rfl, hbT⟩; replace hAcc : PX w w1.heap.size g n d b p (pt s 0) (pt s 3) (pt s 6) (pt s 9) wx := by first | exact hAcc.drew.next hbT | exact hAcc.next hbT))
            all_goals
              go_wp2_with fail
              go_meet
              refine ⟨?_, hAcc⟩
              rw [HDR.out]
              simp [H6.out]
          · have q6 : (pt s 6 == 0) = false := by simpa using h6
            have H6 := Lib.hid h6
            clear h6
            refine wp_region_held_drew (S := (fun w' => w'.cell? ⟨w1.heap.size, 0, none⟩ = some (.int .i64 n) ∧ w'.cell? ⟨w1.heap.size, 1, none⟩ = some (.int .i64 d) ∧ w'.cell? ⟨w1.heap.size, 2, none⟩ = some (.int .i64 b) ∧ w'.cell? ⟨w1.heap.size, 3, none⟩ = some (.int .i64 p) ∧ w'.cell? ⟨g, 2, none⟩ = some (.int .i64 (pt s 6)) ∧ w'.cell? ⟨g, 3, none⟩ = some (.int .i64 (pt s 9)))) (by kernel_rfl) hAcc.drew.six (fun hHeld => ?_)
            refine wpAnyH_take (i := 0) (v := ?_) rfl (by kernel_rfl) (by kernel_rfl) (by kernel_rfl) (fun _ _ _ h => h) (Or.inl ⟨by rfl, ?hy1⟩) (by assumption) ?_
            case hy1 => (intro w hSw; (try dsimp only at hSw); go_simp; try with_reducible rfl)
            simp only [Act.put, List.getElem_toArray, List.getElem_cons_zero, List.setIfInBounds_toArray, List.set_cons_zero, List.set_cons_succ]
            refine wpAnyH_take (i := 1) (v := ?_) rfl (by kernel_rfl) (by kernel_rfl) (by kernel_rfl) (fun _ _ _ h => h) (Or.inl ⟨by rfl, ?hy2⟩) (by assumption) ?_
            case hy2 => (intro w hSw; (try dsimp only at hSw); go_simp; try with_reducible rfl)
            simp only [Act.put, List.getElem_toArray, List.getElem_cons_zero, List.getElem_cons_succ, List.setIfInBounds_toArray, List.set_cons_zero, List.set_cons_succ]
            refine wpAnyH_take (i := 2) (v := ?_) rfl (by kernel_rfl) (by kernel_rfl) (by kernel_rfl) (fun _ _ _ h => h) (Or.inl ⟨by rfl, ?hy3⟩) (by assumption) ?_
            case hy3 => (intro w hSw; (try dsimp only at hSw); go_simp; try with_reducible rfl)
            simp only [Act.put, List.getElem_toArray, List.getElem_cons_zero, List.getElem_cons_succ, List.setIfInBounds_toArray, List.set_cons_zero, List.set_cons_succ]
            refine wpAnyH_take (i := 3) (v := ?_) rfl (by kernel_rfl) (by kernel_rfl) (by kernel_rfl) (fun _ _ _ h => h) (Or.inl ⟨by rfl, ?hy4⟩) (by assumption) ?_
            case hy4 => (intro w hSw; (try dsimp only at hSw); go_simp; try with_reducible rfl)
            simp only [Act.put, List.getElem_toArray, List.getElem_cons_zero, List.getElem_cons_succ, List.setIfInBounds_toArray, List.set_cons_zero, List.set_cons_succ]
            refine wpAnyH_take (i := 4) (v := ?_) rfl (by kernel_rfl) (by kernel_rfl) (by kernel_rfl) (fun _ _ _ h => h) (Or.inl ⟨by rfl, ?hy5⟩) (by assumption) ?_
            case hy5 => (intro w hSw; (try dsimp only at hSw); go_simp; try with_reducible rfl)
            simp only [Act.put, List.getElem_toArray, List.getElem_cons_zero, List.getElem_cons_succ, List.setIfInBounds_toArray, List.set_cons_zero, List.set_cons_succ]
            refine wpAnyH_take (i := 5) (v := ?_) rfl (by kernel_rfl) (by kernel_rfl) (by kernel_rfl) (fun _ _ _ h => h) (Or.inl ⟨by rfl, ?hy6⟩) (by assumption) ?_
            case hy6 => (intro w hSw; (try dsimp only at hSw); go_simp; try with_reducible rfl)
            simp only [Act.put, List.getElem_toArray, List.getElem_cons_zero, List.getElem_cons_succ, List.setIfInBounds_toArray, List.set_cons_zero, List.set_cons_succ]
            refine wpAnyH_take (i := 6) (v := ?_) rfl (by kernel_rfl) (by kernel_rfl) (by kernel_rfl) (fun _ _ _ h => h) (Or.inl ⟨by rfl, ?hy7⟩) (by assumption) ?_
            case hy7 => (intro w hSw; (try dsimp only at hSw); go_simp; try with_reducible rfl)
            simp only [Act.put, List.getElem_toArray, List.getElem_cons_zero, List.getElem_cons_succ, List.setIfInBounds_toArray, List.set_cons_zero, List.set_cons_succ]
            refine wpAnyH_take (i := 7) (v := ?_) rfl (by kernel_rfl) (by kernel_rfl) (by kernel_rfl) (fun _ _ _ h => h) (Or.inl ⟨by rfl, ?hy8⟩) (by assumption) ?_
            case hy8 => (intro w hSw; (try dsimp only at hSw); go_simp; try with_reducible rfl)
            simp only [Act.put, List.getElem_toArray, List.getElem_cons_zero, List.getElem_cons_succ, List.setIfInBounds_toArray, List.set_cons_zero, List.set_cons_succ]
            refine wpAnyH_take (i := 9) (v := ?_) rfl (by kernel_rfl) (by kernel_rfl) (by kernel_rfl) (fun _ _ _ h => h) (Or.inl ⟨by rfl, ?hy9⟩) (by assumption) ?_
            case hy9 => (intro w hSw; (try dsimp only at hSw); go_simp; try with_reducible rfl)
            simp only [Act.put, List.getElem_toArray, List.getElem_cons_zero, List.getElem_cons_succ, List.setIfInBounds_toArray, List.set_cons_zero, List.set_cons_succ]
            refine wpAnyH_ready (rs := [8]) (by kernel_rfl) (by simp) ?_
            refine AllReadyH.cons rfl (fun K hK => ?_) AllReadyH.nil
            go_simp
            (refine (rtext_is HZ.out _ (by omega) (by omega) (by omega) (by omega) (by omega) (by omega)).mono ?_; rintro e wx ⟨rfl, hbT⟩; replace hAcc : PX w w1.heap.size g n d b p (pt s 0) (pt s 3) (pt s 6) (pt s 9) wx := by first | exact hAcc.drew.next hbT | exact hAcc.next hbT)
            go_wp2_with fail
            refine hK.out _ _ ?_ (fun hHeld => ?_)
            · (first | exact hAcc.six | exact hAcc.drew.six)
            clear hK K
            refine wpAnyH_take (i := 10) (v := ?_) rfl (by kernel_rfl) (by kernel_rfl) (by kernel_rfl) (fun _ _ _ h => h) (Or.inl ⟨by rfl, ?hy10⟩) (by assumption) ?_
            case hy10 => (intro w hSw; (try dsimp only at hSw); go_simp; try with_reducible rfl)
            simp only [Act.put, List.getElem_toArray, List.getElem_cons_zero, List.getElem_cons_succ, List.setIfInBounds_toArray, List.set_cons_zero, List.set_cons_succ]
            refine wpAnyH_take (i := 11) (v := ?_) rfl (by kernel_rfl) (by kernel_rfl) (by kernel_rfl) (fun _ _ _ h => h) (Or.inl ⟨by rfl, ?hy11⟩) (by assumption) ?_
            case hy11 => (intro w hSw; (try dsimp only at hSw); go_simp; try with_reducible rfl)
            simp only [Act.put, List.getElem_toArray, List.getElem_cons_zero, List.getElem_cons_succ, List.setIfInBounds_toArray, List.set_cons_zero, List.set_cons_succ]
            refine wpAnyH_take (i := 12) (v := ?_) rfl (by kernel_rfl) (by kernel_rfl) (by kernel_rfl) (fun _ _ _ h => h) (Or.inl ⟨by rfl, ?hy12⟩) (by assumption) ?_
            case hy12 => (intro w hSw; (try dsimp only at hSw); go_simp; try with_reducible rfl)
            simp only [Act.put, List.getElem_toArray, List.getElem_cons_zero, List.getElem_cons_succ, List.setIfInBounds_toArray, List.set_cons_zero, List.set_cons_succ]
            refine wpAnyH_take (i := 13) (v := ?_) rfl (by kernel_rfl) (by kernel_rfl) (by kernel_rfl) (fun _ _ _ h => h) (Or.inl ⟨by rfl, ?hy13⟩) (by assumption) ?_
            case hy13 => (intro w hSw; (try dsimp only at hSw); go_simp; try with_reducible rfl)
            simp only [Act.put, List.getElem_toArray, List.getElem_cons_zero, List.getElem_cons_succ, List.setIfInBounds_toArray, List.set_cons_zero, List.set_cons_succ]
            refine wpAnyH_take (i := 14) (v := ?_) rfl (by kernel_rfl) (by kernel_rfl) (by kernel_rfl) (fun _ _ _ h => h) (Or.inl ⟨by rfl, ?hy14⟩) (by assumption) ?_
            case hy14 => (intro w hSw; (try dsimp only at hSw); go_simp; try with_reducible rfl)
            simp only [Act.put, List.getElem_toArray, List.getElem_cons_zero, List.getElem_cons_succ, List.setIfInBounds_toArray, List.set_cons_zero, List.set_cons_succ]
            refine wpAnyH_take (i := 15) (v := ?_) rfl (by kernel_rfl) (by kernel_rfl) (by kernel_rfl) (fun _ _ _ h => h) (Or.inl ⟨by rfl, ?hy15⟩) (by assumption) ?_
            case hy15 => (intro w hSw; (try dsimp only at hSw); go_simp; try with_reducible rfl)
            simp only [Act.put, List.getElem_toArray, List.getElem_cons_zero, List.getElem_cons_succ, List.setIfInBounds_toArray, List.set_cons_zero, List.set_cons_succ]
            refine wpAnyH_take (i := 16) (v := ?_) rfl (by kernel_rfl) (by kernel_rfl) (by kernel_rfl) (fun _ _ _ h => h) (Or.inl ⟨by rfl, ?hy16⟩) (by assumption) ?_
            case hy16 => (intro w hSw; (try dsimp only at hSw); go_simp; try with_reducible rfl)
            simp only [Act.put, List.getElem_toArray, List.getElem_cons_zero, List.getElem_cons_succ, List.setIfInBounds_toArray, List.set_cons_zero, List.set_cons_succ]
            refine wpAnyH_take (i := 17) (v := undef) rfl (by kernel_rfl) (by kernel_rfl) (by kernel_rfl) (fun _ _ _ h => h) (Or.inr ⟨by rfl, rfl⟩) (by assumption) ?_
            simp only [Act.put, List.getElem_toArray, List.getElem_cons_zero, List.getElem_cons_succ, List.setIfInBounds_toArray, List.set_cons_zero, List.set_cons_succ]
            refine wpAnyH_take (i := 18) (v := undef) rfl (by kernel_rfl) (by kernel_rfl) (by kernel_rfl) (fun _ _ _ h => h) (Or.inr ⟨by rfl, rfl⟩) (by assumption) ?_
            simp only [Act.put, List.getElem_toArray, List.getElem_cons_zero, List.getElem_cons_succ, List.setIfInBounds_toArray, List.set_cons_zero, List.set_cons_succ]
            refine wpAnyH_take (i := 19) (v := undef) rfl (by kernel_rfl) (by kernel_rfl) (by kernel_rfl) (fun _ _ _ h => h) (Or.inr ⟨by rfl, rfl⟩) (by assumption) ?_
            simp only [Act.put, List.getElem_toArray, List.getElem_cons_zero, List.getElem_cons_succ, List.setIfInBounds_toArray, List.set_cons_zero, List.set_cons_succ]
            refine wpAnyH_take (i := 20) (v := undef) rfl (by kernel_rfl) (by kernel_rfl) (by kernel_rfl) (fun _ _ _ h => h) (Or.inr ⟨by rfl, rfl⟩) (by assumption) ?_
            simp only [Act.put, List.getElem_toArray, List.getElem_cons_zero, List.getElem_cons_succ, List.setIfInBounds_toArray, List.set_cons_zero, List.set_cons_succ]
            refine wpAnyH_take (i := 21) (v := undef) rfl (by kernel_rfl) (by kernel_rfl) (by kernel_rfl) (fun _ _ _ h => h) (Or.inr ⟨by rfl, rfl⟩) (by assumption) ?_
            simp only [Act.put, List.getElem_toArray, List.getElem_cons_zero, List.getElem_cons_succ, List.setIfInBounds_toArray, List.set_cons_zero, List.set_cons_succ]
            refine wpAnyH_take (i := 22) (v := undef) rfl (by kernel_rfl) (by kernel_rfl) (by kernel_rfl) (fun _ _ _ h => h) (Or.inr ⟨by rfl, rfl⟩) (by assumption) ?_
            simp only [Act.put, List.getElem_toArray, List.getElem_cons_zero, List.getElem_cons_succ, List.setIfInBounds_toArray, List.set_cons_zero, List.set_cons_succ]
            refine wpAnyH_take (i := 23) (v := undef) rfl (by kernel_rfl) (by kernel_rfl) (by kernel_rfl) (fun _ _ _ h => h) (Or.inr ⟨by rfl, rfl⟩) (by assumption) ?_
            simp only [Act.put, List.getElem_toArray, List.getElem_cons_zero, List.getElem_cons_succ, List.setIfInBounds_toArray, List.set_cons_zero, List.set_cons_succ]
            refine wpAnyH_take (i := 24) (v := ?_) rfl (by kernel_rfl) (by kernel_rfl) (by kernel_rfl) (fun _ _ _ h => h) (Or.inl ⟨by rfl, ?hy17⟩) (by assumption) ?_
            case hy17 => (intro w hSw; (try dsimp only at hSw); go_simp; try with_reducible rfl)
            simp only [Act.put, List.getElem_toArray, List.getElem_cons_zero, List.getElem_cons_succ, List.setIfInBounds_toArray, List.set_cons_zero, List.set_cons_succ]
            refine wpAnyH_take (i := 25) (v := ?_) rfl (by kernel_rfl) (by kernel_rfl) (by kernel_rfl) (fun _ _ _ h => h) (Or.inl ⟨by rfl, ?hy18⟩) (by assumption) ?_
            case hy18 => (intro w hSw; (try dsimp only at hSw); go_simp; try with_reducible rfl)
            simp only [Act.put, List.getElem_toArray, List.getElem_cons_zero, List.getElem_cons_succ, List.setIfInBounds_toArray, List.set_cons_zero, List.set_cons_succ]
            refine wpAnyH_done (by kernel_rfl) ?_ _
            all_goals
              go_wp2_with fail
              go_meet
              refine ⟨?_, hAcc⟩
              rw [HDR.out]
              simp [H6.out]
        case rest =>
          obtain ⟨rfl, hA2⟩ := hcut
          have A2 := Lib.hid hA2
          clear hA2 hAcc v0 v1 v2 v3 x2 x3 hq2
          cases DR
          · have hnd : ¬ (pt s 6 = 0 ∧ pt s 9 < Pl.skip p DN) := by simpa using HDR.out
            have hgood := Lib.hid (good_of_text b6 hD0 hD1 r6.1 (by omega) r9.1 (by omega) HZ.out hnd)
            clear hnd HDR HZ
            have q0 : 0 ≤ pt s 6 * b := Int.mul_nonneg r6.1 (by omega)
            have q1 : pt s 6 * b ≤ 99 * 60 := Int.mul_le_mul r6.2 b6 (by omega) (by omega)
            go_wp2
            go_loopw [11, 12] (fun s11 s12 wr => ∃ k : Nat, k ≤ DN ∧ s12 = .int .i64 k ∧ s11 = .int .i64 (Pl.start b p k) ∧ PX w w1.heap.size g n d b p (pt s 0) (pt s 3) (pt s 6) (pt s 9) wr) (fun _ s12 _ => DN - (intOf s12).toNat)
            case atStart => exact ⟨0, by omega, rfl, by rw [show ((0 : Nat) : Int) = 0 from rfl, start_zero], A2.out⟩
            case round =>
              obtain ⟨k, hk, rfl, rfl, hAcc⟩ := hrel
              have l0 := start_nonneg H.out k
              have l1 := start_le H.out k
              have hss := Lib.hid (Pl.start_succ b p k)
              obtain ⟨s0, s1, s2⟩ := skip_range H.out k
              obtain ⟨c0, c1, c2, c3, c4, c5⟩ := hAcc.six
              by_cases hlt : k < DN
              · go_wp2
                have e1 : IntKind.i64.wrap (60 * b) = 60 * b := IntWalk.i64_in _ (by omega)
                have e2 : IntKind.i64.wrap (Pl.start b p k + 60 * b) = Pl.start b p k + 60 * b := IntWalk.i64_in _ (by omega)
                have e3 : IntKind.i64.wrap (Pl.start b p k + 60 * b - Pl.skip p k) = Pl.start b p k + 60 * b - Pl.skip p k := IntWalk.i64_in _ (by omega)
                go_region_held3 (fun w' => w'.cell? ⟨w1.heap.size, 0, none⟩ = some (.int .i64 n) ∧ w'.cell? ⟨w1.heap.size, 1, none⟩ = some (.int .i64 d) ∧ w'.cell? ⟨w1.heap.size, 2, none⟩ = some (.int .i64 b) ∧ w'.cell? ⟨w1.heap.size, 3, none⟩ = some (.int .i64 p) ∧ w'.cell? ⟨g, 2, none⟩ = some (.int .i64 (pt s 6)) ∧ w'.cell? ⟨g, 3, none⟩ = some (.int .i64 (pt s 9))) (first | exact hAcc.six | exact hAcc.drew.six)
                  (first | (go_at_call 39; refine (rdropped_b _ _ _ _ _ _ (by omega)).mono ?_; rintro e wx ⟨rfl, hbT⟩; replace hAcc : PX w w1.heap.size g n d b p (pt s 0) (pt s 3) (pt s 6) (pt s 9) wx := by first | exact hAcc.drew.next hbT | exact hAcc.next hbT))
                all_goals
                  clear e1 e2 e3
                  go_wp2
                  go_roundw
                  case rel => exact ⟨k + 1, by omega, by go_num, by rw [show ((k + 1 : Nat) : Int) = (k : Int) + 1 by omega, hss.out]; go_num, hAcc⟩
                  case measure => simp [intOf]; omega
              · obtain rfl : k = DN := by omega
                go_wp2
                have e1 : IntKind.i64.wrap (pt s 6 * b) = pt s 6 * b := IntWalk.i64_in _ (by omega)
                have e2 : IntKind.i64.wrap (Pl.start b p k + pt s 6 * b) = Pl.start b p k + pt s 6 * b := IntWalk.i64_in _ (by omega)
                have e3 : IntKind.i64.wrap (Pl.start b p k + pt s 6 * b + pt s 9) = Pl.start b p k + pt s 6 * b + pt s 9 := IntWalk.i64_in _ (by omega)
                have e4 : IntKind.i64.wrap (Pl.start b p k + pt s 6 * b + pt s 9 - Pl.skip p k) = Pl.start b p k + pt s 6 * b + pt s 9 - Pl.skip p k := IntWalk.i64_in _ (by omega)
                go_region_held3 (fun w' => w'.cell? ⟨w1.heap.size, 0, none⟩ = some (.int .i64 n) ∧ w'.cell? ⟨w1.heap.size, 1, none⟩ = some (.int .i64 d) ∧ w'.cell? ⟨w1.heap.size, 2, none⟩ = some (.int .i64 b) ∧ w'.cell? ⟨w1.heap.size, 3, none⟩ = some (.int .i64 p) ∧ w'.cell? ⟨g, 2, none⟩ = some (.int .i64 (pt s 6)) ∧ w'.cell? ⟨g, 3, none⟩ = some (.int .i64 (pt s 9))) (first | exact hAcc.six | exact hAcc.drew.six)
                  (first | (go_at_call 39; refine (rdropped_b _ _ _ _ _ _ (by omega)).mono ?_; rintro e wx ⟨rfl, hbT⟩; replace hAcc : PX w w1.heap.size g n d b p (pt s 0) (pt s 3) (pt s 6) (pt s 9) wx := by first | exact hAcc.drew.next hbT | exact hAcc.next hbT))
                all_goals
                  clear e1 e2 e3 e4
                  go_wp2
                  go_ret2
                  refine ⟨.inl ⟨hgood.out, ?_⟩, hAcc.old⟩
                  rw [show 60 * pt s 0 + pt s 3 = (k : Int) by have := HD.out; omega, ← start_frame]
                  rfl
          · have hnd : pt s 6 = 0 ∧ pt s 9 < Pl.skip p DN := by simpa using HDR.out
            have hbad := Lib.hid (bad_of_drop (b := b) (by have := HD.out; omega : 60 * pt s 0 + pt s 3 = (DN : Int)) hnd.1 hnd.2 r9.1)
            clear hnd HDR HZ
            go_wp2
            go_ret2
            exact ⟨.inr ⟨hbad.out, rfl⟩, A2.out.old⟩
      · have HZN := Lib.hid hzs
        obtain ⟨z, hz9⟩ : ∃ z, strOf (codeL ((DN : Int) / 60) ((DN : Int) % 60) (pt s 6) (pt s 9) p) = z := ⟨_, rfl⟩
        rw [hz9] at hzs
        have HZ := Lib.hid hz9
        clear hz9
        have hq1 : (z.toList == s.toList) = false := by
          rw [ByteArray.toList_eq, ByteArray.toList_eq]
          simp only [beq_eq_false_iff_ne]
          intro e
          exact hzs (ByteArray.ext (Array.toList_inj.1 e))
        have hq2 : (z.toList != s.toList) = true := by simp only [bne, hq1, Bool.not_false]
        refine wp_region_held_drew (S := (fun w' => w'.cell? ⟨w1.heap.size, 0, none⟩ = some (.int .i64 n) ∧ w'.cell? ⟨w1.heap.size, 1, none⟩ = some (.int .i64 d) ∧ w'.cell? ⟨w1.heap.size, 2, none⟩ = some (.int .i64 b) ∧ w'.cell? ⟨w1.heap.size, 3, none⟩ = some (.int .i64 p) ∧ w'.cell? ⟨g, 2, none⟩ = some (.int .i64 (pt s 6)) ∧ w'.cell? ⟨g, 3, none⟩ = some (.int .i64 (pt s 9)))) (by kernel_rfl) hAcc.drew.six (fun hHeld => ?_)
        refine wpAnyH_take (i := 0) (v := ?_) rfl (by kernel_rfl) (by kernel_rfl) (by kernel_rfl) (fun _ _ _ h => h) (Or.inl ⟨by rfl, ?hy19⟩) (by assumption) ?_
        case hy19 => (intro w hSw; (try dsimp only at hSw); go_simp; try with_reducible rfl)
        simp only [Act.put, List.getElem_toArray, List.getElem_cons_zero, List.setIfInBounds_toArray, List.set_cons_zero, List.set_cons_succ]
        refine wpAnyH_take (i := 1) (v := ?_) rfl (by kernel_rfl) (by kernel_rfl) (by kernel_rfl) (fun _ _ _ h => h) (Or.inl ⟨by rfl, ?hy20⟩) (by assumption) ?_
        case hy20 => (intro w hSw; (try dsimp only at hSw); go_simp; try with_reducible rfl)
        simp only [Act.put, List.getElem_toArray, List.getElem_cons_zero, List.getElem_cons_succ, List.setIfInBounds_toArray, List.set_cons_zero, List.set_cons_succ]
        refine wpAnyH_take (i := 2) (v := ?_) rfl (by kernel_rfl) (by kernel_rfl) (by kernel_rfl) (fun _ _ _ h => h) (Or.inl ⟨by rfl, ?hy21⟩) (by assumption) ?_
        case hy21 => (intro w hSw; (try dsimp only at hSw); go_simp; try with_reducible rfl)
        simp only [Act.put, List.getElem_toArray, List.getElem_cons_zero, List.getElem_cons_succ, List.setIfInBounds_toArray, List.set_cons_zero, List.set_cons_succ]
        refine wpAnyH_take (i := 3) (v := ?_) rfl (by kernel_rfl) (by kernel_rfl) (by kernel_rfl) (fun _ _ _ h => h) (Or.inl ⟨by rfl, ?hy22⟩) (by assumption) ?_
        case hy22 => (intro w hSw; (try dsimp only at hSw); go_simp; try with_reducible rfl)
        simp only [Act.put, List.getElem_toArray, List.getElem_cons_zero, List.getElem_cons_succ, List.setIfInBounds_toArray, List.set_cons_zero, List.set_cons_succ]
        refine wpAnyH_take (i := 4) (v := ?_) rfl (by kernel_rfl) (by kernel_rfl) (by kernel_rfl) (fun _ _ _ h => h) (Or.inl ⟨by rfl, ?hy23⟩) (by assumption) ?_
        case hy23 => (intro w hSw; (try dsimp only at hSw); go_simp; try with_reducible rfl)
        simp only [Act.put, List.getElem_toArray, List.getElem_cons_zero, List.getElem_cons_succ, List.setIfInBounds_toArray, List.set_cons_zero, List.set_cons_succ]
        refine wpAnyH_take (i := 5) (v := ?_) rfl (by kernel_rfl) (by kernel_rfl) (by kernel_rfl) (fun _ _ _ h => h) (Or.inl ⟨by rfl, ?hy24⟩) (by assumption) ?_
        case hy24 => (intro w hSw; (try dsimp only at hSw); go_simp; try with_reducible rfl)
        simp only [Act.put, List.getElem_toArray, List.getElem_cons_zero, List.getElem_cons_succ, List.setIfInBounds_toArray, List.set_cons_zero, List.set_cons_succ]
        refine wpAnyH_take (i := 6) (v := ?_) rfl (by kernel_rfl) (by kernel_rfl) (by kernel_rfl) (fun _ _ _ h => h) (Or.inl ⟨by rfl, ?hy25⟩) (by assumption) ?_
        case hy25 => (intro w hSw; (try dsimp only at hSw); go_simp; try with_reducible rfl)
        simp only [Act.put, List.getElem_toArray, List.getElem_cons_zero, List.getElem_cons_succ, List.setIfInBounds_toArray, List.set_cons_zero, List.set_cons_succ]
        refine wpAnyH_take (i := 7) (v := ?_) rfl (by kernel_rfl) (by kernel_rfl) (by kernel_rfl) (fun _ _ _ h => h) (Or.inl ⟨by rfl, ?hy26⟩) (by assumption) ?_
        case hy26 => (intro w hSw; (try dsimp only at hSw); go_simp; try with_reducible rfl)
        simp only [Act.put, List.getElem_toArray, List.getElem_cons_zero, List.getElem_cons_succ, List.setIfInBounds_toArray, List.set_cons_zero, List.set_cons_succ]
        refine wpAnyH_take (i := 9) (v := ?_) rfl (by kernel_rfl) (by kernel_rfl) (by kernel_rfl) (fun _ _ _ h => h) (Or.inl ⟨by rfl, ?hy27⟩) (by assumption) ?_
        case hy27 => (intro w hSw; (try dsimp only at hSw); go_simp; try with_reducible rfl)
        simp only [Act.put, List.getElem_toArray, List.getElem_cons_zero, List.getElem_cons_succ, List.setIfInBounds_toArray, List.set_cons_zero, List.set_cons_succ]
        refine wpAnyH_ready (rs := [8]) (by kernel_rfl) (by simp) ?_
        refine AllReadyH.cons rfl (fun K hK => ?_) AllReadyH.nil
        go_simp
        (refine (rtext_is HZ.out _ (by omega) (by omega) (by omega) (by omega) (by omega) (by omega)).mono ?_; rintro e wx ⟨rfl, hbT⟩; replace hAcc : PX w w1.heap.size g n d b p (pt s 0) (pt s 3) (pt s 6) (pt s 9) wx := by first | exact hAcc.drew.next hbT | exact hAcc.next hbT)
        go_wp2_with fail
        refine hK.out _ _ ?_ (fun hHeld => ?_)
        · (first | exact hAcc.six | exact hAcc.drew.six)
        clear hK K
        refine wpAnyH_take (i := 10) (v := ?_) rfl (by kernel_rfl) (by kernel_rfl) (by kernel_rfl) (fun _ _ _ h => h) (Or.inl ⟨by rfl, ?hy28⟩) (by assumption) ?_
        case hy28 => (intro w hSw; (try dsimp only at hSw); go_simp; try with_reducible rfl)
        simp only [Act.put, List.getElem_toArray, List.getElem_cons_zero, List.getElem_cons_succ, List.setIfInBounds_toArray, List.set_cons_zero, List.set_cons_succ]
        refine wpAnyH_take (i := 11) (v := ?_) rfl (by kernel_rfl) (by kernel_rfl) (by kernel_rfl) (fun _ _ _ h => h) (Or.inl ⟨by rfl, ?hy29⟩) (by assumption) ?_
        case hy29 => (intro w hSw; (try dsimp only at hSw); go_simp; try with_reducible rfl)
        simp only [Act.put, List.getElem_toArray, List.getElem_cons_zero, List.getElem_cons_succ, List.setIfInBounds_toArray, List.set_cons_zero, List.set_cons_succ]
        refine wpAnyH_take (i := 12) (v := undef) rfl (by kernel_rfl) (by kernel_rfl) (by kernel_rfl) (fun _ _ _ h => h) (Or.inr ⟨by rfl, rfl⟩) (by assumption) ?_
        simp only [Act.put, List.getElem_toArray, List.getElem_cons_zero, List.getElem_cons_succ, List.setIfInBounds_toArray, List.set_cons_zero, List.set_cons_succ]
        refine wpAnyH_take (i := 13) (v := undef) rfl (by kernel_rfl) (by kernel_rfl) (by kernel_rfl) (fun _ _ _ h => h) (Or.inr ⟨by rfl, rfl⟩) (by assumption) ?_
        simp only [Act.put, List.getElem_toArray, List.getElem_cons_zero, List.getElem_cons_succ, List.setIfInBounds_toArray, List.set_cons_zero, List.set_cons_succ]
        refine wpAnyH_take (i := 14) (v := undef) rfl (by kernel_rfl) (by kernel_rfl) (by kernel_rfl) (fun _ _ _ h => h) (Or.inr ⟨by rfl, rfl⟩) (by assumption) ?_
        simp only [Act.put, List.getElem_toArray, List.getElem_cons_zero, List.getElem_cons_succ, List.setIfInBounds_toArray, List.set_cons_zero, List.set_cons_succ]
        refine wpAnyH_take (i := 15) (v := undef) rfl (by kernel_rfl) (by kernel_rfl) (by kernel_rfl) (fun _ _ _ h => h) (Or.inr ⟨by rfl, rfl⟩) (by assumption) ?_
        simp only [Act.put, List.getElem_toArray, List.getElem_cons_zero, List.getElem_cons_succ, List.setIfInBounds_toArray, List.set_cons_zero, List.set_cons_succ]
        refine wpAnyH_take (i := 16) (v := undef) rfl (by kernel_rfl) (by kernel_rfl) (by kernel_rfl) (fun _ _ _ h => h) (Or.inr ⟨by rfl, rfl⟩) (by assumption) ?_
        simp only [Act.put, List.getElem_toArray, List.getElem_cons_zero, List.getElem_cons_succ, List.setIfInBounds_toArray, List.set_cons_zero, List.set_cons_succ]
        refine wpAnyH_take (i := 17) (v := undef) rfl (by kernel_rfl) (by kernel_rfl) (by kernel_rfl) (fun _ _ _ h => h) (Or.inr ⟨by rfl, rfl⟩) (by assumption) ?_
        simp only [Act.put, List.getElem_toArray, List.getElem_cons_zero, List.getElem_cons_succ, List.setIfInBounds_toArray, List.set_cons_zero, List.set_cons_succ]
        refine wpAnyH_take (i := 18) (v := undef) rfl (by kernel_rfl) (by kernel_rfl) (by kernel_rfl) (fun _ _ _ h => h) (Or.inr ⟨by rfl, rfl⟩) (by assumption) ?_
        simp only [Act.put, List.getElem_toArray, List.getElem_cons_zero, List.getElem_cons_succ, List.setIfInBounds_toArray, List.set_cons_zero, List.set_cons_succ]
        refine wpAnyH_take (i := 19) (v := undef) rfl (by kernel_rfl) (by kernel_rfl) (by kernel_rfl) (fun _ _ _ h => h) (Or.inr ⟨by rfl, rfl⟩) (by assumption) ?_
        simp only [Act.put, List.getElem_toArray, List.getElem_cons_zero, List.getElem_cons_succ, List.setIfInBounds_toArray, List.set_cons_zero, List.set_cons_succ]
        refine wpAnyH_take (i := 20) (v := undef) rfl (by kernel_rfl) (by kernel_rfl) (by kernel_rfl) (fun _ _ _ h => h) (Or.inr ⟨by rfl, rfl⟩) (by assumption) ?_
        simp only [Act.put, List.getElem_toArray, List.getElem_cons_zero, List.getElem_cons_succ, List.setIfInBounds_toArray, List.set_cons_zero, List.set_cons_succ]
        refine wpAnyH_take (i := 21) (v := undef) rfl (by kernel_rfl) (by kernel_rfl) (by kernel_rfl) (fun _ _ _ h => h) (Or.inr ⟨by rfl, rfl⟩) (by assumption) ?_
        simp only [Act.put, List.getElem_toArray, List.getElem_cons_zero, List.getElem_cons_succ, List.setIfInBounds_toArray, List.set_cons_zero, List.set_cons_succ]
        refine wpAnyH_take (i := 22) (v := undef) rfl (by kernel_rfl) (by kernel_rfl) (by kernel_rfl) (fun _ _ _ h => h) (Or.inr ⟨by rfl, rfl⟩) (by assumption) ?_
        simp only [Act.put, List.getElem_toArray, List.getElem_cons_zero, List.getElem_cons_succ, List.setIfInBounds_toArray, List.set_cons_zero, List.set_cons_succ]
        refine wpAnyH_take (i := 23) (v := undef) rfl (by kernel_rfl) (by kernel_rfl) (by kernel_rfl) (fun _ _ _ h => h) (Or.inr ⟨by rfl, rfl⟩) (by assumption) ?_
        simp only [Act.put, List.getElem_toArray, List.getElem_cons_zero, List.getElem_cons_succ, List.setIfInBounds_toArray, List.set_cons_zero, List.set_cons_succ]
        refine wpAnyH_take (i := 24) (v := undef) rfl (by kernel_rfl) (by kernel_rfl) (by kernel_rfl) (fun _ _ _ h => h) (Or.inr ⟨by rfl, rfl⟩) (by assumption) ?_
        simp only [Act.put, List.getElem_toArray, List.getElem_cons_zero, List.getElem_cons_succ, List.setIfInBounds_toArray, List.set_cons_zero, List.set_cons_succ]
        refine wpAnyH_take (i := 25) (v := ?_) rfl (by kernel_rfl) (by kernel_rfl) (by kernel_rfl) (fun _ _ _ h => h) (Or.inl ⟨by rfl, ?hy30⟩) (by assumption) ?_
        case hy30 => (intro w hSw; (try dsimp only at hSw); go_simp; try with_reducible rfl)
        simp only [Act.put, List.getElem_toArray, List.getElem_cons_zero, List.getElem_cons_succ, List.setIfInBounds_toArray, List.set_cons_zero, List.set_cons_succ]
        refine wpAnyH_done (by kernel_rfl) ?_ _
        all_goals
          go_wp2
          go_ret2
          exact ⟨.inr ⟨fun hg => HZN.out (text_of_good b6 HD.out hg), rfl⟩, hAcc.old⟩
set_option maxHeartbeats 400000 in
theorem rparse_norow {n d : Int} (h : NoRow n d) (s : ByteArray) (w : World) :
    Calls Tryd.prog 28 #[rate n d, .string s] w fun e w' => e = .returned (.tuple #[.int .i64 0, .int .i64 30]) ∧ Below w.heap.size w w' := by
  have H := Lib.hid h
  clear h
  go_enter Tryd.func28, Tryd.ntmps28
  go_wp2_with fail
  refine (rfind_no H.out _).mono ?_
  rintro e w1 ⟨rfl, hb⟩
  have hb1 : Below w.heap.size w w1 := Below.via (by go_grown) (by go_size) hb
  obtain ⟨hc, hf⟩ := bcell hb
  go_wp2
  go_ret2
  have hz : w.heap.size ≤ w1.heap.size := hb1.size
  exact ⟨rfl, by go_grown⟩
set_option maxHeartbeats 400000 in
theorem rparse_len {n d b p : Int} (h : Pl.Row n d b p) (s : ByteArray) (w : World) (hs : ((s.size : Int) != 11) = true) :
    Calls Tryd.prog 28 #[rate n d, .string s] w fun e w' => e = .returned (.tuple #[.int .i64 0, .int .i64 30]) ∧ Below w.heap.size w w' := by
  have H := Lib.hid h
  clear h
  go_enter Tryd.func28, Tryd.ntmps28
  go_wp2_with fail
  refine (rfind_yes H.out _).mono ?_
  rintro e w1 ⟨rfl, hb⟩
  have hb1 : Below w.heap.size w w1 := Below.via (by go_grown) (by go_size) hb
  obtain ⟨hc, hf⟩ := bcell hb
  go_wp2
  go_ret2
  have hz : w.heap.size ≤ w1.heap.size := hb1.size
  exact ⟨rfl, by go_grown⟩
theorem rparse_any {n d b p : Int} (h : Pl.Row n d b p) (s : ByteArray) (w : World) :
    Calls Tryd.prog 28 #[rate n d, .string s] w fun e w' => ParsePost b p s e ∧ Below w.heap.size w w' := by
  by_cases hs : s.size = 11
  · exact rparse_main h s w hs
  · exact (rparse_len h s w (by simp; omega)).mono fun _ _ hh => ⟨.inr ⟨fun hg => hs hg.1, hh.1⟩, hh.2⟩
theorem rparse_yes {n d b p : Int} (h : Pl.Row n d b p) (s : ByteArray) (w : World) (hg : Good b p s) :
    Calls Tryd.prog 28 #[rate n d, .string s] w fun e w' => e = .returned (.tuple #[.int .i64 (Pl.frameAt b p (60 * pt s 0 + pt s 3) (pt s 6) (pt s 9)), .int .i64 0]) ∧ Below w.heap.size w w' :=
  (rparse_any h s w).mono fun _ _ hh => ⟨(hh.1.resolve_right fun q => q.1 hg).2, hh.2⟩
theorem rparse_no {n d b p : Int} (h : Pl.Row n d b p) (s : ByteArray) (w : World) (hg : ¬ Good b p s) :
    Calls Tryd.prog 28 #[rate n d, .string s] w fun e w' => e = .returned (.tuple #[.int .i64 0, .int .i64 30]) ∧ Below w.heap.size w w' :=
  (rparse_any h s w).mono fun _ _ hh => ⟨(hh.1.resolve_left fun q => hg q.1).2, hh.2⟩
end Go.Proofs.YtfnmjabegajniaaDoor
