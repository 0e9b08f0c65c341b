/-
  TimecodeTextMatchesReference: proved is the card of this statement: for every input the law returns true, and each argument reads afterwards as it read before. Conditions: the row's own (the package variable 'rates' starts as the program's text lays it; the card ties it to that text).
-/
import Derived.Test.YtfnmjabegajniaaDoorUni
import Derived.Test.YtfnmjabegajniaaDoorOpen
import Derived.Test.YtfnmjabegajniaaDoorRefParse
namespace Go.Proofs.YtfnmjabegajniaaDoor
open Go.ChangeShapes Go.WideShapes Go.ChangeAt Go.RowKit
open Go.ChangeMaps (open_string shut_string)
theorem fmt_both (n d f : Int) : ∃ (z : ByteArray) (c : Int), (∀ w, Tab w → Calls Tryd.prog 25 #[rate n d, .int .i64 f] w fun e w' => e = .returned (.tuple #[.string z, .int .i64 c]) ∧ Below w.heap.size w w') ∧
    ∀ w, Calls Tryd.prog 26 #[rate n d, .int .i64 f] w fun e w' => e = .returned (.tuple #[.string z, .int .i64 c]) ∧ Below w.heap.size w w' := by
  rcases row_or n d with ⟨b, p, h⟩ | h
  · by_cases hf : 0 ≤ f ∧ f ≤ 100000000
    · exact ⟨_, _, fun w ht => format_yes h f w ht hf.1 hf.2, fun w => rformat_yes h f w hf.1 hf.2⟩
    · exact ⟨_, _, fun w ht => format_noframe h f w ht hf, fun w => rformat_noframe h f w hf⟩
  · exact ⟨_, _, fun w ht => format_norow h f w ht, fun w => rformat_norow h f w⟩
theorem parse_both (n d : Int) (s : ByteArray) : ∃ k c : Int, (∀ w, Tab w → Calls Tryd.prog 27 #[rate n d, .string s] w fun e w' => e = .returned (.tuple #[.int .i64 k, .int .i64 c]) ∧ Below w.heap.size w w') ∧
    ∀ w, Calls Tryd.prog 28 #[rate n d, .string s] w fun e w' => e = .returned (.tuple #[.int .i64 k, .int .i64 c]) ∧ Below w.heap.size w w' := by
  rcases row_or n d with ⟨b, p, h⟩ | h
  · by_cases hg : Good b p s
    · exact ⟨_, _, fun w ht => parse_yes h s w ht hg, fun w => rparse_yes h s w hg⟩
    · exact ⟨_, _, fun w ht => parse_no h s w ht hg, fun w => rparse_no h s w hg⟩
  · exact ⟨_, _, fun w ht => parse_norow h s w ht, fun w => rparse_norow h s w⟩
/-- a rate lies in w's next block; nothing else that was there has turned -/
structure One (w : World) (n d : Int) (wx : World) : Prop where
  old : Below w.heap.size w wx
  size : w.heap.size + 1 ≤ wx.heap.size
  r0 : wx.cell? ⟨w.heap.size, 0, none⟩ = some (.int .i64 n)
  r1 : wx.cell? ⟨w.heap.size, 1, none⟩ = some (.int .i64 d)
  f0 : ∀ o, wx.frozen? ⟨w.heap.size, o, none⟩ = false
theorem One.next {w wx wy : World} {n d : Int} (h : One w n d wx) (hb : Below wx.heap.size wx wy) : One w n d wy where
  old := h.old.trans (hb.mono h.old.size)
  size := Nat.le_trans h.size hb.size
  r0 := (hb.cell (p := ⟨w.heap.size, 0, none⟩) (by have := h.size; show w.heap.size < _; omega)).trans h.r0
  r1 := (hb.cell (p := ⟨w.heap.size, 1, none⟩) (by have := h.size; show w.heap.size < _; omega)).trans h.r1
  f0 := fun o => (hb.frozen (p := ⟨w.heap.size, o, none⟩) (by have := h.size; show w.heap.size < _; omega)).trans (h.f0 o)
theorem One.tab {w wx : World} {n d : Int} (h : One w n d wx) (ht : Tab w) : Tab wx := ht.below h.old ht.pos
theorem One.start (w : World) (n d : Int) : One w n d (w.alloc (.cells #[.int .i64 n, .int .i64 d] 23)) where
  old := (Below.refl _ _).alloc (Nat.le_refl _) _
  size := by simp
  r0 := by simp
  r1 := by simp
  f0 := fun o => by simp
theorem One.store {w wx : World} {n d : Int} (h : One w n d wx) (x y : Int) : One w x y ((wx.setCell ⟨w.heap.size, 0, none⟩ (.int .i64 x)).setCell ⟨w.heap.size, 1, none⟩ (.int .i64 y)) where
  old := (h.old.setCell (p := ⟨w.heap.size, 0, none⟩) (Nat.le_refl _) _).setCell (p := ⟨w.heap.size, 1, none⟩) (Nat.le_refl _) _
  size := by simpa using h.size
  r0 := (two_set h.r0 h.r1).1
  r1 := (two_set h.r0 h.r1).2
  f0 := fun o => by simpa using h.f0 o
/-- the loop's world: a rate, and two numbers in block g -/
def Lq (w : World) (n d : Int) (g : Nat) (x : Nat → Int) (wx : World) : Prop := One w n d wx ∧ w.heap.size + 1 ≤ g ∧ g < wx.heap.size ∧ ∀ j, j < 2 → wx.cell? ⟨g, j, none⟩ = some (.int .i64 (x j))
theorem Lq.next {w wx wy : World} {n d : Int} {g : Nat} {x : Nat → Int} (h : Lq w n d g x wx) (hb : Below wx.heap.size wx wy) : Lq w n d g x wy :=
  ⟨h.1.next hb, h.2.1, Nat.lt_of_lt_of_le h.2.2.1 hb.size, fun j hj => (hb.cell (p := ⟨g, j, none⟩) h.2.2.1).trans (h.2.2.2 j hj)⟩
theorem lq_start {w wc : World} {n d a k1 : Int} (h : One w n d wc) (x : Nat → Int) (x0 : x 0 = a) (x1 : x 1 = k1) :
    Lq w n d wc.heap.size x (wc.alloc (.cells #[.int .i64 a, .int .i64 k1] 3)) := by
  refine ⟨h.next ((Below.refl _ _).alloc (Nat.le_refl _) _), h.size, by simp, fun j hj => ?_⟩
  match j, hj with
  | 0, _ => rw [x0]; simp
  | 1, _ => rw [x1]; simp
namespace TextMatches
set_option maxRecDepth 100000 in
set_option maxHeartbeats 2000000 in
theorem walk (n0 d0 a1 a2 : Int) (a3 : ByteArray) (_w0n : (Lit.int .i64 n0).wf = true) (_w0d : (Lit.int .i64 d0).wf = true) (w1 : (Lit.int .i64 a1).wf = true) (w2 : (Lit.int .i64 a2).wf = true) (w3 : a3.size ≤ maxLen) (w : World) (ht : Tab w) :
    Calls Tryd.prog 4 #[.agg #[.int .i64 n0, .int .i64 d0], .int .i64 a1, .int .i64 a2, .string a3] w fun e w' => e = .returned (.bool true) ∧ Below w.heap.size w w' := by
  have u1 := bounds_i64 w1
  have u2 := bounds_i64 w2
  have u3 := w3
  unfold maxLen at u3
  have T := Lib.hid ht
  have S0 := Lib.hid (One.start w n0 d0)
  clear ht w1 w2 w3
  go_enter Tryd.func4, Tryd.ntmps4
  go_wp2_with fail
  refine (sane_any _ (T.out.alloc _)).mono ?_
  rintro e w1 ⟨rfl, hb⟩
  have S1 := Lib.hid (S0.out.next hb)
  clear hb S0
  have hz1 := S1.out.size
  have r0 := S1.out.r0
  have r1 := S1.out.r1
  have f0 := S1.out.f0
  go_upto_if 22 with fail
  go_cut [] (fun wx => ∃ n d, One w n d wx)
  case first =>
    by_cases hc : 0 ≤ a1
    · go_wp2_with fail
      refine (rate_some _ _ u1.1 u1.2).mono ?_
      rintro e w2 ⟨⟨n, d, b, p, hr, rfl⟩, hb⟩
      have S2 := S1.out.next hb
      have q0 := S2.r0
      have q1 := S2.r1
      have g0 := S2.f0
      clear hb hr
      go_wp2_with fail
      go_meet
      exact ⟨n, d, S2.store n d⟩
    · go_wp2_with fail
      go_meet
      exact ⟨n0, d0, S1.out⟩
  case rest =>
    obtain ⟨n, d, S2⟩ := hcut
    have S2' := Lib.hid S2
    clear S2 S1 r0 r1 f0 hz1
    go_upto_region 4 with fail
    go_cut [3] (fun s3 wx => ∃ z : ByteArray, s3 = .string z ∧ One w n d wx)
    case first =>
      go_wp2_with fail
      all_goals (go_meet; exact ⟨_, rfl, S2'.out⟩)
    case rest =>
      obtain ⟨z, rfl, S3⟩ := hcut
      have S3' := Lib.hid S3
      clear S3 S2'
      go_wp2_with fail
      refine (pick_any _ _ _ (by omega) u2.1 u2.2 (by omega)).mono ?_
      rintro e _ ⟨rfl, rfl⟩
      generalize pickV a2 100000002 = k1 at *
      go_wp2
      obtain ⟨x, x0, x1⟩ : ∃ x : Nat → Int, x 0 = a2 ∧ x 1 = k1 := ⟨fun j => [a2, k1].getD j 0, rfl, rfl⟩
      have LP0 := Lib.hid (lq_start S3'.out x x0 x1)
      clear x0 x1 S3'
      obtain ⟨g, hg⟩ : ∃ g, g = wc.heap.size := ⟨_, rfl⟩
      rw [← hg] at LP0 ⊢
      clear hg
      go_loopw [35] (fun s35 wr => ∃ j : Nat, j ≤ 2 ∧ s35 = .int .i64 j ∧ Lq w n d g x wr) (fun s35 _ => 2 - (intOf s35).toNat)
      case atStart => exact ⟨0, by omega, rfl, LP0.out⟩
      case round =>
        obtain ⟨j, hj, rfl, hAcc⟩ := hrel
        by_cases hlt : j < 2
        · have cj := hAcc.2.2.2 j hlt
          have hlt' : (j : Int) < 2 := by omega
          have q0 := hAcc.1.r0
          have q1 := hAcc.1.r1
          have A := Lib.hid hAcc
          clear hAcc
          obtain ⟨zz, c, f1, f2⟩ := fmt_both n d (x j)
          have F1 := Lib.hid f1
          have F2 := Lib.hid f2
          clear f1 f2
          go_wp2_with fail
          refine (F1.out _ (A.out.1.tab T.out)).mono ?_
          rintro e w4 ⟨rfl, hb⟩
          have A2 := Lib.hid (A.out.next hb)
          clear hb q0 q1 cj
          have q0 := A2.out.1.r0
          have q1 := A2.out.1.r1
          go_wp2_with fail
          refine (F2.out _).mono ?_
          rintro e w5 ⟨rfl, hb⟩
          have A3 := Lib.hid (A2.out.next hb)
          clear hb q0 q1
          have hzz : (zz.toList != zz.toList) = false := by simp
          have hcc : (c != c) = false := by simp
          go_wp2
          go_roundw
          case rel => exact ⟨j + 1, by omega, by go_num, A3.out⟩
          case measure => simp [intOf]; omega
        · have q0 := hAcc.1.r0
          have q1 := hAcc.1.r1
          have A := Lib.hid hAcc
          clear hAcc
          obtain ⟨k, c, f1, f2⟩ := parse_both n d z
          have F1 := Lib.hid f1
          have F2 := Lib.hid f2
          clear f1 f2
          go_wp2_with fail
          refine (F1.out _ (A.out.1.tab T.out)).mono ?_
          rintro e w4 ⟨rfl, hb⟩
          have A2 := Lib.hid (A.out.next hb)
          clear hb q0 q1
          have q0 := A2.out.1.r0
          have q1 := A2.out.1.r1
          go_wp2_with fail
          refine (F2.out _).mono ?_
          rintro e w5 ⟨rfl, hb⟩
          have A3 := Lib.hid (A2.out.next hb)
          clear hb q0 q1
          have hkk : (k == k) = true := by simp
          have hcc : (c == c) = true := by simp
          go_wp2
          go_ret
          exact ⟨rfl, A3.out.1.old⟩
theorem contract (H : Type) (enc : TypeId × Value → H) (W : World) (base : Nat) (args : Array Value) (ds gs : List (DataW H)) (before : List MemPlace)
    (hval : ∀ (j : Nat) t v, Tryd.f4.params[j]? = some t → args[j]? = some v → Value.okWide Tryd.prog W .any base t v)
    (hW : DataW.Whole enc Tryd.prog Tryd.f4.params.toList Rows.timecodeTextMatchesReferenceSpec.vars false W args.toList ds gs before) (hL : laidMetH Tryd.prog Rows.timecodeTextMatchesReferenceRow.laid W) :
    Calls Tryd.prog 4 args W fun e W' => ∃ v, e = .returned v ∧ Rows.timecodeTextMatchesReferenceSpec.post enc Tryd.prog Tryd.f4 false true false false W args v W' := by
  have hW' := hW
  obtain ⟨p, q, hA0, hV, rfl, hfz, hnd⟩ := hW
  have hA : DataW.TrodAll enc Tryd.prog W 0 (fun _ => true) true Tryd.f4.params.toList args.toList ds p := hA0
  rw [Tryd.params4] at hA hval
  obtain ⟨v0, vs0, d0, ds0, p0, q0, hargs, rfl, rfl, h0, r0⟩ := trodAll_cons hA
  obtain ⟨v1, vs1, d1, ds1, p1, q1, rfl, rfl, rfl, h1, r1⟩ := trodAll_cons r0
  obtain ⟨v2, vs2, d2, ds2, p2, q2, rfl, rfl, rfl, h2, r2⟩ := trodAll_cons r1
  obtain ⟨v3, vs3, d3, ds3, p3, q3, rfl, rfl, rfl, h3, r3⟩ := trodAll_cons r2
  obtain ⟨rfl, rfl, rfl⟩ := trodAll_nil r3
  obtain rfl : args = #[v0, v1, v2, v3] := by cases args; simp_all
  obtain ⟨rfl, rfl⟩ := trodVars_none hV
  obtain ⟨a0n, a0d, rfl, rfl, rfl, w0n, w0d⟩ := open_rate (hval 0 23 v0 rfl rfl) h0
  obtain ⟨a1, rfl, rfl, rfl, w1⟩ := open_int Tryd.underlying3 (hval 1 3 v1 rfl rfl) h1
  obtain ⟨a2, rfl, rfl, rfl, w2⟩ := open_int Tryd.underlying3 (hval 2 3 v2 rfl rfl) h2
  obtain ⟨a3, rfl, rfl, rfl, w3⟩ := open_string Tryd.underlying9 (hval 3 9 v3 rfl rfl) h3
  clear hA0
  simp only [List.append_nil] at hW'
  refine (walk a0n a0d a1 a2 a3 w0n w0d w1 w2 w3 W (laid_tab hL)).mono fun e W' ⟨he, hg⟩ => ?_
  subst he
  exact ⟨_, rfl, post_alone hW' (fun _ _ _ => trodAll_cons_mk (shut_bool Tryd.underlying4 _) trodAll_mk0) (fun _ => (trodAll_cons_mk (shut_rate w0n w0d) (trodAll_cons_mk (shut_int Tryd.underlying3 w1) (trodAll_cons_mk (shut_int Tryd.underlying3 w2) (trodAll_cons_mk (shut_string Tryd.underlying9 w3) trodAll_mk0))))) (fun _ => rfl) hg (ok_one (by kernel_rfl) rfl (okWide_bool_mk Tryd.underlying4 _))⟩
theorem laid_met (os : Os) : laidMet Tryd.prog Rows.timecodeTextMatchesReferenceRow.laid ((laidWorld os).forCall (fun _ _ => 0) ⟨#[], #[.agg #[.int .i64 0, .int .i64 0], .int .i64 0, .int .i64 0, .string ⟨#[]⟩], []⟩).memory :=
  laidMet_of_run' 8 (by kernel_rfl) (by kernel_rfl)
theorem reads (os : Os) {H : Type} (enc : TypeId × Value → H) : ∃ places, DataW.whole enc Tryd.prog ((laidWorld os).forCall (fun _ _ => 0) ⟨#[], #[.agg #[.int .i64 0, .int .i64 0], .int .i64 0, .int .i64 0, .string ⟨#[]⟩], []⟩).memory Tryd.f4.params.toList Rows.timecodeTextMatchesReferenceSpec.vars false (#[.agg #[.int .i64 0, .int .i64 0], .int .i64 0, .int .i64 0, .string ⟨#[]⟩] : Array Value).toList 8 = some ([.agg [.lit (.int .i64 0), .lit (.int .i64 0)], .lit (.int .i64 0), .lit (.int .i64 0), .lit (.string [])], [], places) :=
  ⟨[], by kernel_rfl⟩
set_option maxRecDepth 100000 in
theorem lifted (os : Os) (started : os.Started) (H : Type) (enc : TypeId × Value → H) (F : Stop.Interp) :
    ReturnsInHanded {} Tryd.checked os 4 .any ((OpenSpec.ofChange Rows.timecodeTextMatchesReferenceSpec).preRow enc Tryd.prog Tryd.f4 Rows.timecodeTextMatchesReferenceRow.domain false Rows.timecodeTextMatchesReferenceRow.laid) (((OpenSpec.ofChange Rows.timecodeTextMatchesReferenceSpec).at F).post enc Tryd.prog Tryd.f4 false true false false) := by
  obtain ⟨places, hx⟩ := reads os enc
  refine returnsInHanded_of_row (C := Tryd.checked) (s := OpenSpec.ofChange Rows.timecodeTextMatchesReferenceSpec) own started (by kernel_rfl) Tryd.func4
    (witness_row_at (enc := enc) (C := Tryd.checked) false (laidWorld os) #[.agg #[.int .i64 0, .int .i64 0], .int .i64 0, .int .i64 0, .string ⟨#[]⟩] rfl (by kernel_rfl) (by kernel_rfl) (by kernel_rfl)
      (OpenSpec.preRow_of_cond 8 hx (by kernel_rfl) (fun k hk => by cases hk) (by kernel_rfl) (laid_met os))) ?_
  intro W base args ds gs before hval hW _ _ _ hL _ _
  exact contract H enc W base args ds gs before hval hW hL
theorem said : Rows.TimecodeTextMatchesReferenceSaid :=
  OpenClaim.holds_of_cond 4 Tryd.f4 rfl rfl rfl rfl rfl rfl rfl ⟨rfl, rfl, rfl, rfl, rfl⟩ rfl rfl rfl rfl rfl (by kernel_rfl) Tryd.func4 (by kernel_rfl)
    (of_decide_eq_true (by kernel_rfl)) (by unfold Func.isWrapper; first | (rw [if_pos (by decide +kernel)]; kernel_rfl) | (rw [if_neg (by decide +kernel)]; exact ⟨rfl, rfl⟩))
    (fun os started H enc _ F => by rw [OpenClaim.pre_eq_preRow]; exact lifted os started H enc F)
theorem plain (f : FuncId) (fn : Func) (hf : Tryd.pinned.checked.prog.funcNamed "onair/onairlaw03.TimecodeTextMatchesReference" = some f) (hfn : Tryd.pinned.checked.prog.funcs[f]? = some fn) :
    false = Tryd.pinned.checked.prog.looks [] ∧ ∀ (j : Nat) t, fn.params[j]? = some t → Tryd.pinned.checked.prog.wantsStandIn t = false := by
  obtain rfl : f = 4 := Option.some.inj ((show Tryd.prog.funcNamed "onair/onairlaw03.TimecodeTextMatchesReference" = some 4 by kernel_rfl).symm.trans hf) |>.symm
  obtain rfl : fn = Tryd.f4 := (Option.some.inj (Tryd.func4.symm.trans hfn)).symm
  refine ⟨by kernel_rfl, fun j t ht => ?_⟩
  rw [Tryd.params4] at ht
  have hm : t ∈ [23, 3, 3, 9] := by simpa using Array.mem_of_getElem? ht
  have hall : ([23, 3, 3, 9].all fun u => !Tryd.prog.wantsStandIn u) = true := by kernel_rfl
  exact (show Tryd.prog.wantsStandIn t = false by simpa using List.all_eq_true.1 hall t hm)
theorem card : Rows.TimecodeTextMatchesReferenceCardSaid :=
  Claim7.holds_tied_plain_at .later [] _ _ _ _ said (fun _ h => by cases h) (by kernel_rfl) (fun _ h => by cases h) timecodeTextMatchesReference_row_tie rfl ⟨rfl, rfl⟩ (by kernel_rfl) rfl plain (by kernel_rfl)
#print axioms card
end TextMatches
end Go.Proofs.YtfnmjabegajniaaDoor
