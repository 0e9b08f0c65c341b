/-
  TimecodeMatchesReference: proved is the card of this statement: for every input the law returns true, and each argument reads afterwards as it read before. Conditions: the row's own (the package variable 'rates' starts as the program's text lays it; the card ties it to that text).
-/
import Derived.Test.YtfnmjabegajniaaDoorUni
import Derived.Test.YtfnmjabegajniaaDoorOpen
namespace Go.Proofs.YtfnmjabegajniaaDoor
open Go.ChangeShapes Go.WideShapes Go.ChangeAt Go.RowKit
/-- the loop's world: two rates, and three numbers in block g -/
def Lp (w : World) (n d n' d' : Int) (g : Nat) (x : Nat → Int) (wx : World) : Prop := Two w n d n' d' wx ∧ w.heap.size + 2 ≤ g ∧ g < wx.heap.size ∧ ∀ j, j < 3 → wx.cell? ⟨g, j, none⟩ = some (.int .i64 (x j))
theorem Lp.next {w wx wy : World} {n d n' d' : Int} {g : Nat} {x : Nat → Int} (h : Lp w n d n' d' g x wx) (hb : Below wx.heap.size wx wy) : Lp w n d n' d' g x wy :=
  ⟨h.1.next hb, h.2.1, Nat.lt_of_lt_of_le h.2.2.1 hb.size, fun j hj => (hb.cell (p := ⟨g, j, none⟩) h.2.2.1).trans (h.2.2.2 j hj)⟩
theorem Lp.drew {w wx : World} {n d n' d' : Int} {g : Nat} {x : Nat → Int} (h : Lp w n d n' d' g x wx) : Lp w n d n' d' g x wx.drew := ⟨h.1.drew, h.2.1, h.2.2.1, h.2.2.2⟩
theorem Lp.four {w wx : World} {n d n' d' : Int} {g : Nat} {x : Nat → Int} (h : Lp w n d n' d' g x wx) : wx.cell? ⟨w.heap.size, 0, none⟩ = some (.int .i64 n) ∧ wx.cell? ⟨w.heap.size, 1, none⟩ = some (.int .i64 d) ∧ wx.cell? ⟨w.heap.size + 1, 0, none⟩ = some (.int .i64 n') ∧ wx.cell? ⟨w.heap.size + 1, 1, none⟩ = some (.int .i64 d') := ⟨h.1.r0, h.1.r1, h.1.s0, h.1.s1⟩
theorem lp_start {w wc : World} {n d n' d' a k1 k2 : Int} (h : Two w n d n' d' wc) (x : Nat → Int) (x0 : x 0 = a) (x1 : x 1 = k1) (x2 : x 2 = k2) :
    Lp w n d n' d' wc.heap.size x (wc.alloc (.cells #[.int .i64 a, .int .i64 k1, .int .i64 k2] 3)) := by
  refine ⟨h.next ((Below.refl _ _).alloc (Nat.le_refl _) _), h.size, by simp, fun j hj => ?_⟩
  match j, hj with
  | 0, _ => rw [x0]; simp
  | 1, _ => rw [x1]; simp
  | 2, _ => rw [x2]; simp
namespace Matches
set_option maxRecDepth 100000 in
set_option maxHeartbeats 2000000 in
theorem walk (n0 d0 m0 e0 a2 a3 a4 : Int) (_w0n : (Lit.int .i64 n0).wf = true) (_w0d : (Lit.int .i64 d0).wf = true) (_w1n : (Lit.int .i64 m0).wf = true) (_w1d : (Lit.int .i64 e0).wf = true) (w2 : (Lit.int .i64 a2).wf = true) (w3 : (Lit.int .i64 a3).wf = true) (w4 : (Lit.int .i64 a4).wf = true) (w : World) (ht : Tab w) :
    Calls Tryd.prog 3 #[.agg #[.int .i64 n0, .int .i64 d0], .agg #[.int .i64 m0, .int .i64 e0], .int .i64 a2, .int .i64 a3, .int .i64 a4] w fun e w' => e = .returned (.bool true) ∧ Below w.heap.size w w' := by
  have u2 := bounds_i64 w2
  have u3 := bounds_i64 w3
  have u4 := bounds_i64 w4
  have T := Lib.hid ht
  have S0 := Lib.hid (Two.start w n0 d0 m0 e0)
  clear ht w2 w3 w4
  go_enter Tryd.func3, Tryd.ntmps3
  go_wp2_with fail
  refine (sane_any _ ((T.out.alloc _).alloc _)).mono ?_
  rintro e w1 ⟨rfl, hb⟩
  have S1 := Lib.hid (S0.out.next hb)
  clear hb S0
  have hz1 := S1.out.size
  have r0 := S1.out.r0
  have r1 := S1.out.r1
  have f0 := S1.out.f0
  go_upto_if 16 with fail
  go_cut [] (fun wx => ∃ n d, Two w n d m0 e0 wx)
  case first =>
    by_cases hc : 0 ≤ a2
    · go_wp2_with fail
      refine (rate_some _ _ u2.1 u2.2).mono ?_
      rintro e w2 ⟨⟨n, d, b, p, hr, rfl⟩, hb⟩
      have S2 := S1.out.next hb
      have q0 := S2.r0
      have q1 := S2.r1
      have g0 := S2.f0
      clear hb hr
      go_wp2_with fail
      go_meet
      exact ⟨n, d, S2.store n d⟩
    · go_wp2_with fail
      go_meet
      exact ⟨n0, d0, S1.out⟩
  case rest =>
    obtain ⟨n, d, S2⟩ := hcut
    have hz2 := S2.size
    have q0 := S2.s0
    have q1 := S2.s1
    have g1 := S2.f1
    have S2' := Lib.hid S2
    clear S2 S1 r0 r1 f0 hz1
    go_upto_if 20 with fail
    go_cut [] (fun wx => ∃ n' d', Two w n d n' d' wx)
    case first =>
      by_cases hc : 0 ≤ a3
      · go_wp2_with fail
        refine (rate_some _ _ u3.1 u3.2).mono ?_
        rintro e w2 ⟨⟨x, y, b, p, hr, rfl⟩, hb⟩
        have S3 := S2'.out.next hb
        have q2 := S3.s0
        have q3 := S3.s1
        have g2 := S3.f1
        clear hb hr
        go_wp2_with fail
        go_meet
        exact ⟨x, y, S3.store2 x y⟩
      · go_wp2_with fail
        go_meet
        exact ⟨m0, e0, S2'.out⟩
    case rest =>
      obtain ⟨n', d', S3⟩ := hcut
      have S3' := Lib.hid S3
      clear S3 q0 q1 g1 hz2
      go_wp2_with fail
      refine (pick_any _ _ _ (by omega) u4.1 u4.2 (by omega)).mono ?_
      rintro e _ ⟨rfl, rfl⟩
      go_wp2_with fail
      refine (pick_any _ _ _ (by omega) u4.1 u4.2 (by omega)).mono ?_
      rintro e _ ⟨rfl, rfl⟩
      generalize pickV a4 100000002 = k1 at *
      generalize pickV a4 3000 = k2 at *
      go_wp2
      obtain ⟨x, x0, x1, x2⟩ : ∃ x : Nat → Int, x 0 = a4 ∧ x 1 = k1 ∧ x 2 = k2 := ⟨fun j => [a4, k1, k2].getD j 0, rfl, rfl, rfl⟩
      have LP0 := Lib.hid (lp_start S3'.out x x0 x1 x2)
      clear x0 x1 x2 S3' S2'
      obtain ⟨g, hg⟩ : ∃ g, g = wc.heap.size := ⟨_, rfl⟩
      rw [← hg] at LP0 ⊢
      have HG := Lib.hid hg
      clear hg
      go_loopw [30] (fun s30 wr => ∃ j : Nat, j ≤ 3 ∧ s30 = .int .i64 j ∧ Lp w n d n' d' g x wr) (fun s30 _ => 3 - (intOf s30).toNat)
      case atStart => exact ⟨0, by omega, rfl, LP0.out⟩
      case round =>
        obtain ⟨j, hj, rfl, hAcc⟩ := hrel
        by_cases hlt : j < 3
        · have cj := hAcc.2.2.2 j hlt
          have hlt' : (j : Int) < 3 := by omega
          go_wp2_with fail
          go_region_held3 (fun w' => w'.cell? ⟨w.heap.size, 0, none⟩ = some (.int .i64 n) ∧ w'.cell? ⟨w.heap.size, 1, none⟩ = some (.int .i64 d) ∧ w'.cell? ⟨w.heap.size + 1, 0, none⟩ = some (.int .i64 n') ∧ w'.cell? ⟨w.heap.size + 1, 1, none⟩ = some (.int .i64 d')) (first | exact hAcc.four | exact hAcc.drew.four)
          (first
            | (go_at_call 15; refine (sec_u _ _ _ _ ?_).mono ?_; (first | exact hAcc.1.tab T.out | exact hAcc.drew.1.tab T.out); rintro e wx ⟨rfl, hbA⟩; replace hAcc : Lp w n d n' d' g x wx := by first | exact hAcc.drew.next hbA | exact hAcc.next hbA)
            | (go_at_call 16; refine (rsec_u _ _ _ _).mono ?_; rintro e wx ⟨rfl, hbA⟩; replace hAcc : Lp w n d n' d' g x wx := by first | exact hAcc.drew.next hbA | exact hAcc.next hbA)
            | (go_at_call 17; refine (frm_u _ _ _ _ ?_).mono ?_; (first | exact hAcc.1.tab T.out | exact hAcc.drew.1.tab T.out); rintro e wx ⟨rfl, hbA⟩; replace hAcc : Lp w n d n' d' g x wx := by first | exact hAcc.drew.next hbA | exact hAcc.next hbA)
            | (go_at_call 18; refine (rfrm_u _ _ _ _).mono ?_; rintro e wx ⟨rfl, hbA⟩; replace hAcc : Lp w n d n' d' g x wx := by first | exact hAcc.drew.next hbA | exact hAcc.next hbA)
            | (go_at_call 19; refine (tck_u _ _ _ _ ?_).mono ?_; (first | exact hAcc.1.tab T.out | exact hAcc.drew.1.tab T.out); rintro e wx ⟨rfl, hbA⟩; replace hAcc : Lp w n d n' d' g x wx := by first | exact hAcc.drew.next hbA | exact hAcc.next hbA)
            | (go_at_call 20; refine (rtck_u _ _ _ _).mono ?_; rintro e wx ⟨rfl, hbA⟩; replace hAcc : Lp w n d n' d' g x wx := by first | exact hAcc.drew.next hbA | exact hAcc.next hbA)
            | (go_at_call 21; refine (cnv_u _ _ _ _ _ _ ?_).mono ?_; (first | exact hAcc.1.tab T.out | exact hAcc.drew.1.tab T.out); rintro e wx ⟨rfl, hbA⟩; replace hAcc : Lp w n d n' d' g x wx := by first | exact hAcc.drew.next hbA | exact hAcc.next hbA)
            | (go_at_call 22; refine (rcnv_u _ _ _ _ _ _).mono ?_; rintro e wx ⟨rfl, hbA⟩; replace hAcc : Lp w n d n' d' g x wx := by first | exact hAcc.drew.next hbA | exact hAcc.next hbA)
            | (go_at_call 23; refine (valid_u _ _ _ ?_).mono ?_; (first | exact hAcc.1.tab T.out | exact hAcc.drew.1.tab T.out); rintro e wx ⟨rfl, hbA⟩; replace hAcc : Lp w n d n' d' g x wx := by first | exact hAcc.drew.next hbA | exact hAcc.next hbA)
            | (go_at_call 24; refine (rvalid_u _ _ _).mono ?_; rintro e wx ⟨rfl, hbA⟩; replace hAcc : Lp w n d n' d' g x wx := by first | exact hAcc.drew.next hbA | exact hAcc.next hbA))
          all_goals
            go_wp2
            go_roundw
            case rel => exact ⟨j + 1, by omega, by go_num, hAcc⟩
            case measure => simp [intOf]; omega
        · go_wp2_with fail
          go_region_held3 (fun w' => w'.cell? ⟨w.heap.size, 0, none⟩ = some (.int .i64 n) ∧ w'.cell? ⟨w.heap.size, 1, none⟩ = some (.int .i64 d) ∧ w'.cell? ⟨w.heap.size + 1, 0, none⟩ = some (.int .i64 n') ∧ w'.cell? ⟨w.heap.size + 1, 1, none⟩ = some (.int .i64 d')) (first | exact hAcc.four | exact hAcc.drew.four)
          (first
            | (go_at_call 15; refine (sec_u _ _ _ _ ?_).mono ?_; (first | exact hAcc.1.tab T.out | exact hAcc.drew.1.tab T.out); rintro e wx ⟨rfl, hbA⟩; replace hAcc : Lp w n d n' d' g x wx := by first | exact hAcc.drew.next hbA | exact hAcc.next hbA)
            | (go_at_call 16; refine (rsec_u _ _ _ _).mono ?_; rintro e wx ⟨rfl, hbA⟩; replace hAcc : Lp w n d n' d' g x wx := by first | exact hAcc.drew.next hbA | exact hAcc.next hbA)
            | (go_at_call 17; refine (frm_u _ _ _ _ ?_).mono ?_; (first | exact hAcc.1.tab T.out | exact hAcc.drew.1.tab T.out); rintro e wx ⟨rfl, hbA⟩; replace hAcc : Lp w n d n' d' g x wx := by first | exact hAcc.drew.next hbA | exact hAcc.next hbA)
            | (go_at_call 18; refine (rfrm_u _ _ _ _).mono ?_; rintro e wx ⟨rfl, hbA⟩; replace hAcc : Lp w n d n' d' g x wx := by first | exact hAcc.drew.next hbA | exact hAcc.next hbA)
            | (go_at_call 19; refine (tck_u _ _ _ _ ?_).mono ?_; (first | exact hAcc.1.tab T.out | exact hAcc.drew.1.tab T.out); rintro e wx ⟨rfl, hbA⟩; replace hAcc : Lp w n d n' d' g x wx := by first | exact hAcc.drew.next hbA | exact hAcc.next hbA)
            | (go_at_call 20; refine (rtck_u _ _ _ _).mono ?_; rintro e wx ⟨rfl, hbA⟩; replace hAcc : Lp w n d n' d' g x wx := by first | exact hAcc.drew.next hbA | exact hAcc.next hbA)
            | (go_at_call 21; refine (cnv_u _ _ _ _ _ _ ?_).mono ?_; (first | exact hAcc.1.tab T.out | exact hAcc.drew.1.tab T.out); rintro e wx ⟨rfl, hbA⟩; replace hAcc : Lp w n d n' d' g x wx := by first | exact hAcc.drew.next hbA | exact hAcc.next hbA)
            | (go_at_call 22; refine (rcnv_u _ _ _ _ _ _).mono ?_; rintro e wx ⟨rfl, hbA⟩; replace hAcc : Lp w n d n' d' g x wx := by first | exact hAcc.drew.next hbA | exact hAcc.next hbA)
            | (go_at_call 23; refine (valid_u _ _ _ ?_).mono ?_; (first | exact hAcc.1.tab T.out | exact hAcc.drew.1.tab T.out); rintro e wx ⟨rfl, hbA⟩; replace hAcc : Lp w n d n' d' g x wx := by first | exact hAcc.drew.next hbA | exact hAcc.next hbA)
            | (go_at_call 24; refine (rvalid_u _ _ _).mono ?_; rintro e wx ⟨rfl, hbA⟩; replace hAcc : Lp w n d n' d' g x wx := by first | exact hAcc.drew.next hbA | exact hAcc.next hbA))
          all_goals
            go_wp2
            go_ret
            exact ⟨rfl, hAcc.1.old⟩
theorem contract (H : Type) (enc : TypeId × Value → H) (W : World) (base : Nat) (args : Array Value) (ds gs : List (DataW H)) (before : List MemPlace)
    (hval : ∀ (j : Nat) t v, Tryd.f3.params[j]? = some t → args[j]? = some v → Value.okWide Tryd.prog W .any base t v)
    (hW : DataW.Whole enc Tryd.prog Tryd.f3.params.toList Rows.timecodeMatchesReferenceSpec.vars false W args.toList ds gs before) (hL : laidMetH Tryd.prog Rows.timecodeMatchesReferenceRow.laid W) :
    Calls Tryd.prog 3 args W fun e W' => ∃ v, e = .returned v ∧ Rows.timecodeMatchesReferenceSpec.post enc Tryd.prog Tryd.f3 false true false false W args v W' := by
  have hW' := hW
  obtain ⟨p, q, hA0, hV, rfl, hfz, hnd⟩ := hW
  have hA : DataW.TrodAll enc Tryd.prog W 0 (fun _ => true) true Tryd.f3.params.toList args.toList ds p := hA0
  rw [Tryd.params3] at hA hval
  obtain ⟨v0, vs0, d0, ds0, p0, q0, hargs, rfl, rfl, h0, r0⟩ := trodAll_cons hA
  obtain ⟨v1, vs1, d1, ds1, p1, q1, rfl, rfl, rfl, h1, r1⟩ := trodAll_cons r0
  obtain ⟨v2, vs2, d2, ds2, p2, q2, rfl, rfl, rfl, h2, r2⟩ := trodAll_cons r1
  obtain ⟨v3, vs3, d3, ds3, p3, q3, rfl, rfl, rfl, h3, r3⟩ := trodAll_cons r2
  obtain ⟨v4, vs4, d4, ds4, p4, q4, rfl, rfl, rfl, h4, r4⟩ := trodAll_cons r3
  obtain ⟨rfl, rfl, rfl⟩ := trodAll_nil r4
  obtain rfl : args = #[v0, v1, v2, v3, v4] := by cases args; simp_all
  obtain ⟨rfl, rfl⟩ := trodVars_none hV
  obtain ⟨a0n, a0d, rfl, rfl, rfl, w0n, w0d⟩ := open_rate (hval 0 23 v0 rfl rfl) h0
  obtain ⟨a1n, a1d, rfl, rfl, rfl, w1n, w1d⟩ := open_rate (hval 1 23 v1 rfl rfl) h1
  obtain ⟨a2, rfl, rfl, rfl, w2⟩ := open_int Tryd.underlying3 (hval 2 3 v2 rfl rfl) h2
  obtain ⟨a3, rfl, rfl, rfl, w3⟩ := open_int Tryd.underlying3 (hval 3 3 v3 rfl rfl) h3
  obtain ⟨a4, rfl, rfl, rfl, w4⟩ := open_int Tryd.underlying3 (hval 4 3 v4 rfl rfl) h4
  clear hA0
  simp only [List.append_nil] at hW'
  refine (walk a0n a0d a1n a1d a2 a3 a4 w0n w0d w1n w1d w2 w3 w4 W (laid_tab hL)).mono fun e W' ⟨he, hg⟩ => ?_
  subst he
  exact ⟨_, rfl, post_alone hW' (fun _ _ _ => trodAll_cons_mk (shut_bool Tryd.underlying4 _) trodAll_mk0) (fun _ => (trodAll_cons_mk (shut_rate w0n w0d) (trodAll_cons_mk (shut_rate w1n w1d) (trodAll_cons_mk (shut_int Tryd.underlying3 w2) (trodAll_cons_mk (shut_int Tryd.underlying3 w3) (trodAll_cons_mk (shut_int Tryd.underlying3 w4) trodAll_mk0)))))) (fun _ => rfl) hg (ok_one (by kernel_rfl) rfl (okWide_bool_mk Tryd.underlying4 _))⟩
theorem laid_met (os : Os) : laidMet Tryd.prog Rows.timecodeMatchesReferenceRow.laid ((laidWorld os).forCall (fun _ _ => 0) ⟨#[], #[.agg #[.int .i64 0, .int .i64 0], .agg #[.int .i64 0, .int .i64 0], .int .i64 0, .int .i64 0, .int .i64 0], []⟩).memory :=
  laidMet_of_run' 8 (by kernel_rfl) (by kernel_rfl)
theorem reads (os : Os) {H : Type} (enc : TypeId × Value → H) : ∃ places, DataW.whole enc Tryd.prog ((laidWorld os).forCall (fun _ _ => 0) ⟨#[], #[.agg #[.int .i64 0, .int .i64 0], .agg #[.int .i64 0, .int .i64 0], .int .i64 0, .int .i64 0, .int .i64 0], []⟩).memory Tryd.f3.params.toList Rows.timecodeMatchesReferenceSpec.vars false (#[.agg #[.int .i64 0, .int .i64 0], .agg #[.int .i64 0, .int .i64 0], .int .i64 0, .int .i64 0, .int .i64 0] : Array Value).toList 8 = some ([.agg [.lit (.int .i64 0), .lit (.int .i64 0)], .agg [.lit (.int .i64 0), .lit (.int .i64 0)], .lit (.int .i64 0), .lit (.int .i64 0), .lit (.int .i64 0)], [], places) :=
  ⟨[], by kernel_rfl⟩
set_option maxRecDepth 100000 in
theorem lifted (os : Os) (started : os.Started) (H : Type) (enc : TypeId × Value → H) (F : Stop.Interp) :
    ReturnsInHanded {} Tryd.checked os 3 .any ((OpenSpec.ofChange Rows.timecodeMatchesReferenceSpec).preRow enc Tryd.prog Tryd.f3 Rows.timecodeMatchesReferenceRow.domain false Rows.timecodeMatchesReferenceRow.laid) (((OpenSpec.ofChange Rows.timecodeMatchesReferenceSpec).at F).post enc Tryd.prog Tryd.f3 false true false false) := by
  obtain ⟨places, hx⟩ := reads os enc
  refine returnsInHanded_of_row (C := Tryd.checked) (s := OpenSpec.ofChange Rows.timecodeMatchesReferenceSpec) own started (by kernel_rfl) Tryd.func3
    (witness_row_at (enc := enc) (C := Tryd.checked) false (laidWorld os) #[.agg #[.int .i64 0, .int .i64 0], .agg #[.int .i64 0, .int .i64 0], .int .i64 0, .int .i64 0, .int .i64 0] rfl (by kernel_rfl) (by kernel_rfl) (by kernel_rfl)
      (OpenSpec.preRow_of_cond 8 hx (by kernel_rfl) (fun k hk => by cases hk) (by kernel_rfl) (laid_met os))) ?_
  intro W base args ds gs before hval hW _ _ _ hL _ _
  exact contract H enc W base args ds gs before hval hW hL
theorem said : Rows.TimecodeMatchesReferenceSaid :=
  OpenClaim.holds_of_cond 3 Tryd.f3 rfl rfl rfl rfl rfl rfl rfl ⟨rfl, rfl, rfl, rfl, rfl⟩ rfl rfl rfl rfl rfl (by kernel_rfl) Tryd.func3 (by kernel_rfl)
    (of_decide_eq_true (by kernel_rfl)) (by unfold Func.isWrapper; first | (rw [if_pos (by decide +kernel)]; kernel_rfl) | (rw [if_neg (by decide +kernel)]; exact ⟨rfl, rfl⟩))
    (fun os started H enc _ F => by rw [OpenClaim.pre_eq_preRow]; exact lifted os started H enc F)
theorem plain (f : FuncId) (fn : Func) (hf : Tryd.pinned.checked.prog.funcNamed "onair/onairlaw03.TimecodeMatchesReference" = some f) (hfn : Tryd.pinned.checked.prog.funcs[f]? = some fn) :
    false = Tryd.pinned.checked.prog.looks [] ∧ ∀ (j : Nat) t, fn.params[j]? = some t → Tryd.pinned.checked.prog.wantsStandIn t = false := by
  obtain rfl : f = 3 := Option.some.inj ((show Tryd.prog.funcNamed "onair/onairlaw03.TimecodeMatchesReference" = some 3 by kernel_rfl).symm.trans hf) |>.symm
  obtain rfl : fn = Tryd.f3 := (Option.some.inj (Tryd.func3.symm.trans hfn)).symm
  refine ⟨by kernel_rfl, fun j t ht => ?_⟩
  rw [Tryd.params3] at ht
  have hm : t ∈ [23, 23, 3, 3, 3] := by simpa using Array.mem_of_getElem? ht
  have hall : ([23, 23, 3, 3, 3].all fun u => !Tryd.prog.wantsStandIn u) = true := by kernel_rfl
  exact (show Tryd.prog.wantsStandIn t = false by simpa using List.all_eq_true.1 hall t hm)
theorem card : Rows.TimecodeMatchesReferenceCardSaid :=
  Claim7.holds_tied_plain_at .later [] _ _ _ _ said (fun _ h => by cases h) (by kernel_rfl) (fun _ h => by cases h) timecodeMatchesReference_row_tie rfl ⟨rfl, rfl⟩ (by kernel_rfl) rfl plain (by kernel_rfl)
#print axioms card
end Matches
end Go.Proofs.YtfnmjabegajniaaDoor
