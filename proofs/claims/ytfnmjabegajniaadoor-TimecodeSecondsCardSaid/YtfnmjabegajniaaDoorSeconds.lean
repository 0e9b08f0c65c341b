/-
  TimecodeSeconds: proved is the card of this statement: for every input the law returns true, and each argument reads afterwards as it read before. Conditions: the row's own (the package variable 'rates' starts as the program's text lays it; the card ties it to that text).
-/
import Derived.Test.YtfnmjabegajniaaDoorCommon2
namespace Go.Proofs.YtfnmjabegajniaaDoor
open Go.ChangeShapes Go.WideShapes Go.ChangeAt Go.RowKit
theorem frames_le {n d b p : Int} (h : Pl.Row n d b p) (s : Int) (h0 : 0 ≤ s) (h1 : s < 1000000) : (s * n + d - 1) / d ≤ 60000001 := by
  rcases h with ⟨rfl, rfl, rfl, rfl⟩ | ⟨rfl, rfl, rfl, rfl⟩ | ⟨rfl, rfl, rfl, rfl⟩ | ⟨rfl, rfl, rfl, rfl⟩ | ⟨rfl, rfl, rfl, rfl⟩ | ⟨rfl, rfl, rfl, rfl⟩ | ⟨rfl, rfl, rfl, rfl⟩ | ⟨rfl, rfl, rfl, rfl⟩ <;> omega
theorem sec_le {n d b p : Int} (h : Pl.Row n d b p) (i : Int) (h0 : 0 ≤ i) (h1 : i ≤ 100000000) : 0 ≤ i * d / n ∧ i * d / n ≤ 10000000 := by
  rcases h with ⟨rfl, rfl, rfl, rfl⟩ | ⟨rfl, rfl, rfl, rfl⟩ | ⟨rfl, rfl, rfl, rfl⟩ | ⟨rfl, rfl, rfl, rfl⟩ | ⟨rfl, rfl, rfl, rfl⟩ | ⟨rfl, rfl, rfl, rfl⟩ | ⟨rfl, rfl, rfl, rfl⟩ | ⟨rfl, rfl, rfl, rfl⟩ <;> omega
/-- what the law needs of a second s with its first frame F -/
structure SecFacts (n d s F : Int) : Prop where
  lo : 0 ≤ F
  hi : F ≤ 60000001
  back : F * d / n = s
  ge : s * n ≤ F * d
  lt : (F - 1) * d < s * n
theorem sec_facts {n d b p : Int} (h : Pl.Row n d b p) (s : Int) (h0 : 0 ≤ s) (h1 : s < 1000000) : SecFacts n d s ((s * n + d - 1) / d) := by
  obtain ⟨e1, e2, e3, e4⟩ := Pl.secs h s h0
  exact ⟨e4, frames_le h s h0 h1, e1, e2, e3⟩
namespace Seconds
set_option maxRecDepth 100000 in
set_option maxHeartbeats 800000 in
theorem walk (a0 a1 a2 : Int) (w0 : (Lit.int .i64 a0).wf = true) (w1 : (Lit.int .i64 a1).wf = true) (w2 : (Lit.int .i64 a2).wf = true) (w : World) (ht : Tab w) :
    Calls Tryd.prog 8 #[.int .i64 a0, .int .i64 a1, .int .i64 a2] w fun e w' => e = .returned (.bool true) ∧ Below w.heap.size w w' := by
  have u0 := bounds_i64 w0
  have u1 := bounds_i64 w1
  have u2 := bounds_i64 w2
  have pr := pick_range a1 1000000 (by omega)
  have pi := pick_range a2 100000001 (by omega)
  have T := Lib.hid ht
  clear ht w0 w1 w2
  go_enter Tryd.func8, Tryd.ntmps8
  go_wp2_with fail
  refine (sane_any _ T.out).mono ?_
  rintro e w1 ⟨rfl, hb⟩
  have B1 := Lib.hid hb
  have T1 := Lib.hid (T.out.below hb T.out.pos)
  clear hb
  go_wp2_with fail
  refine (rate_some _ _ u0.1 u0.2).mono ?_
  rintro e w2 ⟨⟨n, d, b, p, hr, rfl⟩, hb⟩
  have R := Lib.hid hr
  have B2 := Lib.hid (keepB B1.out (Nat.le_refl _) hb)
  have T2 := Lib.hid (T1.out.below hb T1.out.pos)
  obtain ⟨b1, b2, b3, b4, _⟩ := Row.bounds hr
  clear hb hr
  go_wp2_with fail
  refine (pick_any _ _ _ (by omega) u1.1 u1.2 (by omega)).mono ?_
  rintro e _ ⟨rfl, rfl⟩
  generalize pickV a1 1000000 = s at *
  go_wp2_with fail
  refine (pick_any _ _ _ (by omega) u2.1 u2.2 (by omega)).mono ?_
  rintro e _ ⟨rfl, rfl⟩
  generalize pickV a2 100000001 = i at *
  go_wp2_with fail
  refine (frames_yes R.out _ _ (T2.out.alloc _) (by omega) (by omega)).mono ?_
  rintro e w3 ⟨rfl, hb⟩
  have B3 := Lib.hid (keepB (Below.refl (w2.heap.size + 1) (w2.alloc (.cells #[.int .i64 n, .int .i64 d] 23))) (by simp) hb)
  have T3 := Lib.hid ((T2.out.alloc _).below B3.out (by omega))
  obtain ⟨c0, c1⟩ := cellsB B3.out
  clear hb
  have SF := sec_facts R.out s pr.1 pr.2
  generalize (s * n + d - 1) / d = F at *
  obtain ⟨f1, f2, f3, f4, f5⟩ := SF
  obtain ⟨m1, m2⟩ := mul_bd pr.1 (Int.le_of_lt pr.2) (by omega : 0 ≤ n) b4
  obtain ⟨m3, m4⟩ := mul_bd f1 f2 (by omega : 0 ≤ d) b2
  have m5 : (F - 1) * d = F * d - d := by rw [Int.sub_mul, Int.one_mul]
  have m6 : -2000 ≤ (F - 1) * d := by omega
  have F3 := Lib.hid f3
  clear f3 m5
  go_wp2_with fail
  refine (seconds_yes R.out _ _ T3.out (by omega) (by omega)).mono ?_
  rintro e w4 ⟨rfl, hb⟩
  have B4 := Lib.hid (keepB B3.out (by simp) hb)
  have T4 := Lib.hid ((T2.out.alloc _).below B4.out (by omega))
  obtain ⟨d0, d1⟩ := cellsB B4.out
  clear hb c0 c1
  rw [F3.out]
  have gin := inB B4.out
  have SL := sec_le R.out i pi.1 (by omega)
  have SB := Pl.secs_back R.out i pi.1
  obtain ⟨g1, g2, g3, g4⟩ := Pl.secs R.out (i * d / n) SL.1
  have hAcc := B4.out
  by_cases hF : 0 < F
  all_goals
    go_upto_region 10 with fail
    go_region_held3 (fun w' => w'.cell? ⟨w2.heap.size, 0, none⟩ = some (.int .i64 n) ∧ w'.cell? ⟨w2.heap.size, 1, none⟩ = some (.int .i64 d)) (first | exact cellsB hAcc | exact cellsB hAcc.drew)
      (first
        | (go_at_call 15; refine (seconds_yes R.out _ _ ?_ (by omega) (by omega)).mono ?_; (first | exact (T2.out.alloc _).below hAcc (by omega) | exact (T2.out.alloc _).below hAcc.drew (by omega)); rintro e wx ⟨rfl, hbA⟩; replace hAcc : Below (w2.heap.size + 1) (w2.alloc (.cells #[.int .i64 n, .int .i64 d] 23)) wx := by first | exact accB hAcc.drew hbA | exact accB hAcc hbA)
        | (go_at_call 17; refine (frames_yes R.out _ _ ?_ (by omega) (by omega)).mono ?_; (first | exact (T2.out.alloc _).below hAcc (by omega) | exact (T2.out.alloc _).below hAcc.drew (by omega)); rintro e wx ⟨rfl, hbA⟩; replace hAcc : Below (w2.heap.size + 1) (w2.alloc (.cells #[.int .i64 n, .int .i64 d] 23)) wx := by first | exact accB hAcc.drew hbA | exact accB hAcc hbA))
    generalize hG : (i * d / n * n + d - 1) / d = G at *
    obtain ⟨r0, r1⟩ := cellsB hAcc
    have e1 : (G * d / n == i * d / n) = true := by simpa using g1
    have HG := Lib.hid hG
    have HG1 := Lib.hid g1
    clear hG g1 d0 d1
    go_upto_region 11 with fail
    go_region_held3 (fun w' => w'.cell? ⟨w2.heap.size, 0, none⟩ = some (.int .i64 n) ∧ w'.cell? ⟨w2.heap.size, 1, none⟩ = some (.int .i64 d)) (first | exact cellsB hAcc | exact cellsB hAcc.drew)
      (first
        | (go_at_call 15; refine (seconds_yes R.out _ _ ?_ (by omega) (by omega)).mono ?_; (first | exact (T2.out.alloc _).below hAcc (by omega) | exact (T2.out.alloc _).below hAcc.drew (by omega)); rintro e wx ⟨rfl, hbA⟩; replace hAcc : Below (w2.heap.size + 1) (w2.alloc (.cells #[.int .i64 n, .int .i64 d] 23)) wx := by first | exact accB hAcc.drew hbA | exact accB hAcc hbA)
        | (go_at_call 17; refine (frames_yes R.out _ _ ?_ (by omega) (by omega)).mono ?_; (first | exact (T2.out.alloc _).below hAcc (by omega) | exact (T2.out.alloc _).below hAcc.drew (by omega)); rintro e wx ⟨rfl, hbA⟩; replace hAcc : Below (w2.heap.size + 1) (w2.alloc (.cells #[.int .i64 n, .int .i64 d] 23)) wx := by first | exact accB hAcc.drew hbA | exact accB hAcc hbA))
    all_goals
      go_wp2
      go_ret
      refine ⟨rfl, ?_⟩
      exact (B2.out.alloc B2.out.size _).trans (hAcc.mono (by have := B2.out.size; omega))
theorem contract (H : Type) (enc : TypeId × Value → H) (W : World) (base : Nat) (args : Array Value) (ds gs : List (DataW H)) (before : List MemPlace)
    (hval : ∀ (j : Nat) t v, Tryd.f8.params[j]? = some t → args[j]? = some v → Value.okWide Tryd.prog W .any base t v)
    (hW : DataW.Whole enc Tryd.prog Tryd.f8.params.toList Rows.timecodeSecondsSpec.vars false W args.toList ds gs before) (hL : laidMetH Tryd.prog Rows.timecodeSecondsRow.laid W) :
    Calls Tryd.prog 8 args W fun e W' => ∃ v, e = .returned v ∧ Rows.timecodeSecondsSpec.post enc Tryd.prog Tryd.f8 false true false false W args v W' := by
  have hW' := hW
  obtain ⟨p, q, hA0, hV, rfl, hfz, hnd⟩ := hW
  have hA : DataW.TrodAll enc Tryd.prog W 0 (fun _ => true) true Tryd.f8.params.toList args.toList ds p := hA0
  rw [Tryd.params8] at hA hval
  obtain ⟨v0, vs0, d0, ds0, p0, q0, hargs, rfl, rfl, h0, r0⟩ := trodAll_cons hA
  obtain ⟨v1, vs1, d1, ds1, p1, q1, rfl, rfl, rfl, h1, r1⟩ := trodAll_cons r0
  obtain ⟨v2, vs2, d2, ds2, p2, q2, rfl, rfl, rfl, h2, r2⟩ := trodAll_cons r1
  obtain ⟨rfl, rfl, rfl⟩ := trodAll_nil r2
  obtain rfl : args = #[v0, v1, v2] := by cases args; simp_all
  obtain ⟨rfl, rfl⟩ := trodVars_none hV
  obtain ⟨a0, rfl, rfl, rfl, w0⟩ := open_int Tryd.underlying3 (hval 0 3 v0 rfl rfl) h0
  obtain ⟨a1, rfl, rfl, rfl, w1⟩ := open_int Tryd.underlying3 (hval 1 3 v1 rfl rfl) h1
  obtain ⟨a2, rfl, rfl, rfl, w2⟩ := open_int Tryd.underlying3 (hval 2 3 v2 rfl rfl) h2
  clear hA0
  simp only [List.append_nil] at hW'
  refine (walk a0 a1 a2 w0 w1 w2 W (laid_tab hL)).mono fun e W' ⟨he, hg⟩ => ?_
  subst he
  exact ⟨_, rfl, post_alone hW' (fun _ _ _ => trodAll_cons_mk (shut_bool Tryd.underlying4 _) trodAll_mk0) (fun _ => (trodAll_cons_mk (shut_int Tryd.underlying3 w0) (trodAll_cons_mk (shut_int Tryd.underlying3 w1) (trodAll_cons_mk (shut_int Tryd.underlying3 w2) trodAll_mk0)))) (fun _ => rfl) hg (ok_one (by kernel_rfl) rfl (okWide_bool_mk Tryd.underlying4 _))⟩
theorem laid_met (os : Os) : laidMet Tryd.prog Rows.timecodeSecondsRow.laid ((laidWorld os).forCall (fun _ _ => 0) ⟨#[], #[.int .i64 0, .int .i64 0, .int .i64 0], []⟩).memory :=
  laidMet_of_run' 8 (by kernel_rfl) (by kernel_rfl)
theorem reads (os : Os) {H : Type} (enc : TypeId × Value → H) : ∃ places, DataW.whole enc Tryd.prog ((laidWorld os).forCall (fun _ _ => 0) ⟨#[], #[.int .i64 0, .int .i64 0, .int .i64 0], []⟩).memory Tryd.f8.params.toList Rows.timecodeSecondsSpec.vars false (#[.int .i64 0, .int .i64 0, .int .i64 0] : Array Value).toList 8 = some ([.lit (.int .i64 0), .lit (.int .i64 0), .lit (.int .i64 0)], [], places) :=
  ⟨[], by kernel_rfl⟩
set_option maxRecDepth 100000 in
theorem lifted (os : Os) (started : os.Started) (H : Type) (enc : TypeId × Value → H) (F : Stop.Interp) :
    ReturnsInHanded {} Tryd.checked os 8 .any ((OpenSpec.ofChange Rows.timecodeSecondsSpec).preRow enc Tryd.prog Tryd.f8 Rows.timecodeSecondsRow.domain false Rows.timecodeSecondsRow.laid) (((OpenSpec.ofChange Rows.timecodeSecondsSpec).at F).post enc Tryd.prog Tryd.f8 false true false false) := by
  obtain ⟨places, hx⟩ := reads os enc
  refine returnsInHanded_of_row (C := Tryd.checked) (s := OpenSpec.ofChange Rows.timecodeSecondsSpec) own started (by kernel_rfl) Tryd.func8
    (witness_row_at (enc := enc) (C := Tryd.checked) false (laidWorld os) #[.int .i64 0, .int .i64 0, .int .i64 0] rfl (by kernel_rfl) (by kernel_rfl) (by kernel_rfl)
      (OpenSpec.preRow_of_cond 8 hx (by kernel_rfl) (fun k hk => by cases hk) (by kernel_rfl) (laid_met os))) ?_
  intro W base args ds gs before hval hW _ _ _ hL _ _
  exact contract H enc W base args ds gs before hval hW hL
theorem said : Rows.TimecodeSecondsSaid :=
  OpenClaim.holds_of_cond 8 Tryd.f8 rfl rfl rfl rfl rfl rfl rfl ⟨rfl, rfl, rfl, rfl, rfl⟩ rfl rfl rfl rfl rfl (by kernel_rfl) Tryd.func8 (by kernel_rfl)
    (of_decide_eq_true (by kernel_rfl)) (by unfold Func.isWrapper; first | (rw [if_pos (by decide +kernel)]; kernel_rfl) | (rw [if_neg (by decide +kernel)]; exact ⟨rfl, rfl⟩))
    (fun os started H enc _ F => by rw [OpenClaim.pre_eq_preRow]; exact lifted os started H enc F)
theorem plain (f : FuncId) (fn : Func) (hf : Tryd.pinned.checked.prog.funcNamed "onair/onairlaw03.TimecodeSeconds" = some f) (hfn : Tryd.pinned.checked.prog.funcs[f]? = some fn) :
    false = Tryd.pinned.checked.prog.looks [] ∧ ∀ (j : Nat) t, fn.params[j]? = some t → Tryd.pinned.checked.prog.wantsStandIn t = false := by
  obtain rfl : f = 8 := Option.some.inj ((show Tryd.prog.funcNamed "onair/onairlaw03.TimecodeSeconds" = some 8 by kernel_rfl).symm.trans hf) |>.symm
  obtain rfl : fn = Tryd.f8 := (Option.some.inj (Tryd.func8.symm.trans hfn)).symm
  refine ⟨by kernel_rfl, fun j t ht => ?_⟩
  rw [Tryd.params8] at ht
  have hm : t ∈ [3, 3, 3] := by simpa using Array.mem_of_getElem? ht
  have hall : ([3, 3, 3].all fun u => !Tryd.prog.wantsStandIn u) = true := by kernel_rfl
  exact (show Tryd.prog.wantsStandIn t = false by simpa using List.all_eq_true.1 hall t hm)
theorem card : Rows.TimecodeSecondsCardSaid :=
  Claim7.holds_tied_plain_at .later [] _ _ _ _ said (fun _ h => by cases h) (by kernel_rfl) (fun _ h => by cases h) timecodeSeconds_row_tie rfl ⟨rfl, rfl⟩ (by kernel_rfl) rfl plain (by kernel_rfl)
#print axioms card
end Seconds
end Go.Proofs.YtfnmjabegajniaaDoor
