/-
  TimecodeClose: proved is the card of this statement: for every input the law returns true, and each argument reads afterwards as it read before. Conditions: the row's own (the package variable 'rates' starts as the program's text lays it; the card ties it to that text).
-/
import Derived.Test.YtfnmjabegajniaaDoorBytes
namespace Go.Proofs.YtfnmjabegajniaaDoor
open Go.ChangeShapes Go.WideShapes Go.ChangeAt Go.RowKit
open Go.PlainAid
theorem sec_le {n d b p : Int} (h : Pl.Row n d b p) (i : Int) (h0 : 0 ≤ i) (h1 : i ≤ 100000000) : 0 ≤ i * d / n ∧ i * d / n ≤ 10000000 := by
  rcases h with ⟨rfl, rfl, rfl, rfl⟩ | ⟨rfl, rfl, rfl, rfl⟩ | ⟨rfl, rfl, rfl, rfl⟩ | ⟨rfl, rfl, rfl, rfl⟩ | ⟨rfl, rfl, rfl, rfl⟩ | ⟨rfl, rfl, rfl, rfl⟩ | ⟨rfl, rfl, rfl, rfl⟩ | ⟨rfl, rfl, rfl, rfl⟩ <;> omega
namespace Close
set_option maxRecDepth 100000 in
set_option maxHeartbeats 1000000 in
theorem walk (a0 a1 : Int) (w0 : (Lit.int .i64 a0).wf = true) (w1 : (Lit.int .i64 a1).wf = true) (w : World) (ht : Tab w) :
    Calls Tryd.prog 9 #[.int .i64 a0, .int .i64 a1] w fun e w' => e = .returned (.bool true) ∧ Below w.heap.size w w' := by
  have u0 := bounds_i64 w0
  have u1 := bounds_i64 w1
  obtain ⟨k, hk⟩ : ∃ k : Nat, pickV a0 8 = k := ⟨(pickV a0 8).toNat, by have := pick_range a0 8 (by omega); omega⟩
  have hk8 : k < 8 := by have := pick_range a0 8 (by omega); omega
  have hk8' : (k : Int) < 8 := by omega
  obtain ⟨t0, t1, t2, t3⟩ := tabAt k hk8
  have hr := row_of k hk8
  generalize numT k = n at *
  generalize denT k = d at *
  generalize baseT k = b at *
  generalize dropT k = p at *
  obtain ⟨b1, b2, b3, b4, b5, b6, b7, b8⟩ := Row.bounds hr
  have HK := Lib.hid hk
  have R := Lib.hid hr
  have T := Lib.hid ht
  clear hk hr ht w0 w1
  go_enter Tryd.func9, Tryd.ntmps9
  go_wp2_with fail
  refine (sane_any _ T.out).mono ?_
  rintro e w1 ⟨rfl, hb⟩
  have B1 := Lib.hid hb
  have T1 := Lib.hid (T.out.below hb T.out.pos)
  clear hb
  go_wp2_with fail
  refine (table_any _).mono ?_
  rintro e _ ⟨rfl, rfl⟩
  go_wp2_with fail
  refine (pick_any _ _ _ (by omega) u0.1 u0.2 (by omega)).mono ?_
  rintro e _ ⟨rfl, rfl⟩
  rw [HK.out]
  go_wp2_with fail
  refine (rday_any _ _ _ _ _ (by omega) (by omega) (by omega) (by omega)).mono ?_
  rintro e w4 ⟨rfl, hw4⟩
  have B4 : Hid (Below ((w1.alloc (.cells tabCells 39)).heap.size + 1) ((w1.alloc (.cells tabCells 39)).alloc (.cells #[.int .i64 n, .int .i64 d, .int .i64 b, .int .i64 p] 39)) w4) := by
    rw [← hw4]; exact (Below.refl _ _).alloc (by simp) _
  have T4 := Lib.hid (((T1.out.alloc (.cells tabCells 39)).alloc (.cells #[.int .i64 n, .int .i64 d, .int .i64 b, .int .i64 p] 39)).below B4.out (by omega))
  obtain ⟨q0, q1, q2, q3⟩ := cellsR B4.out
  rw [show (w1.alloc (.cells tabCells 39)).heap.size = w1.heap.size + 1 by simp] at q0 q1 q2 q3
  clear hw4
  have pr := pick_range a1 (86400 * b - 1296 * p) (by omega)
  go_wp2_with fail
  refine (pick_any _ _ _ (by omega) u1.1 u1.2 (by omega)).mono ?_
  rintro e _ ⟨rfl, rfl⟩
  generalize pickV a1 (86400 * b - 1296 * p) = i at *
  go_wp2_with fail
  refine (format_yes R.out _ _ T4.out (by omega) (by omega)).mono ?_
  rintro e w5 ⟨rfl, hb⟩
  have B5 := Lib.hid (accB B4.out hb)
  have T5 := Lib.hid (T4.out.below hb T4.out.pos)
  clear hb q0 q1 q2 q3
  obtain ⟨q0, q1, q2, q3⟩ := cellsR B5.out
  rw [show (w1.alloc (.cells tabCells 39)).heap.size = w1.heap.size + 1 by simp] at q0 q1 q2 q3
  have e1 : i % Pl.day b p = i := Int.emod_eq_of_lt pr.1 pr.2
  rw [e1]
  have nr := Pl.number_range R.out i pr.1 pr.2
  have cl := Pl.close R.out i pr.1 pr.2
  have CL := Lib.hid cl
  clear e1 cl
  have s0 : 0 ≤ Pl.number b p i / b := Int.ediv_nonneg nr.1 (by omega)
  have s1 : Pl.number b p i / b < 86400 := Int.ediv_lt_of_lt_mul (by omega) nr.2
  have f0 : 0 ≤ Pl.number b p i % b := Int.emod_nonneg _ (by omega)
  have f1 : Pl.number b p i % b < b := Int.emod_lt_of_pos _ (by omega)
  unfold codeOf
  generalize Pl.number b p i / b = S at *
  generalize Pl.number b p i % b = f at *
  generalize hz : strOf (codeL (S / 3600) (S / 60 % 60) (S % 60) f p) = z
  obtain ⟨z11, z0, z1, _, z3, z4, _, z6, z7, _, _, _⟩ := code_bytes (by omega) (by omega) (by omega) (by omega) (by omega) (by omega) f0 (by omega) z hz
  clear hz
  have hbt := get_bt z
  have gin : w1.heap.size + 1 < w5.heap.size := by have := inB B5.out; simpa using this
  go_wp2
  refine wp_loop_rounds 4 ?_
  rw [rounds_succ]
  go_wp2
  go_quiet (fail)
  go_wp2
  rw [rounds_succ]
  go_wp2
  go_quiet (fail)
  go_wp2
  rw [rounds_succ]
  go_wp2
  go_quiet (fail)
  go_wp2
  rw [rounds_succ]
  go_wp2_with fail
  refine (seconds_yes R.out _ _ ?_ (by omega) (by omega)).mono ?_
  · exact (T5.out.alloc _)
  rintro e w6 ⟨rfl, hb⟩
  have hb6 : Below w5.heap.size w5 w6 := Below.via (below_drewN ((Below.refl _ _).alloc (Nat.le_refl _) _) _) (by simp) hb
  have B6 := Lib.hid (accB B5.out hb6)
  clear hb hb6 q0 q1 q2 q3
  obtain ⟨q0, q1, q2, q3⟩ := cellsR B6.out
  rw [show (w1.alloc (.cells tabCells 39)).heap.size = w1.heap.size + 1 by simp] at q0 q1 q2 q3
  have fin : Below w.heap.size w w6 := by
    have z1 := B1.out.size
    exact ((B1.out.alloc z1 _).alloc (by simp; omega) _).trans (B6.out.mono (by simp; omega))
  have FN := Lib.hid fin
  clear fin
  have SL := sec_le R.out i pr.1 (by omega)
  by_cases hn : n = 24000
  · have hn' : (n == 24000) = true := by simpa using hn
    clear hn
    generalize i * d / n = y at *
    go_wp2
    go_ret
    exact ⟨rfl, FN.out⟩
  · have hn' : (n == 24000) = false := by simpa using hn
    have cl := CL.out hn
    clear hn
    generalize i * d / n = y at *
    go_wp2
    go_ret
    refine ⟨?_, FN.out⟩
    simp
    omega
theorem contract (H : Type) (enc : TypeId × Value → H) (W : World) (base : Nat) (args : Array Value) (ds gs : List (DataW H)) (before : List MemPlace)
    (hval : ∀ (j : Nat) t v, Tryd.f9.params[j]? = some t → args[j]? = some v → Value.okWide Tryd.prog W .any base t v)
    (hW : DataW.Whole enc Tryd.prog Tryd.f9.params.toList Rows.timecodeCloseSpec.vars false W args.toList ds gs before) (hL : laidMetH Tryd.prog Rows.timecodeCloseRow.laid W) :
    Calls Tryd.prog 9 args W fun e W' => ∃ v, e = .returned v ∧ Rows.timecodeCloseSpec.post enc Tryd.prog Tryd.f9 false true false false W args v W' := by
  have hW' := hW
  obtain ⟨p, q, hA0, hV, rfl, hfz, hnd⟩ := hW
  have hA : DataW.TrodAll enc Tryd.prog W 0 (fun _ => true) true Tryd.f9.params.toList args.toList ds p := hA0
  rw [Tryd.params9] at hA hval
  obtain ⟨v0, vs0, d0, ds0, p0, q0, hargs, rfl, rfl, h0, r0⟩ := trodAll_cons hA
  obtain ⟨v1, vs1, d1, ds1, p1, q1, rfl, rfl, rfl, h1, r1⟩ := trodAll_cons r0
  obtain ⟨rfl, rfl, rfl⟩ := trodAll_nil r1
  obtain rfl : args = #[v0, v1] := by cases args; simp_all
  obtain ⟨rfl, rfl⟩ := trodVars_none hV
  obtain ⟨a0, rfl, rfl, rfl, w0⟩ := open_int Tryd.underlying3 (hval 0 3 v0 rfl rfl) h0
  obtain ⟨a1, rfl, rfl, rfl, w1⟩ := open_int Tryd.underlying3 (hval 1 3 v1 rfl rfl) h1
  clear hA0
  simp only [List.append_nil] at hW'
  refine (walk a0 a1 w0 w1 W (laid_tab hL)).mono fun e W' ⟨he, hg⟩ => ?_
  subst he
  exact ⟨_, rfl, post_alone hW' (fun _ _ _ => trodAll_cons_mk (shut_bool Tryd.underlying4 _) trodAll_mk0) (fun _ => (trodAll_cons_mk (shut_int Tryd.underlying3 w0) (trodAll_cons_mk (shut_int Tryd.underlying3 w1) trodAll_mk0))) (fun _ => rfl) hg (ok_one (by kernel_rfl) rfl (okWide_bool_mk Tryd.underlying4 _))⟩
theorem laid_met (os : Os) : laidMet Tryd.prog Rows.timecodeCloseRow.laid ((laidWorld os).forCall (fun _ _ => 0) ⟨#[], #[.int .i64 0, .int .i64 0], []⟩).memory :=
  laidMet_of_run' 8 (by kernel_rfl) (by kernel_rfl)
theorem reads (os : Os) {H : Type} (enc : TypeId × Value → H) : ∃ places, DataW.whole enc Tryd.prog ((laidWorld os).forCall (fun _ _ => 0) ⟨#[], #[.int .i64 0, .int .i64 0], []⟩).memory Tryd.f9.params.toList Rows.timecodeCloseSpec.vars false (#[.int .i64 0, .int .i64 0] : Array Value).toList 8 = some ([.lit (.int .i64 0), .lit (.int .i64 0)], [], places) :=
  ⟨[], by kernel_rfl⟩
set_option maxRecDepth 100000 in
theorem lifted (os : Os) (started : os.Started) (H : Type) (enc : TypeId × Value → H) (F : Stop.Interp) :
    ReturnsInHanded {} Tryd.checked os 9 .any ((OpenSpec.ofChange Rows.timecodeCloseSpec).preRow enc Tryd.prog Tryd.f9 Rows.timecodeCloseRow.domain false Rows.timecodeCloseRow.laid) (((OpenSpec.ofChange Rows.timecodeCloseSpec).at F).post enc Tryd.prog Tryd.f9 false true false false) := by
  obtain ⟨places, hx⟩ := reads os enc
  refine returnsInHanded_of_row (C := Tryd.checked) (s := OpenSpec.ofChange Rows.timecodeCloseSpec) own started (by kernel_rfl) Tryd.func9
    (witness_row_at (enc := enc) (C := Tryd.checked) false (laidWorld os) #[.int .i64 0, .int .i64 0] rfl (by kernel_rfl) (by kernel_rfl) (by kernel_rfl)
      (OpenSpec.preRow_of_cond 8 hx (by kernel_rfl) (fun k hk => by cases hk) (by kernel_rfl) (laid_met os))) ?_
  intro W base args ds gs before hval hW _ _ _ hL _ _
  exact contract H enc W base args ds gs before hval hW hL
theorem said : Rows.TimecodeCloseSaid :=
  OpenClaim.holds_of_cond 9 Tryd.f9 rfl rfl rfl rfl rfl rfl rfl ⟨rfl, rfl, rfl, rfl, rfl⟩ rfl rfl rfl rfl rfl (by kernel_rfl) Tryd.func9 (by kernel_rfl)
    (of_decide_eq_true (by kernel_rfl)) (by unfold Func.isWrapper; first | (rw [if_pos (by decide +kernel)]; kernel_rfl) | (rw [if_neg (by decide +kernel)]; exact ⟨rfl, rfl⟩))
    (fun os started H enc _ F => by rw [OpenClaim.pre_eq_preRow]; exact lifted os started H enc F)
theorem plain (f : FuncId) (fn : Func) (hf : Tryd.pinned.checked.prog.funcNamed "onair/onairlaw03.TimecodeClose" = some f) (hfn : Tryd.pinned.checked.prog.funcs[f]? = some fn) :
    false = Tryd.pinned.checked.prog.looks [] ∧ ∀ (j : Nat) t, fn.params[j]? = some t → Tryd.pinned.checked.prog.wantsStandIn t = false := by
  obtain rfl : f = 9 := Option.some.inj ((show Tryd.prog.funcNamed "onair/onairlaw03.TimecodeClose" = some 9 by kernel_rfl).symm.trans hf) |>.symm
  obtain rfl : fn = Tryd.f9 := (Option.some.inj (Tryd.func9.symm.trans hfn)).symm
  refine ⟨by kernel_rfl, fun j t ht => ?_⟩
  rw [Tryd.params9] at ht
  have hm : t ∈ [3, 3] := by simpa using Array.mem_of_getElem? ht
  have hall : ([3, 3].all fun u => !Tryd.prog.wantsStandIn u) = true := by kernel_rfl
  exact (show Tryd.prog.wantsStandIn t = false by simpa using List.all_eq_true.1 hall t hm)
theorem card : Rows.TimecodeCloseCardSaid :=
  Claim7.holds_tied_plain_at .later [] _ _ _ _ said (fun _ h => by cases h) (by kernel_rfl) (fun _ h => by cases h) timecodeClose_row_tie rfl ⟨rfl, rfl⟩ (by kernel_rfl) rfl plain (by kernel_rfl)
#print axioms card
end Close
end Go.Proofs.YtfnmjabegajniaaDoor
