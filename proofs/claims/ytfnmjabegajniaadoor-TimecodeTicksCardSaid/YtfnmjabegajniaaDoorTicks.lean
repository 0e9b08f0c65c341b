/-
  TimecodeTicks: proved is the card of this statement: for every input the law returns true, and each argument reads afterwards as it read before. Conditions: the row's own (the package variable 'rates' starts as the program's text lays it; the card ties it to that text).
-/
import Derived.Test.YtfnmjabegajniaaDoorCommon
namespace Go.Proofs.YtfnmjabegajniaaDoor
open Go.ChangeShapes Go.WideShapes Go.ChangeAt Go.RowKit
theorem tick_cases {n d b p : Int} (h : Pl.Row n d b p) (i x y : Int) (hx : i * 90000 * d / n % 8589934592 = x) (hy : (i + 1) * 90000 * d / n % 8589934592 = y) :
    (0 ≤ y - x ∧ (y - x == 90000 * d / n) = true) ∨ (0 ≤ y - x ∧ (y - x == 90000 * d / n) = false ∧ (y - x == 90000 * d / n + 1) = true ∧ (90000 * d % n != 0) = true) ∨
    (y - x < 0 ∧ (y - x + 8589934592 == 90000 * d / n) = true) ∨ (y - x < 0 ∧ (y - x + 8589934592 == 90000 * d / n) = false ∧ (y - x + 8589934592 == 90000 * d / n + 1) = true ∧ (90000 * d % n != 0) = true) := by
  have hl := Pl.low_range h
  rcases Pl.ticks_step h i with hs | ⟨hs, hr⟩
  · rcases Pl.mod_step _ _ _ hs hl.1 (by omega) with hm | ⟨hm, hm'⟩
    · rw [hx, hy] at hm
      exact .inl ⟨by omega, by simpa using hm⟩
    · rw [hx, hy] at hm hm'
      exact .inr (.inr (.inl ⟨hm, by simpa using hm'⟩))
  · rw [Int.add_assoc] at hs
    have hr' : (90000 * d % n != 0) = true := by simpa using hr
    rcases Pl.mod_step _ _ _ hs (by omega) (by omega) with hm | ⟨hm, hm'⟩
    · rw [hx, hy] at hm
      exact .inr (.inl ⟨by omega, by simp; omega, by simpa using hm, hr'⟩)
    · rw [hx, hy] at hm hm'
      exact .inr (.inr (.inr ⟨hm, by simp; omega, by simpa using hm', hr'⟩))
namespace Ticks
set_option maxRecDepth 100000 in
set_option maxHeartbeats 2000000 in
theorem walk (a0 a1 : Int) (w0 : (Lit.int .i64 a0).wf = true) (w1 : (Lit.int .i64 a1).wf = true) (w : World) (ht : Tab w) :
    Calls Tryd.prog 11 #[.int .i64 a0, .int .i64 a1] w fun e w' => e = .returned (.bool true) ∧ Below w.heap.size w w' := by
  have u0 := bounds_i64 w0
  have u1 := bounds_i64 w1
  have pr := pick_range a1 100000000 (by omega)
  have T := Lib.hid ht
  clear ht w0 w1
  go_enter Tryd.func11, Tryd.ntmps11
  go_wp2_with fail
  refine (sane_any _ T.out).mono ?_
  rintro e w1 ⟨rfl, hb⟩
  have B1 := Lib.hid hb
  have T1 := Lib.hid (T.out.below hb T.out.pos)
  clear hb
  go_wp2_with fail
  refine (rate_some _ _ u0.1 u0.2).mono ?_
  rintro e w2 ⟨⟨n, d, b, p, hr, rfl⟩, hb⟩
  have R := Lib.hid hr
  have B2 := Lib.hid (keepB B1.out (Nat.le_refl _) hb)
  have T2 := Lib.hid (T1.out.below hb T1.out.pos)
  obtain ⟨b1, b2, b3, b4, _⟩ := Row.bounds hr
  obtain ⟨l1, l2⟩ := Pl.low_range hr
  clear hb hr
  go_wp2_with fail
  refine (pick_any _ _ _ (by omega) u1.1 u1.2 (by omega)).mono ?_
  rintro e _ ⟨rfl, rfl⟩
  generalize pickV a1 100000000 = i at *
  go_wp2_with fail
  refine (ticks_yes R.out _ _ (T2.out.alloc _) (by omega) (by omega)).mono ?_
  rintro e w3 ⟨rfl, hb⟩
  have B3 := Lib.hid (keepB (Below.refl (w2.heap.size + 1) (w2.alloc (.cells #[.int .i64 n, .int .i64 d] 23))) (by simp) hb)
  have T3 := Lib.hid ((T2.out.alloc _).below B3.out (by omega))
  obtain ⟨c0, c1⟩ := cellsB B3.out
  clear hb
  go_wp2_with fail
  refine (ticks_yes R.out _ _ T3.out (by omega) (by omega)).mono ?_
  rintro e w4 ⟨rfl, hb⟩
  have B4 := Lib.hid (keepB B3.out (by simp) hb)
  have T4 := Lib.hid ((T2.out.alloc _).below B4.out (by omega))
  obtain ⟨d0, d1⟩ := cellsB B4.out
  clear hb c0 c1
  generalize hx : i * 90000 * d / n % 8589934592 = x
  generalize hy : (i + 1) * 90000 * d / n % 8589934592 = y
  have x0 : 0 ≤ x ∧ x < 8589934592 := by omega
  have y0 : 0 ≤ y ∧ y < 8589934592 := by omega
  have hc := tick_cases R.out i x y hx hy
  clear hx hy
  have fin : Below w.heap.size w w2 := B2.out
  rcases hc with ⟨h1, h2⟩ | ⟨h1, h2, h3, h4⟩ | ⟨h1, h2⟩ | ⟨h1, h2, h3, h4⟩
  all_goals
    go_wp2_with fail
    refine (ticks_yes R.out _ _ T4.out (by omega) (by omega)).mono ?_
    rintro e w5 ⟨rfl, hb⟩
    have B5 := Lib.hid (keepB B4.out (by simp) hb)
    clear hb
    go_wp2
    go_ret
    refine ⟨rfl, ?_⟩
    exact (B2.out.alloc B2.out.size _).trans (B5.out.mono (by have := B2.out.size; omega))
theorem contract (H : Type) (enc : TypeId × Value → H) (W : World) (base : Nat) (args : Array Value) (ds gs : List (DataW H)) (before : List MemPlace)
    (hval : ∀ (j : Nat) t v, Tryd.f11.params[j]? = some t → args[j]? = some v → Value.okWide Tryd.prog W .any base t v)
    (hW : DataW.Whole enc Tryd.prog Tryd.f11.params.toList Rows.timecodeTicksSpec.vars false W args.toList ds gs before) (hL : laidMetH Tryd.prog Rows.timecodeTicksRow.laid W) :
    Calls Tryd.prog 11 args W fun e W' => ∃ v, e = .returned v ∧ Rows.timecodeTicksSpec.post enc Tryd.prog Tryd.f11 false true false false W args v W' := by
  have hW' := hW
  obtain ⟨p, q, hA0, hV, rfl, hfz, hnd⟩ := hW
  have hA : DataW.TrodAll enc Tryd.prog W 0 (fun _ => true) true Tryd.f11.params.toList args.toList ds p := hA0
  rw [Tryd.params11] at hA hval
  obtain ⟨v0, vs0, d0, ds0, p0, q0, hargs, rfl, rfl, h0, r0⟩ := trodAll_cons hA
  obtain ⟨v1, vs1, d1, ds1, p1, q1, rfl, rfl, rfl, h1, r1⟩ := trodAll_cons r0
  obtain ⟨rfl, rfl, rfl⟩ := trodAll_nil r1
  obtain rfl : args = #[v0, v1] := by cases args; simp_all
  obtain ⟨rfl, rfl⟩ := trodVars_none hV
  obtain ⟨a0, rfl, rfl, rfl, w0⟩ := open_int Tryd.underlying3 (hval 0 3 v0 rfl rfl) h0
  obtain ⟨a1, rfl, rfl, rfl, w1⟩ := open_int Tryd.underlying3 (hval 1 3 v1 rfl rfl) h1
  clear hA0
  simp only [List.append_nil] at hW'
  refine (walk a0 a1 w0 w1 W (laid_tab hL)).mono fun e W' ⟨he, hg⟩ => ?_
  subst he
  exact ⟨_, rfl, post_alone hW' (fun _ _ _ => trodAll_cons_mk (shut_bool Tryd.underlying4 _) trodAll_mk0) (fun _ => (trodAll_cons_mk (shut_int Tryd.underlying3 w0) (trodAll_cons_mk (shut_int Tryd.underlying3 w1) trodAll_mk0))) (fun _ => rfl) hg (ok_one (by kernel_rfl) rfl (okWide_bool_mk Tryd.underlying4 _))⟩
theorem laid_met (os : Os) : laidMet Tryd.prog Rows.timecodeTicksRow.laid ((laidWorld os).forCall (fun _ _ => 0) ⟨#[], #[.int .i64 0, .int .i64 0], []⟩).memory :=
  laidMet_of_run' 8 (by kernel_rfl) (by kernel_rfl)
theorem reads (os : Os) {H : Type} (enc : TypeId × Value → H) : ∃ places, DataW.whole enc Tryd.prog ((laidWorld os).forCall (fun _ _ => 0) ⟨#[], #[.int .i64 0, .int .i64 0], []⟩).memory Tryd.f11.params.toList Rows.timecodeTicksSpec.vars false (#[.int .i64 0, .int .i64 0] : Array Value).toList 8 = some ([.lit (.int .i64 0), .lit (.int .i64 0)], [], places) :=
  ⟨[], by kernel_rfl⟩
set_option maxRecDepth 100000 in
theorem lifted (os : Os) (started : os.Started) (H : Type) (enc : TypeId × Value → H) (F : Stop.Interp) :
    ReturnsInHanded {} Tryd.checked os 11 .any ((OpenSpec.ofChange Rows.timecodeTicksSpec).preRow enc Tryd.prog Tryd.f11 Rows.timecodeTicksRow.domain false Rows.timecodeTicksRow.laid) (((OpenSpec.ofChange Rows.timecodeTicksSpec).at F).post enc Tryd.prog Tryd.f11 false true false false) := by
  obtain ⟨places, hx⟩ := reads os enc
  refine returnsInHanded_of_row (C := Tryd.checked) (s := OpenSpec.ofChange Rows.timecodeTicksSpec) own started (by kernel_rfl) Tryd.func11
    (witness_row_at (enc := enc) (C := Tryd.checked) false (laidWorld os) #[.int .i64 0, .int .i64 0] rfl (by kernel_rfl) (by kernel_rfl) (by kernel_rfl)
      (OpenSpec.preRow_of_cond 8 hx (by kernel_rfl) (fun k hk => by cases hk) (by kernel_rfl) (laid_met os))) ?_
  intro W base args ds gs before hval hW _ _ _ hL _ _
  exact contract H enc W base args ds gs before hval hW hL
theorem said : Rows.TimecodeTicksSaid :=
  OpenClaim.holds_of_cond 11 Tryd.f11 rfl rfl rfl rfl rfl rfl rfl ⟨rfl, rfl, rfl, rfl, rfl⟩ rfl rfl rfl rfl rfl (by kernel_rfl) Tryd.func11 (by kernel_rfl)
    (of_decide_eq_true (by kernel_rfl)) (by unfold Func.isWrapper; first | (rw [if_pos (by decide +kernel)]; kernel_rfl) | (rw [if_neg (by decide +kernel)]; exact ⟨rfl, rfl⟩))
    (fun os started H enc _ F => by rw [OpenClaim.pre_eq_preRow]; exact lifted os started H enc F)
theorem plain (f : FuncId) (fn : Func) (hf : Tryd.pinned.checked.prog.funcNamed "onair/onairlaw03.TimecodeTicks" = some f) (hfn : Tryd.pinned.checked.prog.funcs[f]? = some fn) :
    false = Tryd.pinned.checked.prog.looks [] ∧ ∀ (j : Nat) t, fn.params[j]? = some t → Tryd.pinned.checked.prog.wantsStandIn t = false := by
  obtain rfl : f = 11 := Option.some.inj ((show Tryd.prog.funcNamed "onair/onairlaw03.TimecodeTicks" = some 11 by kernel_rfl).symm.trans hf) |>.symm
  obtain rfl : fn = Tryd.f11 := (Option.some.inj (Tryd.func11.symm.trans hfn)).symm
  refine ⟨by kernel_rfl, fun j t ht => ?_⟩
  rw [Tryd.params11] at ht
  have hm : t ∈ [3, 3] := by simpa using Array.mem_of_getElem? ht
  have hall : ([3, 3].all fun u => !Tryd.prog.wantsStandIn u) = true := by kernel_rfl
  exact (show Tryd.prog.wantsStandIn t = false by simpa using List.all_eq_true.1 hall t hm)
theorem card : Rows.TimecodeTicksCardSaid :=
  Claim7.holds_tied_plain_at .later [] _ _ _ _ said (fun _ h => by cases h) (by kernel_rfl) (fun _ h => by cases h) timecodeTicks_row_tie rfl ⟨rfl, rfl⟩ (by kernel_rfl) rfl plain (by kernel_rfl)
#print axioms card
end Ticks
end Go.Proofs.YtfnmjabegajniaaDoor
