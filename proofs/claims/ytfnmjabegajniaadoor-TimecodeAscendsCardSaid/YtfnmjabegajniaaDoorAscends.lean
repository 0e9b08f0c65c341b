/-
  TimecodeAscends: proved is the card of this statement: for every input the law returns true, and each argument reads afterwards as it read before. Conditions: the row's own (the package variable 'rates' starts as the program's text lays it; the card ties it to that text).
-/
import Derived.Test.YtfnmjabegajniaaDoorCommon2
import Derived.Test.YtfnmjabegajniaaDoorRefText
namespace Go.Proofs.YtfnmjabegajniaaDoor
open Go.ChangeShapes Go.WideShapes Go.ChangeAt Go.RowKit
/-- the base world of a law that holds a rate (block g) and a row (block g') -/
theorem cells6 {w2 w3 wk : World} {n d b p : Int} {t t' : TypeId} (B3 : Below (w2.heap.size + 1) (w2.alloc (.cells #[.int .i64 n, .int .i64 d] t)) w3) (hA : Below (w3.heap.size + 1) (w3.alloc (.cells #[.int .i64 n, .int .i64 d, .int .i64 b, .int .i64 p] t')) wk) :
    (wk.cell? ⟨w2.heap.size, 0, none⟩ = some (.int .i64 n) ∧ wk.cell? ⟨w2.heap.size, 1, none⟩ = some (.int .i64 d)) ∧ wk.cell? ⟨w3.heap.size, 0, none⟩ = some (.int .i64 n) ∧ wk.cell? ⟨w3.heap.size, 1, none⟩ = some (.int .i64 d) ∧ wk.cell? ⟨w3.heap.size, 2, none⟩ = some (.int .i64 b) ∧ wk.cell? ⟨w3.heap.size, 3, none⟩ = some (.int .i64 p) := by
  have hlt := inB B3
  obtain ⟨r0, r1⟩ := cellsB B3
  refine ⟨⟨?_, ?_⟩, ?_, ?_, ?_, ?_⟩
  · rw [hA.cell (p := ⟨w2.heap.size, 0, none⟩) (by simp; omega), World.cell?_alloc_lt w3 _ _ hlt]; exact r0
  · rw [hA.cell (p := ⟨w2.heap.size, 1, none⟩) (by simp; omega), World.cell?_alloc_lt w3 _ _ hlt]; exact r1
  · rw [hA.cell (p := ⟨w3.heap.size, 0, none⟩) (by simp)]; simp
  · rw [hA.cell (p := ⟨w3.heap.size, 1, none⟩) (by simp)]; simp
  · rw [hA.cell (p := ⟨w3.heap.size, 2, none⟩) (by simp)]; simp
  · rw [hA.cell (p := ⟨w3.heap.size, 3, none⟩) (by simp)]; simp
theorem mod_day {a D : Int} (h0 : 0 ≤ a) (h1 : a < D) : a % D = a := Int.emod_eq_of_lt h0 h1
namespace Ascends
set_option maxRecDepth 100000 in
set_option maxHeartbeats 2000000 in
theorem walk (a0 a1 a2 : Int) (w0 : (Lit.int .i64 a0).wf = true) (w1 : (Lit.int .i64 a1).wf = true) (w2 : (Lit.int .i64 a2).wf = true) (w : World) (ht : Tab w) :
    Calls Tryd.prog 6 #[.int .i64 a0, .int .i64 a1, .int .i64 a2] w fun e w' => e = .returned (.bool true) ∧ Below w.heap.size w w' := by
  have u0 := bounds_i64 w0
  have u1 := bounds_i64 w1
  have u2 := bounds_i64 w2
  have pm := pick_range a2 5000 (by omega)
  have T := Lib.hid ht
  clear ht w0 w1 w2
  go_enter Tryd.func6, Tryd.ntmps6
  go_wp2_with fail
  refine (sane_any _ T.out).mono ?_
  rintro e w1 ⟨rfl, hb⟩
  have B1 := Lib.hid hb
  have T1 := Lib.hid (T.out.below hb T.out.pos)
  clear hb
  go_wp2_with fail
  refine (rate_some _ _ u0.1 u0.2).mono ?_
  rintro e w2 ⟨⟨n, d, b, p, hr, rfl⟩, hb⟩
  have R := Lib.hid hr
  have B2 := Lib.hid (keepB B1.out (Nat.le_refl _) hb)
  have T2 := Lib.hid (T1.out.below hb T1.out.pos)
  obtain ⟨b1, b2, b3, b4, b5, b6, b7, b8⟩ := Row.bounds hr
  clear hb hr
  go_wp2_with fail
  refine (rfind_yes R.out _).mono ?_
  rintro e w3 ⟨rfl, hb⟩
  have B3 := Lib.hid (accB (Below.refl (w2.heap.size + 1) (w2.alloc (.cells #[.int .i64 n, .int .i64 d] 23))) hb)
  have T3 := Lib.hid ((T2.out.alloc _).below B3.out (by omega))
  have T4 := Lib.hid (T3.out.alloc (.cells #[.int .i64 n, .int .i64 d, .int .i64 b, .int .i64 p] 39))
  have gin := inB B3.out
  obtain ⟨r0, r1⟩ := cellsB B3.out
  clear hb
  go_wp2_with fail
  refine (rday_any _ _ _ _ _ (by omega) (by omega) (by omega) (by omega)).mono ?_
  rintro e w4 ⟨rfl, hw4⟩
  have B4 : Hid (Below (w3.heap.size + 1) (w3.alloc (.cells #[.int .i64 n, .int .i64 d, .int .i64 b, .int .i64 p] 39)) w4) := by
    rw [← hw4]; exact (Below.refl _ _).alloc (by simp) _
  clear hw4 r0 r1
  obtain ⟨⟨q0, q1⟩, _, _, _, _⟩ := cells6 B3.out B4.out
  have pr := pick_range a1 (86400 * b - 1296 * p) (by omega)
  go_wp2_with fail
  refine (pick_any _ _ _ (by omega) u1.1 u1.2 (by omega)).mono ?_
  rintro e _ ⟨rfl, rfl⟩
  generalize pickV a1 (86400 * b - 1296 * p) = a at *
  go_wp2_with fail
  refine (pick_any _ _ _ (by omega) u2.1 u2.2 (by omega)).mono ?_
  rintro e _ ⟨rfl, rfl⟩
  generalize pickV a2 5000 = m at *
  go_wp2_with fail
  refine (format_yes R.out _ _ (T4.out.below B4.out (by omega)) (by omega) (by omega)).mono ?_
  rintro e w5 ⟨rfl, hb⟩
  have B5 := Lib.hid (accB B4.out hb)
  clear hb q0 q1
  obtain ⟨⟨q0, q1⟩, _, _, _, _⟩ := cells6 B3.out B5.out
  go_wp2_with fail
  refine (format_yes R.out _ _ (T4.out.below B5.out (by omega)) (by omega) (by omega)).mono ?_
  rintro e w6 ⟨rfl, hb⟩
  have B6 := Lib.hid (accB B5.out hb)
  clear hb q0 q1
  obtain ⟨⟨q0, q1⟩, _, _, _, _⟩ := cells6 B3.out B6.out
  go_wp2_with fail
  refine (format_yes R.out _ _ (T4.out.below B6.out (by omega)) (by omega) (by omega)).mono ?_
  rintro e w7 ⟨rfl, hb⟩
  have B7 := Lib.hid (accB B6.out hb)
  clear hb q0 q1
  have e1 : a % Pl.day b p = a := mod_day pr.1 pr.2
  have e2 : (a + (86400 * b - 1296 * p)) % Pl.day b p = a := by
    rw [show 86400 * b - 1296 * p = Pl.day b p from rfl, Int.add_emod_right, e1]
  rw [e1, e2]
  clear e1 e2
  have fin : Below w.heap.size w w7 := by
    have z2 := B2.out.size
    exact ((B2.out.alloc B2.out.size _).trans (B3.out.mono (by omega))).trans ((((Below.refl w.heap.size w3).alloc (by omega) _)).trans (B7.out.mono (by omega)))
  have FN := Lib.hid fin
  clear fin
  by_cases hd : a + m < 86400 * b - 1296 * p
  · have e3 : (a + m) % Pl.day b p = a + m := mod_day (by omega) hd
    rw [e3]
    clear e3
    by_cases hm : 0 < m
    · have hl := code_less (p := p) (by omega) b6 (Pl.number_range R.out a pr.1 pr.2).1 (Pl.number_lt R.out a (a + m) (by omega)) (Pl.number_range R.out (a + m) (by omega) hd).2
      generalize codeOf b p (Pl.number b p a) = s1 at *
      generalize codeOf b p (Pl.number b p (a + m)) = s2 at *
      have hdec : decide (a < a + m) = true := by simp; omega
      have hss : (s1.toList == s1.toList) = true := by simp
      go_wp2
      go_ret
      exact ⟨rfl, FN.out⟩
    · obtain rfl : m = 0 := by omega
      rw [Int.add_zero]
      have hl := less_irrefl (codeOf b p (Pl.number b p a)).toList
      generalize codeOf b p (Pl.number b p a) = s1 at *
      have hss : (s1.toList == s1.toList) = true := by simp
      go_wp2
      go_ret
      exact ⟨rfl, FN.out⟩
  · generalize codeOf b p (Pl.number b p a) = s1 at *
    generalize codeOf b p (Pl.number b p ((a + m) % Pl.day b p)) = s2 at *
    have hss : (s1.toList == s1.toList) = true := by simp
    go_wp2
    go_ret
    exact ⟨rfl, FN.out⟩
theorem contract (H : Type) (enc : TypeId × Value → H) (W : World) (base : Nat) (args : Array Value) (ds gs : List (DataW H)) (before : List MemPlace)
    (hval : ∀ (j : Nat) t v, Tryd.f6.params[j]? = some t → args[j]? = some v → Value.okWide Tryd.prog W .any base t v)
    (hW : DataW.Whole enc Tryd.prog Tryd.f6.params.toList Rows.timecodeAscendsSpec.vars false W args.toList ds gs before) (hL : laidMetH Tryd.prog Rows.timecodeAscendsRow.laid W) :
    Calls Tryd.prog 6 args W fun e W' => ∃ v, e = .returned v ∧ Rows.timecodeAscendsSpec.post enc Tryd.prog Tryd.f6 false true false false W args v W' := by
  have hW' := hW
  obtain ⟨p, q, hA0, hV, rfl, hfz, hnd⟩ := hW
  have hA : DataW.TrodAll enc Tryd.prog W 0 (fun _ => true) true Tryd.f6.params.toList args.toList ds p := hA0
  rw [Tryd.params6] at hA hval
  obtain ⟨v0, vs0, d0, ds0, p0, q0, hargs, rfl, rfl, h0, r0⟩ := trodAll_cons hA
  obtain ⟨v1, vs1, d1, ds1, p1, q1, rfl, rfl, rfl, h1, r1⟩ := trodAll_cons r0
  obtain ⟨v2, vs2, d2, ds2, p2, q2, rfl, rfl, rfl, h2, r2⟩ := trodAll_cons r1
  obtain ⟨rfl, rfl, rfl⟩ := trodAll_nil r2
  obtain rfl : args = #[v0, v1, v2] := by cases args; simp_all
  obtain ⟨rfl, rfl⟩ := trodVars_none hV
  obtain ⟨a0, rfl, rfl, rfl, w0⟩ := open_int Tryd.underlying3 (hval 0 3 v0 rfl rfl) h0
  obtain ⟨a1, rfl, rfl, rfl, w1⟩ := open_int Tryd.underlying3 (hval 1 3 v1 rfl rfl) h1
  obtain ⟨a2, rfl, rfl, rfl, w2⟩ := open_int Tryd.underlying3 (hval 2 3 v2 rfl rfl) h2
  clear hA0
  simp only [List.append_nil] at hW'
  refine (walk a0 a1 a2 w0 w1 w2 W (laid_tab hL)).mono fun e W' ⟨he, hg⟩ => ?_
  subst he
  exact ⟨_, rfl, post_alone hW' (fun _ _ _ => trodAll_cons_mk (shut_bool Tryd.underlying4 _) trodAll_mk0) (fun _ => (trodAll_cons_mk (shut_int Tryd.underlying3 w0) (trodAll_cons_mk (shut_int Tryd.underlying3 w1) (trodAll_cons_mk (shut_int Tryd.underlying3 w2) trodAll_mk0)))) (fun _ => rfl) hg (ok_one (by kernel_rfl) rfl (okWide_bool_mk Tryd.underlying4 _))⟩
theorem laid_met (os : Os) : laidMet Tryd.prog Rows.timecodeAscendsRow.laid ((laidWorld os).forCall (fun _ _ => 0) ⟨#[], #[.int .i64 0, .int .i64 0, .int .i64 0], []⟩).memory :=
  laidMet_of_run' 8 (by kernel_rfl) (by kernel_rfl)
theorem reads (os : Os) {H : Type} (enc : TypeId × Value → H) : ∃ places, DataW.whole enc Tryd.prog ((laidWorld os).forCall (fun _ _ => 0) ⟨#[], #[.int .i64 0, .int .i64 0, .int .i64 0], []⟩).memory Tryd.f6.params.toList Rows.timecodeAscendsSpec.vars false (#[.int .i64 0, .int .i64 0, .int .i64 0] : Array Value).toList 8 = some ([.lit (.int .i64 0), .lit (.int .i64 0), .lit (.int .i64 0)], [], places) :=
  ⟨[], by kernel_rfl⟩
set_option maxRecDepth 100000 in
theorem lifted (os : Os) (started : os.Started) (H : Type) (enc : TypeId × Value → H) (F : Stop.Interp) :
    ReturnsInHanded {} Tryd.checked os 6 .any ((OpenSpec.ofChange Rows.timecodeAscendsSpec).preRow enc Tryd.prog Tryd.f6 Rows.timecodeAscendsRow.domain false Rows.timecodeAscendsRow.laid) (((OpenSpec.ofChange Rows.timecodeAscendsSpec).at F).post enc Tryd.prog Tryd.f6 false true false false) := by
  obtain ⟨places, hx⟩ := reads os enc
  refine returnsInHanded_of_row (C := Tryd.checked) (s := OpenSpec.ofChange Rows.timecodeAscendsSpec) own started (by kernel_rfl) Tryd.func6
    (witness_row_at (enc := enc) (C := Tryd.checked) false (laidWorld os) #[.int .i64 0, .int .i64 0, .int .i64 0] rfl (by kernel_rfl) (by kernel_rfl) (by kernel_rfl)
      (OpenSpec.preRow_of_cond 8 hx (by kernel_rfl) (fun k hk => by cases hk) (by kernel_rfl) (laid_met os))) ?_
  intro W base args ds gs before hval hW _ _ _ hL _ _
  exact contract H enc W base args ds gs before hval hW hL
theorem said : Rows.TimecodeAscendsSaid :=
  OpenClaim.holds_of_cond 6 Tryd.f6 rfl rfl rfl rfl rfl rfl rfl ⟨rfl, rfl, rfl, rfl, rfl⟩ rfl rfl rfl rfl rfl (by kernel_rfl) Tryd.func6 (by kernel_rfl)
    (of_decide_eq_true (by kernel_rfl)) (by unfold Func.isWrapper; first | (rw [if_pos (by decide +kernel)]; kernel_rfl) | (rw [if_neg (by decide +kernel)]; exact ⟨rfl, rfl⟩))
    (fun os started H enc _ F => by rw [OpenClaim.pre_eq_preRow]; exact lifted os started H enc F)
theorem plain (f : FuncId) (fn : Func) (hf : Tryd.pinned.checked.prog.funcNamed "onair/onairlaw03.TimecodeAscends" = some f) (hfn : Tryd.pinned.checked.prog.funcs[f]? = some fn) :
    false = Tryd.pinned.checked.prog.looks [] ∧ ∀ (j : Nat) t, fn.params[j]? = some t → Tryd.pinned.checked.prog.wantsStandIn t = false := by
  obtain rfl : f = 6 := Option.some.inj ((show Tryd.prog.funcNamed "onair/onairlaw03.TimecodeAscends" = some 6 by kernel_rfl).symm.trans hf) |>.symm
  obtain rfl : fn = Tryd.f6 := (Option.some.inj (Tryd.func6.symm.trans hfn)).symm
  refine ⟨by kernel_rfl, fun j t ht => ?_⟩
  rw [Tryd.params6] at ht
  have hm : t ∈ [3, 3, 3] := by simpa using Array.mem_of_getElem? ht
  have hall : ([3, 3, 3].all fun u => !Tryd.prog.wantsStandIn u) = true := by kernel_rfl
  exact (show Tryd.prog.wantsStandIn t = false by simpa using List.all_eq_true.1 hall t hm)
theorem card : Rows.TimecodeAscendsCardSaid :=
  Claim7.holds_tied_plain_at .later [] _ _ _ _ said (fun _ h => by cases h) (by kernel_rfl) (fun _ h => by cases h) timecodeAscends_row_tie rfl ⟨rfl, rfl⟩ (by kernel_rfl) rfl plain (by kernel_rfl)
#print axioms card
end Ascends
end Go.Proofs.YtfnmjabegajniaaDoor
