/-
  TimecodeRoundTrip: proved is the card of this statement: for every input the law returns true, and each argument reads afterwards as it read before. Conditions: the row's own (the package variable 'rates' starts as the program's text lays it; the card ties it to that text).
-/
import Derived.Test.YtfnmjabegajniaaDoorRound
namespace Go.Proofs.YtfnmjabegajniaaDoor
open Go.ChangeShapes Go.WideShapes Go.ChangeAt Go.RowKit
open Go.ChangeMaps (open_string shut_string)
theorem cells6 {w2 w3 wk : World} {n d b p : Int} {t t' : TypeId} (B3 : Below (w2.heap.size + 1) (w2.alloc (.cells #[.int .i64 n, .int .i64 d] t)) w3) (hA : Below (w3.heap.size + 1) (w3.alloc (.cells #[.int .i64 n, .int .i64 d, .int .i64 b, .int .i64 p] t')) wk) :
    (wk.cell? ⟨w2.heap.size, 0, none⟩ = some (.int .i64 n) ∧ wk.cell? ⟨w2.heap.size, 1, none⟩ = some (.int .i64 d)) ∧ wk.cell? ⟨w3.heap.size, 0, none⟩ = some (.int .i64 n) ∧ wk.cell? ⟨w3.heap.size, 1, none⟩ = some (.int .i64 d) ∧ wk.cell? ⟨w3.heap.size, 2, none⟩ = some (.int .i64 b) ∧ wk.cell? ⟨w3.heap.size, 3, none⟩ = some (.int .i64 p) := by
  have hlt := inB B3
  obtain ⟨r0, r1⟩ := cellsB B3
  refine ⟨⟨?_, ?_⟩, cellsR hA⟩
  · rw [hA.cell (p := ⟨w2.heap.size, 0, none⟩) (by simp; omega), World.cell?_alloc_lt w3 _ _ hlt]; exact r0
  · rw [hA.cell (p := ⟨w2.heap.size, 1, none⟩) (by simp; omega), World.cell?_alloc_lt w3 _ _ hlt]; exact r1
namespace RoundTrip
set_option maxRecDepth 100000 in
set_option maxHeartbeats 2000000 in
theorem walk (a0 a1 : Int) (a2 : ByteArray) (w0 : (Lit.int .i64 a0).wf = true) (w1 : (Lit.int .i64 a1).wf = true) (w2 : a2.size ≤ maxLen) (w : World) (ht : Tab w) :
    Calls Tryd.prog 5 #[.int .i64 a0, .int .i64 a1, .string a2] w fun e w' => e = .returned (.bool true) ∧ Below w.heap.size w w' := by
  have u0 := bounds_i64 w0
  have u1 := bounds_i64 w1
  have u2 := w2
  unfold maxLen at u2
  have pi := pick_range a1 100000001 (by omega)
  have T := Lib.hid ht
  clear ht w0 w1 w2
  go_enter Tryd.func5, Tryd.ntmps5
  go_wp2_with fail
  refine (sane_any _ T.out).mono ?_
  rintro e w1 ⟨rfl, hb⟩
  have B1 := Lib.hid hb
  have T1 := Lib.hid (T.out.below hb T.out.pos)
  clear hb
  go_wp2_with fail
  refine (rate_some _ _ u0.1 u0.2).mono ?_
  rintro e w2 ⟨⟨n, d, b, p, hr, rfl⟩, hb⟩
  have R := Lib.hid hr
  have B2 := Lib.hid (keepB B1.out (Nat.le_refl _) hb)
  have T2 := Lib.hid (T1.out.below hb T1.out.pos)
  obtain ⟨b1, b2, b3, b4, b5, b6, b7, b8⟩ := Row.bounds hr
  clear hb hr
  go_wp2_with fail
  refine (pick_any _ _ _ (by omega) u1.1 u1.2 (by omega)).mono ?_
  rintro e _ ⟨rfl, rfl⟩
  generalize pickV a1 100000001 = i at *
  go_wp2_with fail
  refine (rfind_yes R.out _).mono ?_
  rintro e w3 ⟨rfl, hb⟩
  have B3 := Lib.hid (accB (Below.refl (w2.heap.size + 1) (w2.alloc (.cells #[.int .i64 n, .int .i64 d] 23))) hb)
  have T3 := Lib.hid ((T2.out.alloc _).below B3.out (by omega))
  have T4 := Lib.hid (T3.out.alloc (.cells #[.int .i64 n, .int .i64 d, .int .i64 b, .int .i64 p] 39))
  have gin := inB B3.out
  obtain ⟨r0, r1⟩ := cellsB B3.out
  clear hb
  go_wp2_with fail
  refine (format_yes R.out _ _ T4.out (by omega) (by omega)).mono ?_
  rintro e w5 ⟨rfl, hb⟩
  have B5 := Lib.hid (accB (Below.refl (w3.heap.size + 1) (w3.alloc (.cells #[.int .i64 n, .int .i64 d, .int .i64 b, .int .i64 p] 39))) hb)
  clear hb r0 r1
  obtain ⟨⟨q0, q1⟩, q2, q3, q4, q5⟩ := cells6 B3.out B5.out
  have id0 : 0 ≤ i % Pl.day b p := Int.emod_nonneg _ (by unfold Pl.day; omega)
  have id1 : i % Pl.day b p < Pl.day b p := Int.emod_lt_of_pos _ (by unfold Pl.day; omega)
  obtain ⟨gd, gv⟩ := good_number R.out _ id0 id1
  have GD := Lib.hid gd
  have GV := Lib.hid gv
  clear gd gv
  go_wp2_with fail
  refine (parse_yes R.out _ _ (T4.out.below B5.out (by omega)) GD.out).mono ?_
  rintro e w6 ⟨rfl, hb⟩
  rw [GV.out]
  have B6 := Lib.hid (accB B5.out hb)
  clear hb q0 q1 q2 q3 q4 q5 GD GV
  obtain ⟨⟨q0, q1⟩, q2, q3, q4, q5⟩ := cells6 B3.out B6.out
  go_wp2_with fail
  refine (rday_any _ _ _ _ _ (by omega) (by omega) (by omega) (by omega)).mono ?_
  rintro e w7 ⟨rfl, hw7⟩
  have B7 : Hid (Below (w3.heap.size + 1) (w3.alloc (.cells #[.int .i64 n, .int .i64 d, .int .i64 b, .int .i64 p] 39)) w7) := by
    rw [← hw7]; exact B6.out.alloc (by have := B6.out.size; simpa using this) _
  clear hw7 q0 q1 q2 q3 q4 q5
  obtain ⟨⟨q0, q1⟩, q2, q3, q4, q5⟩ := cells6 B3.out B7.out
  rw [show (86400 * b - 1296 * p) = Pl.day b p from rfl]
  have hdp : 1 ≤ Pl.day b p := by unfold Pl.day; omega
  generalize Pl.day b p = D at *
  generalize codeOf b p (Pl.number b p (i % D)) = s1 at *
  have hii : (i % D != i % D) = false := by simp
  go_wp2_with fail
  · generalize a2.extract 0 40 = z at *
    refine (parse_any R.out _ _ (T4.out.below B7.out (by omega))).mono ?_
    rintro e w8 ⟨hp, hb⟩
    have B8 := Lib.hid (accB B7.out hb)
    clear hb q0 q1 q2 q3 q4 q5
    obtain ⟨⟨q0, q1⟩, q2, q3, q4, q5⟩ := cells6 B3.out B8.out
    rcases hp with ⟨hg, rfl⟩ | ⟨hg, rfl⟩
    · obtain ⟨k0, k1, k2⟩ := good_back R.out hg
      have hD : Pl.day b p ≤ 5184000 := by unfold Pl.day; omega
      have hk : Pl.frameAt b p (60 * pt z 0 + pt z 3) (pt z 6) (pt z 9) % Pl.day b p = Pl.frameAt b p (60 * pt z 0 + pt z 3) (pt z 6) (pt z 9) := Int.emod_eq_of_lt k0 k1
      have K2 := Lib.hid k2
      have HKM := Lib.hid hk
      clear k2 hk hg
      generalize Pl.frameAt b p (60 * pt z 0 + pt z 3) (pt z 6) (pt z 9) = F at *
      go_wp2_with fail
      refine (format_yes R.out _ _ (T4.out.below B8.out (by omega)) (by omega) (by omega)).mono ?_
      rintro e w9 ⟨rfl, hb⟩
      have B9 := Lib.hid (accB B8.out hb)
      rw [HKM.out, K2.out]
      have hzz : (z.toList == z.toList) = true := by simp
      go_wp2
      go_ret
      refine ⟨rfl, ?_⟩
      have z2 := B2.out.size
      exact ((B2.out.alloc B2.out.size _).trans (B3.out.mono (by omega))).trans ((((Below.refl w.heap.size w3).alloc (by omega) _)).trans (B9.out.mono (by omega)))
    · clear hg
      go_wp2_with fail
      refine (format_yes R.out _ _ (T4.out.below B8.out (by omega)) (by omega) (by omega)).mono ?_
      rintro e w9 ⟨rfl, hb⟩
      have B9 := Lib.hid (accB B8.out hb)
      generalize codeOf b p (Pl.number b p (0 % Pl.day b p)) = s9
      go_wp2
      go_ret
      refine ⟨rfl, ?_⟩
      have z2 := B2.out.size
      exact ((B2.out.alloc B2.out.size _).trans (B3.out.mono (by omega))).trans ((((Below.refl w.heap.size w3).alloc (by omega) _)).trans (B9.out.mono (by omega)))
  · generalize a2 = z at *
    refine (parse_any R.out _ _ (T4.out.below B7.out (by omega))).mono ?_
    rintro e w8 ⟨hp, hb⟩
    have B8 := Lib.hid (accB B7.out hb)
    clear hb q0 q1 q2 q3 q4 q5
    obtain ⟨⟨q0, q1⟩, q2, q3, q4, q5⟩ := cells6 B3.out B8.out
    rcases hp with ⟨hg, rfl⟩ | ⟨hg, rfl⟩
    · obtain ⟨k0, k1, k2⟩ := good_back R.out hg
      have hD : Pl.day b p ≤ 5184000 := by unfold Pl.day; omega
      have hk : Pl.frameAt b p (60 * pt z 0 + pt z 3) (pt z 6) (pt z 9) % Pl.day b p = Pl.frameAt b p (60 * pt z 0 + pt z 3) (pt z 6) (pt z 9) := Int.emod_eq_of_lt k0 k1
      have K2 := Lib.hid k2
      have HKM := Lib.hid hk
      clear k2 hk hg
      generalize Pl.frameAt b p (60 * pt z 0 + pt z 3) (pt z 6) (pt z 9) = F at *
      go_wp2_with fail
      refine (format_yes R.out _ _ (T4.out.below B8.out (by omega)) (by omega) (by omega)).mono ?_
      rintro e w9 ⟨rfl, hb⟩
      have B9 := Lib.hid (accB B8.out hb)
      rw [HKM.out, K2.out]
      have hzz : (z.toList == z.toList) = true := by simp
      go_wp2
      go_ret
      refine ⟨rfl, ?_⟩
      have z2 := B2.out.size
      exact ((B2.out.alloc B2.out.size _).trans (B3.out.mono (by omega))).trans ((((Below.refl w.heap.size w3).alloc (by omega) _)).trans (B9.out.mono (by omega)))
    · clear hg
      go_wp2_with fail
      refine (format_yes R.out _ _ (T4.out.below B8.out (by omega)) (by omega) (by omega)).mono ?_
      rintro e w9 ⟨rfl, hb⟩
      have B9 := Lib.hid (accB B8.out hb)
      generalize codeOf b p (Pl.number b p (0 % Pl.day b p)) = s9
      go_wp2
      go_ret
      refine ⟨rfl, ?_⟩
      have z2 := B2.out.size
      exact ((B2.out.alloc B2.out.size _).trans (B3.out.mono (by omega))).trans ((((Below.refl w.heap.size w3).alloc (by omega) _)).trans (B9.out.mono (by omega)))
theorem contract (H : Type) (enc : TypeId × Value → H) (W : World) (base : Nat) (args : Array Value) (ds gs : List (DataW H)) (before : List MemPlace)
    (hval : ∀ (j : Nat) t v, Tryd.f5.params[j]? = some t → args[j]? = some v → Value.okWide Tryd.prog W .any base t v)
    (hW : DataW.Whole enc Tryd.prog Tryd.f5.params.toList Rows.timecodeRoundTripSpec.vars false W args.toList ds gs before) (hL : laidMetH Tryd.prog Rows.timecodeRoundTripRow.laid W) :
    Calls Tryd.prog 5 args W fun e W' => ∃ v, e = .returned v ∧ Rows.timecodeRoundTripSpec.post enc Tryd.prog Tryd.f5 false true false false W args v W' := by
  have hW' := hW
  obtain ⟨p, q, hA0, hV, rfl, hfz, hnd⟩ := hW
  have hA : DataW.TrodAll enc Tryd.prog W 0 (fun _ => true) true Tryd.f5.params.toList args.toList ds p := hA0
  rw [Tryd.params5] at hA hval
  obtain ⟨v0, vs0, d0, ds0, p0, q0, hargs, rfl, rfl, h0, r0⟩ := trodAll_cons hA
  obtain ⟨v1, vs1, d1, ds1, p1, q1, rfl, rfl, rfl, h1, r1⟩ := trodAll_cons r0
  obtain ⟨v2, vs2, d2, ds2, p2, q2, rfl, rfl, rfl, h2, r2⟩ := trodAll_cons r1
  obtain ⟨rfl, rfl, rfl⟩ := trodAll_nil r2
  obtain rfl : args = #[v0, v1, v2] := by cases args; simp_all
  obtain ⟨rfl, rfl⟩ := trodVars_none hV
  obtain ⟨a0, rfl, rfl, rfl, w0⟩ := open_int Tryd.underlying3 (hval 0 3 v0 rfl rfl) h0
  obtain ⟨a1, rfl, rfl, rfl, w1⟩ := open_int Tryd.underlying3 (hval 1 3 v1 rfl rfl) h1
  obtain ⟨a2, rfl, rfl, rfl, w2⟩ := open_string Tryd.underlying9 (hval 2 9 v2 rfl rfl) h2
  clear hA0
  simp only [List.append_nil] at hW'
  refine (walk a0 a1 a2 w0 w1 w2 W (laid_tab hL)).mono fun e W' ⟨he, hg⟩ => ?_
  subst he
  exact ⟨_, rfl, post_alone hW' (fun _ _ _ => trodAll_cons_mk (shut_bool Tryd.underlying4 _) trodAll_mk0) (fun _ => (trodAll_cons_mk (shut_int Tryd.underlying3 w0) (trodAll_cons_mk (shut_int Tryd.underlying3 w1) (trodAll_cons_mk (shut_string Tryd.underlying9 w2) trodAll_mk0)))) (fun _ => rfl) hg (ok_one (by kernel_rfl) rfl (okWide_bool_mk Tryd.underlying4 _))⟩
theorem laid_met (os : Os) : laidMet Tryd.prog Rows.timecodeRoundTripRow.laid ((laidWorld os).forCall (fun _ _ => 0) ⟨#[], #[.int .i64 0, .int .i64 0, .string ⟨#[]⟩], []⟩).memory :=
  laidMet_of_run' 8 (by kernel_rfl) (by kernel_rfl)
theorem reads (os : Os) {H : Type} (enc : TypeId × Value → H) : ∃ places, DataW.whole enc Tryd.prog ((laidWorld os).forCall (fun _ _ => 0) ⟨#[], #[.int .i64 0, .int .i64 0, .string ⟨#[]⟩], []⟩).memory Tryd.f5.params.toList Rows.timecodeRoundTripSpec.vars false (#[.int .i64 0, .int .i64 0, .string ⟨#[]⟩] : Array Value).toList 8 = some ([.lit (.int .i64 0), .lit (.int .i64 0), .lit (.string [])], [], places) :=
  ⟨[], by kernel_rfl⟩
set_option maxRecDepth 100000 in
theorem lifted (os : Os) (started : os.Started) (H : Type) (enc : TypeId × Value → H) (F : Stop.Interp) :
    ReturnsInHanded {} Tryd.checked os 5 .any ((OpenSpec.ofChange Rows.timecodeRoundTripSpec).preRow enc Tryd.prog Tryd.f5 Rows.timecodeRoundTripRow.domain false Rows.timecodeRoundTripRow.laid) (((OpenSpec.ofChange Rows.timecodeRoundTripSpec).at F).post enc Tryd.prog Tryd.f5 false true false false) := by
  obtain ⟨places, hx⟩ := reads os enc
  refine returnsInHanded_of_row (C := Tryd.checked) (s := OpenSpec.ofChange Rows.timecodeRoundTripSpec) own started (by kernel_rfl) Tryd.func5
    (witness_row_at (enc := enc) (C := Tryd.checked) false (laidWorld os) #[.int .i64 0, .int .i64 0, .string ⟨#[]⟩] rfl (by kernel_rfl) (by kernel_rfl) (by kernel_rfl)
      (OpenSpec.preRow_of_cond 8 hx (by kernel_rfl) (fun k hk => by cases hk) (by kernel_rfl) (laid_met os))) ?_
  intro W base args ds gs before hval hW _ _ _ hL _ _
  exact contract H enc W base args ds gs before hval hW hL
theorem said : Rows.TimecodeRoundTripSaid :=
  OpenClaim.holds_of_cond 5 Tryd.f5 rfl rfl rfl rfl rfl rfl rfl ⟨rfl, rfl, rfl, rfl, rfl⟩ rfl rfl rfl rfl rfl (by kernel_rfl) Tryd.func5 (by kernel_rfl)
    (of_decide_eq_true (by kernel_rfl)) (by unfold Func.isWrapper; first | (rw [if_pos (by decide +kernel)]; kernel_rfl) | (rw [if_neg (by decide +kernel)]; exact ⟨rfl, rfl⟩))
    (fun os started H enc _ F => by rw [OpenClaim.pre_eq_preRow]; exact lifted os started H enc F)
theorem plain (f : FuncId) (fn : Func) (hf : Tryd.pinned.checked.prog.funcNamed "onair/onairlaw03.TimecodeRoundTrip" = some f) (hfn : Tryd.pinned.checked.prog.funcs[f]? = some fn) :
    false = Tryd.pinned.checked.prog.looks [] ∧ ∀ (j : Nat) t, fn.params[j]? = some t → Tryd.pinned.checked.prog.wantsStandIn t = false := by
  obtain rfl : f = 5 := Option.some.inj ((show Tryd.prog.funcNamed "onair/onairlaw03.TimecodeRoundTrip" = some 5 by kernel_rfl).symm.trans hf) |>.symm
  obtain rfl : fn = Tryd.f5 := (Option.some.inj (Tryd.func5.symm.trans hfn)).symm
  refine ⟨by kernel_rfl, fun j t ht => ?_⟩
  rw [Tryd.params5] at ht
  have hm : t ∈ [3, 3, 9] := by simpa using Array.mem_of_getElem? ht
  have hall : ([3, 3, 9].all fun u => !Tryd.prog.wantsStandIn u) = true := by kernel_rfl
  exact (show Tryd.prog.wantsStandIn t = false by simpa using List.all_eq_true.1 hall t hm)
theorem card : Rows.TimecodeRoundTripCardSaid :=
  Claim7.holds_tied_plain_at .later [] _ _ _ _ said (fun _ h => by cases h) (by kernel_rfl) (fun _ h => by cases h) timecodeRoundTrip_row_tie rfl ⟨rfl, rfl⟩ (by kernel_rfl) rfl plain (by kernel_rfl)
#print axioms card
end RoundTrip
end Go.Proofs.YtfnmjabegajniaaDoor
