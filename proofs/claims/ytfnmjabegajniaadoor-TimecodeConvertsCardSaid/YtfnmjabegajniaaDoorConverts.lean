/-
  TimecodeConverts: proved is the card of this statement: for every input the law returns true, and each argument reads afterwards as it read before. Conditions: the row's own (the package variable 'rates' starts as the program's text lays it; the card ties it to that text).
-/
import Derived.Test.YtfnmjabegajniaaDoorCommon2
namespace Go.Proofs.YtfnmjabegajniaaDoor
open Go.ChangeShapes Go.WideShapes Go.ChangeAt Go.RowKit
def cv (n d n' d' i : Int) : Int := (i * d * n' + n * d' - 1) / (n * d')
theorem cv_ge {n d n' d' : Int} (i : Int) (hB : 0 < n * d') : i * d * n' ≤ cv n d n' d' i * (n * d') ∧ (cv n d n' d' i - 1) * (n * d') < i * d * n' := by
  unfold cv
  have h1 := Int.emod_add_mul_ediv (i * d * n' + n * d' - 1) (n * d')
  have h2 := Int.emod_nonneg (i * d * n' + n * d' - 1) (show n * d' ≠ 0 by omega)
  have h3 := Int.emod_lt_of_pos (i * d * n' + n * d' - 1) hB
  rw [Int.mul_comm (n * d')] at h1
  constructor
  · omega
  · rw [Int.sub_mul, Int.one_mul]; omega
theorem cv_mono {n d n' d' i m : Int} (hB : 0 < n * d') (hd : 0 ≤ d) (hn : 0 ≤ n') (h : i ≤ m) : cv n d n' d' i ≤ cv n d n' d' m := by
  unfold cv
  have := Int.mul_le_mul_of_nonneg_right (Int.mul_le_mul_of_nonneg_right h hd) hn
  exact Int.ediv_le_ediv hB (by omega)
theorem cv_same {n d : Int} (i : Int) (hB : 0 < n * d) : cv n d n d i = i := by
  obtain ⟨h1, h2⟩ := cv_ge (n := n) (d := d) (n' := n) (d' := d) i hB
  have e : i * d * n = i * (n * d) := by rw [Int.mul_assoc, Int.mul_comm d n]
  rw [e] at h1 h2
  have a1 := Int.le_of_mul_le_mul_right h1 hB
  have a2 := Int.lt_of_mul_lt_mul_right h2 (Int.le_of_lt hB)
  omega
theorem cv_back {n d n' d' : Int} (i : Int) (hB : 0 < n * d') (hA : 0 < n' * d) : i ≤ cv n' d' n d (cv n d n' d' i) := by
  obtain ⟨h1, _⟩ := cv_ge (n := n) (d := d) (n' := n') (d' := d') i hB
  obtain ⟨h2, _⟩ := cv_ge (n := n') (d := d') (n' := n) (d' := d) (cv n d n' d' i) hA
  have e : i * d * n' = i * (n' * d) := by rw [Int.mul_assoc, Int.mul_comm d n']
  have e2 : cv n d n' d' i * d' * n = cv n d n' d' i * (n * d') := by rw [Int.mul_assoc, Int.mul_comm d' n]
  rw [e] at h1
  rw [e2] at h2
  exact Int.le_of_mul_le_mul_right (Int.le_trans h1 h2) hA
theorem cv_nonneg {n d n' d' i : Int} (hB : 0 < n * d') (hd : 0 ≤ d) (hn : 0 ≤ n') (h : 0 ≤ i) : 0 ≤ cv n d n' d' i :=
  Int.ediv_nonneg (by have := Int.mul_nonneg (Int.mul_nonneg h hd) hn; omega) (by omega)
theorem cv_le {n d b p n' d' b' p' : Int} (h : Pl.Row n d b p) (h' : Pl.Row n' d' b' p') (i : Int) (h0 : 0 ≤ i) (h1 : i ≤ 1000000) : cv n d n' d' i ≤ 3000000 := by
  unfold cv
  rcases h with ⟨rfl, rfl, rfl, rfl⟩ | ⟨rfl, rfl, rfl, rfl⟩ | ⟨rfl, rfl, rfl, rfl⟩ | ⟨rfl, rfl, rfl, rfl⟩ | ⟨rfl, rfl, rfl, rfl⟩ | ⟨rfl, rfl, rfl, rfl⟩ | ⟨rfl, rfl, rfl, rfl⟩ | ⟨rfl, rfl, rfl, rfl⟩ <;>
    rcases h' with ⟨rfl, rfl, rfl, rfl⟩ | ⟨rfl, rfl, rfl, rfl⟩ | ⟨rfl, rfl, rfl, rfl⟩ | ⟨rfl, rfl, rfl, rfl⟩ | ⟨rfl, rfl, rfl, rfl⟩ | ⟨rfl, rfl, rfl, rfl⟩ | ⟨rfl, rfl, rfl, rfl⟩ | ⟨rfl, rfl, rfl, rfl⟩ <;> omega
theorem convert_cv {n d b p n' d' b' p' : Int} (h : Pl.Row n d b p) (h' : Pl.Row n' d' b' p') (f : Int) (w : World) (ht : Tab w) (h0 : 0 ≤ f) (h1 : f ≤ 100000000) : Calls Tryd.prog 21 #[rate n d, .int .i64 f, rate n' d'] w fun e w' => e = .returned (.int .i64 (cv n d n' d' f)) ∧ Below w.heap.size w w' :=
  convert_yes h h' f w ht h0 h1
theorem cells4 {w2 w3 wk : World} {n d n' d' : Int} {t : TypeId} (B3 : Below (w2.heap.size + 1) (w2.alloc (.cells #[.int .i64 n, .int .i64 d] t)) w3) (hA : Below (w3.heap.size + 1) (w3.alloc (.cells #[.int .i64 n', .int .i64 d'] t)) wk) :
    (wk.cell? ⟨w2.heap.size, 0, none⟩ = some (.int .i64 n) ∧ wk.cell? ⟨w2.heap.size, 1, none⟩ = some (.int .i64 d)) ∧ wk.cell? ⟨w3.heap.size, 0, none⟩ = some (.int .i64 n') ∧ wk.cell? ⟨w3.heap.size, 1, none⟩ = some (.int .i64 d') := by
  have hlt := inB B3
  obtain ⟨r0, r1⟩ := cellsB B3
  refine ⟨⟨?_, ?_⟩, cellsB hA⟩
  · rw [hA.cell (p := ⟨w2.heap.size, 0, none⟩) (by simp; omega), World.cell?_alloc_lt w3 _ _ hlt]; exact r0
  · rw [hA.cell (p := ⟨w2.heap.size, 1, none⟩) (by simp; omega), World.cell?_alloc_lt w3 _ _ hlt]; exact r1
/-- what the law needs of a frame i and its conversion a -/
theorem cv_facts {n d b p n' d' b' p' : Int} (h : Pl.Row n d b p) (h' : Pl.Row n' d' b' p') (i : Int) (h0 : 0 ≤ i) (h1 : i ≤ 1000000) (a : Int) (ha : cv n d n' d' i = a) :
    0 ≤ a ∧ a ≤ 3000000 ∧ i * d * n' ≤ a * d' * n ∧ (a - 1) * d' * n < i * d * n' ∧ 0 ≤ i * d ∧ i * d ≤ 1001000000 ∧ 0 ≤ i * d * n' ∧ i * d * n' ≤ 60060000000000 ∧ 0 ≤ a * d' ∧ a * d' ≤ 3003000000 ∧ a * d' * n ≤ 180180000000000 ∧
      -1001 ≤ (a - 1) * d' ∧ (a - 1) * d' ≤ 3003000000 ∧ -60060000 ≤ (a - 1) * d' * n := by
  obtain ⟨b1, b2, b3, b4, _⟩ := Row.bounds h
  obtain ⟨c1, c2, c3, c4, _⟩ := Row.bounds h'
  have hB : 0 < n * d' := Int.mul_pos (by omega) (by omega)
  have a0 := cv_nonneg (n := n) (d := d) (n' := n') (d' := d') hB (by omega) (by omega) h0
  have a1 := cv_le h h' i h0 h1
  obtain ⟨g1, g2⟩ := cv_ge (n := n) (d := d) (n' := n') (d' := d') i hB
  rw [ha] at a0 a1 g1 g2
  have e2 : a * (n * d') = a * d' * n := by rw [Int.mul_assoc, Int.mul_comm d' n]
  have e3 : (a - 1) * (n * d') = (a - 1) * d' * n := by rw [Int.mul_assoc, Int.mul_comm d' n]
  rw [e2] at g1
  rw [e3] at g2
  obtain ⟨m1, m2⟩ := mul_bd h0 h1 (by omega : 0 ≤ d) b2
  obtain ⟨m3, m4⟩ := mul_bd m1 m2 (by omega : 0 ≤ n') c4
  obtain ⟨m5, m6⟩ := mul_bd a0 a1 (by omega : 0 ≤ d') c2
  obtain ⟨m7, m8⟩ := mul_bd m5 m6 (by omega : 0 ≤ n) b4
  have m9 : (a - 1) * d' = a * d' - d' := by rw [Int.sub_mul, Int.one_mul]
  have m10 : (a - 1) * d' * n = a * d' * n - d' * n := by rw [m9, Int.sub_mul]
  obtain ⟨m11, m12⟩ := mul_bd (by omega : 0 ≤ d') c2 (by omega : 0 ≤ n) b4
  refine ⟨a0, a1, g1, g2, m1, by omega, m3, by omega, m5, by omega, by omega, by omega, by omega, by omega⟩
namespace Converts
set_option maxRecDepth 100000 in
set_option maxHeartbeats 4000000 in
theorem walk (a0 a1 a2 a3 : Int) (w0 : (Lit.int .i64 a0).wf = true) (w1 : (Lit.int .i64 a1).wf = true) (w2 : (Lit.int .i64 a2).wf = true) (w3 : (Lit.int .i64 a3).wf = true) (w : World) (ht : Tab w) :
    Calls Tryd.prog 10 #[.int .i64 a0, .int .i64 a1, .int .i64 a2, .int .i64 a3] w fun e w' => e = .returned (.bool true) ∧ Below w.heap.size w w' := by
  have u0 := bounds_i64 w0
  have u1 := bounds_i64 w1
  have u2 := bounds_i64 w2
  have u3 := bounds_i64 w3
  have pi := pick_range a2 1000001 (by omega)
  have pm := pick_range a3 1000001 (by omega)
  have T := Lib.hid ht
  clear ht w0 w1 w2 w3
  go_enter Tryd.func10, Tryd.ntmps10
  go_wp2_with fail
  refine (sane_any _ T.out).mono ?_
  rintro e w1 ⟨rfl, hb⟩
  have B1 := Lib.hid hb
  have T1 := Lib.hid (T.out.below hb T.out.pos)
  clear hb
  go_wp2_with fail
  refine (rate_some _ _ u0.1 u0.2).mono ?_
  rintro e w2 ⟨⟨n, d, b, p, hr, rfl⟩, hb⟩
  have R := Lib.hid hr
  have B2 := Lib.hid (keepB B1.out (Nat.le_refl _) hb)
  have T2 := Lib.hid (T1.out.below hb T1.out.pos)
  obtain ⟨b1, b2, b3, b4, _⟩ := Row.bounds hr
  clear hb hr
  go_wp2_with fail
  refine (rate_some _ _ u1.1 u1.2).mono ?_
  rintro e w3 ⟨⟨n', d', b', p', hr', rfl⟩, hb⟩
  have R' := Lib.hid hr'
  have B3 := Lib.hid (accB (Below.refl (w2.heap.size + 1) (w2.alloc (.cells #[.int .i64 n, .int .i64 d] 23))) hb)
  have T3 := Lib.hid ((T2.out.alloc _).below B3.out (by omega))
  have T4 := Lib.hid (T3.out.alloc (.cells #[.int .i64 n', .int .i64 d'] 23))
  obtain ⟨c1, c2, c3, c4, _⟩ := Row.bounds hr'
  clear hb hr'
  have gin := inB B3.out
  obtain ⟨r0, r1⟩ := cellsB B3.out
  go_wp2_with fail
  refine (pick_any _ _ _ (by omega) u2.1 u2.2 (by omega)).mono ?_
  rintro e _ ⟨rfl, rfl⟩
  generalize pickV a2 1000001 = i at *
  go_wp2_with fail
  refine (pick_any _ _ _ (by omega) u3.1 u3.2 (by omega)).mono ?_
  rintro e _ ⟨rfl, rfl⟩
  generalize pickV a3 1000001 = m at *
  go_wp2_with fail
  refine (convert_cv R.out R'.out _ _ T4.out (by omega) (by omega)).mono ?_
  rintro e w5 ⟨rfl, hb⟩
  have B5 := Lib.hid (accB (Below.refl (w3.heap.size + 1) (w3.alloc (.cells #[.int .i64 n', .int .i64 d'] 23))) hb)
  obtain ⟨⟨q0, q1⟩, q2, q3⟩ := cells4 B3.out B5.out
  clear hb r0 r1
  go_wp2_with fail
  refine (convert_cv R.out R'.out _ _ (T4.out.below B5.out (by omega)) (by omega) (by omega)).mono ?_
  rintro e w6 ⟨rfl, hb⟩
  have B6 := Lib.hid (accB B5.out hb)
  clear hb q0 q1 q2 q3
  obtain ⟨⟨q0, q1⟩, q2, q3⟩ := cells4 B3.out B6.out
  go_wp2_with fail
  refine (convert_cv R.out R.out _ _ (T4.out.below B6.out (by omega)) (by omega) (by omega)).mono ?_
  rintro e w7 ⟨rfl, hb⟩
  have B7 := Lib.hid (accB B6.out hb)
  clear hb q0 q1 q2 q3
  obtain ⟨⟨q0, q1⟩, q2, q3⟩ := cells4 B3.out B7.out
  have hnd : 0 < n * d := Int.mul_pos (by omega) (by omega)
  have hB : 0 < n * d' := Int.mul_pos (by omega) (by omega)
  have hA : 0 < n' * d := Int.mul_pos (by omega) (by omega)
  rw [cv_same i hnd]
  have MN := Lib.hid (fun x y (hxy : x ≤ y) => cv_mono (n := n) (d := d) (n' := n') (d' := d') (i := x) (m := y) hB (by omega) (by omega) hxy)
  have m1 : i ≤ m → cv n d n' d' i ≤ cv n d n' d' m := MN.out i m
  have m2 : m ≤ i → cv n d n' d' m ≤ cv n d n' d' i := MN.out m i
  have bk := cv_back (n := n) (d := d) (n' := n') (d' := d') i hB hA
  have bl := cv_mono (n := n') (d := d') (n' := n) (d' := d) (i := cv n d n' d' i) (m := cv n d n' d' i + 1) hA (by omega) (by omega) (by omega)
  obtain ⟨x0, x1, x2, x3, x4, x5, x6, x7, x8, x9, x10, x11, x12, x13⟩ := cv_facts R.out R'.out i pi.1 (by omega) _ rfl
  generalize cv n d n' d' i = a at *
  generalize cv n d n' d' m = c at *
  clear MN hnd hB hA
  have hii : (i != i) = false := by simp
  have tri : (i < m ∧ a ≤ c) ∨ ((i ≤ m ∧ m ≤ i) ∧ a ≤ c ∧ c ≤ a) ∨ (m < i ∧ c ≤ a) := by omega
  clear m1 m2
  have HA := Lib.hid (Bool.eq_false_or_eq_true (a == 0))
  rcases tri with ⟨t1, t2⟩ | ⟨⟨t1, t2⟩, t3, t4⟩ | ⟨t1, t2⟩
  all_goals
    go_wp2_with fail
    refine (convert_cv R'.out R.out _ _ (T4.out.below B7.out (by omega)) (by omega) (by omega)).mono ?_
    rintro e w8 ⟨rfl, hb⟩
    have B8 := Lib.hid (accB B7.out hb)
    clear hb q0 q1 q2 q3
    obtain ⟨⟨q0, q1⟩, q2, q3⟩ := cells4 B3.out B8.out
    go_wp2_with fail
    refine (convert_cv R'.out R.out _ _ (T4.out.below B8.out (by omega)) (by omega) (by omega)).mono ?_
    rintro e w9 ⟨rfl, hb⟩
    have B9 := Lib.hid (accB B8.out hb)
    clear hb q0 q1 q2 q3
    obtain ⟨⟨q0, q1⟩, q2, q3⟩ := cells4 B3.out B9.out
    generalize cv n' d' n d a = k at *
    generalize cv n' d' n d (a + 1) = l at *
    rcases HA.out with hz | hz
    all_goals
      go_wp2
      go_ret
      refine ⟨rfl, ?_⟩
      have z2 := B2.out.size
      exact ((B2.out.alloc B2.out.size _).trans (B3.out.mono (by omega))).trans ((((Below.refl w.heap.size w3).alloc (by omega) _)).trans (B9.out.mono (by omega)))
theorem contract (H : Type) (enc : TypeId × Value → H) (W : World) (base : Nat) (args : Array Value) (ds gs : List (DataW H)) (before : List MemPlace)
    (hval : ∀ (j : Nat) t v, Tryd.f10.params[j]? = some t → args[j]? = some v → Value.okWide Tryd.prog W .any base t v)
    (hW : DataW.Whole enc Tryd.prog Tryd.f10.params.toList Rows.timecodeConvertsSpec.vars false W args.toList ds gs before) (hL : laidMetH Tryd.prog Rows.timecodeConvertsRow.laid W) :
    Calls Tryd.prog 10 args W fun e W' => ∃ v, e = .returned v ∧ Rows.timecodeConvertsSpec.post enc Tryd.prog Tryd.f10 false true false false W args v W' := by
  have hW' := hW
  obtain ⟨p, q, hA0, hV, rfl, hfz, hnd⟩ := hW
  have hA : DataW.TrodAll enc Tryd.prog W 0 (fun _ => true) true Tryd.f10.params.toList args.toList ds p := hA0
  rw [Tryd.params10] at hA hval
  obtain ⟨v0, vs0, d0, ds0, p0, q0, hargs, rfl, rfl, h0, r0⟩ := trodAll_cons hA
  obtain ⟨v1, vs1, d1, ds1, p1, q1, rfl, rfl, rfl, h1, r1⟩ := trodAll_cons r0
  obtain ⟨v2, vs2, d2, ds2, p2, q2, rfl, rfl, rfl, h2, r2⟩ := trodAll_cons r1
  obtain ⟨v3, vs3, d3, ds3, p3, q3, rfl, rfl, rfl, h3, r3⟩ := trodAll_cons r2
  obtain ⟨rfl, rfl, rfl⟩ := trodAll_nil r3
  obtain rfl : args = #[v0, v1, v2, v3] := by cases args; simp_all
  obtain ⟨rfl, rfl⟩ := trodVars_none hV
  obtain ⟨a0, rfl, rfl, rfl, w0⟩ := open_int Tryd.underlying3 (hval 0 3 v0 rfl rfl) h0
  obtain ⟨a1, rfl, rfl, rfl, w1⟩ := open_int Tryd.underlying3 (hval 1 3 v1 rfl rfl) h1
  obtain ⟨a2, rfl, rfl, rfl, w2⟩ := open_int Tryd.underlying3 (hval 2 3 v2 rfl rfl) h2
  obtain ⟨a3, rfl, rfl, rfl, w3⟩ := open_int Tryd.underlying3 (hval 3 3 v3 rfl rfl) h3
  clear hA0
  simp only [List.append_nil] at hW'
  refine (walk a0 a1 a2 a3 w0 w1 w2 w3 W (laid_tab hL)).mono fun e W' ⟨he, hg⟩ => ?_
  subst he
  exact ⟨_, rfl, post_alone hW' (fun _ _ _ => trodAll_cons_mk (shut_bool Tryd.underlying4 _) trodAll_mk0) (fun _ => (trodAll_cons_mk (shut_int Tryd.underlying3 w0) (trodAll_cons_mk (shut_int Tryd.underlying3 w1) (trodAll_cons_mk (shut_int Tryd.underlying3 w2) (trodAll_cons_mk (shut_int Tryd.underlying3 w3) trodAll_mk0))))) (fun _ => rfl) hg (ok_one (by kernel_rfl) rfl (okWide_bool_mk Tryd.underlying4 _))⟩
theorem laid_met (os : Os) : laidMet Tryd.prog Rows.timecodeConvertsRow.laid ((laidWorld os).forCall (fun _ _ => 0) ⟨#[], #[.int .i64 0, .int .i64 0, .int .i64 0, .int .i64 0], []⟩).memory :=
  laidMet_of_run' 8 (by kernel_rfl) (by kernel_rfl)
theorem reads (os : Os) {H : Type} (enc : TypeId × Value → H) : ∃ places, DataW.whole enc Tryd.prog ((laidWorld os).forCall (fun _ _ => 0) ⟨#[], #[.int .i64 0, .int .i64 0, .int .i64 0, .int .i64 0], []⟩).memory Tryd.f10.params.toList Rows.timecodeConvertsSpec.vars false (#[.int .i64 0, .int .i64 0, .int .i64 0, .int .i64 0] : Array Value).toList 8 = some ([.lit (.int .i64 0), .lit (.int .i64 0), .lit (.int .i64 0), .lit (.int .i64 0)], [], places) :=
  ⟨[], by kernel_rfl⟩
set_option maxRecDepth 100000 in
theorem lifted (os : Os) (started : os.Started) (H : Type) (enc : TypeId × Value → H) (F : Stop.Interp) :
    ReturnsInHanded {} Tryd.checked os 10 .any ((OpenSpec.ofChange Rows.timecodeConvertsSpec).preRow enc Tryd.prog Tryd.f10 Rows.timecodeConvertsRow.domain false Rows.timecodeConvertsRow.laid) (((OpenSpec.ofChange Rows.timecodeConvertsSpec).at F).post enc Tryd.prog Tryd.f10 false true false false) := by
  obtain ⟨places, hx⟩ := reads os enc
  refine returnsInHanded_of_row (C := Tryd.checked) (s := OpenSpec.ofChange Rows.timecodeConvertsSpec) own started (by kernel_rfl) Tryd.func10
    (witness_row_at (enc := enc) (C := Tryd.checked) false (laidWorld os) #[.int .i64 0, .int .i64 0, .int .i64 0, .int .i64 0] rfl (by kernel_rfl) (by kernel_rfl) (by kernel_rfl)
      (OpenSpec.preRow_of_cond 8 hx (by kernel_rfl) (fun k hk => by cases hk) (by kernel_rfl) (laid_met os))) ?_
  intro W base args ds gs before hval hW _ _ _ hL _ _
  exact contract H enc W base args ds gs before hval hW hL
theorem said : Rows.TimecodeConvertsSaid :=
  OpenClaim.holds_of_cond 10 Tryd.f10 rfl rfl rfl rfl rfl rfl rfl ⟨rfl, rfl, rfl, rfl, rfl⟩ rfl rfl rfl rfl rfl (by kernel_rfl) Tryd.func10 (by kernel_rfl)
    (of_decide_eq_true (by kernel_rfl)) (by unfold Func.isWrapper; first | (rw [if_pos (by decide +kernel)]; kernel_rfl) | (rw [if_neg (by decide +kernel)]; exact ⟨rfl, rfl⟩))
    (fun os started H enc _ F => by rw [OpenClaim.pre_eq_preRow]; exact lifted os started H enc F)
theorem plain (f : FuncId) (fn : Func) (hf : Tryd.pinned.checked.prog.funcNamed "onair/onairlaw03.TimecodeConverts" = some f) (hfn : Tryd.pinned.checked.prog.funcs[f]? = some fn) :
    false = Tryd.pinned.checked.prog.looks [] ∧ ∀ (j : Nat) t, fn.params[j]? = some t → Tryd.pinned.checked.prog.wantsStandIn t = false := by
  obtain rfl : f = 10 := Option.some.inj ((show Tryd.prog.funcNamed "onair/onairlaw03.TimecodeConverts" = some 10 by kernel_rfl).symm.trans hf) |>.symm
  obtain rfl : fn = Tryd.f10 := (Option.some.inj (Tryd.func10.symm.trans hfn)).symm
  refine ⟨by kernel_rfl, fun j t ht => ?_⟩
  rw [Tryd.params10] at ht
  have hm : t ∈ [3, 3, 3, 3] := by simpa using Array.mem_of_getElem? ht
  have hall : ([3, 3, 3, 3].all fun u => !Tryd.prog.wantsStandIn u) = true := by kernel_rfl
  exact (show Tryd.prog.wantsStandIn t = false by simpa using List.all_eq_true.1 hall t hm)
theorem card : Rows.TimecodeConvertsCardSaid :=
  Claim7.holds_tied_plain_at .later [] _ _ _ _ said (fun _ h => by cases h) (by kernel_rfl) (fun _ h => by cases h) timecodeConverts_row_tie rfl ⟨rfl, rfl⟩ (by kernel_rfl) rfl plain (by kernel_rfl)
#print axioms card
end Converts
end Go.Proofs.YtfnmjabegajniaaDoor
