/-
  The contract of the law SpanPointwise.
-/
import Derived.Deep.RegionLaw
import Derived.Deep.RegionHeld3
import Derived.Test.YtamnlhlocidbkaaSane
import Derived.Test.YtamnlhlocidbkaaInts
namespace Go.Proofs.Ytamnlhlocidbkaa
open Go.RowKit
open Sp (Sn Mem Val norm uni inter subt)
/-- the six lists that the law asks, readable -/
structure Six (A B C D E F : Option Addr) (l m : List Sn) (W : World) : Prop where
  a : Rd W A l
  b : Rd W B m
  u : Rd W C (uni l m)
  i : Rd W D (inter l m)
  s : Rd W E (subt l m)
  n : Rd W F (norm l)
theorem Six.below {A B C D E F : Option Addr} {l m : List Sn} {W W' : World} (h : Six A B C D E F l m W) (hb : Below W.heap.size W W') : Six A B C D E F l m W' :=
  ⟨h.a.below hb, h.b.below hb, h.u.below hb, h.i.below hb, h.s.below hb, h.n.below hb⟩
/-- the first loop: the row of tries grows, the row of both lists stays -/
structure Jw (wk w3 : World) (A : Option Addr) (c : Nat) (k : List Sn) (u : Value) (zs : List Int) (W : World) : Prop where
  z : OwnZ W wk.heap.size u zs
  o : Own W (wk.heap.size + 1) (.slice A k.length c) k
  at_ : u.ownBlock = some wk.heap.size ∨ ∃ g, u.ownBlock = some g ∧ w3.heap.size ≤ g
  far : ∀ g, (Value.slice A k.length c).ownBlock = some g → wk.heap.size + 1 ≤ g ∧ g < w3.heap.size
  below : Below wk.heap.size wk W
  size : w3.heap.size ≤ W.heap.size
theorem Jw.ne {wk w3 W : World} {A : Option Addr} {c : Nat} {k : List Sn} {u : Value} {zs : List Int} (h : Jw wk w3 A c k u zs W) : (Value.slice A k.length c).ownBlock = none ∨ (Value.slice A k.length c).ownBlock ≠ u.ownBlock := by
  rcases hq : (Value.slice A k.length c).ownBlock with _ | g
  · exact .inl rfl
  · refine .inr fun e => ?_
    have := h.far g hq
    rcases h.at_ with q | ⟨g', q, hg⟩
    · rw [q] at e; injection e with e; omega
    · rw [q] at e; injection e with e; omega
theorem Jw.grow {wk w3 W W1 W2 : World} {A : Option Addr} {c cap g : Nat} {k : List Sn} {u : Value} {zs ys : List Int} (h : Jw wk w3 A c k u zs W) (hb : Below W.heap.size W W1)
    (hz : OwnZ W2 wk.heap.size (.slice (some ⟨g, 0, none⟩) (zs ++ ys).length cap) (zs ++ ys)) (hg : W1.grownBy W2 u.ownBlock) (hat : u.ownBlock = some g ∨ g = W1.heap.size) : Jw wk w3 A c k (.slice (some ⟨g, 0, none⟩) (zs ++ ys).length cap) (zs ++ ys) W2 where
  z := hz
  o := (h.o.below hb).kept hg h.ne
  at_ := by
    rcases hat with q | q
    · rcases h.at_ with r | ⟨g', r, hr⟩
      · rw [r] at q; injection q with q; subst q; exact .inl rfl
      · rw [r] at q; injection q with q; subst q; exact .inr ⟨_, rfl, hr⟩
    · subst q
      exact .inr ⟨_, rfl, Nat.le_trans h.size hb.size⟩
  far := h.far
  below := (via h.below hb).grown hg (Nat.le_trans h.below.size hb.size) fun j hj => (h.z.lt j hj).1
  size := Nat.le_trans h.size (Nat.le_trans hb.size hg.size)
theorem keptC {wk w3 W W1 W2 : World} {g off cap : Nat} {k : List Sn} {u : Value} {zs : List Int} (h : Jw wk w3 (some ⟨g, off, none⟩) cap k u zs W) (hg : W1.grownBy W2 u.ownBlock) (hW : g < W.heap.size) {p1 p2 : Nat} {q1 q2 : Value}
    (hc : W1.cell? ⟨g, p1, none⟩ = some q1 ∧ W1.cell? ⟨g, p2, none⟩ = some q2) (hs : W.heap.size ≤ W1.heap.size := by simp) : W2.cell? ⟨g, p1, none⟩ = some q1 ∧ W2.cell? ⟨g, p2, none⟩ = some q2 := by
  have hne : some g ≠ u.ownBlock := by
    rcases h.ne with e | e
    · cases e
    · exact e
  have hbk := hg.block g (by omega) hne
  exact ⟨(World.cell?_of_block (a := ⟨g, p1, none⟩) hbk).trans hc.1, (World.cell?_of_block (a := ⟨g, p2, none⟩) hbk).trans hc.2⟩
theorem both_u (z : Int) (l m : List Sn) : memB z (uni l m) = (memB z l || memB z m) := by rw [Bool.eq_iff_iff, memB_iff, Sp.mem_uni, Bool.or_eq_true, memB_iff, memB_iff]
theorem both_i (z : Int) (l m : List Sn) : memB z (inter l m) = (memB z l && memB z m) := by rw [Bool.eq_iff_iff, memB_iff, Sp.mem_inter, Bool.and_eq_true, memB_iff, memB_iff]
theorem both_s (z : Int) (l m : List Sn) : memB z (subt l m) = (memB z l && !memB z m) := by
  rw [Bool.eq_iff_iff, memB_iff, Sp.mem_subt, Bool.and_eq_true, Bool.not_eq_true', memB_no, memB_iff]
theorem both_n (z : Int) (l : List Sn) : memB z (norm l) = memB z l := memB_eq (Sp.norm_mem z l)
set_option maxRecDepth 100000 in
set_option maxHeartbeats 4000000 in
theorem law6_any (A B : Option Addr) (l0 m0 : List Sn) (c d : Nat) (x : Int) (w : World) (hR : Rd w A l0) (hS : Rd w B m0) (hc : l0.length ≤ c) (hcm : c ≤ maxLen) (hd : m0.length ≤ d) (hdm : d ≤ maxLen) (_hbd : Bd l0) (_hbm : Bd m0) (_hx : -9223372036854775808 ≤ x ∧ x ≤ 9223372036854775807) :
    Calls Try.prog 6 #[.slice A l0.length c, .slice B m0.length d, .int .i64 x] w fun e w' => e = .returned (.bool true) ∧ Below w.heap.size w w' := by
  have B0 := Lib.hid (Below.refl w.heap.size w)
  have F1 := Lib.hid (few_any A l0 c · hc hcm)
  have F2 := Lib.hid (few_any B m0 d · hd hdm)
  have hl : (l0.take 30).length ≤ 30 := by simp; omega
  have hm : (m0.take 30).length ≤ 30 := by simp; omega
  have R := Lib.hid (hR.take 30)
  have S := Lib.hid (hS.take 30)
  clear hR hS hc hd hcm hdm _hbd _hbm _hx
  generalize l0.take 30 = l at *
  generalize m0.take 30 = m at *
  have nu : (uni l m).length ≤ 100000 := Nat.le_trans (Sp.uni_len _ _) (by omega)
  have ni : (inter l m).length ≤ 100000 := Nat.le_trans (Sp.inter_len _ _) (by omega)
  have ns : (subt l m).length ≤ 100000 := Nat.le_trans (Sp.subt_len _ _) (by omega)
  have nn : (norm l).length ≤ 100000 := Nat.le_trans (Sp.norm_len _) (by omega)
  have VU := Lib.hid (vB_yes (Sp.val_uni l m))
  have VI := Lib.hid (vB_yes (Sp.val_inter l m))
  have VS := Lib.hid (vB_yes (Sp.val_subt l m))
  have VN := Lib.hid (vB_yes (Sp.norm_val l))
  have FU := Lib.hid (both_u · l m)
  have FI := Lib.hid (both_i · l m)
  have FS := Lib.hid (both_s · l m)
  have FN := Lib.hid (both_n · l)
  go_enter Try.func6, Try.ntmps6
  go_wp2_with fail
  refine (sane_any _).mono ?_
  rintro e w1 ⟨rfl, hb1⟩
  have B1 := Lib.hid (via B0.out hb1)
  replace R := Lib.hid (R.out.below hb1)
  replace S := Lib.hid (S.out.below hb1)
  clear hb1 B0
  go_wp2_with fail
  refine (F1.out _).mono ?_
  rintro e _ ⟨rfl, rfl⟩
  go_wp2_with fail
  refine (F2.out _).mono ?_
  rintro e _ ⟨rfl, rfl⟩
  go_wp2_with fail
  refine (union_any A B l m c d _ R.out S.out (by omega) (by omega)).mono ?_
  rintro e w2 ⟨A2, c2, rfl, hc2, hr2, hb2⟩
  have B2 := Lib.hid (via B1.out hb2)
  replace R := Lib.hid (R.out.below hb2)
  replace S := Lib.hid (S.out.below hb2)
  clear hb2 B1
  have R2 := Lib.hid hr2
  clear hr2 hc2
  go_wp2_with fail
  refine (intersect_any A B l m c d _ R.out S.out (by omega) (by omega)).mono ?_
  rintro e w3 ⟨A3, c3, rfl, hc3, hr3, hb3⟩
  have B3 := Lib.hid (via B2.out hb3)
  replace R := Lib.hid (R.out.below hb3)
  replace S := Lib.hid (S.out.below hb3)
  replace R2 := Lib.hid (R2.out.below hb3)
  clear hb3 B2
  have R3 := Lib.hid hr3
  clear hr3 hc3
  go_wp2_with fail
  refine (subtract_any A B l m c d _ R.out S.out (by omega) (by omega)).mono ?_
  rintro e w4 ⟨A4, c4, rfl, hc4, hr4, hb4⟩
  have B4 := Lib.hid (via B3.out hb4)
  replace R := Lib.hid (R.out.below hb4)
  replace S := Lib.hid (S.out.below hb4)
  replace R2 := Lib.hid (R2.out.below hb4)
  replace R3 := Lib.hid (R3.out.below hb4)
  clear hb4 B3
  have R4 := Lib.hid hr4
  clear hr4 hc4
  go_wp2_with fail
  refine (normal_any A l c _ R.out (by omega)).mono ?_
  rintro e w5 ⟨A5, c5, rfl, hc5, hr5, hb5⟩
  have B5 := Lib.hid (via B4.out hb5)
  replace R := Lib.hid (R.out.below hb5)
  replace S := Lib.hid (S.out.below hb5)
  replace R2 := Lib.hid (R2.out.below hb5)
  replace R3 := Lib.hid (R3.out.below hb5)
  replace R4 := Lib.hid (R4.out.below hb5)
  clear hb5 B4
  have R5 := Lib.hid hr5
  clear hr5 hc5
  go_wp2_with fail
  refine (valid_any A2 (uni l m) c2 _ R2.out nu).mono ?_
  rintro e w6 ⟨rfl, hb6⟩
  rw [VU.out]
  have B6 := Lib.hid (via B5.out hb6)
  replace R := Lib.hid (R.out.below hb6)
  replace S := Lib.hid (S.out.below hb6)
  replace R2 := Lib.hid (R2.out.below hb6)
  replace R3 := Lib.hid (R3.out.below hb6)
  replace R4 := Lib.hid (R4.out.below hb6)
  replace R5 := Lib.hid (R5.out.below hb6)
  clear hb6 B5
  go_wp2_with fail
  refine (valid_any A3 (inter l m) c3 _ R3.out ni).mono ?_
  rintro e w7 ⟨rfl, hb7⟩
  rw [VI.out]
  have B7 := Lib.hid (via B6.out hb7)
  replace R := Lib.hid (R.out.below hb7)
  replace S := Lib.hid (S.out.below hb7)
  replace R2 := Lib.hid (R2.out.below hb7)
  replace R3 := Lib.hid (R3.out.below hb7)
  replace R4 := Lib.hid (R4.out.below hb7)
  replace R5 := Lib.hid (R5.out.below hb7)
  clear hb7 B6
  go_wp2_with fail
  refine (valid_any A4 (subt l m) c4 _ R4.out ns).mono ?_
  rintro e w8 ⟨rfl, hb8⟩
  rw [VS.out]
  have B8 := Lib.hid (via B7.out hb8)
  replace R := Lib.hid (R.out.below hb8)
  replace S := Lib.hid (S.out.below hb8)
  replace R2 := Lib.hid (R2.out.below hb8)
  replace R3 := Lib.hid (R3.out.below hb8)
  replace R4 := Lib.hid (R4.out.below hb8)
  replace R5 := Lib.hid (R5.out.below hb8)
  clear hb8 B7
  go_wp2_with fail
  refine (valid_any A5 (norm l) c5 _ R5.out nn).mono ?_
  rintro e w9 ⟨rfl, hb9⟩
  rw [VN.out]
  have B9 := Lib.hid (via B8.out hb9)
  replace R := Lib.hid (R.out.below hb9)
  replace S := Lib.hid (S.out.below hb9)
  replace R2 := Lib.hid (R2.out.below hb9)
  replace R3 := Lib.hid (R3.out.below hb9)
  replace R4 := Lib.hid (R4.out.below hb9)
  replace R5 := Lib.hid (R5.out.below hb9)
  clear hb9 B8
  have SX := Lib.hid (show Six A B A2 A3 A4 A5 l m w9 from ⟨R.out, S.out, R2.out, R3.out, R4.out, R5.out⟩)
  have BK := B9
  clear R S R2 R3 R4 R5 B9 VU VI VS VN F1 F2
  generalize w9 = wk at *
  have ON : Own ((wk.alloc (.cells #[.int .i64 x] 3)).alloc (.cells #[] 30)) (wk.heap.size + 1) (.slice (some ⟨wk.heap.size + 1, 0, none⟩) 0 0) [] := by have := Own.none (wk.alloc (.cells #[.int .i64 x] 3)); simpa using this
  replace ON := Lib.hid ON
  go_wp2_with (first
    | (at_builtin; refine appAny rfl (.tmp 54) (.tmp 55) rfl (wk.heap.size + 1) (.slice (some ⟨wk.heap.size + 1, 0, none⟩) 0 0) [] rfl ON.out l A c rfl ((SX.out.a.alloc _).alloc _) (by simp; omega) (by simp) ?_; intro v2 w2 ho2 hg2; have HB2 := Lib.hid (show Below wk.heap.size wk w2 from (((Below.refl _ _).alloc (Nat.le_refl _) _).alloc (by simp) _).grown hg2 (by simp; omega) (fun j hj => by simp [Value.ownBlock] at hj; omega)); have Z2 := Lib.hid (show OwnZ w2 wk.heap.size (.slice (some ⟨wk.heap.size, 0, none⟩) 1 1) [x] from World.ownsRow.kept ((OwnZ.one wk x).alloc _) hg2 (.inr (by simp [Value.ownBlock]))); have hs2 : wk.heap.size + 2 ≤ w2.heap.size := (by have := hg2.size; simp at this; omega); have O2 := Lib.hid ho2; clear ho2 hg2 ON)
    | (at_builtin; refine appAny rfl (.tmp 56) (.tmp 57) rfl (wk.heap.size + 1) v2 ([] ++ l) rfl O2.out m B d rfl (SX.out.b.below HB2.out) (by simp; omega) (by omega) ?_; intro v3 w3 ho3 hg3))
  have hb3 : Below wk.heap.size wk w3 := HB2.out.grown hg3 HB2.out.size (fun j hj => by have := (O2.out.lt j hj).1; omega)
  have hz3 : OwnZ w3 wk.heap.size (.slice (some ⟨wk.heap.size, 0, none⟩) 1 1) [x] := World.ownsRow.kept Z2.out hg3 (.inr (fun e => by have := (O2.out.lt wk.heap.size (by rw [← e]; rfl)).1; omega))
  obtain ⟨ks, hks⟩ : ∃ ks, [] ++ l ++ m = ks := ⟨_, rfl⟩
  have hkl : ks.length ≤ 60 := by rw [← hks]; simp; omega
  rw [hks] at ho3
  clear hks
  obtain ⟨Ak, ck, rfl, hck, _, _⟩ := ho3.rd
  have J0 := Lib.hid (show Jw wk w3 Ak ck ks (.slice (some ⟨wk.heap.size, 0, none⟩) 1 1) [x] w3 from ⟨hz3, ho3, .inl rfl, fun g hg => ho3.lt g hg, hb3, Nat.le_refl _⟩)
  clear hb3 hz3 ho3 hg3 HB2 O2 Z2 hs2 hck
  go_wp2
  go_loopw [12, 14] (fun u12 u14 wr => ∃ (k : Nat) (zs : List Int), k ≤ ks.length ∧ zs.length = 1 + 4 * k ∧ u14 = .int .i64 k ∧ Jw wk w3 Ak ck ks u12 zs wr) (fun _ u14 _ => ks.length - (intOf u14).toNat)
  case atStart => exact ⟨0, [x], Nat.zero_le _, rfl, rfl, J0.out⟩
  case round =>
    obtain ⟨k, zs, hk, hzl, rfl, hJ⟩ := hrel
    have HJ := Lib.hid hJ
    have hzz := hJ.below.size
    clear hJ J0
    by_cases hlt : k < ks.length
    · obtain ⟨g, off, rfl, hg, c1, c2⟩ := HJ.out.o.rdAt.at_ hlt
      have TC : ∀ W, Below wr.heap.size wr W → W.cell? ⟨g, off + k * 2, none⟩ = some (.int .i64 (el ks k).1) ∧ W.cell? ⟨g, off + k * 2 + 1, none⟩ = some (.int .i64 (el ks k).2) := fun W hb => ⟨(hb.cell (p := ⟨g, off + k * 2, none⟩) hg).trans c1, (hb.cell (p := ⟨g, off + k * 2 + 1, none⟩) hg).trans c2⟩
      have HT := Lib.hid TC
      clear c1 c2 TC
      go_wp2
      have hAcc := (Below.refl wr.heap.size wr).drew
      obtain ⟨y1, hy1⟩ : ∃ y1, IntKind.i64.wrap ((el ks k).1 - 1) = y1 := ⟨_, rfl⟩
      obtain ⟨y2, hy2⟩ : ∃ y2, IntKind.i64.wrap ((el ks k).2 - 1) = y2 := ⟨_, rfl⟩
      have hzl2 : zs.length ≤ 1000000 := by omega
      go_region_held3 (fun W => W.cell? ⟨g, off + k * 2, none⟩ = some (.int .i64 (el ks k).1) ∧ W.cell? ⟨g, off + k * 2 + 1, none⟩ = some (.int .i64 (el ks k).2)) (first | exact HT.out _ hAcc | exact HT.out _ (hAcc.alloc (Nat.le_refl _) _) | exact hAft)
        ((refine stepApp4 (by rfl) _ _ (by rfl) wk.heap.size u12 zs (by rfl) ((HJ.out.z.drewN 1).alloc _) (el ks k).1 (el ks k).2 y1 y2 wr.heap.size (by rfl) (heap_alloc_new _ _) hzl2 (by simp; omega) ?_; intro g' cap' wx ho hgrow hat; have hAft : wx.cell? ⟨g, off + k * 2, none⟩ = some (.int .i64 (el ks k).1) ∧ wx.cell? ⟨g, off + k * 2 + 1, none⟩ = some (.int .i64 (el ks k).2) := keptC HJ.out hgrow hg (HT.out _ (hAcc.alloc (Nat.le_refl _) _))))
      have hJ2 := HJ.out.grow (hAcc.alloc (Nat.le_refl _) _) (by rw [List.length_append]; exact ho) hgrow hat
      rw [List.length_append] at hJ2
      have HJ2 := Lib.hid hJ2
      clear hJ2 ho hgrow hat hAft hAcc hy1 hy2 HJ
      go_wp2
      go_roundw
      case rel => exact ⟨k + 1, zs ++ [(el ks k).1, (el ks k).2, y1, y2], by omega, by simp; omega, by go_num, by have q := HJ2.out; rw [hzl] at q; exact q⟩
      case measure => simp [intOf]; omega
    · have HZ := Lib.hid HJ.out.z
      generalize wr = wo at *
      have hsz := hzl
      have SQ := Lib.hid (SX.out.below HJ.out.below)
      have BQ := Lib.hid (via BK.out HJ.out.below)
      clear SX BK HJ
      obtain ⟨gz, cz, rfl, hgz, _⟩ := HZ.out.at_ (k := 0) (by omega)
      have ZR : ∀ W, Below wo.heap.size wo W → ∀ j, j < zs.length → W.cell? ⟨gz, j, none⟩ = some (.int .i64 (zs.getD j 0)) := fun W hb j hj => by
        obtain ⟨g2, c2, e, hg2, hc2⟩ := HZ.out.at_ hj
        cases e
        exact (hb.cell (p := ⟨gz, j, none⟩) hgz).trans hc2
      have HZR := Lib.hid ZR
      clear ZR HZ
      have hzm : zs.length ≤ 1000 := by omega
      clear hzl hsz
      generalize zs.length = zn at *
      go_wp2
      go_loopw [15] (fun u15 wr => ∃ k : Nat, k ≤ zn ∧ u15 = .int .i64 k ∧ Below wo.heap.size wo wr) (fun u15 _ => zn - (intOf u15).toNat)
      case atStart => exact ⟨0, Nat.zero_le _, rfl, Below.refl _ _⟩
      case round =>
        obtain ⟨j, hj, rfl, hQ⟩ := hrel
        have HQ := Lib.hid hQ
        clear hQ
        by_cases hjl : j < zn
        · have cz0 := HZR.out _ HQ.out j hjl
          generalize zs.getD j 0 = z at *
          have fu := FU.out z
          have fi := FI.out z
          have fs := FS.out z
          have fn := FN.out z
          generalize hb1 : memB z l = t1 at *
          generalize hb2 : memB z m = t2 at *
          have GU := Lib.hid fu
          have GI := Lib.hid fi
          have GS := Lib.hid fs
          have GN := Lib.hid fn
          have G1 := Lib.hid hb1
          have G2 := Lib.hid hb2
          clear fu fi fs fn hb1 hb2
          have hgq : gz < wr.heap.size := Nat.lt_of_lt_of_le hgz HQ.out.size
          go_wp2_with fail
          refine (has_any A l c z _ (SQ.out.a.below HQ.out) (by omega)).mono ?_
          rintro e x1 ⟨rfl, h1⟩
          rw [G1.out]
          replace cz0 := (h1.cell (p := ⟨gz, j, none⟩) hgq).trans cz0
          replace hgq := Nat.lt_of_lt_of_le hgq h1.size
          replace HQ := Lib.hid (HQ.out.trans (h1.mono HQ.out.size))
          clear h1
          go_wp2_with fail
          refine (has_any B m d z _ (SQ.out.b.below HQ.out) (by omega)).mono ?_
          rintro e x2 ⟨rfl, h2⟩
          rw [G2.out]
          replace cz0 := (h2.cell (p := ⟨gz, j, none⟩) hgq).trans cz0
          replace hgq := Nat.lt_of_lt_of_le hgq h2.size
          replace HQ := Lib.hid (HQ.out.trans (h2.mono HQ.out.size))
          clear h2
          cases t1 <;> cases t2
          · go_wp2_with fail
            refine (has_any A2 (uni l m) c2 z _ (SQ.out.u.below HQ.out) nu).mono ?_
            rintro e x3 ⟨rfl, h3⟩
            rw [GU.out]
            replace cz0 := (h3.cell (p := ⟨gz, j, none⟩) hgq).trans cz0
            replace hgq := Nat.lt_of_lt_of_le hgq h3.size
            replace HQ := Lib.hid (HQ.out.trans (h3.mono HQ.out.size))
            clear h3
            go_wp2_with fail
            refine (has_any A3 (inter l m) c3 z _ (SQ.out.i.below HQ.out) ni).mono ?_
            rintro e x4 ⟨rfl, h4⟩
            rw [GI.out]
            replace cz0 := (h4.cell (p := ⟨gz, j, none⟩) hgq).trans cz0
            replace hgq := Nat.lt_of_lt_of_le hgq h4.size
            replace HQ := Lib.hid (HQ.out.trans (h4.mono HQ.out.size))
            clear h4
            go_wp2_with fail
            refine (has_any A4 (subt l m) c4 z _ (SQ.out.s.below HQ.out) ns).mono ?_
            rintro e x5 ⟨rfl, h5⟩
            rw [GS.out]
            replace cz0 := (h5.cell (p := ⟨gz, j, none⟩) hgq).trans cz0
            replace hgq := Nat.lt_of_lt_of_le hgq h5.size
            replace HQ := Lib.hid (HQ.out.trans (h5.mono HQ.out.size))
            clear h5
            go_wp2_with fail
            refine (has_any A5 (norm l) c5 z _ (SQ.out.n.below HQ.out) nn).mono ?_
            rintro e x6 ⟨rfl, h6⟩
            rw [GN.out]
            replace cz0 := (h6.cell (p := ⟨gz, j, none⟩) hgq).trans cz0
            replace hgq := Nat.lt_of_lt_of_le hgq h6.size
            replace HQ := Lib.hid (HQ.out.trans (h6.mono HQ.out.size))
            clear h6
            go_wp2
            go_roundw
            case rel => exact ⟨j + 1, by omega, by go_num, HQ.out⟩
            case measure => simp [intOf]; omega
          · go_wp2_with fail
            refine (has_any A2 (uni l m) c2 z _ (SQ.out.u.below HQ.out) nu).mono ?_
            rintro e x3 ⟨rfl, h3⟩
            rw [GU.out]
            replace cz0 := (h3.cell (p := ⟨gz, j, none⟩) hgq).trans cz0
            replace hgq := Nat.lt_of_lt_of_le hgq h3.size
            replace HQ := Lib.hid (HQ.out.trans (h3.mono HQ.out.size))
            clear h3
            go_wp2_with fail
            refine (has_any A3 (inter l m) c3 z _ (SQ.out.i.below HQ.out) ni).mono ?_
            rintro e x4 ⟨rfl, h4⟩
            rw [GI.out]
            replace cz0 := (h4.cell (p := ⟨gz, j, none⟩) hgq).trans cz0
            replace hgq := Nat.lt_of_lt_of_le hgq h4.size
            replace HQ := Lib.hid (HQ.out.trans (h4.mono HQ.out.size))
            clear h4
            go_wp2_with fail
            refine (has_any A4 (subt l m) c4 z _ (SQ.out.s.below HQ.out) ns).mono ?_
            rintro e x5 ⟨rfl, h5⟩
            rw [GS.out]
            replace cz0 := (h5.cell (p := ⟨gz, j, none⟩) hgq).trans cz0
            replace hgq := Nat.lt_of_lt_of_le hgq h5.size
            replace HQ := Lib.hid (HQ.out.trans (h5.mono HQ.out.size))
            clear h5
            go_wp2_with fail
            refine (has_any A5 (norm l) c5 z _ (SQ.out.n.below HQ.out) nn).mono ?_
            rintro e x6 ⟨rfl, h6⟩
            rw [GN.out]
            replace cz0 := (h6.cell (p := ⟨gz, j, none⟩) hgq).trans cz0
            replace hgq := Nat.lt_of_lt_of_le hgq h6.size
            replace HQ := Lib.hid (HQ.out.trans (h6.mono HQ.out.size))
            clear h6
            go_wp2
            go_roundw
            case rel => exact ⟨j + 1, by omega, by go_num, HQ.out⟩
            case measure => simp [intOf]; omega
          · go_wp2_with fail
            refine (has_any A2 (uni l m) c2 z _ (SQ.out.u.below HQ.out) nu).mono ?_
            rintro e x3 ⟨rfl, h3⟩
            rw [GU.out]
            replace cz0 := (h3.cell (p := ⟨gz, j, none⟩) hgq).trans cz0
            replace hgq := Nat.lt_of_lt_of_le hgq h3.size
            replace HQ := Lib.hid (HQ.out.trans (h3.mono HQ.out.size))
            clear h3
            go_wp2_with fail
            refine (has_any A3 (inter l m) c3 z _ (SQ.out.i.below HQ.out) ni).mono ?_
            rintro e x4 ⟨rfl, h4⟩
            rw [GI.out]
            replace cz0 := (h4.cell (p := ⟨gz, j, none⟩) hgq).trans cz0
            replace hgq := Nat.lt_of_lt_of_le hgq h4.size
            replace HQ := Lib.hid (HQ.out.trans (h4.mono HQ.out.size))
            clear h4
            go_wp2_with fail
            refine (has_any A4 (subt l m) c4 z _ (SQ.out.s.below HQ.out) ns).mono ?_
            rintro e x5 ⟨rfl, h5⟩
            rw [GS.out]
            replace cz0 := (h5.cell (p := ⟨gz, j, none⟩) hgq).trans cz0
            replace hgq := Nat.lt_of_lt_of_le hgq h5.size
            replace HQ := Lib.hid (HQ.out.trans (h5.mono HQ.out.size))
            clear h5
            go_wp2_with fail
            refine (has_any A5 (norm l) c5 z _ (SQ.out.n.below HQ.out) nn).mono ?_
            rintro e x6 ⟨rfl, h6⟩
            rw [GN.out]
            replace cz0 := (h6.cell (p := ⟨gz, j, none⟩) hgq).trans cz0
            replace hgq := Nat.lt_of_lt_of_le hgq h6.size
            replace HQ := Lib.hid (HQ.out.trans (h6.mono HQ.out.size))
            clear h6
            go_wp2
            go_roundw
            case rel => exact ⟨j + 1, by omega, by go_num, HQ.out⟩
            case measure => simp [intOf]; omega
          · go_wp2_with fail
            refine (has_any A2 (uni l m) c2 z _ (SQ.out.u.below HQ.out) nu).mono ?_
            rintro e x3 ⟨rfl, h3⟩
            rw [GU.out]
            replace cz0 := (h3.cell (p := ⟨gz, j, none⟩) hgq).trans cz0
            replace hgq := Nat.lt_of_lt_of_le hgq h3.size
            replace HQ := Lib.hid (HQ.out.trans (h3.mono HQ.out.size))
            clear h3
            go_wp2_with fail
            refine (has_any A3 (inter l m) c3 z _ (SQ.out.i.below HQ.out) ni).mono ?_
            rintro e x4 ⟨rfl, h4⟩
            rw [GI.out]
            replace cz0 := (h4.cell (p := ⟨gz, j, none⟩) hgq).trans cz0
            replace hgq := Nat.lt_of_lt_of_le hgq h4.size
            replace HQ := Lib.hid (HQ.out.trans (h4.mono HQ.out.size))
            clear h4
            go_wp2_with fail
            refine (has_any A4 (subt l m) c4 z _ (SQ.out.s.below HQ.out) ns).mono ?_
            rintro e x5 ⟨rfl, h5⟩
            rw [GS.out]
            replace cz0 := (h5.cell (p := ⟨gz, j, none⟩) hgq).trans cz0
            replace hgq := Nat.lt_of_lt_of_le hgq h5.size
            replace HQ := Lib.hid (HQ.out.trans (h5.mono HQ.out.size))
            clear h5
            go_wp2_with fail
            refine (has_any A5 (norm l) c5 z _ (SQ.out.n.below HQ.out) nn).mono ?_
            rintro e x6 ⟨rfl, h6⟩
            rw [GN.out]
            replace cz0 := (h6.cell (p := ⟨gz, j, none⟩) hgq).trans cz0
            replace hgq := Nat.lt_of_lt_of_le hgq h6.size
            replace HQ := Lib.hid (HQ.out.trans (h6.mono HQ.out.size))
            clear h6
            go_wp2
            go_roundw
            case rel => exact ⟨j + 1, by omega, by go_num, HQ.out⟩
            case measure => simp [intOf]; omega
        · go_wp2
          go_ret
          exact ⟨rfl, via BQ.out HQ.out⟩
end Go.Proofs.Ytamnlhlocidbkaa
