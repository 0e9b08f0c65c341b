/-
  The contracts of slices.Grow at nil, slices.Concat at two lists, span.Union and span.Same.
-/
import Derived.Test.YtamnlhlocidbkaaNorm
import Derived.Test.YtamnlhlocidbkaaEqual
import Derived.Lib.AppendZeros
namespace Go.Proofs.Ytamnlhlocidbkaa
open Go.RowKit
open Sp (Sn Mem Val norm uni inter subt)
theorem run_app_empty {w : World} {base : Nat} {v : Value} {l : List Sn} (h : Own w base v l) (A : Option Addr) (c : Nat) (ty : TypeId) : (Builtin.append_ #[22, 22] ty #[v, .slice A 0 c]).run Try.prog w = .ok v w := by
  obtain ⟨i0, hi, _⟩ := info_parts info30
  have hl0 : ∀ (a : Addr) (w : World), (loadCells a 0).run Try.prog w = .ok #[] w := fun _ _ => rfl
  rcases h.2 with ⟨rfl, _⟩ | ⟨g, cap, cur, rfl, _, _, hnc, _⟩
  · cases A <;> simp [Builtin.append_, run_underlying Try.underlying22, sizeOf, typeInfo, hi, Builtin.lenOf, Builtin.firstCells, hl0]
  · cases A <;> simp [Builtin.append_, run_underlying Try.underlying22, sizeOf, typeInfo, hi, Builtin.lenOf, Builtin.firstCells, hnc, storeCells, hl0]
section
variable {w : World} {ops : Array Oper} {rest : List Oper} {o : Oper} {a : Act} {Q : Exit → Act → World → Prop}
/-- 'out = append(out, m...)', m readable, nil or not -/
theorem appAny (hgd : o.guard = none) (s x : Operand) (ho : o.op = .call { callee := .builtin .append, args := #[s, x], argTypes := #[22, 22] })
    (base : Nat) (v : Value) (l : List Sn) (hs : a.eval s = v) (hown : Own w base v l) (m : List Sn) (A : Option Addr) (c : Nat) (hx : a.eval x = .slice A m.length c)
    (hr : Rd w A m) (hl : l.length + m.length ≤ 1000000) (hbase : base ≤ w.heap.size)
    (h : ∀ v' w', Own w' base v' (l ++ m) → w.grownBy w' v.ownBlock → wpList Try.prog ops Q rest (a.put o.dst v') w') :
    wpList Try.prog ops Q (o :: rest) a w := by
  by_cases hm : 0 < m.length
  · obtain ⟨g0, off, rfl, _, hc⟩ := hr hm
    exact appN hgd s x ho base v l hs hown m g0 off c hx hc hm hl hbase w.heap.size rfl fun g cap w' h1 h2 _ _ => h _ w' h1 h2
  · obtain rfl : m = [] := List.eq_nil_of_length_eq_zero (by omega)
    refine Lib.wpList_append_run w hgd s x 22 22 ho v (.slice A 0 c) hs hx v w (run_app_empty hown A c _) (h v w (by rw [List.append_nil]; exact hown) (World.grownBy.refl w _))
end
def GrowPost (w : World) (e : Ending) (w' : World) : Prop := ∃ v, e = .returned v ∧ Own w' w.heap.size v [] ∧ Below w.heap.size w w'
theorem own_zeros {w : World} {n : Nat} (hn : n ≤ 1000000) {z : Value} (hz : z.cells.size = 2) :
    Own (w.drew.alloc (.cells (Builtin.zeroCells z.cells n ++ Builtin.zeroCells z.cells (grownCap w n 0 30 - n)) 30)) w.heap.size (.slice (some ⟨w.heap.size, 0, none⟩) 0 (grownCap w n 0 30)) [] := by
  have h1 := grownCap_ge w n 0 30
  have h2 := grownCap_le_maxLen w n 0 30 (by unfold maxLen; omega)
  refine ⟨rfl, .inr ⟨w.heap.size, grownCap w n 0 30, _, rfl, Nat.le_refl _, heap_alloc_new w.drew _, Nat.zero_le _, h2, ?_, rfl⟩⟩
  rw [Array.size_append, size_zeroCells, size_zeroCells, hz]
  omega
set_option maxHeartbeats 400000 in
theorem grow_any (n : Nat) (w : World) (hn : n ≤ 1000000) : Calls Try.prog 53 #[.slice none 0 0, .int .i64 n] w (GrowPost w) := by
  obtain ⟨i0, hi0, hz0, hz1, hz2⟩ := info_parts info30
  by_cases h0 : 0 < n
  · have hrun := fun ty => Lib.run_append_nil_zeros (P := Try.prog) w 22 3 ty 30 i0 _ .i64 .i64 Try.underlying22 Try.underlying3 hi0 hz0 n h0 (by omega) (by omega) (by rw [hz2]; omega)
    have HR := Lib.hid hrun
    have HO := Lib.hid (own_zeros (w := w) hn (z := .agg #[.int .i64 0, .int .i64 0]) rfl)
    have hge := grownCap_ge w n 0 30
    have hle := grownCap_le_maxLen w n 0 30 (by unfold maxLen; omega)
    unfold maxLen at hle
    clear hrun hi0 hz0 hz1 hz2
    generalize grownCap w n 0 30 = cap at *
    go_enter Try.func53, Try.ntmps53
    go_wp2_with (at_builtin; refine Lib.wpList_append_run _ rfl _ _ _ _ rfl _ _ rfl rfl _ _ (HR.out _) ?_)
    go_ret
    exact ⟨_, rfl, HO.out, ((Below.refl _ _).drew).alloc (Nat.le_refl _) _⟩
  · obtain rfl : n = 0 := by omega
    clear hi0 hz0 hz1 hz2
    go_enter Try.func53, Try.ntmps53
    go_wp2
    go_ret
    exact ⟨_, rfl, Own.nil _ _, Below.refl _ _⟩
theorem grow_at (x : Int) (w : World) (h0 : 0 ≤ x) (hn : x ≤ 1000000) : Calls Try.prog 53 #[.slice none 0 0, .int .i64 x] w (GrowPost w) := by
  obtain ⟨n, rfl⟩ : ∃ n : Nat, x = n := ⟨x.toNat, by omega⟩
  exact grow_any n w (by omega)
set_option maxHeartbeats 1000000 in
theorem concat_any (g : Nat) (A B : Option Addr) (l m : List Sn) (c d : Nat) (w : World) (hg : g < w.heap.size) (h0 : w.cell? ⟨g, 0, none⟩ = some (.slice A l.length c)) (h1 : w.cell? ⟨g, 1, none⟩ = some (.slice B m.length d))
    (hR : Rd w A l) (hS : Rd w B m) (hl : l.length ≤ 100000) (hm : m.length ≤ 100000) :
    Calls Try.prog 44 #[.slice (some ⟨g, 0, none⟩) 2 2] w (RetS w (l ++ m)) := by
  have R := Lib.hid hR
  have S := Lib.hid hS
  clear hR hS
  go_enter Try.func44, Try.ntmps44
  go_wp2
  refine wp_loop_rounds 3 ?_
  rw [rounds_succ]
  go_wp2
  rw [rounds_succ]
  go_wp2
  rw [rounds_succ]
  go_wp2_with fail
  refine (grow_at _ _ (by omega) (by omega)).mono ?_
  rintro e w1 ⟨v, rfl, ho, hb⟩
  have q0 : w1.cell? ⟨g, 0, none⟩ = some (.slice A l.length c) := (hb.cell (p := ⟨g, 0, none⟩) hg).trans h0
  have q1 : w1.cell? ⟨g, 1, none⟩ = some (.slice B m.length d) := (hb.cell (p := ⟨g, 1, none⟩) hg).trans h1
  have O := Lib.hid ho
  have HB := Lib.hid hb
  clear h0 h1 ho hb
  go_wp2
  refine wp_loop_rounds 3 ?_
  rw [rounds_succ]
  go_wp2_with (at_builtin; refine appAny rfl (.tmp 31) (.tmp 32) rfl w.heap.size v [] rfl O.out l A c rfl (R.out.below HB.out) (by simp; omega) HB.out.size ?_; intro v2 w2 ho2 hg2)
  have hb2 : Below w.heap.size w w2 := HB.out.grown hg2 HB.out.size (fun k hk => (O.out.lt k hk).1)
  have q2 : w2.cell? ⟨g, 1, none⟩ = some (.slice B m.length d) := (hb2.cell (p := ⟨g, 1, none⟩) hg).trans (((HB.out.cell (p := ⟨g, 1, none⟩) hg)).symm.trans q1)
  have HB2 := Lib.hid hb2
  have O2 := Lib.hid ho2
  clear hb2 ho2 hg2 q0 q1
  rw [rounds_succ]
  go_wp2_with (at_builtin; refine appAny rfl (.tmp 31) (.tmp 32) rfl w.heap.size v2 ([] ++ l) rfl O2.out m B d rfl (S.out.below HB2.out) (by simp; omega) HB2.out.size ?_; intro v3 w3 ho3 hg3)
  rw [rounds_succ]
  go_wp2
  go_ret
  exact ho3.ret (HB2.out.grown hg3 HB2.out.size (fun k hk => (O2.out.lt k hk).1))
set_option maxHeartbeats 400000 in
theorem union_any (A B : Option Addr) (l m : List Sn) (c d : Nat) (w : World) (hR : Rd w A l) (hS : Rd w B m) (hl : l.length ≤ 40000) (hm : m.length ≤ 40000) :
    Calls Try.prog 22 #[.slice A l.length c, .slice B m.length d] w (RetS w (uni l m)) := by
  have hkl : (l ++ m).length ≤ 100000 := by simp; omega
  unfold uni
  obtain ⟨k, hk⟩ : ∃ k, l ++ m = k := ⟨_, rfl⟩
  rw [hk] at hkl ⊢
  have HK := Lib.hid hk
  clear hk
  have R := Lib.hid hR
  have S := Lib.hid hS
  clear hR hS
  go_enter Try.func22, Try.ntmps22
  go_wp2_with fail
  refine (concat_any w.heap.size A B l m c d _ (by simp) (by simp) (by simp) (R.out.alloc _) (S.out.alloc _) (by omega) (by omega)).mono ?_
  rintro e w1 ⟨A1, c1, rfl, hc1, hA1, hb1⟩
  rw [HK.out] at hA1 hc1 ⊢
  have R1 := Lib.hid hA1
  have B1 := Lib.hid (((Below.refl w.heap.size w).alloc (Nat.le_refl _) (.cells #[.slice A l.length c, .slice B m.length d] 22)).trans (hb1.mono (by simp)))
  clear hA1 hb1
  go_wp2_with fail
  refine (normal_any A1 k c1 _ R1.out hkl).mono ?_
  rintro e w2 ⟨A2, c2, rfl, hc2, hA2, hb2⟩
  go_wp2
  go_ret
  exact ⟨A2, c2, rfl, hc2, hA2, B1.out.trans (hb2.mono B1.out.size)⟩
set_option maxHeartbeats 400000 in
theorem same_any (A B : Option Addr) (l m : List Sn) (c d : Nat) (w : World) (hR : Rd w A l) (hS : Rd w B m) (hl : l.length ≤ 100000) (hm : m.length ≤ 100000) :
    Calls Try.prog 18 #[.slice A l.length c, .slice B m.length d] w fun e w' => e = .returned (.bool (eqB (norm l) (norm m))) ∧ Below w.heap.size w w' := by
  have R := Lib.hid hR
  have S := Lib.hid hS
  clear hR hS
  have n1 : (norm l).length ≤ 100000 := Nat.le_trans (Sp.norm_len _) hl
  have n2 : (norm m).length ≤ 100000 := Nat.le_trans (Sp.norm_len _) hm
  go_enter Try.func18, Try.ntmps18
  go_wp2_with fail
  refine (normal_any A l c _ R.out hl).mono ?_
  rintro e w1 ⟨A1, c1, rfl, _, hA1, hb1⟩
  have R1 := Lib.hid hA1
  have B1 := Lib.hid hb1
  clear hA1 hb1
  go_wp2_with fail
  refine (normal_any B m d _ (S.out.below B1.out) hm).mono ?_
  rintro e w2 ⟨A2, c2, rfl, _, hA2, hb2⟩
  have R2 := Lib.hid hA2
  have B2 := Lib.hid hb2
  clear hA2 hb2
  go_wp2_with fail
  refine (sequal_any A1 A2 (norm l) (norm m) c1 c2 _ (R1.out.below B2.out) R2.out n1 n2).mono ?_
  rintro e w3 ⟨rfl, hb3⟩
  go_wp2
  go_ret
  exact ⟨rfl, (B1.out.trans (B2.out.mono B1.out.size)).trans (hb3.mono (Nat.le_trans B1.out.size B2.out.size))⟩
end Go.Proofs.Ytamnlhlocidbkaa
