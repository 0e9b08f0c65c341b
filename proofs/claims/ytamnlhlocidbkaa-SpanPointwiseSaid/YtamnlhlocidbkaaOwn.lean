/-
  A slice of spans that the call itself made: the cells that hold a list; append of one span, of a list; what a call's own slice reads as.
-/
import Derived.Test.YtamnlhlocidbkaaBase
import Derived.OwnWalk
import Derived.Laws.OwnMore
import Derived.Maps.AppendAt
import Derived.Deep.AppendLies
import Derived.Deep.OwnRows
namespace Go.Proofs.Ytamnlhlocidbkaa
open Go.RowKit
open Sp (Sn Mem Val norm uni inter subt)
def cellsOf : List Sn → List Value
  | [] => []
  | s :: l => .int .i64 s.1 :: .int .i64 s.2 :: cellsOf l
theorem cellsOf_len : ∀ l : List Sn, (cellsOf l).length = l.length * 2
  | [] => rfl
  | s :: l => by simp only [cellsOf, List.length_cons, cellsOf_len l]; omega
theorem cellsOf_append : ∀ l m : List Sn, cellsOf (l ++ m) = cellsOf l ++ cellsOf m
  | [], _ => rfl
  | s :: l, m => by simp only [cellsOf, List.cons_append, cellsOf_append l m]
theorem cellsOf_one : ∀ l : List Sn, ∀ u ∈ cellsOf l, u.oneCell' = true
  | [], u, h => by cases h
  | s :: l, u, h => by
    simp only [cellsOf, List.mem_cons] at h
    rcases h with rfl | rfl | h
    · rfl
    · rfl
    · exact cellsOf_one l u h
theorem cellsOf_get : ∀ (l : List Sn) (j : Nat), j < l.length → (cellsOf l)[j * 2]? = some (.int .i64 (el l j).1) ∧ (cellsOf l)[j * 2 + 1]? = some (.int .i64 (el l j).2)
  | [], j, h => absurd h (by simp)
  | s :: l, 0, _ => ⟨rfl, rfl⟩
  | s :: l, j + 1, h => by
    have := cellsOf_get l j (by simpa using h)
    simp only [cellsOf, show (j + 1) * 2 = j * 2 + 1 + 1 by omega, List.getElem?_cons_succ]
    exact this
theorem cellsOf_set : ∀ (l : List Sn) (j : Nat) (b : Int), (cellsOf l).set (j * 2 + 1) (.int .i64 b) = cellsOf (l.set j ((el l j).1, b))
  | [], j, b => by simp [cellsOf]
  | s :: l, 0, b => rfl
  | s :: l, j + 1, b => by
    simp only [cellsOf, show (j + 1) * 2 + 1 = j * 2 + 1 + 1 + 1 by omega, List.set_cons_succ, cellsOf_set l j b]
    rfl
theorem info30 : (Try.prog.info? 30).map (fun i => (i.zero, i.size, i.bytes)) = some (some (.agg #[.int .i64 0, .int .i64 0]), 2, 16) := by kernel_rfl
/-- v is a slice of the call's own (from block base on) that holds l -/
def Own (w : World) (base : Nat) (v : Value) (l : List Sn) : Prop := w.ownsRow base 30 2 v l.length (cellsOf l)
theorem Own.nil (w : World) (base : Nat) : Own w base (.slice none 0 0) [] := World.ownsRow_nil w base 30 2
theorem Own.rd {w : World} {base : Nat} {v : Value} {l : List Sn} (h : Own w base v l) : ∃ A c, v = .slice A l.length c ∧ l.length ≤ c ∧ c ≤ maxLen ∧ Rd w A l := by
  rcases h.2 with ⟨rfl, h0⟩ | ⟨g, cap, cur, rfl, hb, hg, hnc, hcm, hcs, htake⟩
  · refine ⟨none, 0, by rw [h0], by omega, Nat.zero_le _, fun hl => absurd hl (by omega)⟩
  · refine ⟨_, cap, rfl, hnc, hcm, fun hl => ⟨g, 0, rfl, (h.lt g rfl).2, fun j hj => ?_⟩⟩
    have h1 := World.ownsRow.cellAt h (j * 2) (by omega)
    have h2 := World.ownsRow.cellAt h (j * 2 + 1) (by omega)
    obtain ⟨e1, e2⟩ := cellsOf_get l j hj
    rw [Nat.zero_add]
    exact ⟨h1.trans e1, h2.trans e2⟩
theorem Own.alloc {w : World} {base : Nat} {v : Value} {l : List Sn} (h : Own w base v l) (o : Obj) : Own (w.alloc o) base v l := World.ownsRow.alloc h o
theorem Own.drewN {w : World} {base : Nat} {v : Value} {l : List Sn} (h : Own w base v l) (n : Nat) : Own (w.drewN n) base v l := h
theorem Own.lt {w : World} {base : Nat} {v : Value} {l : List Sn} (h : Own w base v l) : ∀ k, v.ownBlock = some k → base ≤ k ∧ k < w.heap.size := World.ownsRow.lt h
theorem Own.below {w w' : World} {base : Nat} {v : Value} {l : List Sn} (h : Own w base v l) (hb : Below w.heap.size w w') : Own w' base v l := by
  rcases h.2 with ⟨rfl, h0⟩ | ⟨g, cap, cur, rfl, hg, hh, r⟩
  · exact ⟨h.1, .inl ⟨rfl, h0⟩⟩
  · exact ⟨h.1, .inr ⟨g, cap, cur, rfl, hg, (hb.block g (h.lt g rfl).2).trans hh, r⟩⟩
/-- where the row does not lie, a growth elsewhere leaves it -/
theorem Own.kept {w w' : World} {base : Nat} {v : Value} {l : List Sn} {row : Option Nat} (h : Own w base v l) (hg : w.grownBy w' row) (hne : v.ownBlock = none ∨ v.ownBlock ≠ row) : Own w' base v l := World.ownsRow.kept h hg hne
theorem Own.far {w : World} {base : Nat} {v : Value} {l : List Sn} (h : Own w base v l) {p : Addr} (hp : v.ownBlock ≠ some p.block) (u : Value) : Own (w.setCell p u) base v l := by
  rcases h.2 with ⟨rfl, h0⟩ | ⟨g, cap, cur, rfl, hg, hh, r⟩
  · exact ⟨h.1, .inl ⟨rfl, h0⟩⟩
  · exact ⟨h.1, .inr ⟨g, cap, cur, rfl, hg, (Below.heap_setCell w p u g (fun e => hp (by rw [← e]; rfl))).trans hh, r⟩⟩
theorem Own.ret {w w' : World} {base : Nat} {v : Value} {l : List Sn} (h : Own w' base v l) (hb : Below w.heap.size w w') : RetS w l (.returned v) w' := by
  obtain ⟨A, c, rfl, hc, _, hr⟩ := h.rd
  exact ⟨A, c, rfl, hc, hr, hb⟩
section
variable {w : World} {ops : Array Oper} {rest : List Oper} {o : Oper} {a : Act} {Q : Exit → Act → World → Prop}
/-- 'out = append(out, t)', the span t laid in a new block -/
theorem app1 (hgd : o.guard = none) (s x : Operand) (ho : o.op = .call { callee := .builtin .append, args := #[s, x], argTypes := #[22, 22] })
    (base : Nat) (v : Value) (l : List Sn) (hs : a.eval s = v) (hown : Own w base v l) (t : Sn) (B : Nat) (hx : a.eval x = .slice (some ⟨B, 0, none⟩) 1 1)
    (hb : w.heap[B]? = some (.cells #[.int .i64 t.1, .int .i64 t.2] 30 (0, 0))) (hl : l.length ≤ 1000000) (hbase : base ≤ w.heap.size) (H : Nat) (hH : w.heap.size = H)
    (h : ∀ g cap w', Own w' base (.slice (some ⟨g, 0, none⟩) (l.length + 1) cap) (l ++ [t]) → w.grownBy w' v.ownBlock → (v.ownBlock = some g ∨ g = H) → g < w'.heap.size → wpList Try.prog ops Q rest (a.put o.dst (.slice (some ⟨g, 0, none⟩) (l.length + 1) cap)) w') :
    wpList Try.prog ops Q (o :: rest) a w := by
  obtain ⟨i0, hi0, hz0, hz1, hz2⟩ := info_parts info30
  refine wpList_append_lies w hgd s x 22 ho base 30 i0 _ 2 16 Try.underlying22 hi0 hz0 hz1 hz2 rfl (by omega) v l.length (cellsOf l) hs hown ⟨B, 0, none⟩ 1 1 (cellsOf [t]) hx rfl (World.news_of_block hb) (cellsOf_one _) (by omega) (by unfold maxLen; omega) (by omega) hbase H hH ?_
  intro g cap w' ho' hg hat hlt
  rw [← cellsOf_append] at ho'
  exact h g cap w' (by unfold Own; rw [List.length_append]; exact ho') hg hat hlt
/-- 'out = append(out, m...)', m not empty and readable -/
theorem appN (hgd : o.guard = none) (s x : Operand) (ho : o.op = .call { callee := .builtin .append, args := #[s, x], argTypes := #[22, 22] })
    (base : Nat) (v : Value) (l : List Sn) (hs : a.eval s = v) (hown : Own w base v l) (m : List Sn) (g0 off c : Nat) (hx : a.eval x = .slice (some ⟨g0, off, none⟩) m.length c)
    (hr : ∀ j, j < m.length → w.cell? ⟨g0, off + j * 2, none⟩ = some (.int .i64 (el m j).1) ∧ w.cell? ⟨g0, off + j * 2 + 1, none⟩ = some (.int .i64 (el m j).2)) (hm : 0 < m.length) (hl : l.length + m.length ≤ 1000000) (hbase : base ≤ w.heap.size) (H : Nat) (hH : w.heap.size = H)
    (h : ∀ g cap w', Own w' base (.slice (some ⟨g, 0, none⟩) (l.length + m.length) cap) (l ++ m) → w.grownBy w' v.ownBlock → (v.ownBlock = some g ∨ g = H) → g < w'.heap.size → wpList Try.prog ops Q rest (a.put o.dst (.slice (some ⟨g, 0, none⟩) (l.length + m.length) cap)) w') :
    wpList Try.prog ops Q (o :: rest) a w := by
  obtain ⟨i0, hi0, hz0, hz1, hz2⟩ := info_parts info30
  refine wpList_append_lies w hgd s x 22 ho base 30 i0 _ 2 16 Try.underlying22 hi0 hz0 hz1 hz2 rfl (by omega) v l.length (cellsOf l) hs hown ⟨g0, off, none⟩ m.length c (cellsOf m) hx (cellsOf_len m) ?_ (cellsOf_one _) hm (by unfold maxLen; omega) (by omega) hbase H hH ?_
  · intro j u hu
    have hj : j < m.length * 2 := by
      rcases Nat.lt_or_ge j (m.length * 2) with h | h
      · exact h
      · rw [List.getElem?_eq_none (by rw [cellsOf_len]; exact h)] at hu; cases hu
    obtain ⟨e1, e2⟩ := cellsOf_get m (j / 2) (by omega)
    obtain ⟨r1, r2⟩ := hr (j / 2) (by omega)
    have hadd : (⟨g0, off, none⟩ : Addr).add j = ⟨g0, off + j, none⟩ := by unfold Addr.add; split <;> simp_all
    rw [hadd]
    rcases Nat.mod_two_eq_zero_or_one j with h0 | h0
    · rw [show j / 2 * 2 = j by omega] at e1
      rw [show off + j / 2 * 2 = off + j by omega] at r1
      rw [r1, ← hu, e1]
    · rw [show j / 2 * 2 + 1 = j by omega] at e2
      rw [show off + j / 2 * 2 + 1 = off + j by omega] at r2
      rw [r2, ← hu, e2]
  · intro g cap w' ho' hg hat hlt
    rw [← cellsOf_append] at ho'
    exact h g cap w' (by unfold Own; rw [List.length_append]; exact ho') hg hat hlt
/-- 'append(v, nil...)' -/
theorem app0 (hgd : o.guard = none) (s x : Operand) (ho : o.op = .call { callee := .builtin .append, args := #[s, x], argTypes := #[22, 22] })
    (base : Nat) (v : Value) (l : List Sn) (hs : a.eval s = v) (hown : Own w base v l) (hx : a.eval x = .slice none 0 0)
    (h : wpList Try.prog ops Q rest (a.put o.dst v) w) : wpList Try.prog ops Q (o :: rest) a w := by
  obtain ⟨i0, hi0, _⟩ := info_parts info30
  have hr := run_append_owned_none (P := Try.prog) w base 22 o.type 30 i0 2 Try.underlying22 hi0 v l.length (cellsOf l) hown
  refine wpList_plain hgd fun K hK => ?_
  unfold Oper.wp execOp
  simp only [ho, resolve, invoke, builtin, Sem.run_bind, Sem.run_pure, Result.andThen_ok, List.map_toArray, List.map_cons, List.map_nil, hs, hx, hr]
  exact hK _ _ h
end
end Go.Proofs.Ytamnlhlocidbkaa
