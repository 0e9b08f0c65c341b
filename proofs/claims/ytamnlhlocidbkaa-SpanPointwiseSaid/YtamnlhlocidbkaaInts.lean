/-
  A row of ints that a law makes itself: append of four, and reading it.
-/
import Derived.Test.YtamnlhlocidbkaaLaw0
import Derived.Test.YtamnlhlocidbkaaUnion
import Derived.Deep.AppendLies
namespace Go.Proofs.Ytamnlhlocidbkaa
open Go.RowKit
open Sp (Sn Mem Val norm uni inter subt)
def cellsZ (zs : List Int) : List Value := zs.map (Value.int .i64)
theorem info3 : (Try.prog.info? 3).map (fun i => (i.zero, i.size, i.bytes)) = some (some (.int .i64 0), 1, 8) := by kernel_rfl
def OwnZ (w : World) (base : Nat) (v : Value) (zs : List Int) : Prop := w.ownsRow base 3 1 v zs.length (cellsZ zs)
theorem OwnZ.alloc {w : World} {base : Nat} {v : Value} {zs : List Int} (h : OwnZ w base v zs) (o : Obj) : OwnZ (w.alloc o) base v zs := World.ownsRow.alloc h o
theorem OwnZ.drewN {w : World} {base : Nat} {v : Value} {zs : List Int} (h : OwnZ w base v zs) (n : Nat) : OwnZ (w.drewN n) base v zs := h
theorem OwnZ.one (w : World) (x : Int) : OwnZ (w.alloc (.cells #[.int .i64 x] 3)) w.heap.size (.slice (some ⟨w.heap.size, 0, none⟩) 1 1) [x] :=
  ⟨rfl, .inr ⟨w.heap.size, 1, _, rfl, Nat.le_refl _, heap_alloc_new w _, Nat.le_refl _, by decide, rfl, rfl⟩⟩
theorem Own.none (w : World) : Own (w.alloc (.cells #[] 30)) w.heap.size (.slice (some ⟨w.heap.size, 0, Option.none⟩) 0 0) [] :=
  ⟨rfl, .inr ⟨w.heap.size, 0, _, rfl, Nat.le_refl _, heap_alloc_new w _, Nat.le_refl _, by decide, rfl, rfl⟩⟩
theorem OwnZ.at_ {w : World} {base : Nat} {v : Value} {zs : List Int} (h : OwnZ w base v zs) {k : Nat} (hk : k < zs.length) :
    ∃ g cap, v = .slice (some ⟨g, 0, Option.none⟩) zs.length cap ∧ g < w.heap.size ∧ w.cell? ⟨g, k, Option.none⟩ = some (.int .i64 (zs.getD k 0)) := by
  obtain ⟨g, cap, rfl, _, hg⟩ := World.ownsRow.form h (by omega)
  refine ⟨g, cap, rfl, hg, ?_⟩
  have hc := World.ownsRow.cells h (g := g) rfl k (.int .i64 (zs.getD k 0)) (by simp [cellsZ, hk])
  have hadd : (⟨g, 0, Option.none⟩ : Addr).add k = ⟨g, k, Option.none⟩ := by unfold Addr.add; split <;> simp_all
  rwa [hadd] at hc
theorem Own.rdAt {w : World} {base : Nat} {A : Option Addr} {c : Nat} {l : List Sn} (h : Own w base (.slice A l.length c) l) : Rd w A l := by
  obtain ⟨A', c', e, _, _, hr⟩ := h.rd
  cases e
  exact hr
section
variable {w : World} {ops : Array Oper} {o : Oper} {a : Act} {K : Act → World → Prop} {Q : Exit → Act → World → Prop} {E : Prop}
theorem stepApp4 (hgd : o.guard = none) (s x : Operand) (ho : o.op = .call { callee := .builtin .append, args := #[s, x], argTypes := #[36, 36] })
    (base : Nat) (v : Value) (zs : List Int) (hs : a.eval s = v) (hown : OwnZ w base v zs) (z0 z1 z2 z3 : Int) (B : Nat) (hx : a.eval x = .slice (some ⟨B, 0, none⟩) 4 4)
    (hb : w.heap[B]? = some (.cells #[.int .i64 z0, .int .i64 z1, .int .i64 z2, .int .i64 z3] 3 (0, 0))) (hl : zs.length ≤ 1000000) (hbase : base ≤ w.heap.size)
    (h : ∀ g cap w', OwnZ w' base (.slice (some ⟨g, 0, none⟩) (zs.length + 4) cap) (zs ++ [z0, z1, z2, z3]) → w.grownBy w' v.ownBlock → (v.ownBlock = some g ∨ g = w.heap.size) → K (a.put o.dst (.slice (some ⟨g, 0, none⟩) (zs.length + 4) cap)) w') :
    if Region.wanted o (yielded ops a.tmps) = true then Oper.wp Try.prog o a w K Q else E := by
  obtain ⟨i0, hi0, hz0, hz1, hz2⟩ := info_parts info3
  refine step_append_lies w hgd s x 36 ho base 3 i0 _ 1 8 Try.underlying36 hi0 hz0 hz1 hz2 rfl (by omega) v zs.length (cellsZ zs) hs hown ⟨B, 0, none⟩ 4 4 (cellsZ [z0, z1, z2, z3]) hx rfl (World.news_of_block hb) (by simp [cellsZ, Value.oneCell']) (by omega) (by unfold maxLen; omega) (by omega) hbase w.heap.size rfl ?_
  intro g cap w' ho' hg hat hlt
  refine h g cap w' ?_ hg hat
  unfold OwnZ
  rw [List.length_append]
  simpa [cellsZ] using ho'
end
end Go.Proofs.Ytamnlhlocidbkaa
