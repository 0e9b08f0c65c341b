/-
  Words for memory: a slice of spans that reads as a list, whatever its address.
-/
import Derived.Test.YtamnlhlocidbkaaProg
import Derived.Test.YtamnlhlocidbkaaPlainB
import Derived.WalkKit
import Derived.WalkSpells
import Derived.WalkLawsBesides
import Derived.Handy
import Derived.Lib.Hide
import Derived.BigQuiet
import Derived.Deep.QuietTactic
import Derived.Deep.Draws
namespace Go.Proofs.Ytamnlhlocidbkaa
open Go.RowKit
open Sp (Sn Mem Val norm uni inter subt)
/-- the slice at address A holds the spans l -/
def Rd (w : World) (A : Option Addr) (l : List Sn) : Prop :=
  0 < l.length → ∃ g off, A = some ⟨g, off, none⟩ ∧ g < w.heap.size ∧ ∀ j, j < l.length → w.cell? ⟨g, off + j * 2, none⟩ = some (.int .i64 (el l j).1) ∧ w.cell? ⟨g, off + j * 2 + 1, none⟩ = some (.int .i64 (el l j).2)
theorem Rd.at_ {w : World} {A : Option Addr} {l : List Sn} (h : Rd w A l) {k : Nat} (hk : k < l.length) :
    ∃ g off, A = some ⟨g, off, none⟩ ∧ g < w.heap.size ∧ w.cell? ⟨g, off + k * 2, none⟩ = some (.int .i64 (el l k).1) ∧ w.cell? ⟨g, off + k * 2 + 1, none⟩ = some (.int .i64 (el l k).2) := by
  obtain ⟨g, off, e, hg, hc⟩ := h (by omega)
  exact ⟨g, off, e, hg, hc k hk⟩
theorem Rd.below {w w' : World} {A : Option Addr} {l : List Sn} (h : Rd w A l) (hb : Below w.heap.size w w') : Rd w' A l := fun hl => by
  obtain ⟨g, off, e, hg, hc⟩ := h hl
  refine ⟨g, off, e, Nat.lt_of_lt_of_le hg hb.size, fun j hj => ?_⟩
  exact ⟨(hb.cell (p := ⟨g, off + j * 2, none⟩) hg).trans (hc j hj).1, (hb.cell (p := ⟨g, off + j * 2 + 1, none⟩) hg).trans (hc j hj).2⟩
theorem Rd.nil {w : World} {A : Option Addr} : Rd w A [] := fun h => absurd h (by simp)
theorem Rd.drewN {w : World} {A : Option Addr} {l : List Sn} (h : Rd w A l) (n : Nat) : Rd (w.drewN n) A l := h
theorem Rd.alloc {w : World} {A : Option Addr} {l : List Sn} (h : Rd w A l) (o : Obj) : Rd (w.alloc o) A l := h.below ((Below.refl _ _).alloc (Nat.le_refl _) o)
theorem Rd.take {w : World} {A : Option Addr} {l : List Sn} (h : Rd w A l) (k : Nat) : Rd w A (l.take k) := fun hl => by
  simp only [List.length_take] at hl
  obtain ⟨g, off, e, hg, hc⟩ := h (by omega)
  refine ⟨g, off, e, hg, fun j hj => ?_⟩
  simp only [List.length_take] at hj
  have he : el (l.take k) j = el l j := by
    rw [el_eq (by simp; omega), el_eq (by omega)]; simp
  rw [he]
  exact hc j (by omega)
theorem ret_bool {a b : Bool} (h : a = b) : Ending.returned (.bool a) = .returned (.bool b) := by rw [h]
theorem ret_int {k : IntKind} {a b : Int} (h : a = b) : Ending.returned (.int k a) = .returned (.int k b) := by rw [h]
theorem below_drewN {B : Nat} {a w : World} (h : Below B a w) (n : Nat) : Below B a (w.drewN n) := ⟨h.os, h.tape, h.output, h.size, h.block⟩
/-- what a call that returns a slice leaves behind: the slice holds l; what was there is as it was -/
def RetS (w : World) (l : List Sn) (e : Ending) (w' : World) : Prop := ∃ A c, e = .returned (.slice A l.length c) ∧ l.length ≤ c ∧ Rd w' A l ∧ Below w.heap.size w w'
end Go.Proofs.Ytamnlhlocidbkaa
