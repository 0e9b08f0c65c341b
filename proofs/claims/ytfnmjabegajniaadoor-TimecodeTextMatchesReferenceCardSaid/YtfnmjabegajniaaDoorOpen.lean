/-
  How an argument that is a rate, or an array of four ints, is opened and shut.
-/
import Derived.Test.YtfnmjabegajniaaDoorLaid
import Derived.Lib.SmallJoins
namespace Go.Proofs.YtfnmjabegajniaaDoor
open Go.ChangeShapes Go.WideShapes Go.ChangeAt Go.RowKit Go.Deep Go.Joins
section
variable {H : Type} {enc : TypeId × Value → H} {w : World} {base : Nat} {spare : Nat → Bool} {held : Bool}
theorem open_rate {r : Reach} {b0 : Nat} {v : Value} {d : DataW H} {p : List MemPlace} (hv : Value.okWide Tryd.prog w r b0 23 v) (h : DataW.Trod enc Tryd.prog w base spare held 23 v d p) :
    ∃ n m : Int, v = .agg #[.int .i64 n, .int .i64 m] ∧ d = .agg [.lit (.int .i64 n), .lit (.int .i64 m)] ∧ p = [] ∧ (Lit.int .i64 n).wf = true ∧ (Lit.int .i64 m).wf = true := by
  obtain ⟨c0, c1, y0, y1, k, rfl, rfl, rfl, h0, h1⟩ := open_agg2 Tryd.underlying23 (by kernel_rfl) cells23 hv h
  obtain ⟨n, e0, rfl, wn⟩ := DataW.trod_int Tryd.underlying3 h0
  obtain ⟨m, e1, rfl, wm⟩ := DataW.trod_int Tryd.underlying3 h1
  simp at e0 e1
  subst e0 e1
  exact ⟨n, m, rfl, rfl, rfl, wn, wm⟩
theorem shut_rate {n m : Int} (wn : (Lit.int .i64 n).wf = true) (wm : (Lit.int .i64 m).wf = true) : DataW.Trod enc Tryd.prog w base spare held 23 (.agg #[.int .i64 n, .int .i64 m]) (.agg [.lit (.int .i64 n), .lit (.int .i64 m)]) [] :=
  shut_agg2 (y0 := (.lit (.int .i64 n), [])) (y1 := (.lit (.int .i64 m), [])) Tryd.underlying23 (by kernel_rfl) cells23 ⟨1, by simp [DataW.trod, Tryd.underlying3, wn]⟩ ⟨1, by simp [DataW.trod, Tryd.underlying3, wm]⟩
theorem cells45 : Tryd.prog.cellsOf 45 = 4 := by kernel_rfl
theorem open_arr4 {r : Reach} {b0 : Nat} {v : Value} {d : DataW H} {p : List MemPlace} (hv : Value.okWide Tryd.prog w r b0 45 v) (h : DataW.Trod enc Tryd.prog w base spare held 45 v d p) :
    ∃ n0 n1 n2 n3 : Int, v = .agg #[.int .i64 n0, .int .i64 n1, .int .i64 n2, .int .i64 n3] ∧ d = .agg [.lit (.int .i64 n0), .lit (.int .i64 n1), .lit (.int .i64 n2), .lit (.int .i64 n3)] ∧ p = [] ∧
      (Lit.int .i64 n0).wf = true ∧ (Lit.int .i64 n1).wf = true ∧ (Lit.int .i64 n2).wf = true ∧ (Lit.int .i64 n3).wf = true := by
  unfold Value.okWide at hv
  rw [Tryd.underlying45] at hv
  obtain ⟨cs, rfl, hsz, _⟩ := hv
  obtain ⟨c0, c1, c2, c3, rfl⟩ := array4 (hsz.trans cells45)
  obtain ⟨fuel, hf⟩ := h
  obtain ⟨xs, m, rfl, hx, _, hn, hel⟩ := DataW.trod_array Tryd.underlying45 hf
  simp only [Prod.mk.injEq] at hx
  rw [cells3] at hel
  match xs, hn with
  | [x0, x1, x2, x3], _ =>
    obtain ⟨n0, e0, rfl, q0⟩ := DataW.trod_int Tryd.underlying3 (show DataW.trod enc Tryd.prog w base spare held m 3 [c0] = some x0 by simpa [Value.cells] using hel 0 (by omega))
    obtain ⟨n1, e1, rfl, q1⟩ := DataW.trod_int Tryd.underlying3 (show DataW.trod enc Tryd.prog w base spare held m 3 [c1] = some x1 by simpa [Value.cells] using hel 1 (by omega))
    obtain ⟨n2, e2, rfl, q2⟩ := DataW.trod_int Tryd.underlying3 (show DataW.trod enc Tryd.prog w base spare held m 3 [c2] = some x2 by simpa [Value.cells] using hel 2 (by omega))
    obtain ⟨n3, e3, rfl, q3⟩ := DataW.trod_int Tryd.underlying3 (show DataW.trod enc Tryd.prog w base spare held m 3 [c3] = some x3 by simpa [Value.cells] using hel 3 (by omega))
    simp at e0 e1 e2 e3
    subst e0 e1 e2 e3
    exact ⟨n0, n1, n2, n3, rfl, by simpa using hx.1, by simpa using hx.2, q0, q1, q2, q3⟩
theorem range4 : List.range 4 = [0, 1, 2, 3] := rfl
theorem shut_arr4 {n0 n1 n2 n3 : Int} (w0 : (Lit.int .i64 n0).wf = true) (w1 : (Lit.int .i64 n1).wf = true) (w2 : (Lit.int .i64 n2).wf = true) (w3 : (Lit.int .i64 n3).wf = true) :
    DataW.Trod enc Tryd.prog w base spare held 45 (.agg #[.int .i64 n0, .int .i64 n1, .int .i64 n2, .int .i64 n3]) (.agg [.lit (.int .i64 n0), .lit (.int .i64 n1), .lit (.int .i64 n2), .lit (.int .i64 n3)]) [] := by
  refine ⟨2, ?_⟩
  simp [DataW.trod, Tryd.underlying45, Tryd.underlying3, cells45, cells3, Value.cells, range4, w0, w1, w2, w3]
end
end Go.Proofs.YtfnmjabegajniaaDoor
