/-
  The row of the law SpanPointwise.
-/
import Derived.Test.YtamnlhlocidbkaaRows
import Derived.Test.YtamnlhlocidbkaaL6
import Derived.Test.YtamnlhlocidbkaaOpen
namespace Go.Proofs.Ytamnlhlocidbkaa
open Go.ChangeShapes Go.WideShapes Go.ChangeAt Go.RowKit Go.Deep
open Sp (Sn Mem Val norm uni inter subt)
namespace SpanPointwise
set_option maxRecDepth 100000 in
theorem lifted (os : Os) (started : os.Started) (H : Type) (enc : TypeId × Value → H) :
    ReturnsInHanded {} Try.checked os 6 .any (Rows.spanPointwiseSpec.pre6 enc Try.prog Try.f6 Rows.spanPointwiseRow.domain false) (Rows.spanPointwiseSpec.post enc Try.prog Try.f6 false true false false) := by
  refine returnsInHanded_of_change (C := Try.checked) Try.own started (by kernel_rfl) Try.func6
    (ChangeSpec.witness6 (enc := enc) (C := Try.checked) false ⟨#[], #[.slice none 0 0, .slice none 0 0, .int .i64 0], []⟩ 8 (by kernel_rfl) (by kernel_rfl) (by kernel_rfl) (by kernel_rfl)) ?_
  intro W base args ds gs before hval0 hW hcnd _
  have hval : ∀ (j : Nat) t v, Try.f6.params[j]? = some t → args[j]? = some v → Value.okWide Try.prog W .any base t v := hval0
  have hW' := hW
  obtain ⟨p, q, hA0, hV, rfl, hfz, hnd⟩ := hW
  have hA : DataW.TrodAll enc Try.prog W 0 (fun _ => true) true Try.f6.params.toList args.toList ds p := hA0
  rw [Try.params6] at hA hval
  obtain ⟨v0, v1, v2, d0, d1, d2, p0, p1, p2, rfl, rfl, rfl, h0, h1, h2⟩ := trodAll_three hA
  obtain ⟨rfl, rfl⟩ := trodVars_none hV
  obtain ⟨A0, c0, l0, rfl, lc0, cm0, rd0, bd0⟩ := open_sp (hval 0 22 v0 rfl rfl) h0
  obtain ⟨A1, c1, l1, rfl, lc1, cm1, rd1, bd1⟩ := open_sp (hval 1 22 v1 rfl rfl) h1
  obtain ⟨x2, rfl, rfl, rfl, wf2⟩ := open_int Try.underlying3 (hval 2 3 v2 rfl rfl) h2
  have bx2 := wf_bd wf2
  clear hA0 hval0
  refine (law6_any A0 A1 l0 l1 c0 c1 x2 W rd0 rd1 lc0 cm0 lc1 cm1 bd0 bd1 bx2).mono fun e W' ⟨he, hw⟩ => ?_
  subst he
  exact ⟨_, rfl, kept_true (by kernel_rfl) rfl ⟨rfl, rfl, rfl⟩ (by kernel_rfl) hW' hw⟩
theorem said : Rows.SpanPointwiseSaid :=
  OpenClaim.holds_of_wide 6 Try.f6 rfl rfl rfl rfl rfl rfl rfl ⟨rfl, rfl, rfl, rfl, rfl⟩ rfl rfl rfl rfl rfl (by kernel_rfl) Try.func6 (by kernel_rfl)
    (of_decide_eq_true (by kernel_rfl)) (by unfold Func.isWrapper; first | (rw [if_pos (by decide +kernel)]; kernel_rfl) | (rw [if_neg (by decide +kernel)]; exact ⟨rfl, rfl⟩))
    (fun os started H enc _ => lifted os started H enc)
end SpanPointwise
end Go.Proofs.Ytamnlhlocidbkaa
