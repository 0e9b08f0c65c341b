/-
  How the arguments of the laws over spans are opened, and the last step of their rows.
-/
import Derived.Test.YtamnlhlocidbkaaBase
import Derived.Test.YtamnlhlocidbkaaPlainD
import Derived.Test.YtamnlhlocidbkaaChecked
import Derived.ProofKit
import Derived.Deep.SlicePairs
import Derived.WideKeyArgs
import Derived.Lib.SmallJoins
import Derived.Below
import Derived.ChangeSame
namespace Go.Proofs.Ytamnlhlocidbkaa
open Go.ChangeShapes Go.WideShapes Go.ChangeAt Go.RowKit Go.Deep Go.Joins
open Sp (Sn Mem Val norm uni inter subt)
theorem Try.own : ownKnob Try.prog.godebug = none := by kernel_rfl
theorem Try.laidOut : laidOutB Try.prog = true := by kernel_rfl
theorem cells30 : Try.prog.cellsOf 30 = 2 := by kernel_rfl
theorem cells3 : Try.prog.cellsOf 3 = 1 := by kernel_rfl
def num : Value → Int
  | .int _ x => x
  | _ => 0
theorem wf_bd {x : Int} (h : (Lit.int .i64 x).wf = true) : -9223372036854775808 ≤ x ∧ x ≤ 9223372036854775807 := by
  simp [Lit.wf, IntKind.min, IntKind.max, IntKind.signed, IntKind.bits] at h
  omega
section
variable {H : Type} {enc : TypeId × Value → H} {W : World}
theorem open_sp {r : Reach} {b0 base : Nat} {sp : Nat → Bool} {v : Value} {d : DataW H} {p : List MemPlace} (hv : Value.okWide Try.prog W r b0 22 v) (h : DataW.Trod enc Try.prog W base sp true 22 v d p) :
    ∃ A c l, v = .slice A (l : List Sn).length c ∧ l.length ≤ c ∧ c ≤ maxLen ∧ Rd W A l ∧ Bd l := by
  obtain ⟨a, len, cap, rfl⟩ := okWide_slice Try.underlying22 hv
  obtain ⟨fuel, hf⟩ := h
  rcases open_slice_pairs Try.underlying22 Try.underlying30 cells30 rfl rfl cells3 cells3 hf with ⟨h0, _⟩ | ⟨a', len', cap', m, n, V0, V1, D0, D1, P0, P1, h0, _, hl, hm, hmm, _, hx⟩
  · simp [Value.cells] at h0
    obtain ⟨rfl, rfl, rfl⟩ := h0
    exact ⟨none, 0, [], rfl, by simp, by simp, Rd.nil, fun s hs => by cases hs⟩
  · simp [Value.cells] at h0
    obtain ⟨rfl, rfl, rfl⟩ := h0
    have hlm : len ≤ m := by rw [hmm]; split <;> omega
    have each : ∀ i, i < len → W.cell? (a'.add (i * 2)) = some (.int .i64 (num (V0 i))) ∧ W.cell? (a'.add (i * 2 + 1)) = some (.int .i64 (num (V1 i))) ∧
        (-9223372036854775808 ≤ num (V0 i) ∧ num (V0 i) ≤ 9223372036854775807) ∧ (-9223372036854775808 ≤ num (V1 i) ∧ num (V1 i) ≤ 9223372036854775807) := fun i hi => by
      obtain ⟨c0, c1, t0, t1⟩ := hx i (by omega)
      obtain ⟨x, e0, _, wx⟩ := DataW.trod_int Try.underlying3 t0
      obtain ⟨y, e1, _, wy⟩ := DataW.trod_int Try.underlying3 t1
      simp at e0 e1
      rw [c0, c1, e0, e1]
      exact ⟨rfl, rfl, wf_bd wx, wf_bd wy⟩
    refine ⟨some a', cap, (List.range len).map fun i => (num (V0 i), num (V1 i)), by simp, by simpa using hl, hm, fun hpos => ?_, fun s hs => ?_⟩
    · simp at hpos
      have hc := (each 0 hpos).1
      rw [Nat.zero_mul] at hc
      have ha : a' = ⟨a'.block, a'.off, none⟩ := by
        obtain ⟨b, o, s⟩ := a'
        cases s with
        | none => rfl
        | some s =>
          simp only [Addr.add, if_pos, World.cell?] at hc
          split at hc <;> simp at hc
      refine ⟨a'.block, a'.off, by rw [← ha], ?_, fun j hj => ?_⟩
      · rcases Nat.lt_or_ge a'.block W.heap.size with hlt | hge
        · exact hlt
        · simp only [Addr.add, if_pos, World.cell?] at hc
          rw [Array.getElem?_eq_none hge] at hc
          simp at hc
      · simp at hj
        obtain ⟨c0, c1, _⟩ := each j hj
        rw [ha, add_plain] at c0 c1
        have he : el ((List.range len).map fun i => (num (V0 i), num (V1 i))) j = (num (V0 j), num (V1 j)) := by simp [el, hj]
        rw [he]
        exact ⟨c0, by rw [Nat.add_assoc]; exact c1⟩
    · obtain ⟨i, hi, rfl⟩ := List.mem_map.1 hs
      exact (each i (List.mem_range.1 hi)).2.2
theorem open_one {r : Reach} {b0 base : Nat} {sp : Nat → Bool} {v : Value} {d : DataW H} {p : List MemPlace} (hv : Value.okWide Try.prog W r b0 30 v) (h : DataW.Trod enc Try.prog W base sp true 30 v d p) :
    ∃ n m : Int, v = .agg #[.int .i64 n, .int .i64 m] ∧ (-9223372036854775808 ≤ n ∧ n ≤ 9223372036854775807) ∧ (-9223372036854775808 ≤ m ∧ m ≤ 9223372036854775807) := by
  obtain ⟨c0, c1, y0, y1, k, rfl, rfl, rfl, h0, h1⟩ := open_agg2 Try.underlying30 (by kernel_rfl) cells30 hv h
  obtain ⟨n, e0, rfl, wn⟩ := DataW.trod_int Try.underlying3 h0
  obtain ⟨m, e1, rfl, wm⟩ := DataW.trod_int Try.underlying3 h1
  simp at e0 e1
  subst e0 e1
  exact ⟨n, m, rfl, wf_bd wn, wf_bd wm⟩
theorem trodAll_stays {P : Program} (hl : laidOutB P = true) {W' : World} {sp' : Nat → Bool} : ∀ {ts : List TypeId} {vs : List Value} {ds : List (DataW H)} {ps : List MemPlace}, (ts.all fun t => P.readableRec t && decide (t < P.types.size)) = true →
    DataW.TrodAll enc P W 0 (fun _ => true) true ts vs ds ps → (∀ p ∈ ps, W.sameAt W' p) → (∀ p ∈ ps, sp' p.block = true) → DataW.TrodAll enc P W' 0 sp' true ts vs ds ps
  | [], [], [], _, _, h, _, _ => h
  | t :: ts, v :: vs, d :: ds, ps, hr, h, h1, h2 => by
    obtain ⟨p, q, hp, hq, rfl⟩ := h
    simp only [List.all_cons, Bool.and_eq_true, decide_eq_true_eq] at hr
    exact ⟨p, q, WideElems.Trod_stays hl hr.1.1 hr.1.2 hp (fun x hx => h1 x (List.mem_append_left _ hx)) (fun x hx => h2 x (List.mem_append_left _ hx)), trodAll_stays hl hr.2 hq (fun x hx => h1 x (List.mem_append_right _ hx)) (fun x hx => h2 x (List.mem_append_right _ hx)), rfl⟩
theorem kept_true {f : Func} {s : ChangeSpec} {apart fresh handsOn again : Bool} {W W' : World} {args : Array Value} {ds : List (DataW H)} {before : List MemPlace}
    (hr : f.resultTypes = #[4]) (hv : s.vars = []) (hf : (s.fn H (ds ++ [])).results = [.lit (.bool true)] ∧ (s.fn H (ds ++ [])).args = ds ∧ (s.fn H (ds ++ [])).vars = [])
    (hread : (f.params.toList.all fun t => Try.prog.readableRec t && decide (t < Try.prog.types.size)) = true)
    (hW : DataW.Whole enc Try.prog f.params.toList s.vars apart W args.toList ds [] before) (hb : Below W.heap.size W W') :
    s.post enc Try.prog f apart fresh handsOn again W args (.bool true) W' := by
  have hlt : ∀ p ∈ before, p.block < W.heap.size := fun p hp => hW.lt p hp
  have hres : ∀ (b : Nat) (sp : Nat → Bool) (hd : Bool), DataW.TrodAll enc Try.prog W' b sp hd f.resultTypes.toList ((Value.bool true).resultList f.resultTypes.size) (s.fn H (ds ++ [])).results [] := fun b sp hd => by
    rw [hr, hf.1]
    exact trodAll_mk1 (shut_bool Try.underlying4 true)
  have hvars : ∀ sp : Nat → Bool, DataW.TrodVars enc Try.prog W' sp s.vars (s.fn H (ds ++ [])).vars [] := fun sp => by
    rw [hv, hf.2.2]
    rfl
  have hW0 := hW
  obtain ⟨p, q, hA, hV, rfl, hz, hn⟩ := hW
  rw [hv] at hV
  obtain ⟨_, rfl⟩ := trodVars_none hV
  rw [List.append_nil] at hlt hW0 hz hn
  have hargs : ∀ sp : Nat → Bool, (∀ x ∈ p, sp x.block = true) → DataW.TrodAll enc Try.prog W' 0 sp true f.params.toList args.toList (s.fn H (ds ++ [])).args p := fun sp hsp => by
    rw [hf.2.1]
    exact trodAll_stays Try.laidOut hread hA (fun x hx => hb.same (hlt x hx)) hsp
  refine ⟨ds, [], p, [], p, [], hW0, hres _ _ _, hargs _ fun x hx => by simpa using hlt x hx, hvars _, World.keptBut_mono (fun x hx => ⟨hx, Or.inr (Or.inl hx)⟩) (hb.frame (· ∈ p)), fun _ => ?_⟩
  refine ⟨ok_one hr rfl (okWide_bool_mk Try.underlying4 true), _, _, ([] ++ p) ++ [], ⟨[] ++ p, [], trodAll_append (hargs _ (fun _ _ => rfl)) (hres _ _ _), hvars _, rfl, fun b off hp => ?_, fun ha => by simpa using hn ha⟩, fun x hx _ => by simpa using hx⟩
  have hin : MemPlace.cell b off ∈ p := by simpa using hp
  rw [hb.frozen (hlt _ hin)]
  exact hz b off hin
end
end Go.Proofs.Ytamnlhlocidbkaa
