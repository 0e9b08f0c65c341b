/-
  What the listed variable gives: the package variable 'rates' holds its table. And a world for the witness of each row.
-/
import Derived.Test.YtfnmjabegajniaaDoorCards
import Derived.Test.YtfnmjabegajniaaDoorTie
import Derived.Test.YtfnmjabegajniaaDoorBase
import Derived.ProofKit
import Derived.OpenShut
import Derived.LaidMore
import Derived.Deep.DeepHandedRow
import Derived.Deep.Strs
import Derived.Stop.Joined
namespace Go.Proofs.YtfnmjabegajniaaDoor
open Go.ChangeShapes Go.WideShapes Go.ChangeAt Go.RowKit Go.Deep
theorem own : ownKnob Tryd.prog.godebug = none := by kernel_rfl
theorem gRates : Tryd.prog.globalNamed "onair/timecode.rates" = some 0 := by kernel_rfl
theorem tRates : (Tryd.prog.globals[0]?).map (·.type) = some 63 := by kernel_rfl
theorem cells54 : Tryd.prog.cellsOf 54 = 4 := by kernel_rfl
theorem cells23 : Tryd.prog.cellsOf 23 = 2 := by kernel_rfl
theorem cells3 : Tryd.prog.cellsOf 3 = 1 := by kernel_rfl
theorem cells63 : Tryd.prog.cellsOf 63 = 32 := by kernel_rfl
theorem row_cells {H : Type} {enc : TypeId × Value → H} {W : World} {base : Nat} {spare : TypeId → Bool} {held : Bool} {m : Nat} {l : List Value} {x : DataW H × List MemPlace} {n d b p : Int}
    (h : DataW.trod enc Tryd.prog W base spare held m 54 l = some x) (hx : x.1 = .agg [.agg [.lit (.int .i64 n), .lit (.int .i64 d)], .lit (.int .i64 b), .lit (.int .i64 p)]) :
    l = [.int .i64 n, .int .i64 d, .int .i64 b, .int .i64 p] := by
  obtain ⟨y0, y1, y2, k, rfl, hl, h0, h1, h2⟩ := trod_struct3 Tryd.underlying54 h
  rw [cells54] at hl
  match l, hl with
  | [v0, v1, v2, v3], _ =>
    simp only [cells3] at h1 h2
    rw [cells23] at h0
    obtain ⟨z0, z1, k', rfl, _, g0, g1⟩ := trod_struct2 Tryd.underlying23 h0
    simp only [cells3] at g0 g1
    obtain ⟨a0, e0, r0, _⟩ := DataW.trod_int Tryd.underlying3 g0
    obtain ⟨a1, e1, r1, _⟩ := DataW.trod_int Tryd.underlying3 g1
    obtain ⟨a2, e2, r2, _⟩ := DataW.trod_int Tryd.underlying3 h1
    obtain ⟨a3, e3, r3, _⟩ := DataW.trod_int Tryd.underlying3 h2
    simp at e0 e1 e2 e3
    subst e0 e1 e2 e3 r0 r1 r2 r3
    simp at hx
    obtain ⟨⟨rfl, rfl⟩, rfl, rfl⟩ := hx
    rfl
theorem four (l : List Value) (k : Nat) (r : List Value) (h : (l.drop (k * 4)).take 4 = r) : l.drop (k * 4) = r ++ l.drop ((k + 1) * 4) := by
  rw [← h, Nat.add_mul, Nat.one_mul, ← List.drop_drop, List.take_append_drop]
theorem list32 (l : List Value) (hl : l.length = 32)
    (r0 : (l.drop (0 * 4)).take 4 = [.int .i64 24000, .int .i64 1001, .int .i64 24, .int .i64 0]) (r1 : (l.drop (1 * 4)).take 4 = [.int .i64 24, .int .i64 1, .int .i64 24, .int .i64 0])
    (r2 : (l.drop (2 * 4)).take 4 = [.int .i64 25, .int .i64 1, .int .i64 25, .int .i64 0]) (r3 : (l.drop (3 * 4)).take 4 = [.int .i64 30000, .int .i64 1001, .int .i64 30, .int .i64 2])
    (r4 : (l.drop (4 * 4)).take 4 = [.int .i64 30, .int .i64 1, .int .i64 30, .int .i64 0]) (r5 : (l.drop (5 * 4)).take 4 = [.int .i64 50, .int .i64 1, .int .i64 50, .int .i64 0])
    (r6 : (l.drop (6 * 4)).take 4 = [.int .i64 60000, .int .i64 1001, .int .i64 60, .int .i64 4]) (r7 : (l.drop (7 * 4)).take 4 = [.int .i64 60, .int .i64 1, .int .i64 60, .int .i64 0]) :
    l = tabCells.toList := by
  have e : l = l.drop (0 * 4) := by simp
  rw [e, four l 0 _ r0, four l 1 _ r1, four l 2 _ r2, four l 3 _ r3, four l 4 _ r4, four l 5 _ r5, four l 6 _ r6, four l 7 _ r7, List.drop_of_length_le (by omega)]
  rfl
theorem laid_tab {W : World} (h : laidMetH Tryd.prog [("onair/timecode.rates", Rows.laid_onair_timecode_rates)] W) : Tab W := by
  rw [MakeChecks.laidMetH_plain _ _ _ (by kernel_rfl)] at h
  obtain ⟨ps, ⟨g0, t0, cs0, f0, p0, q0, hg0, ht0, hv0, hd0, _⟩, _, _⟩ := h
  obtain rfl := Option.some.inj (gRates.symm.trans hg0)
  obtain rfl := Option.some.inj (tRates.symm.trans ht0)
  obtain ⟨xs, m, rfl, hx, hlen, hn, hel⟩ := DataW.trod_array Tryd.underlying63 hd0
  simp only [Prod.mk.injEq, Rows.laid_onair_timecode_rates, DataW.agg.injEq] at hx
  have hx1 := hx.1
  rw [cells54] at hel
  rw [cells63] at hlen
  match xs, hn, hx1, hel with
  | [x0, x1, x2, x3, x4, x5, x6, x7], _, hx1, hel =>
    simp only [List.map_cons, List.map_nil, List.cons.injEq] at hx1
    obtain ⟨y0, y1, y2, y3, y4, y5, y6, y7, _⟩ := hx1
    have r0 := row_cells (hel 0 (by omega)) y0.symm
    have r1 := row_cells (hel 1 (by omega)) y1.symm
    have r2 := row_cells (hel 2 (by omega)) y2.symm
    have r3 := row_cells (hel 3 (by omega)) y3.symm
    have r4 := row_cells (hel 4 (by omega)) y4.symm
    have r5 := row_cells (hel 5 (by omega)) y5.symm
    have r6 := row_cells (hel 6 (by omega)) y6.symm
    have r7 := row_cells (hel 7 (by omega)) y7.symm
    have hcs : cs0 = tabCells := by
      obtain ⟨l⟩ := cs0
      exact congrArg Array.mk (list32 l hlen r0 r1 r2 r3 r4 r5 r6 r7)
    subst hcs
    simp only [World.var?, gRates, Option.bind_some] at hv0
    split at hv0
    · rename_i cs t fr hh
      cases hv0
      exact ⟨t, fr, hh⟩
    · cases hv0
/-- The row's last step where no place was read: a call that leaves all old blocks alone. -/
theorem post_alone {H : Type} {enc : TypeId × Value → H} {P : Program} {f : Func} {s : ChangeSpec} {apart fresh handsOn again : Bool} {W W' : World} {args : Array Value} {v : Value} {ds gs : List (DataW H)}
    (hW : DataW.Whole enc P f.params.toList s.vars apart W args.toList ds gs [])
    (hres : ∀ (b : Nat) (sp : Nat → Bool) (hd : Bool), DataW.TrodAll enc P W' b sp hd f.resultTypes.toList (v.resultList f.resultTypes.size) (s.fn H (ds ++ gs)).results [])
    (hargs : ∀ sp : Nat → Bool, DataW.TrodAll enc P W' 0 sp true f.params.toList args.toList (s.fn H (ds ++ gs)).args [])
    (hvars : ∀ sp : Nat → Bool, DataW.TrodVars enc P W' sp s.vars (s.fn H (ds ++ gs)).vars [])
    (hb : Below W.heap.size W W')
    (hok : ∀ (j : Nat) (t : TypeId) (r : Value), f.resultTypes[j]? = some t → (v.resultList f.resultTypes.size)[j]? = some r → Value.okWide P W' .any 0 t r) :
    s.post enc P f apart fresh handsOn again W args v W' := by
  refine ⟨ds, gs, [], [], [], [], hW, hres _ _ _, hargs _, hvars _, World.keptBut_mono (fun p hp => absurd hp List.not_mem_nil) (hb.frame (· ∈ [])), fun _ => ?_⟩
  exact ⟨hok, _, _, [], ⟨[], [], trodAll_append (hargs _) (hres _ _ _), hvars _, rfl, fun b off hp => absurd hp List.not_mem_nil, fun _ => List.nodup_nil⟩, fun p hp => absurd hp List.not_mem_nil⟩
/-- A world for the witness: the settled one, the table (block 0) holding what its initialiser lays. -/
noncomputable def laidWorld (os : Os) : World :=
  { World.holding Tryd.prog os ⟨#[], #[], []⟩ with heap := (World.holding Tryd.prog os ⟨#[], #[], []⟩).heap.modify 0 fun
      | .cells _ t frozen => .cells tabCells t frozen
      | o => o }
end Go.Proofs.YtfnmjabegajniaaDoor
