/-
  The contract of Intersect of the reference.
-/
import Derived.Test.YtamnlhlocidbkaaRefA
import Derived.Deep.RegionHeld3
namespace Go.Proofs.Ytamnlhlocidbkaa
open Go.RowKit
open Sp (Sn Mem Val norm uni inter subt mem_append mem_one)
/-- what Intersect of the reference has laid: the first i spans are done, and of the next one the first k -/
structure PInv (a b : List Sn) (i k : Nat) (o : List Sn) : Prop where
  val : Val o
  mem : ∀ x, Mem x o ↔ (Mem x (a.take i) ∧ Mem x b) ∨ ((el a i).1 ≤ x ∧ x < (el a i).2 ∧ Mem x (b.take k))
  len : o.length ≤ i * b.length + k
theorem PInv.start (a b : List Sn) : PInv a b 0 0 [] := ⟨Sp.val_nil, fun x => by simp [Sp.mem_nil], by simp⟩
theorem PInv.step {a b o : List Sn} {i k : Nat} (h : PInv a b i k o) (hk : k < b.length) : PInv a b i (k + 1) (addS o (max (el a i).1 (el b k).1, min (el a i).2 (el b k).2)) := by
  refine ⟨addS_val _ _, fun x => ?_, by have := addS_len o (max (el a i).1 (el b k).1, min (el a i).2 (el b k).2); have := h.len; omega⟩
  rw [addS_mem, h.mem x, take_snoc hk, mem_append, mem_one]
  simp only
  constructor
  · rintro ((h | h) | h)
    · exact .inl h
    · exact .inr ⟨h.1, h.2.1, .inl h.2.2⟩
    · exact .inr ⟨by omega, by omega, .inr (by omega)⟩
  · rintro (h | ⟨h1, h2, h | h⟩)
    · exact .inl (.inl h)
    · exact .inl (.inr ⟨h1, h2, h⟩)
    · exact .inr (by omega)
theorem PInv.next {a b o : List Sn} {i : Nat} (h : PInv a b i b.length o) (hi : i < a.length) : PInv a b (i + 1) 0 o := by
  refine ⟨h.val, fun x => ?_, by have := h.len; rw [Nat.succ_mul]; omega⟩
  rw [h.mem x, List.take_length, take_snoc hi, mem_append, mem_one]
  simp only [List.take_zero]
  constructor
  · rintro (h | h)
    · exact .inl ⟨.inl h.1, h.2⟩
    · exact .inl ⟨.inr ⟨h.1, h.2.1⟩, h.2.2⟩
  · rintro (⟨h1 | h1, h2⟩ | h)
    · exact .inl ⟨h1, h2⟩
    · exact .inr ⟨h1.1, h1.2, h2⟩
    · exact absurd h.2.2 (Sp.mem_nil x)
theorem PInv.done {a b o : List Sn} (h : PInv a b a.length 0 o) : o = inter a b := by
  refine Sp.inter_uniq h.val fun x => ?_
  rw [h.mem x, List.take_length]
  exact ⟨fun q => q.elim id fun q => absurd q.2.2 (Sp.mem_nil x), .inl⟩
theorem PInv.bound {a b o : List Sn} {i k : Nat} (h : PInv a b i k o) (hi : i ≤ a.length) (hk : k ≤ b.length) (ha : a.length ≤ 300) (hb : b.length ≤ 300) : o.length ≤ 100000 := by
  have h1 := h.len
  have h2 : i * b.length ≤ 300 * 300 := Nat.mul_le_mul (by omega) hb
  omega
/-- two slices that came in, and what has grown since -/
structure Two (w : World) (A B : Option Addr) (l m : List Sn) (wr : World) : Prop where
  old : Below w.heap.size w wr
  ra : Rd wr A l
  rb : Rd wr B m
theorem Two.next {w wr wx : World} {A B : Option Addr} {l m : List Sn} (h : Two w A B l m wr) (hb : Below wr.heap.size wr wx) : Two w A B l m wx := ⟨h.old.trans (hb.mono h.old.size), h.ra.below hb, h.rb.below hb⟩
theorem Two.drew {w wr : World} {A B : Option Addr} {l m : List Sn} (h : Two w A B l m wr) : Two w A B l m wr.drew := h.next (Below.refl _ _).drew
theorem Two.four {w wr : World} {g off g' off' : Nat} {l m : List Sn} (h : Two w (some ⟨g, off, none⟩) (some ⟨g', off', none⟩) l m wr) {i k : Nat} (hi : i < l.length) (hk : k < m.length) :
    wr.cell? ⟨g, off + i * 2, none⟩ = some (.int .i64 (el l i).1) ∧ wr.cell? ⟨g, off + i * 2 + 1, none⟩ = some (.int .i64 (el l i).2) ∧ wr.cell? ⟨g', off' + k * 2, none⟩ = some (.int .i64 (el m k).1) ∧ wr.cell? ⟨g', off' + k * 2 + 1, none⟩ = some (.int .i64 (el m k).2) := by
  obtain ⟨_, _, e, _, a1, a2⟩ := h.ra.at_ hi
  cases e
  obtain ⟨_, _, e, _, b1, b2⟩ := h.rb.at_ hk
  cases e
  exact ⟨a1, a2, b1, b2⟩
set_option maxRecDepth 100000 in
set_option maxHeartbeats 1000000 in
theorem rinter_any (A B : Option Addr) (l m : List Sn) (c d : Nat) (w : World) (hR : Rd w A l) (hS : Rd w B m) (hl : l.length ≤ 300) (hm : m.length ≤ 300) :
    Calls Try.prog 25 #[.slice A l.length c, .slice B m.length d] w (RetS w (inter l m)) := by
  have T := Lib.hid (Two.mk (Below.refl _ _) hR hS)
  clear hR hS
  go_enter Try.func25, Try.ntmps25
  go_wp2
  go_loopw [5, 6] (fun v i wr => ∃ (k : Nat) (C : Option Addr) (e : Nat) (o : List Sn), k ≤ l.length ∧ i = .int .i64 k ∧ v = .slice C o.length e ∧ o.length ≤ e ∧ Rd wr C o ∧ Two w A B l m wr ∧ PInv l m k 0 o) (fun _ i _ => l.length - (intOf i).toNat)
  case atStart => exact ⟨0, none, 0, [], Nat.zero_le _, rfl, rfl, Nat.le_refl _, Rd.nil, T.out, PInv.start l m⟩
  case round =>
    obtain ⟨i, C, e, o, hi, rfl, rfl, hoe, hro, hT, hP⟩ := hrel
    have M := Lib.hid hro
    have HT := Lib.hid hT
    have HP := Lib.hid hP
    clear hro hT hP T
    by_cases hlt : i < l.length
    · go_wp2
      obtain ⟨wo, rfl⟩ : ∃ wo : World, wo = wr := ⟨_, rfl⟩
      go_loopw [5, 7] (fun v j wr => ∃ (k : Nat) (C : Option Addr) (e : Nat) (o : List Sn), k ≤ m.length ∧ j = .int .i64 k ∧ v = .slice C o.length e ∧ o.length ≤ e ∧ Rd wr C o ∧ Two w A B l m wr ∧ PInv l m i k o) (fun _ j _ => m.length - (intOf j).toNat)
      case atStart => exact ⟨0, C, e, o, Nat.zero_le _, rfl, rfl, hoe, M.out, HT.out, HP.out⟩
      case round =>
        obtain ⟨k, C, e, o, hk, rfl, rfl, hoe, hro, hAcc, hP⟩ := hrel
        have M := Lib.hid hro
        have HP := Lib.hid hP
        have hob := hP.bound hi hk hl hm
        have hov := Lib.hid hP.val
        clear hro hP HT
        by_cases hltk : k < m.length
        · obtain ⟨g, off, rfl, hg, _, _⟩ := hAcc.ra.at_ hlt
          obtain ⟨g', off', rfl, hg', _, _⟩ := hAcc.rb.at_ hltk
          have HN := Lib.hid (HP.out.step hltk)
          obtain ⟨x1, hx1⟩ : ∃ x, (if (el l i).1 < (el m k).1 then (el m k).1 else (el l i).1) = x := ⟨_, rfl⟩
          obtain ⟨x2, hx2⟩ : ∃ x, (if (el m k).2 < (el l i).2 then (el m k).2 else (el l i).2) = x := ⟨_, rfl⟩
          have X1 : Hid (max (el l i).1 (el m k).1 = x1) := by show _ = _; rw [← hx1]; split <;> omega
          have X2 : Hid (min (el l i).2 (el m k).2 = x2) := by show _ = _; rw [← hx2]; split <;> omega
          go_wp2
          go_region_held3 (fun w' => w'.cell? ⟨g, off + i * 2, none⟩ = some (.int .i64 (el l i).1) ∧ w'.cell? ⟨g, off + i * 2 + 1, none⟩ = some (.int .i64 (el l i).2) ∧ w'.cell? ⟨g', off' + k * 2, none⟩ = some (.int .i64 (el m k).1) ∧ w'.cell? ⟨g', off' + k * 2 + 1, none⟩ = some (.int .i64 (el m k).2)) (first | exact hAcc.four hlt hltk | exact hAcc.drew.four hlt hltk)
            (first | (go_at_call 40; refine (radd_any C o e (x1, x2) _ ?_ hov.out hob hoe).mono ?_; (first | exact M.out | exact M.out.drewN 1); rintro e w' ⟨C2, e2, rfl, he2, hr2, hb2⟩; replace hAcc : Two w (some ⟨g, off, none⟩) (some ⟨g', off', none⟩) l m w' := by first | exact hAcc.next hb2 | exact hAcc.drew.next hb2))
          all_goals
            have M2 := Lib.hid hr2
            have HA := Lib.hid hAcc
            clear hr2 hb2 hAcc hx1 hx2
            go_wp2
            go_roundw
            case rel => exact ⟨k + 1, C2, e2, _, by omega, by go_num, rfl, he2, M2.out, HA.out, by rw [← X1.out, ← X2.out]; exact HN.out⟩
            case measure => simp [intOf]; omega
        · obtain rfl : k = m.length := by omega
          go_wp2
          go_roundw
          case rel => exact ⟨i + 1, C, e, o, by omega, by go_num, rfl, hoe, M.out, hAcc, HP.out.next hlt⟩
          case measure => simp [intOf]; omega
    · go_wp2
      go_ret
      obtain rfl : i = l.length := by omega
      obtain rfl := HP.out.done
      exact ⟨C, e, rfl, hoe, M.out, HT.out.old⟩
end Go.Proofs.Ytamnlhlocidbkaa
