/-
  The contract of Subtract of the reference.
-/
import Derived.Test.YtamnlhlocidbkaaRefB
namespace Go.Proofs.Ytamnlhlocidbkaa
open Go.RowKit
open Sp (Sn Mem Val norm uni inter subt mem_append mem_one)
/-- what the inner loop of Subtract of the reference has laid: of the first i spans what lies outside t -/
structure SInv (o : List Sn) (t : Sn) (i : Nat) (r : List Sn) : Prop where
  val : Val r
  mem : ∀ x, Mem x r ↔ Mem x (o.take i) ∧ ¬ (t.1 ≤ x ∧ x < t.2)
  len : r.length ≤ 2 * i
theorem SInv.start (o : List Sn) (t : Sn) : SInv o t 0 [] := ⟨Sp.val_nil, fun x => by simp [Sp.mem_nil], by simp⟩
theorem SInv.step {o r : List Sn} {t : Sn} {i : Nat} (h : SInv o t i r) (hi : i < o.length) (_ht : t.1 < t.2) :
    SInv o t (i + 1) (addS (addS r ((el o i).1, min (el o i).2 t.1)) (max (el o i).1 t.2, (el o i).2)) := by
  refine ⟨addS_val _ _, fun x => ?_, ?_⟩
  · rw [addS_mem, addS_mem, h.mem x, take_snoc hi, mem_append, mem_one]
    simp only
    constructor
    · rintro ((h | h) | h)
      · exact ⟨.inl h.1, h.2⟩
      · exact ⟨.inr (by omega), by omega⟩
      · exact ⟨.inr (by omega), by omega⟩
    · rintro ⟨h1 | h1, h2⟩
      · exact .inl (.inl ⟨h1, h2⟩)
      · by_cases hx : x < t.1
        · exact .inl (.inr (by omega))
        · exact .inr (by omega)
  · have h1 := addS_len (addS r ((el o i).1, min (el o i).2 t.1)) (max (el o i).1 t.2, (el o i).2)
    have h2 := addS_len r ((el o i).1, min (el o i).2 t.1)
    have := h.len
    omega
theorem SInv.done {l m o r : List Sn} {k : Nat} (h : SInv o (el m k) o.length r) (hk : k < m.length) (ho : o = subt l (m.take k)) : r = subt l (m.take (k + 1)) := by
  refine Sp.subt_uniq h.val fun x => ?_
  rw [h.mem x, List.take_length, ho, Sp.mem_subt, take_snoc hk, mem_append, mem_one, not_or, and_assoc]
theorem subt_skip {l m : List Sn} {k : Nat} (hk : k < m.length) (he : ¬ (el m k).1 < (el m k).2) : subt l (m.take k) = subt l (m.take (k + 1)) := by
  refine Sp.subt_uniq (Sp.val_subt _ _) fun x => ?_
  rw [Sp.mem_subt, take_snoc hk, mem_append, mem_one]
  constructor
  · rintro ⟨h1, h2⟩; exact ⟨h1, fun h => h.elim h2 fun h => by omega⟩
  · rintro ⟨h1, h2⟩; exact ⟨h1, fun h => h2 (.inl h)⟩
theorem subt_nil (l : List Sn) : norm l = subt l [] := Sp.subt_uniq (Sp.norm_val l) fun x => by rw [Sp.norm_mem]; exact ⟨fun h => ⟨h, Sp.mem_nil x⟩, fun h => h.1⟩
set_option maxRecDepth 100000 in
set_option maxHeartbeats 2000000 in
theorem rsubt_any (A B : Option Addr) (l m : List Sn) (c d : Nat) (w : World) (hR : Rd w A l) (hS : Rd w B m) (hl : l.length ≤ 300) (hm : m.length ≤ 300) :
    Calls Try.prog 27 #[.slice A l.length c, .slice B m.length d] w (RetS w (subt l m)) := by
  have R := Lib.hid hR
  have S := Lib.hid hS
  clear hR hS
  go_enter Try.func27, Try.ntmps27
  go_wp2_with fail
  refine (rnormal_any A l c _ R.out (by omega)).mono ?_
  rintro e w1 ⟨A1, c1, rfl, hc1, hA1, hb1⟩
  have T1 := Lib.hid (Two.mk hb1 hA1 (S.out.below hb1))
  clear hA1 hb1
  go_wp2
  go_loopw [5, 6] (fun v i wr => ∃ (k : Nat) (C : Option Addr) (e : Nat) (o : List Sn), k ≤ m.length ∧ i = .int .i64 k ∧ v = .slice C o.length e ∧ o.length ≤ e ∧ Two w C B o m wr ∧ Hid (o = subt l (m.take k))) (fun _ i _ => m.length - (intOf i).toNat)
  case atStart => exact ⟨0, A1, c1, norm l, Nat.zero_le _, rfl, rfl, hc1, T1.out, Lib.hid (subt_nil l)⟩
  case round =>
    obtain ⟨k, C, e, o, hk, rfl, rfl, hoe, hT, hO⟩ := hrel
    have HT := Lib.hid hT
    clear hT T1
    have hol : o.length ≤ 600 := by rw [hO.out]; have := Sp.subt_len l (m.take k); simp at this; omega
    by_cases hlt : k < m.length
    · obtain ⟨g', off', rfl, hg', c3, c4⟩ := HT.out.rb.at_ hlt
      by_cases he : (el m k).2 ≤ (el m k).1
      · have de : decide ((el m k).2 ≤ (el m k).1) = true := by simpa using he
        have hsk := Lib.hid (subt_skip (l := l) hlt (by omega))
        go_wp2
        go_quiet (fail)
        have HT2 := Lib.hid (HT.out.next (below_drewN (Below.refl _ _) nq))
        go_wp2
        go_roundw
        case rel => exact ⟨k + 1, C, e, o, by omega, by go_num, rfl, hoe, HT2.out, Lib.hid (by rw [hO.out]; exact hsk.out)⟩
        case measure => simp [intOf]; omega
      · have de : decide ((el m k).2 ≤ (el m k).1) = false := by simpa using he
        go_wp2
        go_quiet (fail)
        have HT2 := Lib.hid (HT.out.next (below_drewN (Below.refl _ _) nq))
        generalize wr.drewN nq = wq at *
        clear c3 c4 hg' HT
        go_wp2
        go_loopw [7, 8] (fun v j wr => ∃ (i : Nat) (D : Option Addr) (f : Nat) (r : List Sn), i ≤ o.length ∧ j = .int .i64 i ∧ v = .slice D r.length f ∧ r.length ≤ f ∧ Rd wr D r ∧ Two w C (some ⟨g', off', none⟩) o m wr ∧ SInv o (el m k) i r) (fun _ j _ => o.length - (intOf j).toNat)
        case atStart => exact ⟨0, none, 0, [], Nat.zero_le _, rfl, rfl, Nat.le_refl _, Rd.nil, HT2.out, SInv.start _ _⟩
        case round =>
          obtain ⟨i, D, f, r, hi, rfl, rfl, hrf, hrr, hAcc, hI⟩ := hrel
          have M := Lib.hid hrr
          have HI := Lib.hid hI
          have hrl := hI.len
          have hrv := Lib.hid hI.val
          clear hrr hI HT2
          by_cases hlti : i < o.length
          · obtain ⟨g, off, rfl, hg, _, _⟩ := hAcc.ra.at_ hlti
            have HN := Lib.hid (HI.out.step hlti (by omega))
            obtain ⟨x1, hx1⟩ : ∃ x, (if (el m k).1 < (el o i).2 then (el m k).1 else (el o i).2) = x := ⟨_, rfl⟩
            obtain ⟨x2, hx2⟩ : ∃ x, (if (el o i).1 < (el m k).2 then (el m k).2 else (el o i).1) = x := ⟨_, rfl⟩
            have X1 : Hid (min (el o i).2 (el m k).1 = x1) := by show _ = _; rw [← hx1]; split <;> omega
            have X2 : Hid (max (el o i).1 (el m k).2 = x2) := by show _ = _; rw [← hx2]; split <;> omega
            go_wp2
            go_region_held3 (fun w' => w'.cell? ⟨g, off + i * 2, none⟩ = some (.int .i64 (el o i).1) ∧ w'.cell? ⟨g, off + i * 2 + 1, none⟩ = some (.int .i64 (el o i).2) ∧ w'.cell? ⟨g', off' + k * 2, none⟩ = some (.int .i64 (el m k).1) ∧ w'.cell? ⟨g', off' + k * 2 + 1, none⟩ = some (.int .i64 (el m k).2)) (first | exact hAcc.four hlti hlt | exact hAcc.drew.four hlti hlt)
              (first | (go_at_call 40; refine (radd_any D r f ((el o i).1, x1) _ ?_ hrv.out (by omega) hrf).mono ?_; (first | exact M.out | exact M.out.drewN 1); rintro e w' ⟨C2, e2, rfl, he2, hr2, hb2⟩; replace hAcc : Two w (some ⟨g, off, none⟩) (some ⟨g', off', none⟩) o m w' := by first | exact hAcc.next hb2 | exact hAcc.drew.next hb2))
            have M2 := Lib.hid hr2
            have hl2 := addS_len r ((el o i).1, x1)
            clear hr2 hb2
            go_wp2
            go_region_held3 (fun w' => w'.cell? ⟨g, off + i * 2, none⟩ = some (.int .i64 (el o i).1) ∧ w'.cell? ⟨g, off + i * 2 + 1, none⟩ = some (.int .i64 (el o i).2) ∧ w'.cell? ⟨g', off' + k * 2, none⟩ = some (.int .i64 (el m k).1) ∧ w'.cell? ⟨g', off' + k * 2 + 1, none⟩ = some (.int .i64 (el m k).2)) (first | exact hAcc.four hlti hlt | exact hAcc.drew.four hlti hlt)
              (first | (go_at_call 40; refine (radd_any C2 (addS r ((el o i).1, x1)) e2 (x2, (el o i).2) _ ?_ (addS_val _ _) (by omega) he2).mono ?_; (first | exact M2.out | exact M2.out.drewN 1); rintro e w' ⟨C3, e3, rfl, he3, hr3, hb3⟩; replace hAcc : Two w (some ⟨g, off, none⟩) (some ⟨g', off', none⟩) o m w' := by first | exact hAcc.next hb3 | exact hAcc.drew.next hb3))
            have M3 := Lib.hid hr3
            have HA := Lib.hid hAcc
            clear hr3 hb3 hAcc hx1 hx2
            go_wp2
            go_roundw
            case rel => exact ⟨i + 1, C3, e3, _, by omega, by go_num, rfl, he3, M3.out, HA.out, by rw [← X1.out, ← X2.out]; exact HN.out⟩
            case measure => simp [intOf]; omega
          · obtain rfl : i = o.length := by omega
            have hdn := Lib.hid (HI.out.done hlt hO.out)
            go_wp2
            go_roundw
            case rel => exact ⟨k + 1, D, f, r, by omega, by go_num, rfl, hrf, ⟨hAcc.old, M.out, hAcc.rb⟩, Lib.hid hdn.out⟩
            case measure => simp [intOf]; omega
    · go_wp2
      go_ret
      obtain rfl : k = m.length := by omega
      have hO' := hO.out
      rw [List.take_length] at hO'
      subst hO'
      exact ⟨C, e, rfl, hoe, HT.out.ra, HT.out.old⟩
end Go.Proofs.Ytamnlhlocidbkaa
