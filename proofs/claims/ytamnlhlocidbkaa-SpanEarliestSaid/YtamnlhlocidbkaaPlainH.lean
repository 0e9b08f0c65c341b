/-
  The earliest place: what eFind finds, and that nothing lies before it.
-/
import Derived.Test.YtamnlhlocidbkaaPlainG
namespace Go.Proofs.Ytamnlhlocidbkaa
open Sp (Sn Mem Val norm uni inter subt)
theorem eF_yes {a n : Int} (hn : 0 < n) : ∀ {m : List Sn}, Val m → (eFind m a n).2 = true →
    a ≤ (eFind m a n).1 ∧ (∃ u ∈ m, u.1 ≤ (eFind m a n).1 ∧ (eFind m a n).1 + n ≤ u.2) ∧ ∀ x, a ≤ x → x < (eFind m a n).1 → ∀ u ∈ m, ¬ (u.1 ≤ x ∧ x + n ≤ u.2)
  | [], _, h => by simp [eFind] at h
  | s :: r, hv, h => by
    obtain ⟨h1, h2, h3⟩ := (Sp.val_cons s r).1 hv
    by_cases c : max s.1 a < s.2 ∧ n ≤ s.2 - max s.1 a
    · rw [eFind, if_pos c]
      refine ⟨by simp only; omega, ⟨s, List.mem_cons_self, by simp only; omega, by simp only; omega⟩, fun x q1 q2 u hu => ?_⟩
      simp only at q2
      rcases List.mem_cons.1 hu with rfl | hu
      · omega
      · have := h2 u hu
        omega
    · rw [eFind, if_neg c] at h ⊢
      obtain ⟨k1, ⟨u, hu, k2⟩, k3⟩ := eF_yes hn h3 h
      refine ⟨k1, ⟨u, List.mem_cons_of_mem _ hu, k2⟩, fun x q1 q2 v hv => ?_⟩
      rcases List.mem_cons.1 hv with rfl | hv
      · rintro ⟨p1, p2⟩
        exact c (by omega)
      · exact k3 x q1 q2 v hv
theorem eF_no {a n : Int} (hn : 0 < n) : ∀ {m : List Sn}, Val m → (eFind m a n).2 = false →
    (eFind m a n).1 = 0 ∧ ∀ x, a ≤ x → ∀ u ∈ m, ¬ (u.1 ≤ x ∧ x + n ≤ u.2)
  | [], _, _ => ⟨rfl, fun x _ u hu => by cases hu⟩
  | s :: r, hv, h => by
    obtain ⟨h1, h2, h3⟩ := (Sp.val_cons s r).1 hv
    by_cases c : max s.1 a < s.2 ∧ n ≤ s.2 - max s.1 a
    · rw [eFind, if_pos c] at h
      cases h
    · rw [eFind, if_neg c] at h ⊢
      obtain ⟨k1, k3⟩ := eF_no hn h3 h
      refine ⟨k1, fun x q1 v hv => ?_⟩
      rcases List.mem_cons.1 hv with rfl | hv
      · rintro ⟨p1, p2⟩
        exact c (by omega)
      · exact k3 x q1 v hv
theorem cov_mem {l : List Sn} {x n : Int} (hn : 0 < n) : Cov l (x, x + n) ↔ ∃ u ∈ norm l, u.1 ≤ x ∧ x + n ≤ u.2 := by
  constructor
  · intro h
    obtain ⟨i, hi, h1, h2⟩ := cov_at (l := norm l) (s := (x, x + n)) (Sp.norm_val l) (by simp only; omega) (fun z hz hy => (Sp.norm_mem z l).2 (h z hz hy))
    exact ⟨_, el_mem hi, h1, h2⟩
  · rintro ⟨u, hu, h1, h2⟩ z hz hy
    rw [← Sp.norm_mem]
    simp only at hz hy
    exact ⟨u, hu, by omega, by omega⟩
theorem earl_yes {l : List Sn} {a n : Int} (hl : Sml l) (hn : 0 < n) (h : (earl l a n).2 = true) :
    a ≤ (earl l a n).1 ∧ (earl l a n).1 ≤ 51 ∧ covB l ((earl l a n).1, (earl l a n).1 + n) = true ∧ ∀ x, a ≤ x → x < (earl l a n).1 → covB l (x, x + n) = false := by
  unfold earl at *
  rw [if_neg (by omega)] at *
  obtain ⟨k1, ⟨u, hu, k2⟩, k3⟩ := eF_yes hn (Sp.norm_val l) h
  refine ⟨k1, ?_, covB_yes ((cov_mem hn).2 ⟨u, hu, k2⟩), fun x q1 q2 => covB_no fun hc => ?_⟩
  · have := hl.norm u hu
    omega
  · obtain ⟨v, hv, p⟩ := (cov_mem hn).1 hc
    exact k3 x q1 q2 v hv p
theorem earl_no {l : List Sn} {a n : Int} (hn : 0 < n) (h : (earl l a n).2 = false) : (earl l a n).1 = 0 ∧ ∀ x, a ≤ x → covB l (x, x + n) = false := by
  unfold earl at *
  rw [if_neg (by omega)] at *
  obtain ⟨k1, k3⟩ := eF_no hn (Sp.norm_val l) h
  refine ⟨k1, fun x q1 => covB_no fun hc => ?_⟩
  obtain ⟨v, hv, p⟩ := (cov_mem hn).1 hc
  exact k3 x q1 v hv p
end Go.Proofs.Ytamnlhlocidbkaa
