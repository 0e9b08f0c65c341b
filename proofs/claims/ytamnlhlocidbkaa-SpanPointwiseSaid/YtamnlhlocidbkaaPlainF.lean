/-
  Plain facts: what Normal lays, once sorted, is the valid list of the integers that came in. No program in sight.
-/
import Derived.Test.YtamnlhlocidbkaaPlainC
namespace Go.Proofs.Ytamnlhlocidbkaa
open Sp (Sn Mem Val norm uni inter subt)
theorem snoc_of {o : List Sn} (h : 0 < o.length) : o = o.take (o.length - 1) ++ [el o (o.length - 1)] := by
  have := take_snoc (l := o) (k := o.length - 1) (by omega)
  rw [show o.length - 1 + 1 = o.length by omega, List.take_length] at this
  exact this
theorem set_last {o : List Sn} (h : 0 < o.length) (s : Sn) : o.set (o.length - 1) s = o.take (o.length - 1) ++ [s] := by
  refine ext_el (by simp; omega) fun j hj => ?_
  have hj' : j < o.length := by simpa using hj
  rw [el_set hj']
  by_cases e : o.length - 1 = j
  · subst e
    rw [if_pos rfl]
    have := el_append (l := o.take (o.length - 1)) (s := s)
    rw [List.length_take, show min (o.length - 1) o.length = o.length - 1 by omega] at this
    exact this.symm
  · rw [if_neg e, el_append_lt (by simp; omega), el_take (by omega) (by omega)]
theorem NrmInv.widen {ds o : List Sn} {v : Sn} (h : NrmInv ds o) (ho : 0 < o.length) (hv : v.1 < v.2) (hs : ∀ t ∈ ds, t.1 ≤ v.1) (c : v.1 ≤ (el o (o.length - 1)).2) {m : Int} (hm : m = max (el o (o.length - 1)).2 v.2) :
    NrmInv (ds ++ [v]) (o.set (o.length - 1) ((el o (o.length - 1)).1, m)) := by
  rw [set_last ho, hm]
  refine NrmInv.grow ?_ hv hs c
  rw [← snoc_of ho]
  exact h
theorem NrmInv.pushed {ds o : List Sn} {v : Sn} (h : NrmInv ds o) (ho : 0 < o.length) (hv : v.1 < v.2) (c : ¬ v.1 ≤ (el o (o.length - 1)).2) : NrmInv (ds ++ [v]) (o ++ [v]) := by
  refine h.push hv fun u hu => ?_
  rw [snoc_of ho] at hu h
  exact h.behind (by omega) u hu
theorem NrmInv.first {ds : List Sn} {v : Sn} (h : NrmInv ds []) (hv : v.1 < v.2) : NrmInv (ds ++ [v]) ([] ++ [v]) := h.push hv fun u hu => by cases hu
theorem sorted_le {l : List Sn} (hs : ∀ i j, i < j → j < l.length → (el l i).1 ≤ (el l j).1) {k : Nat} (hk : k < l.length) : ∀ t ∈ l.take k, t.1 ≤ (el l k).1 := fun t ht => by
  obtain ⟨j, hj, rfl⟩ := mem_el ht
  have hjk : j < k := by simp at hj; omega
  rw [el_take hjk (by omega)]
  exact hs j k hjk hk
theorem NrmInv.fin {l l' o : List Sn} (h : NrmInv l' o) (hm : ∀ x, Mem x l' ↔ Mem x l) : o = norm l := Sp.norm_uniq h.val fun x => by rw [h.mem, hm]
theorem mem_perm {l m : List Sn} (h : l.Perm m) (x : Int) : Mem x l ↔ Mem x m := by
  constructor
  · rintro ⟨s, hs, hx⟩; exact ⟨s, h.mem_iff.1 hs, hx⟩
  · rintro ⟨s, hs, hx⟩; exact ⟨s, h.mem_iff.2 hs, hx⟩
end Go.Proofs.Ytamnlhlocidbkaa
