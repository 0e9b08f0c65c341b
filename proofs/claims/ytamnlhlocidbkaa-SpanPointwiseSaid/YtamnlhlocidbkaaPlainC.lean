/-
  Plain facts: what each loop over spans keeps, step by step. No program in sight.
-/
import Derived.Test.YtamnlhlocidbkaaPlainB
namespace Go.Proofs.Ytamnlhlocidbkaa
open Sp (Sn Mem Val norm uni inter subt val_cons val_snoc mem_cons mem_append mem_one)
theorem val_append (l m : List Sn) : Val (l ++ m) ↔ Val l ∧ Val m ∧ ∀ s ∈ l, ∀ t ∈ m, s.2 < t.1 := by
  unfold Val
  rw [List.pairwise_append]
  constructor
  · rintro ⟨⟨a, b, c⟩, d⟩
    exact ⟨⟨a, fun s hs => d s (List.mem_append_left _ hs)⟩, ⟨b, fun s hs => d s (List.mem_append_right _ hs)⟩, c⟩
  · rintro ⟨⟨a, b⟩, ⟨c, d⟩, e⟩
    refine ⟨⟨a, c, e⟩, fun s hs => ?_⟩
    rcases List.mem_append.1 hs with h | h
    · exact b s h
    · exact d s h
theorem val_one (s : Sn) : Val [s] ↔ s.1 < s.2 := by rw [val_cons]; exact ⟨fun h => h.1, fun h => ⟨h, (fun t ht => by cases ht), Sp.val_nil⟩⟩

/-- adding a span to a valid list: what was before it, what is behind it, the span itself, grown -/
structure AddInv (s : Sn) (ds bl al : List Sn) (t : Sn) : Prop where
  val : Val (bl ++ t :: al)
  mem : ∀ x, Mem x (bl ++ t :: al) ↔ (s.1 ≤ x ∧ x < s.2) ∨ Mem x ds
  inb : ∀ u ∈ bl, u ∈ ds
  ina : ∀ u ∈ al, u ∈ ds
  lb : bl.length + al.length ≤ ds.length
theorem AddInv.start {s : Sn} (h : s.1 < s.2) : AddInv s [] [] [] s where
  val := (val_one s).2 h
  mem := fun x => by rw [List.nil_append, mem_one]; exact ⟨.inl, fun h => h.elim id fun h => absurd h (Sp.mem_nil x)⟩
  inb := fun u hu => by cases hu
  ina := fun u hu => by cases hu
  lb := Nat.le_refl _
section
variable {s t r : Sn} {ds bl al : List Sn}
theorem AddInv.ne (h : AddInv s ds bl al t) : t.1 < t.2 := h.val.2 t (by simp)
theorem mem_mid (x : Int) (bl al : List Sn) (t : Sn) : Mem x (bl ++ t :: al) ↔ Mem x bl ∨ (t.1 ≤ x ∧ x < t.2) ∨ Mem x al := by rw [mem_append, mem_cons]
theorem AddInv.before (h : AddInv s ds bl al t) (hv : Val (ds ++ [r])) (c : r.2 < t.1) : AddInv s (ds ++ [r]) (bl ++ [r]) al t where
  val := by
    obtain ⟨a, b, d⟩ := (val_append _ _).1 h.val
    obtain ⟨e, f, g⟩ := (val_cons _ _).1 b
    obtain ⟨r1, r2, r3⟩ := (val_snoc r ds).1 hv
    rw [val_append]
    refine ⟨(val_snoc r bl).2 ⟨r1, fun u hu => r2 u (h.inb u hu), a⟩, b, fun u hu v hv' => ?_⟩
    rcases List.mem_append.1 hu with hu | hu
    · exact d u hu v hv'
    · obtain rfl : u = r := by simpa using hu
      rcases List.mem_cons.1 hv' with rfl | hv'
      · exact c
      · have := f v hv'; omega
  mem := fun x => by
    have := h.mem x
    rw [mem_mid] at this ⊢
    rw [mem_append, mem_append, mem_one, ← or_assoc (a := s.1 ≤ x ∧ x < s.2), ← this]
    constructor
    · rintro ((h | h) | h | h) <;> simp [h]
    · rintro ((h | h | h) | h) <;> simp [h]
  inb := fun u hu => by
    rcases List.mem_append.1 hu with hu | hu
    · exact List.mem_append_left _ (h.inb u hu)
    · exact List.mem_append_right _ hu
  ina := fun u hu => List.mem_append_left _ (h.ina u hu)
  lb := by have := h.lb; simp; omega
theorem AddInv.after (h : AddInv s ds bl al t) (hv : Val (ds ++ [r])) (c : t.2 < r.1) : AddInv s (ds ++ [r]) bl (al ++ [r]) t where
  val := by
    obtain ⟨r1, r2, r3⟩ := (val_snoc r ds).1 hv
    rw [show bl ++ t :: (al ++ [r]) = (bl ++ t :: al) ++ [r] by simp, val_snoc]
    refine ⟨r1, fun u hu => ?_, h.val⟩
    rcases List.mem_append.1 hu with hu | hu
    · exact r2 u (h.inb u hu)
    · rcases List.mem_cons.1 hu with rfl | hu
      · exact c
      · exact r2 u (h.ina u hu)
  mem := fun x => by
    rw [show bl ++ t :: (al ++ [r]) = (bl ++ t :: al) ++ [r] by simp, mem_append, h.mem x, mem_append, or_assoc]
  inb := fun u hu => List.mem_append_left _ (h.inb u hu)
  ina := fun u hu => by
    rcases List.mem_append.1 hu with hu | hu
    · exact List.mem_append_left _ (h.ina u hu)
    · exact List.mem_append_right _ hu
  lb := by have := h.lb; simp; omega
theorem AddInv.join (h : AddInv s ds bl al t) (hv : Val (ds ++ [r])) (c1 : ¬ r.2 < t.1) (c2 : ¬ t.2 < r.1) : AddInv s (ds ++ [r]) bl al (min t.1 r.1, max t.2 r.2) := by
  obtain ⟨r1, r2, r3⟩ := (val_snoc r ds).1 hv
  obtain ⟨a, b, d⟩ := (val_append _ _).1 h.val
  obtain ⟨e, f, g⟩ := (val_cons _ _).1 b
  obtain rfl : al = [] := by
    rcases al with _ | ⟨u, al⟩
    · rfl
    · have h1 := f u List.mem_cons_self
      have h2 := r2 u (h.ina u List.mem_cons_self)
      have h3 := ((val_cons _ _).1 g).1
      omega
  refine ⟨?_, fun x => ?_, fun u hu => List.mem_append_left _ (h.inb u hu), (fun u hu => by cases hu), by have := h.lb; simp at this ⊢; omega⟩
  · rw [val_append]
    refine ⟨a, (val_one _).2 (by simp only; omega), fun u hu v hv' => ?_⟩
    obtain rfl : v = (min t.1 r.1, max t.2 r.2) := by simpa using hv'
    have h1 := d u hu t (by simp)
    have h2 := r2 u (h.inb u hu)
    simp only
    omega
  · have := h.mem x
    rw [mem_mid] at this ⊢
    rw [mem_append, mem_one, ← or_assoc (a := s.1 ≤ x ∧ x < s.2), ← this]
    simp only
    constructor
    · rintro (h | h | h)
      · simp [h]
      · by_cases hx : t.1 ≤ x ∧ x < t.2
        · exact .inl (.inr (.inl hx))
        · exact .inr (by omega)
      · exact absurd h (Sp.mem_nil x)
    · rintro ((h | h | h) | h)
      · exact .inl h
      · exact .inr (.inl (by omega))
      · exact absurd h (Sp.mem_nil x)
      · exact .inr (.inl (by omega))
/-- a valid list with a further span -/
def addS (l : List Sn) (s : Sn) : List Sn := norm (l ++ [s])
theorem addS_no {l : List Sn} (hv : Val l) (h : ¬ s.1 < s.2) : addS l s = l := by
  refine (Sp.norm_uniq hv fun x => ?_).symm
  rw [mem_append, mem_one]
  exact ⟨.inl, fun h => h.elim id fun h => by omega⟩
theorem AddInv.done (h : AddInv s ds bl al t) : bl ++ t :: al = addS ds s := by
  refine Sp.norm_uniq h.val fun x => ?_
  rw [h.mem x, mem_append, mem_one, or_comm]
end
theorem addS_val (l : List Sn) (s : Sn) : Val (addS l s) := Sp.norm_val _
theorem addS_mem (x : Int) (l : List Sn) (s : Sn) : Mem x (addS l s) ↔ Mem x l ∨ (s.1 ≤ x ∧ x < s.2) := by unfold addS; rw [Sp.norm_mem, mem_append, mem_one]
theorem addS_len (l : List Sn) (s : Sn) : (addS l s).length ≤ l.length + 1 := by have := Sp.norm_len (l ++ [s]); simpa [addS] using this
theorem addS_norm (l : List Sn) (s : Sn) : addS (norm l) s = norm (l ++ [s]) := Sp.norm_congr fun x => by rw [mem_append, mem_append, Sp.norm_mem]
theorem norm_nil : norm [] = [] := rfl

/-- the loop of Normal behind the sort: ds has come so far, out is what has been laid -/
structure NrmInv (ds out : List Sn) : Prop where
  val : Val out
  mem : ∀ x, Mem x out ↔ Mem x ds
  src : ∀ u ∈ out, ∃ v ∈ ds, u.1 = v.1
  len : out.length ≤ ds.length
theorem NrmInv.start : NrmInv [] [] := ⟨Sp.val_nil, fun _ => Iff.rfl, (fun u hu => by cases hu), Nat.le_refl _⟩
theorem NrmInv.grow {ds out : List Sn} {u v : Sn} (h : NrmInv ds (out ++ [u])) (hv : v.1 < v.2) (hs : ∀ t ∈ ds, t.1 ≤ v.1) (c : v.1 ≤ u.2) : NrmInv (ds ++ [v]) (out ++ [(u.1, max u.2 v.2)]) := by
  obtain ⟨a1, a2, a3⟩ := (val_snoc u out).1 h.val
  obtain ⟨t, ht, e⟩ := h.src u (by simp)
  have hut : u.1 ≤ v.1 := by have := hs t ht; omega
  refine ⟨(val_snoc _ _).2 ⟨by simp only; omega, fun t ht => a2 t ht, a3⟩, fun x => ?_, fun y hy => ?_, by have := h.len; simp at this ⊢; omega⟩
  · have := h.mem x
    rw [mem_append, mem_one] at this ⊢
    rw [mem_append, mem_one, ← this]
    simp only
    constructor
    · rintro (h | h)
      · exact .inl (.inl h)
      · by_cases hx : x < u.2
        · exact .inl (.inr (by omega))
        · exact .inr (by omega)
    · rintro ((h | h) | h)
      · exact .inl h
      · exact .inr (by omega)
      · exact .inr (by omega)
  · rcases List.mem_append.1 hy with hy | hy
    · obtain ⟨z, hz, e'⟩ := h.src y (List.mem_append_left _ hy)
      exact ⟨z, List.mem_append_left _ hz, e'⟩
    · obtain rfl : y = (u.1, max u.2 v.2) := by simpa using hy
      exact ⟨t, List.mem_append_left _ ht, e⟩
theorem NrmInv.push {ds out : List Sn} {v : Sn} (h : NrmInv ds out) (hv : v.1 < v.2) (c : ∀ u ∈ out, u.2 < v.1) : NrmInv (ds ++ [v]) (out ++ [v]) := by
  refine ⟨(val_snoc _ _).2 ⟨hv, c, h.val⟩, fun x => by rw [mem_append, mem_append, h.mem x], fun y hy => ?_, by have := h.len; simp; omega⟩
  rcases List.mem_append.1 hy with hy | hy
  · obtain ⟨z, hz, e'⟩ := h.src y hy
    exact ⟨z, List.mem_append_left _ hz, e'⟩
  · exact ⟨y, List.mem_append_right _ hy, rfl⟩
/-- a later span lies behind all that has been laid, if it lies behind the last -/
theorem NrmInv.behind {ds out : List Sn} {u v : Sn} (h : NrmInv ds (out ++ [u])) (c : u.2 < v.1) : ∀ t ∈ out ++ [u], t.2 < v.1 := fun t ht => by
  obtain ⟨a1, a2, a3⟩ := (val_snoc u out).1 h.val
  rcases List.mem_append.1 ht with ht | ht
  · have := a2 t ht; omega
  · obtain rfl : t = u := by simpa using ht
    exact c

/-- the loop of overlaps: what has been yielded; i of a and j of b are done -/
structure IntInv (a b : List Sn) (i j : Nat) (out : List Sn) : Prop where
  val : Val out
  mem : ∀ x, (Mem x a ∧ Mem x b) ↔ Mem x out ∨ (Mem x (a.drop i) ∧ Mem x (b.drop j))
  sep : ∀ u ∈ out, (∀ t ∈ a.drop i, u.2 < t.1) ∨ (∀ t ∈ b.drop j, u.2 < t.1)
  len : out.length ≤ i + j
theorem IntInv.start (a b : List Sn) : IntInv a b 0 0 [] := ⟨Sp.val_nil, fun x => by simp [Sp.mem_nil], (fun u hu => by cases hu), Nat.le_refl _⟩
section
variable {a b out : List Sn} {i j : Nat}
/-- what both have in common from i and j on: the overlap of the heads, and the rest -/
theorem over (s t : Sn) (r q : List Sn) (x : Int) (hr : Val (s :: r)) (hq : Val (t :: q)) : (Mem x (s :: r) ∧ Mem x (t :: q)) ↔ (max s.1 t.1 ≤ x ∧ x < min s.2 t.2) ∨ (if s.2 < t.2 then Mem x r ∧ Mem x (t :: q) else Mem x (s :: r) ∧ Mem x q) := by
  obtain ⟨s1, s2, s3⟩ := (val_cons s r).1 hr
  obtain ⟨t1, t2, t3⟩ := (val_cons t q).1 hq
  rw [mem_cons, mem_cons]
  have hr' : Mem x r → s.2 < x := fun ⟨u, hu, hx⟩ => by have := s2 u hu; omega
  have hq' : Mem x q → t.2 < x := fun ⟨u, hu, hx⟩ => by have := t2 u hu; omega
  split
  · constructor
    · rintro ⟨h1 | h1, h2 | h2⟩
      · exact .inl (by omega)
      · have := hq' h2; omega
      · exact .inr ⟨h1, .inl h2⟩
      · exact .inr ⟨h1, .inr h2⟩
    · rintro (h | ⟨h1, h2⟩)
      · exact ⟨.inl (by omega), .inl (by omega)⟩
      · exact ⟨.inr h1, h2⟩
  · constructor
    · rintro ⟨h1 | h1, h2 | h2⟩
      · exact .inl (by omega)
      · exact .inr ⟨.inl h1, h2⟩
      · have := hr' h1; omega
      · exact .inr ⟨.inr h1, h2⟩
    · rintro (h | ⟨h1, h2⟩)
      · exact ⟨.inl (by omega), .inl (by omega)⟩
      · exact ⟨h1, .inr h2⟩
theorem IntInv.step (h : IntInv a b i j out) (ha : Val a) (hb : Val b) (hi : i < a.length) (hj : j < b.length) :
    IntInv a b (if (el a i).2 < (el b j).2 then i + 1 else i) (if (el a i).2 < (el b j).2 then j else j + 1)
      (if max (el a i).1 (el b j).1 < min (el a i).2 (el b j).2 then out ++ [(max (el a i).1 (el b j).1, min (el a i).2 (el b j).2)] else out) := by
  have da := drop_el hi
  have db := drop_el hj
  have va : Val (el a i :: a.drop (i + 1)) := by rw [← da]; exact val_drop i ha
  have vb : Val (el b j :: b.drop (j + 1)) := by rw [← db]; exact val_drop j hb
  obtain ⟨a1, a2, a3⟩ := (val_cons _ _).1 va
  obtain ⟨b1, b2, b3⟩ := (val_cons _ _).1 vb
  have sep' : ∀ u ∈ out, u.2 < max (el a i).1 (el b j).1 := fun u hu => by
    rcases h.sep u hu with hh | hh
    · have := hh (el a i) (by rw [da]; exact List.mem_cons_self); omega
    · have := hh (el b j) (by rw [db]; exact List.mem_cons_self); omega
  have hm : ∀ x, (Mem x a ∧ Mem x b) ↔ Mem x out ∨ (max (el a i).1 (el b j).1 ≤ x ∧ x < min (el a i).2 (el b j).2) ∨ (if (el a i).2 < (el b j).2 then Mem x (a.drop (i + 1)) ∧ Mem x (b.drop j) else Mem x (a.drop i) ∧ Mem x (b.drop (j + 1))) := fun x => by
    rw [h.mem x, da, db, over _ _ _ _ x va vb, ← da, ← db]
  by_cases c : (el a i).2 < (el b j).2
  · simp only [if_pos c] at hm ⊢
    by_cases c2 : max (el a i).1 (el b j).1 < min (el a i).2 (el b j).2
    · simp only [if_pos c2]
      refine ⟨(val_snoc _ _).2 ⟨c2, sep', h.val⟩, fun x => by rw [hm, mem_append, mem_one, or_assoc], fun u hu => ?_, by have := h.len; simp; omega⟩
      rcases List.mem_append.1 hu with hu | hu
      · exact (h.sep u hu).imp (fun hh t ht => hh t (by rw [da]; exact List.mem_cons_of_mem _ ht)) id
      · obtain rfl : u = (max (el a i).1 (el b j).1, min (el a i).2 (el b j).2) := by simpa using hu
        exact .inl fun t ht => by have := a2 t ht; simp only; omega
    · simp only [if_neg c2]
      refine ⟨h.val, fun x => by rw [hm]; exact ⟨fun q => q.elim .inl fun q => q.elim (fun q => by omega) .inr, fun q => q.elim .inl fun q => .inr (.inr q)⟩, fun u hu => (h.sep u hu).imp (fun hh t ht => hh t (by rw [da]; exact List.mem_cons_of_mem _ ht)) id, by have := h.len; omega⟩
  · simp only [if_neg c] at hm ⊢
    by_cases c2 : max (el a i).1 (el b j).1 < min (el a i).2 (el b j).2
    · simp only [if_pos c2]
      refine ⟨(val_snoc _ _).2 ⟨c2, sep', h.val⟩, fun x => by rw [hm, mem_append, mem_one, or_assoc], fun u hu => ?_, by have := h.len; simp; omega⟩
      rcases List.mem_append.1 hu with hu | hu
      · exact (h.sep u hu).imp id (fun hh t ht => hh t (by rw [db]; exact List.mem_cons_of_mem _ ht))
      · obtain rfl : u = (max (el a i).1 (el b j).1, min (el a i).2 (el b j).2) := by simpa using hu
        exact .inr fun t ht => by have := b2 t ht; simp only; omega
    · simp only [if_neg c2]
      refine ⟨h.val, fun x => by rw [hm]; exact ⟨fun q => q.elim .inl fun q => q.elim (fun q => by omega) .inr, fun q => q.elim .inl fun q => .inr (.inr q)⟩, fun u hu => (h.sep u hu).imp id (fun hh t ht => hh t (by rw [db]; exact List.mem_cons_of_mem _ ht)), by have := h.len; omega⟩
theorem IntInv.done (h : IntInv a b i j out) (hd : ¬ (i < a.length ∧ j < b.length)) : out = inter a b := by
  refine Sp.inter_uniq h.val fun x => ?_
  rw [h.mem x]
  refine ⟨.inl, fun q => q.elim id fun ⟨q1, q2⟩ => ?_⟩
  by_cases hi : i < a.length
  · rw [List.drop_eq_nil_of_le (show b.length ≤ j by omega)] at q2; exact absurd q2 (Sp.mem_nil x)
  · rw [List.drop_eq_nil_of_le (show a.length ≤ i by omega)] at q1; exact absurd q1 (Sp.mem_nil x)
end
theorem inter_norm (a b : List Sn) : inter (norm a) (norm b) = inter a b := Sp.inter_uniq (Sp.val_inter _ _) fun x => by rw [Sp.mem_inter, Sp.norm_mem, Sp.norm_mem]
theorem subt_norm (a b : List Sn) : subt (norm a) (norm b) = subt a b := Sp.subt_uniq (Sp.val_subt _ _) fun x => by rw [Sp.mem_subt, Sp.norm_mem, Sp.norm_mem]
end Go.Proofs.Ytamnlhlocidbkaa
