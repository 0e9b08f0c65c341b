/-
  Plain facts on lists of spans (pairs of integers): which integers a list contains, lists that are valid, one list for each set, lengths. No program in sight. By an AI agent.
-/
namespace Go.Proofs.Ytamnlhlocidbkaa.Sp
abbrev Sn := Int × Int
def Mem (x : Int) (l : List Sn) : Prop := ∃ s ∈ l, s.1 ≤ x ∧ x < s.2
def Val (l : List Sn) : Prop := l.Pairwise (fun s t => s.2 < t.1) ∧ ∀ s ∈ l, s.1 < s.2
theorem mem_nil (x : Int) : ¬ Mem x [] := by rintro ⟨s, h, _⟩; cases h
theorem mem_cons (x : Int) (s : Sn) (l : List Sn) : Mem x (s :: l) ↔ (s.1 ≤ x ∧ x < s.2) ∨ Mem x l := by
  constructor
  · rintro ⟨t, ht, h⟩
    rcases List.mem_cons.1 ht with rfl | ht
    · exact .inl h
    · exact .inr ⟨t, ht, h⟩
  · rintro (h | ⟨t, ht, h⟩)
    · exact ⟨s, List.mem_cons_self, h⟩
    · exact ⟨t, List.mem_cons_of_mem _ ht, h⟩
theorem mem_append (x : Int) (l m : List Sn) : Mem x (l ++ m) ↔ Mem x l ∨ Mem x m := by
  constructor
  · rintro ⟨t, ht, h⟩
    rcases List.mem_append.1 ht with ht | ht
    · exact .inl ⟨t, ht, h⟩
    · exact .inr ⟨t, ht, h⟩
  · rintro (⟨t, ht, h⟩ | ⟨t, ht, h⟩)
    · exact ⟨t, List.mem_append_left _ ht, h⟩
    · exact ⟨t, List.mem_append_right _ ht, h⟩
theorem mem_one (x : Int) (s : Sn) : Mem x [s] ↔ s.1 ≤ x ∧ x < s.2 := by
  rw [mem_cons]
  exact ⟨fun h => h.elim id fun h => absurd h (mem_nil x), .inl⟩
theorem val_nil : Val [] := ⟨List.Pairwise.nil, fun s h => by cases h⟩
theorem val_cons (s : Sn) (l : List Sn) : Val (s :: l) ↔ s.1 < s.2 ∧ (∀ t ∈ l, s.2 < t.1) ∧ Val l := by
  unfold Val
  rw [List.pairwise_cons]
  constructor
  · rintro ⟨⟨a, b⟩, c⟩
    exact ⟨c s List.mem_cons_self, a, b, fun t ht => c t (List.mem_cons_of_mem _ ht)⟩
  · rintro ⟨a, b, c, d⟩
    refine ⟨⟨b, c⟩, fun t ht => ?_⟩
    rcases List.mem_cons.1 ht with rfl | ht
    · exact a
    · exact d t ht
theorem val_snoc (s : Sn) (l : List Sn) : Val (l ++ [s]) ↔ s.1 < s.2 ∧ (∀ t ∈ l, t.2 < s.1) ∧ Val l := by
  unfold Val
  rw [List.pairwise_append]
  constructor
  · rintro ⟨⟨a, _, b⟩, c⟩
    exact ⟨c s (by simp), fun t ht => b t ht s (by simp), a, fun t ht => c t (by simp [ht])⟩
  · rintro ⟨a, b, c, d⟩
    refine ⟨⟨c, by simp, fun t ht u hu => ?_⟩, fun t ht => ?_⟩
    · obtain rfl : u = s := by simpa using hu
      exact b t ht
    · rcases List.mem_append.1 ht with ht | ht
      · exact d t ht
      · obtain rfl : t = s := by simpa using ht
        exact a
theorem low {s : Sn} {l : List Sn} (h : Val (s :: l)) {x : Int} (hx : Mem x (s :: l)) : s.1 ≤ x := by
  obtain ⟨h1, h2, h3⟩ := (val_cons s l).1 h
  rcases (mem_cons x s l).1 hx with hx | ⟨t, ht, hx⟩
  · exact hx.1
  · have := h2 t ht; omega
theorem not_end {s : Sn} {l : List Sn} (h : Val (s :: l)) : ¬ Mem s.2 (s :: l) := by
  obtain ⟨h1, h2, h3⟩ := (val_cons s l).1 h
  intro hx
  rcases (mem_cons _ s l).1 hx with hx | ⟨t, ht, hx⟩
  · omega
  · have := h2 t ht; omega
theorem tail_mem {s : Sn} {l : List Sn} (h : Val (s :: l)) (x : Int) : Mem x l ↔ Mem x (s :: l) ∧ s.2 ≤ x := by
  obtain ⟨h1, h2, h3⟩ := (val_cons s l).1 h
  rw [mem_cons]
  constructor
  · intro hx
    refine ⟨.inr hx, ?_⟩
    obtain ⟨t, ht, hx⟩ := hx
    have := h2 t ht; omega
  · rintro ⟨hx | hx, hle⟩
    · omega
    · exact hx
/-- of each set of integers there is at most one valid list -/
theorem canon : ∀ {l m : List Sn}, Val l → Val m → (∀ x, Mem x l ↔ Mem x m) → l = m
  | [], [], _, _, _ => rfl
  | [], t :: q, _, hm, h => by
    have := ((val_cons t q).1 hm).1
    exact absurd ((h t.1).2 ⟨t, List.mem_cons_self, by omega⟩) (mem_nil _)
  | s :: r, [], hl, _, h => by
    have := ((val_cons s r).1 hl).1
    exact absurd ((h s.1).1 ⟨s, List.mem_cons_self, by omega⟩) (mem_nil _)
  | s :: r, t :: q, hl, hm, h => by
    have a1 := ((val_cons s r).1 hl).1
    have a2 := ((val_cons t q).1 hm).1
    have b1 := low hm ((h s.1).1 ⟨s, List.mem_cons_self, by omega⟩)
    have b2 := low hl ((h t.1).2 ⟨t, List.mem_cons_self, by omega⟩)
    have c1 : ¬ s.2 < t.2 := fun hlt => not_end hl ((h s.2).2 ⟨t, List.mem_cons_self, by omega⟩)
    have c2 : ¬ t.2 < s.2 := fun hlt => not_end hm ((h t.2).1 ⟨s, List.mem_cons_self, by omega⟩)
    obtain rfl : s = t := Prod.ext (by omega) (by omega)
    rw [canon ((val_cons s r).1 hl).2.2 ((val_cons s q).1 hm).2.2 fun x => by rw [tail_mem hl, tail_mem hm, h]]

def ins (s : Sn) : List Sn → List Sn
  | [] => [s]
  | t :: r => if s.2 < t.1 then s :: t :: r else if t.2 < s.1 then t :: ins s r else ins (min s.1 t.1, max s.2 t.2) r
def norm : List Sn → List Sn
  | [] => []
  | s :: l => if s.1 < s.2 then ins s (norm l) else norm l
theorem mem_ins (x : Int) : ∀ (l : List Sn) (s : Sn), s.1 < s.2 → Val l → (Mem x (ins s l) ↔ (s.1 ≤ x ∧ x < s.2) ∨ Mem x l)
  | [], s, _, _ => by unfold ins; rw [mem_cons]
  | t :: r, s, hs, hl => by
    obtain ⟨h1, h2, h3⟩ := (val_cons t r).1 hl
    unfold ins
    split
    · rw [mem_cons]
    · split
      · rw [mem_cons, mem_ins x r s hs h3, mem_cons]
        constructor <;> (intro h; rcases h with h | h | h <;> simp [h])
      · rw [mem_ins x r _ (by simp only; omega) h3, mem_cons]
        simp only
        constructor
        · rintro (h | h)
          · by_cases hx : s.1 ≤ x ∧ x < s.2
            · exact .inl hx
            · exact .inr (.inl (by omega))
          · exact .inr (.inr h)
        · rintro (h | h | h)
          · exact .inl (by omega)
          · exact .inl (by omega)
          · exact .inr h
theorem ins_low {z : Int} : ∀ {l : List Sn} {s : Sn}, z < s.1 → (∀ t ∈ l, z < t.1) → ∀ u ∈ ins s l, z < u.1
  | [], s, hs, _ => fun u hu => by
    obtain rfl : u = s := by simpa [ins] using hu
    exact hs
  | t :: r, s, hs, hl => fun u hu => by
    unfold ins at hu
    split at hu
    · rcases List.mem_cons.1 hu with rfl | hu
      · exact hs
      · exact hl u hu
    · split at hu
      · rcases List.mem_cons.1 hu with rfl | hu
        · exact hl u List.mem_cons_self
        · exact ins_low hs (fun t ht => hl t (List.mem_cons_of_mem _ ht)) u hu
      · have := hl t List.mem_cons_self
        exact ins_low (s := (min s.1 t.1, max s.2 t.2)) (by simp only; omega) (fun t ht => hl t (List.mem_cons_of_mem _ ht)) u hu
theorem val_ins : ∀ {l : List Sn} {s : Sn}, s.1 < s.2 → Val l → Val (ins s l)
  | [], s, hs, _ => by unfold ins; rw [val_cons]; exact ⟨hs, fun t ht => by simp at ht, val_nil⟩
  | t :: r, s, hs, hl => by
    obtain ⟨h1, h2, h3⟩ := (val_cons t r).1 hl
    unfold ins
    split
    · rw [val_cons]
      refine ⟨hs, fun u hu => ?_, hl⟩
      rcases List.mem_cons.1 hu with rfl | hu
      · assumption
      · have := h2 u hu; omega
    · split
      · rw [val_cons]
        exact ⟨h1, ins_low (by assumption) h2, val_ins hs h3⟩
      · exact val_ins (by simp only; omega) h3
theorem norm_val : ∀ l : List Sn, Val (norm l)
  | [] => val_nil
  | s :: l => by
    unfold norm
    split
    · exact val_ins (by assumption) (norm_val l)
    · exact norm_val l
theorem norm_mem (x : Int) : ∀ l : List Sn, Mem x (norm l) ↔ Mem x l
  | [] => Iff.rfl
  | s :: l => by
    unfold norm
    rw [mem_cons, ← norm_mem x l]
    split
    · exact mem_ins x _ _ (by assumption) (norm_val l)
    · exact ⟨.inr, fun h => h.elim (fun h => by omega) id⟩
/-- 'm' is the valid list of the integers of 'l' -/
theorem norm_uniq {l m : List Sn} (hv : Val m) (h : ∀ x, Mem x m ↔ Mem x l) : m = norm l := canon hv (norm_val l) fun x => by rw [h, norm_mem]
theorem norm_congr {l m : List Sn} (h : ∀ x, Mem x l ↔ Mem x m) : norm l = norm m := norm_uniq (norm_val l) fun x => by rw [norm_mem, h]
theorem norm_of_val {l : List Sn} (h : Val l) : norm l = l := (norm_uniq h fun _ => Iff.rfl).symm
theorem ins_ends {P : Int → Prop} : ∀ {l : List Sn} {s : Sn}, P s.1 → P s.2 → (∀ t ∈ l, P t.1 ∧ P t.2) → ∀ u ∈ ins s l, P u.1 ∧ P u.2
  | [], s, h1, h2, _ => fun u hu => by
    obtain rfl : u = s := by simpa [ins] using hu
    exact ⟨h1, h2⟩
  | t :: r, s, h1, h2, hl => fun u hu => by
    have ht := hl t List.mem_cons_self
    have hr : ∀ t ∈ r, P t.1 ∧ P t.2 := fun t ht => hl t (List.mem_cons_of_mem _ ht)
    unfold ins at hu
    split at hu
    · rcases List.mem_cons.1 hu with rfl | hu
      · exact ⟨h1, h2⟩
      · exact hl u hu
    · split at hu
      · rcases List.mem_cons.1 hu with rfl | hu
        · exact ht
        · exact ins_ends h1 h2 hr u hu
      · refine ins_ends (s := (min s.1 t.1, max s.2 t.2)) ?_ ?_ hr u hu
        · simp only
          by_cases hc : s.1 ≤ t.1
          · rw [Int.min_eq_left hc]; exact h1
          · rw [Int.min_eq_right (by omega)]; exact ht.1
        · simp only
          by_cases hc : s.2 ≤ t.2
          · rw [Int.max_eq_right hc]; exact ht.2
          · rw [Int.max_eq_left (by omega)]; exact h2
theorem norm_ends {P : Int → Prop} : ∀ {l : List Sn}, (∀ t ∈ l, P t.1 ∧ P t.2) → ∀ u ∈ norm l, P u.1 ∧ P u.2
  | [], _ => fun u hu => by cases hu
  | s :: l, h => fun u hu => by
    have hr : ∀ t ∈ l, P t.1 ∧ P t.2 := fun t ht => h t (List.mem_cons_of_mem _ ht)
    unfold norm at hu
    split at hu
    · exact ins_ends (h s List.mem_cons_self).1 (h s List.mem_cons_self).2 (norm_ends hr) u hu
    · exact norm_ends hr u hu

/-- a list without repetition whose members are all among those of another is not longer -/
theorem length_le_of_sub : ∀ {a b : List Int}, a.Nodup → (∀ x ∈ a, x ∈ b) → a.length ≤ b.length
  | [], _, _, _ => Nat.zero_le _
  | x :: a, b, hn, h => by
    have hx : x ∈ b := h x List.mem_cons_self
    have := length_le_of_sub (a := a) (b := b.erase x) (List.nodup_cons.1 hn).2 fun y hy => by
      refine (List.mem_erase_of_ne ?_).2 (h y (List.mem_cons_of_mem _ hy))
      rintro rfl
      exact (List.nodup_cons.1 hn).1 hy
    rw [List.length_erase_of_mem hx] at this
    have hp : 0 < b.length := List.length_pos_of_mem hx
    simp only [List.length_cons]
    omega
theorem starts_nodup : ∀ {l : List Sn}, Val l → (l.map (·.1)).Nodup
  | [], _ => by simp
  | s :: l, h => by
    obtain ⟨h1, h2, h3⟩ := (val_cons s l).1 h
    rw [List.map_cons, List.nodup_cons]
    refine ⟨fun hm => ?_, starts_nodup h3⟩
    obtain ⟨t, ht, e⟩ := List.mem_map.1 hm
    have := h2 t ht; omega
theorem start_is : ∀ {l : List Sn}, Val l → ∀ s ∈ l, Mem s.1 l ∧ ¬ Mem (s.1 - 1) l
  | [], _, s, hs => by cases hs
  | t :: l, h, s, hs => by
    obtain ⟨h1, h2, h3⟩ := (val_cons t l).1 h
    rcases List.mem_cons.1 hs with rfl | hs
    · exact ⟨⟨s, List.mem_cons_self, by omega⟩, fun hm => by have := low h hm; omega⟩
    · obtain ⟨a, b⟩ := start_is h3 s hs
      refine ⟨(mem_cons _ _ _).2 (.inr a), fun hm => ?_⟩
      have := h2 s hs
      rcases (mem_cons _ _ _).1 hm with hm | hm
      · omega
      · exact b hm
theorem start_in : ∀ {l : List Sn}, Val l → ∀ {x : Int}, Mem x l → ¬ Mem (x - 1) l → x ∈ l.map (·.1) := by
  intro l h x ⟨s, hs, hx⟩ hn
  refine List.mem_map.2 ⟨s, hs, ?_⟩
  rcases Int.lt_or_le (x - 1) s.1 with hlt | hle
  · omega
  · exact absurd ⟨s, hs, by omega⟩ hn
theorem end_in {l : List Sn} {x : Int} (hm : Mem (x - 1) l) (hn : ¬ Mem x l) : x ∈ l.map (·.2) := by
  obtain ⟨s, hs, hx⟩ := hm
  refine List.mem_map.2 ⟨s, hs, ?_⟩
  rcases Int.lt_or_le x s.2 with hlt | hle
  · exact absurd ⟨s, hs, by omega⟩ hn
  · omega
theorem len_le {l : List Sn} (h : Val l) (S : List Int) (hS : ∀ x, Mem x l → ¬ Mem (x - 1) l → x ∈ S) : l.length ≤ S.length := by
  rw [← List.length_map (f := fun s : Sn => s.1)]
  refine length_le_of_sub (starts_nodup h) fun x hx => ?_
  obtain ⟨s, hs, rfl⟩ := List.mem_map.1 hx
  obtain ⟨a, b⟩ := start_is h s hs
  exact hS _ a b
theorem ins_len : ∀ (l : List Sn) (s : Sn), (ins s l).length ≤ l.length + 1
  | [], s => by simp [ins]
  | t :: r, s => by
    unfold ins
    split
    · simp
    · split
      · have := ins_len r s; simp; omega
      · have := ins_len r (min s.1 t.1, max s.2 t.2); simp; omega
theorem norm_len : ∀ l : List Sn, (norm l).length ≤ l.length
  | [] => by simp [norm]
  | s :: l => by
    have := norm_len l
    unfold norm
    split
    · have := ins_len (norm l) s; simp; omega
    · simp; omega
/-- union, intersection, difference, each as one list -/
def pairs (a b : List Sn) : List Sn := a.flatMap fun s => b.map fun t => (max s.1 t.1, min s.2 t.2)
def cut1 (l : List Sn) (t : Sn) : List Sn := l.flatMap fun s => [(s.1, min s.2 t.1), (max s.1 t.2, s.2)]
def cuts (a : List Sn) : List Sn → List Sn
  | [] => a
  | t :: b => cuts (if t.1 < t.2 then cut1 a t else a) b
def uni (a b : List Sn) : List Sn := norm (a ++ b)
def inter (a b : List Sn) : List Sn := norm (pairs a b)
def subt (a b : List Sn) : List Sn := norm (cuts a b)
theorem mem_pairs (x : Int) (a b : List Sn) : Mem x (pairs a b) ↔ Mem x a ∧ Mem x b := by
  unfold pairs Mem
  constructor
  · rintro ⟨u, hu, h1, h2⟩
    obtain ⟨s, hs, hu⟩ := List.mem_flatMap.1 hu
    obtain ⟨t, ht, rfl⟩ := List.mem_map.1 hu
    simp only at h1 h2
    exact ⟨⟨s, hs, by omega⟩, t, ht, by omega⟩
  · rintro ⟨⟨s, hs, h1⟩, t, ht, h2⟩
    exact ⟨_, List.mem_flatMap.2 ⟨s, hs, List.mem_map.2 ⟨t, ht, rfl⟩⟩, by simp only; omega⟩
theorem mem_cut1 (x : Int) (l : List Sn) (t : Sn) (_h : t.1 < t.2) : Mem x (cut1 l t) ↔ Mem x l ∧ ¬ (t.1 ≤ x ∧ x < t.2) := by
  unfold cut1 Mem
  constructor
  · rintro ⟨u, hu, h1, h2⟩
    obtain ⟨s, hs, hu⟩ := List.mem_flatMap.1 hu
    simp only [List.mem_cons, List.not_mem_nil, or_false] at hu
    rcases hu with rfl | rfl
    · simp only at h1 h2; exact ⟨⟨s, hs, by omega⟩, by omega⟩
    · simp only at h1 h2; exact ⟨⟨s, hs, by omega⟩, by omega⟩
  · rintro ⟨⟨s, hs, h1⟩, h2⟩
    by_cases hx : x < t.1
    · exact ⟨(s.1, min s.2 t.1), List.mem_flatMap.2 ⟨s, hs, by simp⟩, by simp only; omega⟩
    · exact ⟨(max s.1 t.2, s.2), List.mem_flatMap.2 ⟨s, hs, by simp⟩, by simp only; omega⟩
theorem mem_cuts (x : Int) : ∀ (b a : List Sn), Mem x (cuts a b) ↔ Mem x a ∧ ¬ Mem x b
  | [], a => by unfold cuts; exact ⟨fun h => ⟨h, mem_nil x⟩, fun h => h.1⟩
  | t :: b, a => by
    unfold cuts
    rw [mem_cuts x b, mem_cons]
    split
    · rw [mem_cut1 x a t (by assumption), not_or, and_assoc]
    · constructor
      · rintro ⟨h1, h2⟩; exact ⟨h1, fun h => h.elim (fun h => by omega) h2⟩
      · rintro ⟨h1, h2⟩; exact ⟨h1, fun h => h2 (.inr h)⟩
theorem mem_uni (x : Int) (a b : List Sn) : Mem x (uni a b) ↔ Mem x a ∨ Mem x b := by unfold uni; rw [norm_mem, mem_append]
theorem mem_inter (x : Int) (a b : List Sn) : Mem x (inter a b) ↔ Mem x a ∧ Mem x b := by unfold inter; rw [norm_mem, mem_pairs]
theorem mem_subt (x : Int) (a b : List Sn) : Mem x (subt a b) ↔ Mem x a ∧ ¬ Mem x b := by unfold subt; rw [norm_mem, mem_cuts]
theorem val_uni (a b : List Sn) : Val (uni a b) := norm_val _
theorem val_inter (a b : List Sn) : Val (inter a b) := norm_val _
theorem val_subt (a b : List Sn) : Val (subt a b) := norm_val _
theorem uni_uniq {a b m : List Sn} (hv : Val m) (h : ∀ x, Mem x m ↔ Mem x a ∨ Mem x b) : m = uni a b := canon hv (norm_val _) fun x => by rw [h, ← mem_uni]
theorem inter_uniq {a b m : List Sn} (hv : Val m) (h : ∀ x, Mem x m ↔ Mem x a ∧ Mem x b) : m = inter a b := canon hv (norm_val _) fun x => by rw [h, ← mem_inter]
theorem subt_uniq {a b m : List Sn} (hv : Val m) (h : ∀ x, Mem x m ↔ Mem x a ∧ ¬ Mem x b) : m = subt a b := canon hv (norm_val _) fun x => by rw [h, ← mem_subt]
theorem uni_len (a b : List Sn) : (uni a b).length ≤ a.length + b.length := by
  have := norm_len (a ++ b)
  rw [List.length_append] at this
  exact this
theorem inter_len (a b : List Sn) : (inter a b).length ≤ a.length + b.length := by
  have h := len_le (val_inter a b) ((norm a).map (·.1) ++ (norm b).map (·.1)) fun x hx hn => by
    rw [mem_inter] at hx hn
    rw [List.mem_append]
    by_cases ha : Mem (x - 1) a
    · exact .inr (start_in (norm_val b) ((norm_mem x b).2 hx.2) fun h => hn ⟨ha, (norm_mem _ _).1 h⟩)
    · exact .inl (start_in (norm_val a) ((norm_mem x a).2 hx.1) fun h => ha ((norm_mem _ _).1 h))
  have h1 := norm_len a
  have h2 := norm_len b
  simp at h
  omega
theorem subt_len (a b : List Sn) : (subt a b).length ≤ a.length + b.length := by
  have h := len_le (val_subt a b) ((norm a).map (·.1) ++ (norm b).map (·.2)) fun x hx hn => by
    rw [mem_subt] at hx hn
    rw [List.mem_append]
    by_cases ha : Mem (x - 1) a
    · refine .inr (end_in ?_ fun h => hx.2 ((norm_mem _ _).1 h))
      rw [norm_mem]
      exact Classical.byContradiction fun h => hn ⟨ha, h⟩
    · exact .inl (start_in (norm_val a) ((norm_mem x a).2 hx.1) fun h => ha ((norm_mem _ _).1 h))
  have h1 := norm_len a
  have h2 := norm_len b
  simp at h
  omega
end Go.Proofs.Ytamnlhlocidbkaa.Sp
