/-
  Plain arithmetic of timecodes: no program in sight. By an AI agent.
-/
namespace Go.Proofs.YtfnmjabegajniaaDoor.Pl
def Row (n d b p : Int) : Prop :=
  (n = 24000 ∧ d = 1001 ∧ b = 24 ∧ p = 0) ∨ (n = 24 ∧ d = 1 ∧ b = 24 ∧ p = 0) ∨ (n = 25 ∧ d = 1 ∧ b = 25 ∧ p = 0) ∨ (n = 30000 ∧ d = 1001 ∧ b = 30 ∧ p = 2) ∨
  (n = 30 ∧ d = 1 ∧ b = 30 ∧ p = 0) ∨ (n = 50 ∧ d = 1 ∧ b = 50 ∧ p = 0) ∨ (n = 60000 ∧ d = 1001 ∧ b = 60 ∧ p = 4) ∨ (n = 60 ∧ d = 1 ∧ b = 60 ∧ p = 0)
def day (b p : Int) : Int := 86400 * b - 1296 * p
def ten (b p : Int) : Int := 600 * b - 9 * p
def dropping (b p i : Int) : Int := i / ten b p * 9 + if 60 * b ≤ i % ten b p then (i % ten b p - 60 * b) / (60 * b - p) + 1 else 0
def number (b p i : Int) : Int := i + dropping b p i * p
def skip (p k : Int) : Int := if k % 10 = 0 then 0 else p
def start (b p k : Int) : Int := 60 * b * k - (k - (k + 9) / 10) * p
def frameAt (b p M s f : Int) : Int := (60 * M + s) * b + f - (M - M / 10) * p
/-- only three shapes of (base, drop) matter -/
theorem Row.shape {n d b p : Int} (h : Row n d b p) : (p = 0 ∧ (b = 24 ∨ b = 25 ∨ b = 30 ∨ b = 50 ∨ b = 60)) ∨ (b = 30 ∧ p = 2) ∨ (b = 60 ∧ p = 4) := by
  unfold Row at h; omega

theorem number_zero (b i : Int) : number b 0 i = i := by simp [number]
theorem number30 (q r i : Int) (h0 : 0 ≤ r) (h1 : r ≤ 9) (h2 : (if r = 0 then 0 else 1800 + 1798 * (r - 1)) ≤ i - 17982 * q) (h3 : i - 17982 * q < 1800 + 1798 * r) : number 30 2 i = i + (9 * q + r) * 2 := by
  simp only [number, dropping, ten]
  have e1 : i / (600 * 30 - 9 * 2) = q := by split at h2 <;> omega
  have e2 : i % (600 * 30 - 9 * 2) = i - 17982 * q := by split at h2 <;> omega
  simp only [e1, e2]
  split at h2 <;> split <;> omega
theorem number60 (q r i : Int) (h0 : 0 ≤ r) (h1 : r ≤ 9) (h2 : (if r = 0 then 0 else 3600 + 3596 * (r - 1)) ≤ i - 35964 * q) (h3 : i - 35964 * q < 3600 + 3596 * r) : number 60 4 i = i + (9 * q + r) * 4 := by
  simp only [number, dropping, ten]
  have e1 : i / (600 * 60 - 9 * 4) = q := by split at h2 <;> omega
  have e2 : i % (600 * 60 - 9 * 4) = i - 35964 * q := by split at h2 <;> omega
  simp only [e1, e2]
  split at h2 <;> split <;> omega
theorem cut30 (i : Int) : ∃ q r, 0 ≤ r ∧ r ≤ 9 ∧ (if r = 0 then 0 else 1800 + 1798 * (r - 1)) ≤ i - 17982 * q ∧ i - 17982 * q < 1800 + 1798 * r := by
  by_cases h : 1800 ≤ i % 17982
  · exact ⟨i / 17982, (i % 17982 - 1800) / 1798 + 1, by omega, by omega, by split <;> omega, by omega⟩
  · exact ⟨i / 17982, 0, by omega, by omega, by rw [if_pos rfl]; omega, by omega⟩
theorem cut60 (i : Int) : ∃ q r, 0 ≤ r ∧ r ≤ 9 ∧ (if r = 0 then 0 else 3600 + 3596 * (r - 1)) ≤ i - 35964 * q ∧ i - 35964 * q < 3600 + 3596 * r := by
  by_cases h : 3600 ≤ i % 35964
  · exact ⟨i / 35964, (i % 35964 - 3600) / 3596 + 1, by omega, by omega, by split <;> omega, by omega⟩
  · exact ⟨i / 35964, 0, by omega, by omega, by rw [if_pos rfl]; omega, by omega⟩

theorem start_succ (b p k : Int) : start b p (k + 1) = start b p k + (60 * b - skip p k) := by
  unfold start skip
  by_cases h : k % 10 = 0
  · have e : (k + 1 + 9) / 10 = (k + 9) / 10 + 1 := by omega
    rw [e, if_pos h, Int.mul_add, Int.mul_one, show k + 1 - ((k + 9) / 10 + 1) = k - (k + 9) / 10 by omega]
    omega
  · have e : (k + 1 + 9) / 10 = (k + 9) / 10 := by omega
    rw [e, if_neg h, Int.mul_add, Int.mul_one, show k + 1 - (k + 9) / 10 = (k - (k + 9) / 10) + 1 by omega, Int.add_mul, Int.one_mul]
    omega
theorem number_at {n d b p : Int} (h : Row n d b p) (k i : Int) (_h0 : 0 ≤ k) (h1 : start b p k ≤ i) (h2 : i < start b p k + (60 * b - skip p k)) :
    number b p i = 60 * b * k + (i - start b p k) + skip p k := by
  rcases h.shape with ⟨rfl, _⟩ | ⟨rfl, rfl⟩ | ⟨rfl, rfl⟩
  · rw [number_zero]; simp [start, skip]; omega
  · simp only [start, skip] at *
    rw [number30 (k / 10) (k % 10) i (by omega) (by omega) (by split <;> omega) (by omega)]
    split <;> omega
  · simp only [start, skip] at *
    rw [number60 (k / 10) (k % 10) i (by omega) (by omega) (by split <;> omega) (by omega)]
    split <;> omega
theorem number_frameAt {n d b p : Int} (h : Row n d b p) (M s f : Int) (h0 : 0 ≤ M) (h1 : M < 1440) (h2 : 0 ≤ s) (h3 : s < 60) (h4 : 0 ≤ f) (h5 : f < b) (hd : ¬ (M % 10 ≠ 0 ∧ s = 0 ∧ f < p)) :
    number b p (frameAt b p M s f) = (60 * M + s) * b + f ∧ 0 ≤ frameAt b p M s f ∧ frameAt b p M s f < day b p := by
  rcases h.shape with ⟨rfl, hs⟩ | ⟨rfl, rfl⟩ | ⟨rfl, rfl⟩
  · rw [number_zero]; simp only [frameAt, day]; rcases hs with rfl | rfl | rfl | rfl | rfl <;> omega
  · simp only [frameAt, day]
    rw [number30 (M / 10) (M % 10) _ (by omega) (by omega) (by split <;> omega) (by omega)]
    omega
  · simp only [frameAt, day]
    rw [number60 (M / 10) (M % 10) _ (by omega) (by omega) (by split <;> omega) (by omega)]
    omega
theorem number_range {n d b p : Int} (h : Row n d b p) (i : Int) (h0 : 0 ≤ i) (h1 : i < day b p) : 0 ≤ number b p i ∧ number b p i < 86400 * b := by
  rcases h.shape with ⟨rfl, hs⟩ | ⟨rfl, rfl⟩ | ⟨rfl, rfl⟩
  · rw [number_zero]; simp only [day] at *; omega
  · obtain ⟨q, r, a, b, c, d⟩ := cut30 i
    rw [number30 q r i a b c d]
    simp only [day] at h1
    split at c <;> omega
  · obtain ⟨q, r, a, b, c, d⟩ := cut60 i
    rw [number60 q r i a b c d]
    simp only [day] at h1
    split at c <;> omega
theorem frameAt_number {n d b p : Int} (h : Row n d b p) (i : Int) :
    frameAt b p (number b p i / b / 60) (number b p i / b % 60) (number b p i % b) = i := by
  rcases h.shape with ⟨rfl, hs⟩ | ⟨rfl, rfl⟩ | ⟨rfl, rfl⟩
  · rw [number_zero]; simp only [frameAt]; rcases hs with rfl | rfl | rfl | rfl | rfl <;> omega
  · obtain ⟨q, r, a, b, c, d⟩ := cut30 i
    rw [number30 q r i a b c d]
    simp only [frameAt]
    have e : (i + (9 * q + r) * 2) / 30 / 60 = 10 * q + r := by split at c <;> omega
    rw [e]; omega
  · obtain ⟨q, r, a, b, c, d⟩ := cut60 i
    rw [number60 q r i a b c d]
    simp only [frameAt]
    have e : (i + (9 * q + r) * 4) / 60 / 60 = 10 * q + r := by split at c <;> omega
    rw [e]; omega
theorem notDropped {n d b p : Int} (h : Row n d b p) (i : Int) :
    ¬ ((number b p i / b / 60) % 10 ≠ 0 ∧ number b p i / b % 60 = 0 ∧ number b p i % b < p) := by
  rcases h.shape with ⟨rfl, hs⟩ | ⟨rfl, rfl⟩ | ⟨rfl, rfl⟩
  · rcases hs with rfl | rfl | rfl | rfl | rfl <;> omega
  · obtain ⟨q, r, a, b, c, d⟩ := cut30 i
    rw [number30 q r i a b c d]
    have e : (i + (9 * q + r) * 2) / 30 / 60 = 10 * q + r := by split at c <;> omega
    rw [e]; split at c <;> omega
  · obtain ⟨q, r, a, b, c, d⟩ := cut60 i
    rw [number60 q r i a b c d]
    have e : (i + (9 * q + r) * 4) / 60 / 60 = 10 * q + r := by split at c <;> omega
    rw [e]; split at c <;> omega
theorem number_lt {n d b p : Int} (h : Row n d b p) (i j : Int) (h1 : i < j) : number b p i < number b p j := by
  rcases h.shape with ⟨rfl, hs⟩ | ⟨rfl, rfl⟩ | ⟨rfl, rfl⟩
  · rw [number_zero, number_zero]; exact h1
  · simp only [number, dropping, ten]; omega
  · simp only [number, dropping, ten]; omega
theorem close {n d b p : Int} (h : Row n d b p) (i : Int) (h0 : 0 ≤ i) (h1 : i < day b p) (hn : n ≠ 24000) :
    -1 ≤ number b p i / b - i * d / n ∧ number b p i / b - i * d / n ≤ 1 := by
  rcases h with ⟨rfl, rfl, rfl, rfl⟩ | ⟨rfl, rfl, rfl, rfl⟩ | ⟨rfl, rfl, rfl, rfl⟩ | ⟨rfl, rfl, rfl, rfl⟩ | ⟨rfl, rfl, rfl, rfl⟩ | ⟨rfl, rfl, rfl, rfl⟩ | ⟨rfl, rfl, rfl, rfl⟩ | ⟨rfl, rfl, rfl, rfl⟩ <;>
    (simp only [number, dropping, ten, day] at *; omega)
theorem secs {n d b p : Int} (h : Row n d b p) (s : Int) (h0 : 0 ≤ s) :
    ((s * n + d - 1) / d) * d / n = s ∧ s * n ≤ ((s * n + d - 1) / d) * d ∧ ((s * n + d - 1) / d - 1) * d < s * n ∧ 0 ≤ (s * n + d - 1) / d := by
  rcases h with ⟨rfl, rfl, rfl, rfl⟩ | ⟨rfl, rfl, rfl, rfl⟩ | ⟨rfl, rfl, rfl, rfl⟩ | ⟨rfl, rfl, rfl, rfl⟩ | ⟨rfl, rfl, rfl, rfl⟩ | ⟨rfl, rfl, rfl, rfl⟩ | ⟨rfl, rfl, rfl, rfl⟩ | ⟨rfl, rfl, rfl, rfl⟩ <;> omega
theorem secs_back {n d b p : Int} (h : Row n d b p) (i : Int) (h0 : 0 ≤ i) :
    (i * d / n * n + d - 1) / d ≤ i ∧ 0 ≤ i * d / n := by
  rcases h with ⟨rfl, rfl, rfl, rfl⟩ | ⟨rfl, rfl, rfl, rfl⟩ | ⟨rfl, rfl, rfl, rfl⟩ | ⟨rfl, rfl, rfl, rfl⟩ | ⟨rfl, rfl, rfl, rfl⟩ | ⟨rfl, rfl, rfl, rfl⟩ | ⟨rfl, rfl, rfl, rfl⟩ | ⟨rfl, rfl, rfl, rfl⟩ <;> omega
theorem ticks_step {n d b p : Int} (h : Row n d b p) (i : Int) :
    (i + 1) * 90000 * d / n = i * 90000 * d / n + 90000 * d / n ∨ (i + 1) * 90000 * d / n = i * 90000 * d / n + 90000 * d / n + 1 ∧ 90000 * d % n ≠ 0 := by
  rcases h with ⟨rfl, rfl, rfl, rfl⟩ | ⟨rfl, rfl, rfl, rfl⟩ | ⟨rfl, rfl, rfl, rfl⟩ | ⟨rfl, rfl, rfl, rfl⟩ | ⟨rfl, rfl, rfl, rfl⟩ | ⟨rfl, rfl, rfl, rfl⟩ | ⟨rfl, rfl, rfl, rfl⟩ | ⟨rfl, rfl, rfl, rfl⟩ <;> omega
theorem low_range {n d b p : Int} (h : Row n d b p) : 0 < 90000 * d / n ∧ 90000 * d / n < 8589934592 - 1 := by
  rcases h with ⟨rfl, rfl, rfl, rfl⟩ | ⟨rfl, rfl, rfl, rfl⟩ | ⟨rfl, rfl, rfl, rfl⟩ | ⟨rfl, rfl, rfl, rfl⟩ | ⟨rfl, rfl, rfl, rfl⟩ | ⟨rfl, rfl, rfl, rfl⟩ | ⟨rfl, rfl, rfl, rfl⟩ | ⟨rfl, rfl, rfl, rfl⟩ <;> omega
theorem mod_step (A B L : Int) (e : B = A + L) (h0 : 0 < L) (h1 : L < 8589934592) :
    B % 8589934592 - A % 8589934592 = L ∨ B % 8589934592 - A % 8589934592 < 0 ∧ B % 8589934592 - A % 8589934592 + 8589934592 = L := by
  have : B / 8589934592 = A / 8589934592 ∨ B / 8589934592 = A / 8589934592 + 1 := by omega
  omega
end Go.Proofs.YtfnmjabegajniaaDoor.Pl
