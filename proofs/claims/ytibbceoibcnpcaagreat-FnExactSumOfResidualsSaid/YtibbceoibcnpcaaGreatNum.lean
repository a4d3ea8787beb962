/- Whole numbers: rounding down, rounding to the nearest, mixing. No condition. -/
import Derived.Test.YtibbceoibcnpcaaGreatEngY
namespace Go.Proofs.YtibbceoibcnpcaaGreat.Eng
open Go

theorem tdivmod {a b : Int} (hb : 0 < b) : (a.tmod b < 0 → a.tdiv b - 1 = a / b ∧ a.tmod b ≠ 0) ∧ (¬ a.tmod b < 0 → a.tdiv b = a / b) := by
  rw [Int.tdiv_eq_ediv, Int.tmod_eq_emod]
  have h1 := Int.emod_nonneg a (show b ≠ 0 by omega)
  have h2 := Int.emod_lt_of_pos a hb
  have hs : b.sign = 1 := Int.sign_eq_one_of_pos hb
  have hn : ((b.natAbs : Nat) : Int) = b := Int.natAbs_of_nonneg (by omega)
  rw [hs]
  split
  · constructor <;> intro h
    · omega
    · omega
  · rw [hn]
    constructor <;> intro h
    · omega
    · exfalso; omega
theorem tdiv_abs {a b : Int} (hb : 0 < b) : (0 ≤ a → 0 ≤ a.tdiv b ∧ a.tdiv b ≤ a) ∧ (a ≤ 0 → a ≤ a.tdiv b ∧ a.tdiv b ≤ 0) := by
  constructor
  · intro h
    rw [Int.tdiv_eq_ediv_of_nonneg h]
    exact ⟨Int.ediv_nonneg h (by omega), Int.ediv_le_self _ h⟩
  · intro h
    have h1 : a.tdiv b = -((-a).tdiv b) := by rw [Int.neg_tdiv]; omega
    rw [h1, Int.tdiv_eq_ediv_of_nonneg (by omega)]
    have h2 := Int.ediv_nonneg (show 0 ≤ -a by omega) (show 0 ≤ b by omega)
    have h3 := Int.ediv_le_self b (show 0 ≤ -a by omega)
    omega
theorem ediv_bound {a b M : Int} (hb : 0 < b) (h1 : -M ≤ a) (h2 : a ≤ M) (hM : 0 ≤ M) : -M - 1 ≤ a / b ∧ a / b ≤ M := by
  obtain ⟨h3, h4⟩ := tdivmod (a := a) hb
  obtain ⟨h5, h6⟩ := tdiv_abs (a := a) hb
  rcases Int.le_total 0 a with h | h <;> rcases Int.lt_or_le (a.tmod b) 0 with h7 | h7
  · have := (h3 h7).1; have := h5 h; omega
  · have := h4 (by omega); have := h5 h; omega
  · have := (h3 h7).1; have := h6 h; omega
  · have := h4 (by omega); have := h6 h; omega

/-- the nearest whole number to a / b, halves up -/
def nearV (a b : Int) : Int := (2 * a + b) / (2 * b)
theorem nearV_eq {a b : Int} (hb : 0 < b) : nearV a b = if b - (a - a / b * b) ≤ a - a / b * b then a / b + 1 else a / b := by
  unfold nearV
  have h1 := Int.emod_nonneg a (show b ≠ 0 by omega)
  have h2 := Int.emod_lt_of_pos a hb
  have h3 : a / b * b + a % b = a := Int.ediv_mul_add_emod a b
  have h4 : 2 * b * (a / b) = 2 * (a / b * b) := by rw [Int.mul_assoc, Int.mul_comm b]
  split
  · refine ((Int.ediv_emod_unique (r := 2 * (a % b) - b) (by omega)).2 ⟨?_, by omega, by omega⟩).1
    rw [Int.mul_add, h4]; omega
  · refine ((Int.ediv_emod_unique (r := 2 * (a % b) + b) (by omega)).2 ⟨?_, by omega, by omega⟩).1
    rw [h4]; omega
theorem nearV_bound {a b M : Int} (hb : 0 < b) (h1 : -M ≤ a) (h2 : a ≤ M) (hM : 0 ≤ M) : -M - 1 ≤ nearV a b ∧ nearV a b ≤ M + 1 := by
  rw [nearV_eq hb]
  have := ediv_bound hb h1 h2 hM
  split <;> omega
/-- c parts of n from a to b -/
def mixV (a b k n : Int) : Int := a + nearV ((b - a) * k) n
theorem nearV_mono {a a' b : Int} (hb : 0 < b) (h : a ≤ a') : nearV a b ≤ nearV a' b := Int.ediv_le_ediv (by omega) (by omega)
theorem nearV_mul {c b : Int} (hb : 0 < b) : nearV (c * b) b = c := by
  unfold nearV
  refine ((Int.ediv_emod_unique (r := b) (by omega)).2 ⟨?_, by omega, by omega⟩).1
  rw [Int.mul_assoc, Int.mul_comm b c]; omega
theorem mixV_between {a b k n : Int} (hk : 0 ≤ k) (hkn : k ≤ n) (hn : 0 < n) : (a ≤ b → a ≤ mixV a b k n ∧ mixV a b k n ≤ b) ∧ (b ≤ a → b ≤ mixV a b k n ∧ mixV a b k n ≤ a) := by
  unfold mixV
  have z : nearV (0 * n) n = 0 := nearV_mul hn
  have e : nearV ((b - a) * n) n = b - a := nearV_mul hn
  constructor
  · intro h
    have h1 : 0 * n ≤ (b - a) * k := by rw [Int.zero_mul]; exact Int.mul_nonneg (by omega) hk
    have h2 : (b - a) * k ≤ (b - a) * n := Int.mul_le_mul_of_nonneg_left hkn (by omega)
    have h3 := nearV_mono hn h1
    have h4 := nearV_mono hn h2
    omega
  · intro h
    have h1 : (b - a) * k ≤ 0 * n := by
      rw [Int.zero_mul]
      have := Int.mul_nonneg (show 0 ≤ a - b by omega) hk
      have e : (b - a) * k = -((a - b) * k) := by rw [← Int.neg_mul]; congr 1; omega
      omega
    have h2 : (b - a) * n ≤ (b - a) * k := by
      have := Int.mul_le_mul_of_nonneg_left hkn (show 0 ≤ a - b by omega)
      have e1 : (b - a) * k = -((a - b) * k) := by rw [← Int.neg_mul]; congr 1; omega
      have e2 : (b - a) * n = -((a - b) * n) := by rw [← Int.neg_mul]; congr 1; omega
      omega
    have h3 := nearV_mono hn h1
    have h4 := nearV_mono hn h2
    omega
theorem mul_bound {a b M N : Int} (ha : -M ≤ a) (ha' : a ≤ M) (hb : 0 ≤ b) (hb' : b ≤ N) : -(M * N) ≤ a * b ∧ a * b ≤ M * N := by
  have hM : 0 ≤ M := by omega
  have h1 : a * b ≤ M * b := Int.mul_le_mul_of_nonneg_right ha' hb
  have h2 : M * b ≤ M * N := Int.mul_le_mul_of_nonneg_left hb' hM
  have h3 : (-M) * b ≤ a * b := Int.mul_le_mul_of_nonneg_right ha hb
  rw [Int.neg_mul] at h3
  omega
end Go.Proofs.YtibbceoibcnpcaaGreat.Eng
