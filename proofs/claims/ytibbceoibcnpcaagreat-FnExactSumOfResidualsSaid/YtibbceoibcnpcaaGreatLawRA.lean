/- What the functions about numbers and sines compute. No condition. -/
import Derived.Test.YtibbceoibcnpcaaGreatFnsR
import Derived.Test.YtibbceoibcnpcaaGreatNum
namespace Go.Proofs.YtibbceoibcnpcaaGreat.Eng
open Go

theorem wrap_of {n : Int} (h : -9000000000000000000 ≤ n) (h' : n ≤ 9000000000000000000) : IntKind.i64.wrap n = n := by rw [wrap64] <;> omega
theorem a_add {a b : Int} (h : -9000000000000000000 ≤ a + b) (h' : a + b ≤ 9000000000000000000) : arith .add .i64 a b = a + b := wrap_of h h'
theorem a_sub {a b : Int} (h : -9000000000000000000 ≤ a - b) (h' : a - b ≤ 9000000000000000000) : arith .sub .i64 a b = a - b := wrap_of h h'
theorem a_mul {a b : Int} (h : -9000000000000000000 ≤ a * b) (h' : a * b ≤ 9000000000000000000) : arith .mul .i64 a b = a * b := wrap_of h h'
theorem a_quo {a b : Int} (h : 0 ≤ a) (hb : 0 < b) (h' : a ≤ 9000000000000000000) : arith .quo .i64 a b = a / b := by
  have h1 : a.tdiv b = a / b := Int.tdiv_eq_ediv_of_nonneg h
  have h2 := Int.ediv_nonneg h (show 0 ≤ b by omega)
  have h3 := Int.ediv_le_self b h
  rw [ar_quo, h1]; exact wrap_of (by omega) (by omega)
theorem a_rem {a b : Int} (h : 0 ≤ a) : arith .rem .i64 a b = a % b := by rw [ar_rem, Int.tmod_eq_emod_of_nonneg h]

def bndI (x lo hi : Int) : Bool := decide (lo ≤ x) && decide (x ≤ hi)
theorem bndI_iff {x lo hi : Int} : bndI x lo hi = true ↔ lo ≤ x ∧ x ≤ hi := by simp [bndI]
def g_in : List U → Option (List U)
  | [.int x, .int a, .int b] => some [.bool (bndI x a b)]
  | _ => none
theorem ok_l01In : FnOK Tryz.prog n_spec_l01In sg_spec_l01In g_in := mk_spec_l01In fun us rs hl h => by
  unfold g_in at h
  split at h
  · rename_i x a b
    cases h
    simp only [pr_spec_l01In, wpP]
    by_cases h1 : a ≤ x <;> simp [h1, E.den, cmpB_eql, cmpB_neq, cmpB_lss, cmpB_leq, cmpB_gtr, cmpB_geq, bndI] <;> omega
  · cases h
theorem ok_in : FnOK Tryz.prog n_impl_in sg_impl_in g_in := mk_impl_in fun us rs hl h => by
  unfold g_in at h
  split at h
  · rename_i x a b
    cases h
    simp only [pr_impl_in, wpP]
    by_cases h1 : a ≤ x <;> simp [h1, E.den, cmpB_eql, cmpB_neq, cmpB_lss, cmpB_leq, cmpB_gtr, cmpB_geq, bndI] <;> omega
  · cases h

-- rounding
def g_floor : List U → Option (List U)
  | [.int a, .int b] => if 0 < b ∧ b ≤ 4000000000000000000 ∧ -4000000000000000000 ≤ a ∧ a ≤ 4000000000000000000 then some [.int (a / b)] else none
  | _ => none
theorem floor_call {a b : Int} (h1 : 0 < b) (h2 : b ≤ 4000000000000000000) (h3 : -4000000000000000000 ≤ a) (h4 : a ≤ 4000000000000000000) : g_floor [.int a, .int b] = some [.int (a / b)] := by
  unfold g_floor; dsimp only; rw [if_pos ⟨h1, h2, h3, h4⟩]
theorem ok_l01Floor : FnOK Tryz.prog n_spec_l01Floor sg_spec_l01Floor g_floor := mk_spec_l01Floor fun us rs hl h => by
  unfold g_floor at h
  split at h
  · rename_i a b
    split at h
    · rename_i hw
      cases h
      obtain ⟨h1, h2⟩ := tdivmod (a := a) hw.1
      obtain ⟨h3, h4⟩ := tdiv_abs (a := a) hw.1
      have hq : IntKind.i64.wrap (a.tdiv b) = a.tdiv b := by rw [wrap64] <;> omega
      have hq1 : IntKind.i64.wrap (a.tdiv b - 1) = a.tdiv b - 1 := by rw [wrap64] <;> omega
      have hqb := ediv_bound hw.1 hw.2.2.1 hw.2.2.2 (by omega)
      have hq2 : IntKind.i64.wrap (a / b) = a / b := by rw [wrap64] <;> omega
      have hb : ¬ b < 0 := by omega
      have hb0 : b ≠ 0 := by omega
      simp only [pr_spec_l01Floor, wpP]
      by_cases hm : a.tmod b < 0
      · have := h1 hm; simp [E.den, cmpB_lss, cmpB_neq, ar_sub, ar_quo, ar_rem, hb, hb0, hm, hq, hq1, hq2, this]
      · have := h2 hm; simp [E.den, cmpB_lss, cmpB_neq, ar_sub, ar_quo, ar_rem, hb, hb0, hm, hq, hq2, this]
    · cases h
  · cases h
theorem ok_floor : FnOK Tryz.prog n_impl_floor sg_impl_floor g_floor := mk_impl_floor fun us rs hl h => by
  unfold g_floor at h
  split at h
  · rename_i a b
    split at h
    · rename_i hw
      cases h
      obtain ⟨h1, h2⟩ := tdivmod (a := a) hw.1
      obtain ⟨h3, h4⟩ := tdiv_abs (a := a) hw.1
      have hq : IntKind.i64.wrap (a.tdiv b) = a.tdiv b := by rw [wrap64] <;> omega
      have hq1 : IntKind.i64.wrap (a.tdiv b - 1) = a.tdiv b - 1 := by rw [wrap64] <;> omega
      have hqb := ediv_bound hw.1 hw.2.2.1 hw.2.2.2 (by omega)
      have hq2 : IntKind.i64.wrap (a / b) = a / b := by rw [wrap64] <;> omega
      have hb : ¬ b < 0 := by omega
      have hb0 : b ≠ 0 := by omega
      simp only [pr_impl_floor, wpP]
      by_cases hm : a.tmod b < 0
      · have := h1 hm; simp [E.den, cmpB_lss, cmpB_neq, ar_sub, ar_quo, ar_rem, hb, hb0, hm, hq, hq1, hq2, this]
      · have := h2 hm
        by_cases hm0 : a.tmod b = 0 <;> simp [E.den, cmpB_lss, cmpB_neq, ar_sub, ar_quo, ar_rem, hb, hb0, hm, hm0, hq, hq2, this]
    · cases h
  · cases h
def ceilV (a b : Int) : Int := -((-a) / b)
def g_ceil : List U → Option (List U)
  | [.int a, .int b] => if 0 < b ∧ b ≤ 4000000000000000000 ∧ -4000000000000000000 ≤ a ∧ a ≤ 4000000000000000000 then some [.int (ceilV a b)] else none
  | _ => none
theorem ceil_call {a b : Int} (h1 : 0 < b) (h2 : b ≤ 4000000000000000000) (h3 : -4000000000000000000 ≤ a) (h4 : a ≤ 4000000000000000000) : g_ceil [.int a, .int b] = some [.int (ceilV a b)] := by
  unfold g_ceil; dsimp only; rw [if_pos ⟨h1, h2, h3, h4⟩]
theorem ok_l01Ceil : FnOK Tryz.prog n_spec_l01Ceil sg_spec_l01Ceil g_ceil := mk_spec_l01Ceil ok_l01Floor fun us rs hl h => by
  unfold g_ceil at h
  split at h
  · rename_i a b
    split at h
    · rename_i hw
      cases h
      have hqb := ediv_bound hw.1 (show -4000000000000000000 ≤ -a by omega) (show -a ≤ 4000000000000000000 by omega) (by omega)
      have e1 : arith .sub .i64 0 a = -a := by rw [a_sub] <;> omega
      have e2 : arith .sub .i64 0 (-a / b) = ceilV a b := by unfold ceilV; rw [a_sub] <;> omega
      exact wp_chk rfl (wp_callA [.int (-a), .int b] (by rw [← e1]; rfl) (floor_call hw.1 hw.2.1 (by omega) (by omega)) rfl (wp_res (by rw [← e2]; rfl)))
    · cases h
  · cases h
theorem ok_ceil : FnOK Tryz.prog n_impl_ceil sg_impl_ceil g_ceil := mk_impl_ceil ok_floor fun us rs hl h => by
  unfold g_ceil at h
  split at h
  · rename_i a b
    split at h
    · rename_i hw
      cases h
      have hqb := ediv_bound hw.1 (show -4000000000000000000 ≤ -a by omega) (show -a ≤ 4000000000000000000 by omega) (by omega)
      have e1 : arith .sub .i64 0 a = -a := by rw [a_sub] <;> omega
      have e2 : arith .sub .i64 0 (-a / b) = ceilV a b := by unfold ceilV; rw [a_sub] <;> omega
      exact wp_chk rfl (wp_callA [.int (-a), .int b] (by rw [← e1]; rfl) (floor_call hw.1 hw.2.1 (by omega) (by omega)) rfl (wp_res (by rw [← e2]; rfl)))
    · cases h
  · cases h
theorem floor_bnd {a b M : Int} (hb : 0 < b) (h : -(M * b) ≤ a) (h' : a ≤ M * b) : -M ≤ a / b ∧ a / b ≤ M := by
  constructor
  · exact Int.le_ediv_of_mul_le hb (by rw [Int.neg_mul]; exact h)
  · exact Int.ediv_le_of_le_mul hb h'
theorem ceil_bnd {a b M : Int} (hb : 0 < b) (h : -(M * b) ≤ a) (h' : a ≤ M * b) : -M ≤ ceilV a b ∧ ceilV a b ≤ M := by
  have := floor_bnd (a := -a) (M := M) hb (by omega) (by omega)
  unfold ceilV; omega
theorem floor_le_ceil {a b c : Int} (hb : 0 < b) (h : a ≤ c) : a / b ≤ ceilV c b := by
  have h1 : a / b ≤ c / b := Int.ediv_le_ediv hb h
  have h2 : c / b + (-c) / b ≤ 0 := by
    have e1 := Int.ediv_mul_le c (show b ≠ 0 by omega)
    have e2 := Int.ediv_mul_le (-c) (show b ≠ 0 by omega)
    have e3 : (c / b + (-c) / b) * b ≤ 0 := by rw [Int.add_mul]; omega
    rcases Int.lt_or_le 0 (c / b + (-c) / b) with h | h
    · have := Int.mul_pos h hb; omega
    · exact h
  unfold ceilV; omega
def g_near : List U → Option (List U)
  | [.int a, .int b] => if 0 < b ∧ b ≤ 1000000000000000000 ∧ -1000000000000000000 ≤ a ∧ a ≤ 1000000000000000000 then some [.int (nearV a b)] else none
  | _ => none
theorem near_call {a b : Int} (h1 : 0 < b) (h2 : b ≤ 1000000000000000000) (h3 : -1000000000000000000 ≤ a) (h4 : a ≤ 1000000000000000000) : g_near [.int a, .int b] = some [.int (nearV a b)] := by
  unfold g_near; dsimp only; rw [if_pos ⟨h1, h2, h3, h4⟩]
theorem ok_l01Nearest : FnOK Tryz.prog n_spec_l01Nearest sg_spec_l01Nearest g_near := mk_spec_l01Nearest ok_l01Floor fun us rs hl h => by
  unfold g_near at h
  split at h
  · rename_i a b
    split at h
    · rename_i hw
      cases h
      have e1 : IntKind.i64.wrap (2 * a) = 2 * a := by rw [wrap64] <;> omega
      have e2 : IntKind.i64.wrap (2 * b) = 2 * b := by rw [wrap64] <;> omega
      have e3 : IntKind.i64.wrap (2 * a + b) = 2 * a + b := by rw [wrap64] <;> omega
      have hc : 0 < 2 * b ∧ 2 * b ≤ 4000000000000000000 ∧ -4000000000000000000 ≤ 2 * a + b ∧ 2 * a + b ≤ 4000000000000000000 := by omega
      simp [pr_spec_l01Nearest, wpP, E.den, ar_add, ar_mul, e1, e2, e3, g_floor, hc, nearV]
    · cases h
  · cases h
theorem ok_nearest : FnOK Tryz.prog n_impl_nearest sg_impl_nearest g_near := mk_impl_nearest ok_floor fun us rs hl h => by
  unfold g_near at h
  split at h
  · rename_i a b
    split at h
    · rename_i hw
      cases h
      have hq := ediv_bound hw.1 hw.2.2.1 hw.2.2.2 (by omega)
      have h1 := Int.emod_nonneg a (show b ≠ 0 by omega)
      have h2 := Int.emod_lt_of_pos a hw.1
      have h3 : a / b * b + a % b = a := Int.ediv_mul_add_emod a b
      have e1 : IntKind.i64.wrap (a / b * b) = a / b * b := by rw [wrap64] <;> omega
      have e2 : IntKind.i64.wrap (a - a / b * b) = a - a / b * b := by rw [wrap64] <;> omega
      have e3 : IntKind.i64.wrap (b - (a - a / b * b)) = b - (a - a / b * b) := by rw [wrap64] <;> omega
      have e4 : IntKind.i64.wrap (a / b + 1) = a / b + 1 := by rw [wrap64] <;> omega
      have hb : ¬ b < 0 := by omega
      have hc : 0 < b ∧ b ≤ 4000000000000000000 ∧ -4000000000000000000 ≤ a ∧ a ≤ 4000000000000000000 := by omega
      rw [nearV_eq hw.1]
      simp only [pr_impl_nearest, wpP]
      by_cases hm : b - (a - a / b * b) ≤ a - a / b * b
      · simp [E.den, cmpB_lss, cmpB_geq, ar_add, ar_sub, ar_mul, e1, e2, e3, e4, hb, g_floor, hc, hm]
      · simp [E.den, cmpB_lss, cmpB_geq, ar_add, ar_sub, ar_mul, e1, e2, e3, e4, hb, g_floor, hc, hm]
        omega
    · cases h
  · cases h
-- an angle without whole turns
def g_mod : List U → Option (List U)
  | [.int a, .int b] => if 0 < b ∧ b ≤ 1000000000000000000 ∧ -4000000000000000000 ≤ a ∧ a ≤ 4000000000000000000 then some [.int (a % b)] else none
  | _ => none
theorem ok_l01Mod : FnOK Tryz.prog n_spec_l01Mod sg_spec_l01Mod g_mod := mk_spec_l01Mod fun us rs hl h => by
  unfold g_mod at h
  split at h
  · rename_i a b
    split at h
    · rename_i hw
      cases h
      have h1 := Int.emod_nonneg a (show b ≠ 0 by omega)
      have h2 := Int.emod_lt_of_pos a hw.1
      have hb0 : b ≠ 0 := by omega
      have hn : ((b.natAbs : Nat) : Int) = b := Int.natAbs_of_nonneg (by omega)
      have e0 : 0 ≤ a.tmod b + b ∧ a.tmod b + b ≤ 2 * b ∧ (a.tmod b + b) % b = a % b := by
        rw [Int.tmod_eq_emod]
        split
        · refine ⟨by omega, by omega, ?_⟩
          rw [Int.natCast_zero, Int.sub_zero, Int.add_emod_right, Int.emod_emod_of_dvd _ (Int.dvd_refl b)]
        · rw [hn]
          refine ⟨by omega, by omega, ?_⟩
          rw [Int.sub_add_cancel, Int.emod_emod_of_dvd _ (Int.dvd_refl b)]
      have e1 : IntKind.i64.wrap (a.tmod b + b) = a.tmod b + b := by rw [wrap64] <;> omega
      have e2 : (a.tmod b + b).tmod b = a % b := by rw [Int.tmod_eq_emod_of_nonneg e0.1]; exact e0.2.2
      simp [pr_spec_l01Mod, wpP, E.den, cmpB_neq, ar_add, ar_rem, hb0, e1, e2]
    · cases h
  · cases h
theorem ok_mod : FnOK Tryz.prog n_impl_mod sg_impl_mod g_mod := mk_impl_mod ok_floor fun us rs hl h => by
  unfold g_mod at h
  split at h
  · rename_i a b
    split at h
    · rename_i hw
      cases h
      have h1 := Int.emod_nonneg a (show b ≠ 0 by omega)
      have h2 := Int.emod_lt_of_pos a hw.1
      have h3 : a / b * b + a % b = a := Int.ediv_mul_add_emod a b
      have e1 : IntKind.i64.wrap (a / b * b) = a / b * b := by rw [wrap64] <;> omega
      have e2 : IntKind.i64.wrap (a - a / b * b) = a % b := by rw [wrap64] <;> omega
      have hc : 0 < b ∧ b ≤ 4000000000000000000 ∧ -4000000000000000000 ≤ a ∧ a ≤ 4000000000000000000 := by omega
      simp [pr_impl_mod, wpP, E.den, ar_sub, ar_mul, e1, e2, g_floor, hc]
    · cases h
  · cases h
def g_plain : List U → Option (List U)
  | [.int a] => if -4000000000000000000 ≤ a ∧ a ≤ 4000000000000000000 then some [.int (a % 1296000)] else none
  | _ => none
theorem plain_call {a : Int} (h3 : -4000000000000000000 ≤ a) (h4 : a ≤ 4000000000000000000) : g_plain [.int a] = some [.int (a % 1296000)] := by
  unfold g_plain; dsimp only; rw [if_pos ⟨h3, h4⟩]
theorem ok_l03Plain : FnOK Tryz.prog n_spec_l03Plain sg_spec_l03Plain g_plain := mk_spec_l03Plain ok_l01Mod fun us rs hl h => by
  unfold g_plain at h
  split at h
  · rename_i a
    split at h
    · rename_i hw
      cases h
      simp [pr_spec_l03Plain, wpP, E.den, g_mod, hw]
    · cases h
  · cases h
theorem ok_plain : FnOK Tryz.prog n_impl_plain sg_impl_plain g_plain := mk_impl_plain ok_mod fun us rs hl h => by
  unfold g_plain at h
  split at h
  · rename_i a
    split at h
    · rename_i hw
      cases h
      simp [pr_impl_plain, wpP, E.den, g_mod, hw]
    · cases h
  · cases h
end Go.Proofs.YtibbceoibcnpcaaGreat.Eng
