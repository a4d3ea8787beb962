/- What the functions about intervals and arcs compute. No condition. -/
import Derived.Test.YtibbceoibcnpcaaGreatLawRB
namespace Go.Proofs.YtibbceoibcnpcaaGreat.Eng
open Go

def mnI (a b : Int) : Int := if b < a then b else a
def mxI (a b : Int) : Int := if b > a then b else a
def mn4 (p q r s : Int) : Int := mnI (mnI (mnI p q) r) s
def mx4 (p q r s : Int) : Int := mxI (mxI (mxI p q) r) s
theorem mn4_le (p q r s : Int) : mn4 p q r s ≤ p ∧ mn4 p q r s ≤ q ∧ mn4 p q r s ≤ r ∧ mn4 p q r s ≤ s ∧ (mn4 p q r s = p ∨ mn4 p q r s = q ∨ mn4 p q r s = r ∨ mn4 p q r s = s) := by
  unfold mn4 mnI; split <;> split <;> split <;> omega
theorem mx4_ge (p q r s : Int) : p ≤ mx4 p q r s ∧ q ≤ mx4 p q r s ∧ r ≤ mx4 p q r s ∧ s ≤ mx4 p q r s ∧ (mx4 p q r s = p ∨ mx4 p q r s = q ∨ mx4 p q r s = r ∨ mx4 p q r s = s) := by
  unfold mx4 mxI; split <;> split <;> split <;> omega
theorem mul_abs {a c A C : Int} (h1 : -A ≤ a) (h2 : a ≤ A) (h3 : -C ≤ c) (h4 : c ≤ C) : -(A * C) ≤ a * c ∧ a * c ≤ A * C := by
  rcases Int.le_total 0 c with h | h
  · exact mul_bound h1 h2 h h4
  · have := mul_bound (b := -c) h1 h2 (by omega) (show -c ≤ C by omega)
    rw [Int.mul_neg] at this; omega

-- sums
def g_add : List U → Option (List U)
  | [.int a, .int b, .int c, .int d] => if (-1000000000000000 ≤ a ∧ a ≤ 1000000000000000) ∧ (-1000000000000000 ≤ b ∧ b ≤ 1000000000000000) ∧ (-1000000000000000 ≤ c ∧ c ≤ 1000000000000000) ∧ (-1000000000000000 ≤ d ∧ d ≤ 1000000000000000) then some [.int (a + c), .int (b + d)] else none
  | _ => none
def g_sub : List U → Option (List U)
  | [.int a, .int b, .int c, .int d] => if (-1000000000000000 ≤ a ∧ a ≤ 1000000000000000) ∧ (-1000000000000000 ≤ b ∧ b ≤ 1000000000000000) ∧ (-1000000000000000 ≤ c ∧ c ≤ 1000000000000000) ∧ (-1000000000000000 ≤ d ∧ d ≤ 1000000000000000) then some [.int (a - d), .int (b - c)] else none
  | _ => none
theorem add_call {a b c d : Int} (h1 : -1000000000000000 ≤ a ∧ a ≤ 1000000000000000) (h2 : -1000000000000000 ≤ b ∧ b ≤ 1000000000000000) (h3 : -1000000000000000 ≤ c ∧ c ≤ 1000000000000000) (h4 : -1000000000000000 ≤ d ∧ d ≤ 1000000000000000) : g_add [.int a, .int b, .int c, .int d] = some [.int (a + c), .int (b + d)] := by
  unfold g_add; dsimp only; rw [if_pos ⟨h1, h2, h3, h4⟩]
theorem sub_call {a b c d : Int} (h1 : -1000000000000000 ≤ a ∧ a ≤ 1000000000000000) (h2 : -1000000000000000 ≤ b ∧ b ≤ 1000000000000000) (h3 : -1000000000000000 ≤ c ∧ c ≤ 1000000000000000) (h4 : -1000000000000000 ≤ d ∧ d ≤ 1000000000000000) : g_sub [.int a, .int b, .int c, .int d] = some [.int (a - d), .int (b - c)] := by
  unfold g_sub; dsimp only; rw [if_pos ⟨h1, h2, h3, h4⟩]
theorem ok_l02Add : FnOK Tryz.prog n_spec_l02Add sg_spec_l02Add g_add := mk_spec_l02Add fun us rs hl h => by
  unfold g_add at h
  split at h
  · rename_i a b c d
    split at h
    · cases h
      have e1 : arith .add .i64 a c = a + c := a_add (by omega) (by omega)
      have e2 : arith .add .i64 b d = b + d := a_add (by omega) (by omega)
      exact wp_chk rfl (wp_res (by rw [← e1, ← e2]; rfl))
    · cases h
  · cases h
theorem ok_plus : FnOK Tryz.prog n_impl_Interval_plus sg_impl_Interval_plus g_add := mk_impl_Interval_plus fun us rs hl h => by
  unfold g_add at h
  split at h
  · rename_i a b c d
    split at h
    · cases h
      have e1 : arith .add .i64 a c = a + c := a_add (by omega) (by omega)
      have e2 : arith .add .i64 b d = b + d := a_add (by omega) (by omega)
      exact wp_chk rfl (wp_res (by rw [← e1, ← e2]; rfl))
    · cases h
  · cases h
theorem ok_l02Sub : FnOK Tryz.prog n_spec_l02Sub sg_spec_l02Sub g_sub := mk_spec_l02Sub fun us rs hl h => by
  unfold g_sub at h
  split at h
  · rename_i a b c d
    split at h
    · cases h
      have e1 : arith .sub .i64 a d = a - d := a_sub (by omega) (by omega)
      have e2 : arith .sub .i64 b c = b - c := a_sub (by omega) (by omega)
      exact wp_chk rfl (wp_res (by rw [← e1, ← e2]; rfl))
    · cases h
  · cases h
theorem ok_minus : FnOK Tryz.prog n_impl_Interval_minus sg_impl_Interval_minus g_sub := mk_impl_Interval_minus fun us rs hl h => by
  unfold g_sub at h
  split at h
  · rename_i a b c d
    split at h
    · cases h
      have e1 : arith .sub .i64 a d = a - d := a_sub (by omega) (by omega)
      have e2 : arith .sub .i64 b c = b - c := a_sub (by omega) (by omega)
      exact wp_chk rfl (wp_res (by rw [← e1, ← e2]; rfl))
    · cases h
  · cases h
def g_hull : List U → Option (List U)
  | [.int a, .int b, .int c, .int d] => some [.int (mnI a c), .int (mxI b d)]
  | _ => none
theorem ok_l02Hull : FnOK Tryz.prog n_spec_l02Hull sg_spec_l02Hull g_hull := mk_spec_l02Hull fun us rs hl h => by
  unfold g_hull at h
  split at h
  · cases h; exact wp_chk rfl (wp_res rfl)
  · cases h
theorem ok_hull : FnOK Tryz.prog n_impl_Interval_hull sg_impl_Interval_hull g_hull := mk_impl_Interval_hull fun us rs hl h => by
  unfold g_hull at h
  split at h
  · cases h; exact wp_chk rfl (wp_res rfl)
  · cases h

-- products
def mulLo (a b c d : Int) : Int := mn4 (a * c) (a * d) (b * c) (b * d) / 1000000
def mulHi (a b c d : Int) : Int := ceilV (mx4 (a * c) (a * d) (b * c) (b * d)) 1000000
theorem mul_bnd {a b c d A C K : Int} (ha : -A ≤ a) (hab : a ≤ b) (hb : b ≤ A) (hc : -C ≤ c) (hcd : c ≤ d) (hd : d ≤ C) (hK : A * C ≤ K * 1000000) : -K ≤ mulLo a b c d ∧ mulLo a b c d ≤ mulHi a b c d ∧ mulHi a b c d ≤ K := by
  have h1 := mul_abs (a := a) (c := c) ha (by omega) hc (show c ≤ C by omega)
  have h2 := mul_abs (a := a) (c := d) ha (by omega) (show -C ≤ d by omega) hd
  have h3 := mul_abs (a := b) (c := c) (show -A ≤ b by omega) hb hc (show c ≤ C by omega)
  have h4 := mul_abs (a := b) (c := d) (show -A ≤ b by omega) hb (show -C ≤ d by omega) hd
  have h5 := mn4_le (a * c) (a * d) (b * c) (b * d)
  have h6 := mx4_ge (a * c) (a * d) (b * c) (b * d)
  unfold mulLo mulHi
  have h7 := floor_bnd (a := mn4 (a * c) (a * d) (b * c) (b * d)) (b := 1000000) (M := K) (by omega) (by omega) (by omega)
  have h8 := ceil_bnd (a := mx4 (a * c) (a * d) (b * c) (b * d)) (b := 1000000) (M := K) (by omega) (by omega) (by omega)
  have h9 := floor_le_ceil (a := mn4 (a * c) (a * d) (b * c) (b * d)) (b := 1000000) (c := mx4 (a * c) (a * d) (b * c) (b * d)) (by omega) (by omega)
  exact ⟨h7.1, h9, h8.2⟩
def bb (x : Int) : Prop := -1000000000 ≤ x ∧ x ≤ 1000000000
instance (x : Int) : Decidable (bb x) := inferInstanceAs (Decidable (_ ∧ _))
def g_mul : List U → Option (List U)
  | [.int a, .int b, .int c, .int d] => if bb a ∧ bb b ∧ bb c ∧ bb d then some [.int (mulLo a b c d), .int (mulHi a b c d)] else none
  | _ => none
theorem mul_call {a b c d : Int} (h1 : bb a) (h2 : bb b) (h3 : bb c) (h4 : bb d) : g_mul [.int a, .int b, .int c, .int d] = some [.int (mulLo a b c d), .int (mulHi a b c d)] := by
  unfold g_mul; dsimp only; rw [if_pos ⟨h1, h2, h3, h4⟩]
theorem bb_mul {a c : Int} (h1 : bb a) (h3 : bb c) : arith .mul .i64 a c = a * c ∧ -1000000000000000000 ≤ a * c ∧ a * c ≤ 1000000000000000000 := by
  have := mul_abs h1.1 h1.2 h3.1 h3.2
  have : -1000000000000000000 ≤ a * c ∧ a * c ≤ 1000000000000000000 := by omega
  exact ⟨a_mul (by omega) (by omega), this⟩
theorem ok_l02Mul : FnOK Tryz.prog n_spec_l02Mul sg_spec_l02Mul g_mul := mk_spec_l02Mul ok_l01Floor ok_l01Ceil fun us rs hl h => by
  unfold g_mul at h
  split at h
  · rename_i a b c d
    split at h
    · rename_i hw
      cases h
      obtain ⟨h1, h2, h3, h4⟩ := hw
      have e1 := bb_mul h1 h3; have e2 := bb_mul h1 h4; have e3 := bb_mul h2 h3; have e4 := bb_mul h2 h4
      have h5 := mn4_le (a * c) (a * d) (b * c) (b * d)
      have h6 := mx4_ge (a * c) (a * d) (b * c) (b * d)
      refine wp_chk rfl (wp_callA [.int (mn4 (a * c) (a * d) (b * c) (b * d)), .int 1000000] (by rw [← e1.1, ← e2.1, ← e3.1, ← e4.1]; rfl) (floor_call (by omega) (by omega) (by omega) (by omega)) rfl ?_)
      exact wp_callA [.int (mx4 (a * c) (a * d) (b * c) (b * d)), .int 1000000] (by rw [← e1.1, ← e2.1, ← e3.1, ← e4.1]; rfl) (ceil_call (by omega) (by omega) (by omega) (by omega)) rfl (wp_res rfl)
    · cases h
  · cases h
theorem ok_times : FnOK Tryz.prog n_impl_Interval_times sg_impl_Interval_times g_mul := mk_impl_Interval_times ok_floor ok_ceil fun us rs hl h => by
  unfold g_mul at h
  split at h
  · rename_i a b c d
    split at h
    · rename_i hw
      cases h
      obtain ⟨h1, h2, h3, h4⟩ := hw
      have e1 := bb_mul h1 h3; have e2 := bb_mul h1 h4; have e3 := bb_mul h2 h3; have e4 := bb_mul h2 h4
      have h5 := mn4_le (a * c) (a * d) (b * c) (b * d)
      have h6 := mx4_ge (a * c) (a * d) (b * c) (b * d)
      refine wp_chk rfl (wp_callA [.int (mn4 (a * c) (a * d) (b * c) (b * d)), .int 1000000] (by rw [← e1.1, ← e2.1, ← e3.1, ← e4.1]; rfl) (floor_call (by omega) (by omega) (by omega) (by omega)) rfl ?_)
      exact wp_callA [.int (mx4 (a * c) (a * d) (b * c) (b * d)), .int 1000000] (by rw [← e1.1, ← e2.1, ← e3.1, ← e4.1]; rfl) (ceil_call (by omega) (by omega) (by omega) (by omega)) rfl (wp_res rfl)
    · cases h
  · cases h

-- the cosine
def angB (a : Int) : Prop := -1000000000000000 ≤ a ∧ a ≤ 1000000000000000
instance (x : Int) : Decidable (angB x) := inferInstanceAs (Decidable (_ ∧ _))
def g_cos : List U → Option (List U)
  | [.int a] => if angB a then some [.int (sLo (a + 324000)), .int (sHi (a + 324000))] else none
  | _ => none
theorem cos_call {a : Int} (h : angB a) : g_cos [.int a] = some [.int (sLo (a + 324000)), .int (sHi (a + 324000))] := by
  unfold g_cos; dsimp only; rw [if_pos h]
theorem sin_callA {a : Int} (h : angB a) : g_sine [.int a] = some [.int (sLo a), .int (sHi a)] := by unfold angB at h; exact sine_call (by omega) (by omega)
theorem ok_l04Cosine : FnOK Tryz.prog n_spec_l04Cosine sg_spec_l04Cosine (fun us => match us with | [.int a] => if angB a then some [.int (sinV (a + 324000))] else none | _ => none) := mk_spec_l04Cosine ok_l04Sine fun us rs hl h => by
  split at h
  · rename_i a
    split at h
    · rename_i hw
      cases h
      unfold angB at hw
      have e1 : arith .add .i64 a 324000 = a + 324000 := a_add (by omega) (by omega)
      exact wp_chk rfl (wp_callA [.int (a + 324000)] (by rw [← e1]; rfl) (sin_call (by omega) (by omega)) rfl (wp_res rfl))
    · cases h
  · cases h
theorem ok_l04Cos : FnOK Tryz.prog n_spec_l04Cos sg_spec_l04Cos g_cos := mk_spec_l04Cos ok_l04Cosine ok_l04Interval fun us rs hl h => by
  unfold g_cos at h
  split at h
  · rename_i a
    split at h
    · rename_i hw
      cases h
      refine wp_chk rfl (wp_call (rs := [.int (sinV (a + 324000))]) ?_ rfl (wp_call (rs := [.int (sLo (a + 324000)), .int (sHi (a + 324000))]) ?_ rfl (wp_res rfl)))
      · show (if angB a then _ else _) = _
        rw [if_pos hw]
      · show g_intv [.int (sinV (a + 324000))] = _
        unfold g_intv; dsimp only; rw [if_pos (sinV_bnd _)]; rfl
    · cases h
  · cases h
theorem ok_cosine : FnOK Tryz.prog n_impl_cosine sg_impl_cosine g_cos := mk_impl_cosine ok_sine fun us rs hl h => by
  unfold g_cos at h
  split at h
  · rename_i a
    split at h
    · rename_i hw
      cases h
      unfold angB at hw
      have e1 : arith .add .i64 a 324000 = a + 324000 := a_add (by omega) (by omega)
      exact wp_chk rfl (wp_callA [.int (a + 324000)] (by rw [← e1]; rfl) (sine_call (by omega) (by omega)) rfl (wp_res rfl))
    · cases h
  · cases h

-- intervals that are valid
def isV (x : Int) : Bool := bndI x (-1000000000000) 1000000000000
def g_isV : List U → Option (List U)
  | [.int x] => some [.bool (isV x)]
  | _ => none
theorem ok_l01Is : FnOK Tryz.prog n_spec_l01Is sg_spec_l01Is g_isV := mk_spec_l01Is ok_l01In fun us rs hl h => by
  unfold g_isV at h
  split at h
  · cases h; exact wp_chk rfl (wp_call (rs := [.bool _]) rfl rfl (wp_res rfl))
  · cases h
theorem ok_isValue : FnOK Tryz.prog n_impl_isValue sg_impl_isValue g_isV := mk_impl_isValue ok_in fun us rs hl h => by
  unfold g_isV at h
  split at h
  · cases h; exact wp_chk rfl (wp_call (rs := [.bool _]) rfl rfl (wp_res rfl))
  · cases h
def isI (a b : Int) : Bool := isV a && isV b && decide (a ≤ b)
def g_isI : List U → Option (List U)
  | [.int a, .int b] => some [.bool (isI a b)]
  | _ => none
theorem ok_sIsInterval : FnOK Tryz.prog n_spec_IsInterval sg_spec_IsInterval g_isI := mk_spec_IsInterval ok_l01Is fun us rs hl h => by
  unfold g_isI at h
  split at h
  · rename_i a b
    cases h
    simp only [pr_spec_IsInterval, wpP, isI]
    cases h1 : isV a <;> cases h2 : isV b <;> simp [E.den, g_isV, h1, h2, cmpB_leq]
  · cases h
theorem ok_iIsInterval : FnOK Tryz.prog n_impl_IsInterval sg_impl_IsInterval g_isI := mk_impl_IsInterval ok_isValue fun us rs hl h => by
  unfold g_isI at h
  split at h
  · rename_i a b
    cases h
    simp only [pr_impl_IsInterval, wpP, isI]
    cases h1 : isV a <;> cases h2 : isV b <;> simp [E.den, g_isV, h1, h2, cmpB_leq]
  · cases h
theorem isI_true {a b : Int} (h1 : -1000000000000 ≤ a) (h2 : a ≤ b) (h3 : b ≤ 1000000000000) : isI a b = true := by
  simp only [isI, isV, bndI, Bool.and_eq_true, decide_eq_true_eq]; omega

-- halving
def halveV (p : Int → Bool) : Nat → Int → Int → Int
  | 0, lo, _ => lo
  | n + 1, lo, hi => if 1 < hi - lo then if p ((lo + hi) / 2) then halveV p n ((lo + hi) / 2) hi else halveV p n lo ((lo + hi) / 2) else lo
theorem halveV_bnd (p : Int → Bool) : ∀ (n : Nat) (lo hi : Int), lo < hi → lo ≤ halveV p n lo hi ∧ halveV p n lo hi < hi
  | 0, lo, hi, h => by unfold halveV; omega
  | n + 1, lo, hi, h => by
    unfold halveV
    split
    · split
      · have := halveV_bnd p n ((lo + hi) / 2) hi (by omega); omega
      · have := halveV_bnd p n lo ((lo + hi) / 2) (by omega); omega
    · omega
def loV (v : Int) : Int := halveV (fun m => decide (sHi m < v)) 700000 (-324001) 324001
def hiV (v : Int) : Int := halveV (fun m => decide (sLo m ≤ v)) 700000 (-324001) 324001
/-- a halving's state -/
def HS (p : Int → Bool) (V lo hi : Int) : Prop := -324001 ≤ lo ∧ lo < hi ∧ hi ≤ 324001 ∧ ∃ n : Nat, hi - lo ≤ n ∧ halveV p n lo hi = V
theorem HS.step {p : Int → Bool} {V lo hi : Int} (h : HS p V lo hi) (h1 : 1 < hi - lo) : (p ((lo + hi) / 2) = true → HS p V ((lo + hi) / 2) hi) ∧ (p ((lo + hi) / 2) = false → HS p V lo ((lo + hi) / 2)) := by
  obtain ⟨a, b, c, n, d, e⟩ := h
  cases n with
  | zero => omega
  | succ n =>
    unfold halveV at e
    rw [if_pos h1] at e
    constructor
    · intro hp
      rw [if_pos hp] at e
      exact ⟨by omega, by omega, c, n, by omega, e⟩
    · intro hp
      rw [if_neg (by simp [hp])] at e
      exact ⟨a, by omega, by omega, n, by omega, e⟩
theorem HS.end {p : Int → Bool} {V lo hi : Int} (h : HS p V lo hi) (h1 : ¬ 1 < hi - lo) : V = lo := by
  obtain ⟨a, b, c, n, d, e⟩ := h
  cases n with
  | zero => omega
  | succ n => unfold halveV at e; rw [if_neg h1] at e; exact e.symm
end Go.Proofs.YtibbceoibcnpcaaGreat.Eng
