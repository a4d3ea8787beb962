/- What the functions about clipped segments compute; the law on ClipSegment in plain data. No condition. -/
import Derived.Test.YtjjnllklhcjomaaFnsK
import Derived.Test.YtjjnllklhcjomaaNum
namespace Go.Proofs.Ytjjnllklhcjomaa.Eng
open Go

def bndI (x lo hi : Int) : Bool := decide (lo ≤ x) && decide (x ≤ hi)
def g_in : List U → Option (List U)
  | [.int x, .int a, .int b] => some [.bool (bndI x a b)]
  | _ => none
theorem ok_l01In : FnOK Try.prog n_spec_l01In sg_spec_l01In g_in := mk_spec_l01In fun us rs hl h => by
  unfold g_in at h
  split at h
  · rename_i x a b
    cases h
    simp only [pr_spec_l01In, wpP]
    by_cases h1 : a ≤ x <;> simp [h1, E.den, cmpB_eql, cmpB_neq, cmpB_lss, cmpB_leq, cmpB_gtr, cmpB_geq, bndI] <;> omega
  · cases h
theorem ok_in : FnOK Try.prog n_impl_in sg_impl_in g_in := mk_impl_in fun us rs hl h => by
  unfold g_in at h
  split at h
  · rename_i x a b
    cases h
    simp only [pr_impl_in, wpP]
    by_cases h1 : a ≤ x <;> simp [h1, E.den, cmpB_eql, cmpB_neq, cmpB_lss, cmpB_leq, cmpB_gtr, cmpB_geq, bndI] <;> omega
  · cases h
def spot (x : Int) : Bool := bndI x (-1000000) 1000000
def g_spot : List U → Option (List U)
  | [.int x] => some [.bool (spot x)]
  | _ => none
def g_point : List U → Option (List U)
  | [.int x, .int y] => some [.bool (spot x && spot y)]
  | _ => none
theorem ok_isSpot : FnOK Try.prog n_impl_isSpot sg_impl_isSpot g_spot := mk_impl_isSpot ok_in fun us rs hl h => by
  unfold g_spot at h
  split at h
  · rename_i x
    cases h
    simp [pr_impl_isSpot, wpP, E.den, g_in, spot]
  · cases h
theorem ok_l14Point : FnOK Try.prog n_spec_l14Point sg_spec_l14Point g_point := mk_spec_l14Point ok_l01In fun us rs hl h => by
  unfold g_point at h
  split at h
  · rename_i x y
    cases h
    simp only [pr_spec_l14Point, wpP, spot]
    cases h1 : bndI x (-1000000) 1000000 <;> simp [h1, E.den, g_in]
  · cases h
theorem ok_isPoint : FnOK Try.prog n_impl_isPoint sg_impl_isPoint g_point := mk_impl_isPoint ok_isSpot fun us rs hl h => by
  unfold g_point at h
  split at h
  · rename_i x y
    cases h
    simp only [pr_impl_isPoint, wpP]
    cases h1 : spot x <;> simp [h1, E.den, g_spot]
  · cases h
theorem spot_iff {x : Int} : spot x = true ↔ -1000000 ≤ x ∧ x ≤ 1000000 := by simp [spot, bndI]
def faceV (l b r t : Int) : Bool := spot l && spot b && spot r && spot t && decide (l < r) && decide (b < t)
def g_face : List U → Option (List U)
  | [.int l, .int b, .int r, .int t] => some [.bool (faceV l b r t)]
  | _ => none
theorem ok_sIsFace : FnOK Try.prog n_spec_IsFace sg_spec_IsFace g_face := mk_spec_IsFace ok_l14Point fun us rs hl h => by
  unfold g_face at h
  split at h
  · rename_i l b r t
    cases h
    simp only [pr_spec_IsFace, wpP, faceV]
    cases h1 : spot l <;> cases h2 : spot b <;> cases h3 : spot r <;> cases h4 : spot t <;> by_cases h5 : l < r <;> simp [h1, h2, h3, h4, h5, E.den, g_point, cmpB_lss]
  · cases h
theorem ok_iIsFace : FnOK Try.prog n_impl_IsFace sg_impl_IsFace g_face := mk_impl_IsFace ok_isSpot fun us rs hl h => by
  unfold g_face at h
  split at h
  · rename_i l b r t
    cases h
    simp only [pr_impl_IsFace, wpP, faceV]
    cases h1 : spot l <;> cases h2 : spot b <;> cases h3 : spot r <;> cases h4 : spot t <;> by_cases h5 : l < r <;> simp [h1, h2, h3, h4, h5, E.den, g_spot, cmpB_lss]
  · cases h

-- two points
theorem ok_l16Points : FnOK Try.prog n_spec_l16Points sg_spec_l16Points (fun us => match us with | [.lst [[.int a, .int b], [.int c, .int d]]] => some [.bool (spot a && spot b && (spot c && spot d))] | _ => none) := mk_spec_l16Points ok_l14Point fun us rs hl h => by
  split at h
  · rename_i a b c d
    cases h
    simp only [pr_spec_l16Points, wpP, E.den, List.map_cons, List.map_nil]
    refine ⟨rfl, 3, ?_⟩
    cases h1 : (spot a && spot b)
    · simp [iterP, E.den, cmpB_lss, cmpB_leq, g_point, h1]
    · cases h2 : (spot c && spot d)
      · simp [iterP, E.den, cmpB_lss, cmpB_leq, g_point, h1, h2, ar_add, wrap64]
      · simp [iterP, E.den, cmpB_lss, cmpB_leq, g_point, h1, h2, ar_add, wrap64]
  · cases h
theorem ok_faced : FnOK Try.prog n_impl_faced sg_impl_faced (fun us => match us with | [.int l, .int q, .int r, .int t, .lst [[.int a, .int b], [.int c, .int d]]] => some [.int (if faceV l q r t then if spot a && spot b && (spot c && spot d) then 0 else 2 else 1)] | _ => none) := mk_impl_faced ok_iIsFace ok_isPoint fun us rs hl h => by
  split at h
  · rename_i l q r t a b c d
    cases h
    simp only [pr_impl_faced, wpP]
    cases h0 : faceV l q r t
    · simp [E.den, g_face, h0]
    · refine ⟨rfl, [.bool true], by simp [g_face, h0, E.den], rfl, .inr ⟨rfl, 3, ?_⟩⟩
      cases h1 : (spot a && spot b)
      · simp [iterP, E.den, cmpB_lss, cmpB_leq, g_point, h1]
      · cases h2 : (spot c && spot d)
        · simp [iterP, E.den, cmpB_lss, cmpB_leq, g_point, h1, h2, ar_add, wrap64]
        · simp [iterP, E.den, cmpB_lss, cmpB_leq, g_point, h1, h2, ar_add, wrap64]
  · cases h

-- rounding
def g_floor : List U → Option (List U)
  | [.int a, .int b] => if 0 < b ∧ b ≤ 4000000000000000000 ∧ -4000000000000000000 ≤ a ∧ a ≤ 4000000000000000000 then some [.int (a / b)] else none
  | _ => none
theorem ok_l01Floor : FnOK Try.prog n_spec_l01Floor sg_spec_l01Floor g_floor := mk_spec_l01Floor fun us rs hl h => by
  unfold g_floor at h
  split at h
  · rename_i a b
    split at h
    · rename_i hw
      cases h
      obtain ⟨h1, h2⟩ := tdivmod (a := a) hw.1
      obtain ⟨h3, h4⟩ := tdiv_abs (a := a) hw.1
      have hq : IntKind.i64.wrap (a.tdiv b) = a.tdiv b := by rw [wrap64] <;> omega
      have hq1 : IntKind.i64.wrap (a.tdiv b - 1) = a.tdiv b - 1 := by rw [wrap64] <;> omega
      have hqb := ediv_bound hw.1 hw.2.2.1 hw.2.2.2 (by omega)
      have hq2 : IntKind.i64.wrap (a / b) = a / b := by rw [wrap64] <;> omega
      have hb : ¬ b < 0 := by omega
      have hb0 : b ≠ 0 := by omega
      simp only [pr_spec_l01Floor, wpP]
      by_cases hm : a.tmod b < 0
      · have := h1 hm; simp [E.den, cmpB_lss, cmpB_neq, ar_sub, ar_quo, ar_rem, hb, hb0, hm, hq, hq1, hq2, this]
      · have := h2 hm; simp [E.den, cmpB_lss, cmpB_neq, ar_sub, ar_quo, ar_rem, hb, hb0, hm, hq, hq2, this]
    · cases h
  · cases h
theorem ok_floor : FnOK Try.prog n_impl_floor sg_impl_floor g_floor := mk_impl_floor fun us rs hl h => by
  unfold g_floor at h
  split at h
  · rename_i a b
    split at h
    · rename_i hw
      cases h
      obtain ⟨h1, h2⟩ := tdivmod (a := a) hw.1
      obtain ⟨h3, h4⟩ := tdiv_abs (a := a) hw.1
      have hq : IntKind.i64.wrap (a.tdiv b) = a.tdiv b := by rw [wrap64] <;> omega
      have hq1 : IntKind.i64.wrap (a.tdiv b - 1) = a.tdiv b - 1 := by rw [wrap64] <;> omega
      have hqb := ediv_bound hw.1 hw.2.2.1 hw.2.2.2 (by omega)
      have hq2 : IntKind.i64.wrap (a / b) = a / b := by rw [wrap64] <;> omega
      have hb : ¬ b < 0 := by omega
      have hb0 : b ≠ 0 := by omega
      simp only [pr_impl_floor, wpP]
      by_cases hm : a.tmod b < 0
      · have := h1 hm; simp [E.den, cmpB_lss, cmpB_neq, ar_sub, ar_quo, ar_rem, hb, hb0, hm, hq, hq1, hq2, this]
      · have := h2 hm
        by_cases hm0 : a.tmod b = 0 <;> simp [E.den, cmpB_lss, cmpB_neq, ar_sub, ar_quo, ar_rem, hb, hb0, hm, hm0, hq, hq2, this]
    · cases h
  · cases h
def g_near : List U → Option (List U)
  | [.int a, .int b] => if 0 < b ∧ b ≤ 1000000000000000000 ∧ -1000000000000000000 ≤ a ∧ a ≤ 1000000000000000000 then some [.int (nearV a b)] else none
  | _ => none
theorem ok_l01Nearest : FnOK Try.prog n_spec_l01Nearest sg_spec_l01Nearest g_near := mk_spec_l01Nearest ok_l01Floor fun us rs hl h => by
  unfold g_near at h
  split at h
  · rename_i a b
    split at h
    · rename_i hw
      cases h
      have e1 : IntKind.i64.wrap (2 * a) = 2 * a := by rw [wrap64] <;> omega
      have e2 : IntKind.i64.wrap (2 * b) = 2 * b := by rw [wrap64] <;> omega
      have e3 : IntKind.i64.wrap (2 * a + b) = 2 * a + b := by rw [wrap64] <;> omega
      have hc : 0 < 2 * b ∧ 2 * b ≤ 4000000000000000000 ∧ -4000000000000000000 ≤ 2 * a + b ∧ 2 * a + b ≤ 4000000000000000000 := by omega
      simp [pr_spec_l01Nearest, wpP, E.den, ar_add, ar_mul, e1, e2, e3, g_floor, hc, nearV]
    · cases h
  · cases h
theorem ok_nearest : FnOK Try.prog n_impl_nearest sg_impl_nearest g_near := mk_impl_nearest ok_floor fun us rs hl h => by
  unfold g_near at h
  split at h
  · rename_i a b
    split at h
    · rename_i hw
      cases h
      have hq := ediv_bound hw.1 hw.2.2.1 hw.2.2.2 (by omega)
      have h1 := Int.emod_nonneg a (show b ≠ 0 by omega)
      have h2 := Int.emod_lt_of_pos a hw.1
      have h3 : a / b * b + a % b = a := Int.ediv_mul_add_emod a b
      have e1 : IntKind.i64.wrap (a / b * b) = a / b * b := by rw [wrap64] <;> omega
      have e2 : IntKind.i64.wrap (a - a / b * b) = a - a / b * b := by rw [wrap64] <;> omega
      have e3 : IntKind.i64.wrap (b - (a - a / b * b)) = b - (a - a / b * b) := by rw [wrap64] <;> omega
      have e4 : IntKind.i64.wrap (a / b + 1) = a / b + 1 := by rw [wrap64] <;> omega
      have hb : ¬ b < 0 := by omega
      have hc : 0 < b ∧ b ≤ 4000000000000000000 ∧ -4000000000000000000 ≤ a ∧ a ≤ 4000000000000000000 := by omega
      rw [nearV_eq hw.1]
      simp only [pr_impl_nearest, wpP]
      by_cases hm : b - (a - a / b * b) ≤ a - a / b * b
      · simp [E.den, cmpB_lss, cmpB_geq, ar_add, ar_sub, ar_mul, e1, e2, e3, e4, hb, g_floor, hc, hm]
      · simp [E.den, cmpB_lss, cmpB_geq, ar_add, ar_sub, ar_mul, e1, e2, e3, e4, hb, g_floor, hc, hm]
        omega
    · cases h
  · cases h
def okM (a b k n : Int) : Prop := (-1000000 ≤ a ∧ a ≤ 1000000) ∧ (-1000000 ≤ b ∧ b ≤ 1000000) ∧ 0 ≤ k ∧ k ≤ n ∧ 0 < n ∧ n ≤ 2000000
instance (a b k n : Int) : Decidable (okM a b k n) := inferInstanceAs (Decidable (_ ∧ _))
def g_mix : List U → Option (List U)
  | [.int a, .int b, .int k, .int n] => if okM a b k n then some [.int (mixV a b k n)] else none
  | _ => none
theorem okM_facts {a b k n : Int} (hw : okM a b k n) : (-4000000000000 ≤ (b - a) * k ∧ (b - a) * k ≤ 4000000000000) ∧ (-1000000 ≤ mixV a b k n ∧ mixV a b k n ≤ 1000000) := by
  obtain ⟨h1, h2, h3, h4, h5, h6⟩ := hw
  refine ⟨?_, ?_⟩
  · have := mul_bound (a := b - a) (b := k) (M := 2000000) (N := 2000000) (by omega) (by omega) h3 (by omega); omega
  · obtain ⟨m1, m2⟩ := mixV_between (a := a) (b := b) h3 h4 h5
    rcases Int.le_total a b with h | h
    · have := m1 h; omega
    · have := m2 h; omega
theorem ok_l01Mix : FnOK Try.prog n_spec_l01Mix sg_spec_l01Mix g_mix := mk_spec_l01Mix ok_l01Nearest fun us rs hl h => by
  unfold g_mix at h
  split at h
  · rename_i a b k n
    split at h
    · rename_i hw
      cases h
      obtain ⟨m1, m2⟩ := okM_facts hw
      obtain ⟨h1, h2, h3, h4, h5, h6⟩ := hw
      have e1 : IntKind.i64.wrap (b - a) = b - a := by rw [wrap64] <;> omega
      have e2 : IntKind.i64.wrap ((b - a) * k) = (b - a) * k := by rw [wrap64] <;> omega
      have e3 : IntKind.i64.wrap (a + nearV ((b - a) * k) n) = a + nearV ((b - a) * k) n := by unfold mixV at m2; rw [wrap64] <;> omega
      have hc : 0 < n ∧ n ≤ 1000000000000000000 ∧ -1000000000000000000 ≤ (b - a) * k ∧ (b - a) * k ≤ 1000000000000000000 := by omega
      simp [pr_spec_l01Mix, wpP, E.den, ar_add, ar_sub, ar_mul, e1, e2, e3, g_near, hc, mixV]
    · cases h
  · cases h
theorem ok_mixed : FnOK Try.prog n_impl_mixed sg_impl_mixed g_mix := mk_impl_mixed ok_nearest fun us rs hl h => by
  unfold g_mix at h
  split at h
  · rename_i a b k n
    split at h
    · rename_i hw
      cases h
      obtain ⟨m1, m2⟩ := okM_facts hw
      obtain ⟨h1, h2, h3, h4, h5, h6⟩ := hw
      have e1 : IntKind.i64.wrap (b - a) = b - a := by rw [wrap64] <;> omega
      have e2 : IntKind.i64.wrap ((b - a) * k) = (b - a) * k := by rw [wrap64] <;> omega
      have e3 : IntKind.i64.wrap (a + nearV ((b - a) * k) n) = a + nearV ((b - a) * k) n := by unfold mixV at m2; rw [wrap64] <;> omega
      have hc : 0 < n ∧ n ≤ 1000000000000000000 ∧ -1000000000000000000 ≤ (b - a) * k ∧ (b - a) * k ≤ 1000000000000000000 := by omega
      simp [pr_impl_mixed, wpP, E.den, ar_add, ar_sub, ar_mul, e1, e2, e3, g_near, hc, mixV]
    · cases h
  · cases h

-- clipping
/-- what is left of a segment that goes on from an edge upwards -/
def lowV (e ax ay cx cy : Int) : Option (Int × Int × Int × Int) :=
  if ax < e ∧ cx < e then none
  else if ax < e then some (e, mixV ay cy (e - ax) (cx - ax), cx, cy)
  else if cx < e then some (ax, ay, e, mixV cy ay (e - cx) (ax - cx))
  else some (ax, ay, cx, cy)
def inM (x : Int) : Prop := -1000000 ≤ x ∧ x ≤ 1000000
instance (x : Int) : Decidable (inM x) := inferInstanceAs (Decidable (_ ∧ _))
theorem lowV_in {e ax ay cx cy : Int} (he : inM e) (h1 : inM ax) (h2 : inM ay) (h3 : inM cx) (h4 : inM cy) {s : Int × Int × Int × Int} (h : lowV e ax ay cx cy = some s) : inM s.1 ∧ inM s.2.1 ∧ inM s.2.2.1 ∧ inM s.2.2.2 := by
  unfold inM at *
  unfold lowV at h
  split at h
  · cases h
  · split at h
    · cases h
      have := (okM_facts (a := ay) (b := cy) (k := e - ax) (n := cx - ax) (by unfold okM; omega)).2
      exact ⟨he, this, h3, h4⟩
    · split at h
      · cases h
        have := (okM_facts (a := cy) (b := ay) (k := e - cx) (n := ax - cx) (by unfold okM; omega)).2
        exact ⟨h1, h2, he, this⟩
      · cases h; exact ⟨h1, h2, h3, h4⟩
def outS : Option (Int × Int × Int × Int) → List U
  | some (a, b, c, d) => [.int a, .int b, .int c, .int d, .bool true]
  | none => [.int 0, .int 0, .int 0, .int 0, .bool false]
def g_low : List U → Option (List U)
  | [.int ax, .int ay, .int cx, .int cy, .int e] => if inM e ∧ inM ax ∧ inM ay ∧ inM cx ∧ inM cy then some (outS (lowV e ax ay cx cy)) else none
  | _ => none
theorem ok_clipLow : FnOK Try.prog n_impl_clipLow sg_impl_clipLow g_low := mk_impl_clipLow ok_mixed fun us rs hl h => by
  unfold g_low at h
  split at h
  · rename_i ax ay cx cy e
    split at h
    · rename_i hw
      cases h
      unfold inM at hw
      simp only [pr_impl_clipLow, wpP, lowV]
      by_cases h1 : ax < e <;> by_cases h2 : cx < e
      · simp [h1, h2, E.den, cmpB_lss, outS]
      · have e1 : IntKind.i64.wrap (e - ax) = e - ax := by rw [wrap64] <;> omega
        have e2 : IntKind.i64.wrap (cx - ax) = cx - ax := by rw [wrap64] <;> omega
        have hm : okM ay cy (e - ax) (cx - ax) := by unfold okM; omega
        simp [h1, h2, E.den, cmpB_lss, outS, ar_sub, e1, e2, g_mix, hm]
      · have e1 : IntKind.i64.wrap (e - cx) = e - cx := by rw [wrap64] <;> omega
        have e2 : IntKind.i64.wrap (ax - cx) = ax - cx := by rw [wrap64] <;> omega
        have hm : okM cy ay (e - cx) (ax - cx) := by unfold okM; omega
        simp [h1, h2, E.den, cmpB_lss, outS, ar_sub, e1, e2, g_mix, hm]
      · simp [h1, h2, E.den, cmpB_lss, outS]
    · cases h
  · cases h
def g_mir : List U → Option (List U)
  | [.int x, .int y] => if inM x then some [.int (-x), .int y] else none
  | _ => none
def g_turn : List U → Option (List U)
  | [.int x, .int y] => some [.int y, .int x]
  | _ => none
theorem ok_mirrored : FnOK Try.prog n_impl_Point_mirrored sg_impl_Point_mirrored g_mir := mk_impl_Point_mirrored fun us rs hl h => by
  unfold g_mir at h
  split at h
  · rename_i x y
    split at h
    · rename_i hw
      cases h
      unfold inM at hw
      have e1 : IntKind.i64.wrap (-x) = -x := by rw [wrap64] <;> omega
      simp [pr_impl_Point_mirrored, wpP, E.den, ar_sub, e1]
    · cases h
  · cases h
theorem ok_turned : FnOK Try.prog n_impl_Point_turned sg_impl_Point_turned g_turn := mk_impl_Point_turned fun us rs hl h => by
  unfold g_turn at h
  split at h
  · cases h
    simp [pr_impl_Point_turned, wpP, E.den]
  · cases h
abbrev Q4 := Int × Int × Int × Int
def mirS (s : Q4) : Q4 := (-s.1, s.2.1, -s.2.2.1, s.2.2.2)
def turnS (s : Q4) : Q4 := (s.2.1, s.1, s.2.2.2, s.2.2.1)
def low4 (e : Int) (s : Q4) : Option Q4 := lowV e s.1 s.2.1 s.2.2.1 s.2.2.2
def inS (s : Q4) : Prop := inM s.1 ∧ inM s.2.1 ∧ inM s.2.2.1 ∧ inM s.2.2.2
theorem low4_in {e : Int} {s s' : Q4} (he : inM e) (hs : inS s) (h : low4 e s = some s') : inS s' := lowV_in he hs.1 hs.2.1 hs.2.2.1 hs.2.2.2 h
theorem inM_neg {x : Int} (h : inM x) : inM (-x) := by unfold inM at *; omega
theorem mirS_in {s : Q4} (h : inS s) : inS (mirS s) := ⟨inM_neg h.1, h.2.1, inM_neg h.2.2.1, h.2.2.2⟩
theorem turnS_in {s : Q4} (h : inS s) : inS (turnS s) := ⟨h.2.1, h.1, h.2.2.2, h.2.2.1⟩
/-- one border -/
def stepV (l b r t : Int) (i : Nat) (s : Q4) : Option Q4 := match i with
  | 0 => low4 l s
  | 1 => (low4 (-r) (mirS s)).map mirS
  | 2 => (low4 b (turnS s)).map turnS
  | _ => (low4 (-t) (mirS (turnS s))).map fun s => turnS (mirS s)
theorem stepV_in {l b r t : Int} {i : Nat} {s s' : Q4} (hl : inM l) (hb : inM b) (hr : inM r) (ht : inM t) (hs : inS s) (h : stepV l b r t i s = some s') : inS s' := by
  unfold stepV at h
  split at h
  · exact low4_in hl hs h
  · simp only [Option.map_eq_some_iff] at h
    obtain ⟨s1, h1, rfl⟩ := h
    exact mirS_in (low4_in (inM_neg hr) (mirS_in hs) h1)
  · simp only [Option.map_eq_some_iff] at h
    obtain ⟨s1, h1, rfl⟩ := h
    exact turnS_in (low4_in hb (turnS_in hs) h1)
  · simp only [Option.map_eq_some_iff] at h
    obtain ⟨s1, h1, rfl⟩ := h
    exact turnS_in (mirS_in (low4_in (inM_neg ht) (mirS_in (turnS_in hs)) h1))
def clipV (l b r t : Int) (s : Q4) : Option Q4 := (stepV l b r t 0 s).bind fun s => (stepV l b r t 1 s).bind fun s => (stepV l b r t 2 s).bind fun s => stepV l b r t 3 s
def g_clip : List U → Option (List U)
  | [.int l, .int b, .int r, .int t, .int ax, .int ay, .int cx, .int cy] => if (inM l ∧ inM b ∧ inM r ∧ inM t) ∧ inM ax ∧ inM ay ∧ inM cx ∧ inM cy then some (outS (clipV l b r t (ax, ay, cx, cy))) else none
  | _ => none
theorem low_none {e ax ay cx cy : Int} (he : inM e) (h1 : inM ax) (h2 : inM ay) (h3 : inM cx) (h4 : inM cy) (h : lowV e ax ay cx cy = none) : g_low [.int ax, .int ay, .int cx, .int cy, .int e] = some [.int 0, .int 0, .int 0, .int 0, .bool false] := by
  unfold g_low; dsimp only; rw [if_pos ⟨he, h1, h2, h3, h4⟩, h]; rfl
theorem low_some {e ax ay cx cy a b c d : Int} (he : inM e) (h1 : inM ax) (h2 : inM ay) (h3 : inM cx) (h4 : inM cy) (h : lowV e ax ay cx cy = some (a, b, c, d)) : g_low [.int ax, .int ay, .int cx, .int cy, .int e] = some [.int a, .int b, .int c, .int d, .bool true] := by
  unfold g_low; dsimp only; rw [if_pos ⟨he, h1, h2, h3, h4⟩, h]; rfl
theorem mir_call {x y : Int} (h : inM x) : g_mir [.int x, .int y] = some [.int (-x), .int y] := by
  unfold g_mir; dsimp only; rw [if_pos h]
theorem mir_back {x y : Int} (h : inM x) : g_mir [.int (-x), .int y] = some [.int x, .int y] := by
  have := mir_call (y := y) (inM_neg h)
  rwa [Int.neg_neg] at this
theorem turn_call {x y : Int} : g_turn [.int x, .int y] = some [.int y, .int x] := rfl
theorem inM0 : inM 0 := by decide
theorem mir0 {y : Int} : g_mir [.int 0, .int y] = some [.int 0, .int y] := mir_call inM0
set_option maxHeartbeats 1000000 in
theorem ok_clip : FnOK Try.prog n_impl_Face_clip sg_impl_Face_clip g_clip := mk_impl_Face_clip ok_clipLow ok_mirrored ok_turned fun us rs hlen h => by
  unfold g_clip at h
  split at h
  · rename_i l b r t ax ay cx cy
    split at h
    · rename_i hw
      cases h
      clear hlen
      obtain ⟨⟨hl, hb, hr, ht⟩, h1, h2, h3, h4⟩ := hw
      have er : arith .sub .i64 0 r = -r := by unfold inM at hr; rw [ar_sub, wrap64] <;> omega
      have et : arith .sub .i64 0 t = -t := by unfold inM at ht; rw [ar_sub, wrap64] <;> omega
      have hS : inS (ax, ay, cx, cy) := ⟨h1, h2, h3, h4⟩
      unfold pr_impl_Face_clip clipV
      refine wp_chk rfl ?_
      cases k0 : stepV l b r t 0 (ax, ay, cx, cy) with
      | none =>
        refine wp_call (low_none hl h1 h2 h3 h4 k0) rfl ?_
        refine wp_join (wp_condF rfl (wp_vals _ rfl (wp_alt0 ?_)))
        refine wp_join (wp_chk rfl (wp_condF rfl (wp_vals _ rfl (wp_alt0 ?_))))
        refine wp_join (wp_chk rfl (wp_condF rfl (wp_vals _ rfl (wp_alt0 ?_))))
        exact wp_chk rfl (wp_condT rfl (wp_res rfl))
      | some s0 =>
        have hS0 := stepV_in hl hb hr ht hS k0
        obtain ⟨a0, a1, a2, a3⟩ := s0
        obtain ⟨i0, i1, i2, i3⟩ := hS0
        simp only [Option.bind_some]
        refine wp_call (low_some hl h1 h2 h3 h4 k0) rfl ?_
        refine wp_join (wp_condT rfl ?_)
        refine wp_call (mir_call i0) rfl (wp_call (mir_call i2) rfl ?_)
        cases k1 : stepV l b r t 1 (a0, a1, a2, a3) with
        | none =>
          have k1' : lowV (-r) (-a0) a1 (-a2) a3 = none := by simpa [stepV, low4, mirS] using k1
          refine wp_callA [.int (-a0), .int a1, .int (-a2), .int a3, .int (-r)] (by rw [← er]; rfl) (low_none (inM_neg hr) (inM_neg i0) i1 (inM_neg i2) i3 k1') rfl ?_
          refine wp_call mir0 rfl (wp_call mir0 rfl (wp_vals _ rfl (wp_alt0 ?_)))
          refine wp_join (wp_chk rfl (wp_condF rfl (wp_vals _ rfl (wp_alt0 ?_))))
          refine wp_join (wp_chk rfl (wp_condF rfl (wp_vals _ rfl (wp_alt0 ?_))))
          exact wp_chk rfl (wp_condT rfl (wp_res rfl))
        | some s1 =>
          have hS1 := stepV_in hl hb hr ht ⟨i0, i1, i2, i3⟩ k1
          obtain ⟨b0, b1, b2, b3⟩ := s1
          obtain ⟨j0, j1, j2, j3⟩ := hS1
          simp only [Option.bind_some]
          have k1' : lowV (-r) (-a0) a1 (-a2) a3 = some (-b0, b1, -b2, b3) := by
            obtain ⟨q, k, hq⟩ : ∃ q, lowV (-r) (-a0) a1 (-a2) a3 = some q ∧ mirS q = (b0, b1, b2, b3) := by simpa [stepV, low4, mirS] using k1
            rw [k]
            obtain ⟨q0, q1, q2, q3⟩ := q
            simp only [mirS, Prod.mk.injEq] at hq
            simp only [Option.some.injEq, Prod.mk.injEq]
            omega
          refine wp_callA [.int (-a0), .int a1, .int (-a2), .int a3, .int (-r)] (by rw [← er]; rfl) (low_some (inM_neg hr) (inM_neg i0) i1 (inM_neg i2) i3 k1') rfl ?_
          refine wp_call (mir_back j0) rfl (wp_call (mir_back j2) rfl (wp_vals _ rfl (wp_alt0 ?_)))
          refine wp_join (wp_chk rfl (wp_condT rfl ?_))
          refine wp_call turn_call rfl (wp_call turn_call rfl ?_)
          cases k2 : stepV l b r t 2 (b0, b1, b2, b3) with
          | none =>
            have k2' : lowV b b1 b0 b3 b2 = none := by simpa [stepV, low4, turnS] using k2
            refine wp_call (low_none hb j1 j0 j3 j2 k2') rfl (wp_vals _ rfl (wp_alt0 ?_))
            refine wp_join (wp_chk rfl (wp_condF rfl (wp_vals _ rfl (wp_alt0 ?_))))
            exact wp_chk rfl (wp_condT rfl (wp_res rfl))
          | some s2 =>
            have hS2 := stepV_in hl hb hr ht ⟨j0, j1, j2, j3⟩ k2
            obtain ⟨c0, c1, c2, c3⟩ := s2
            obtain ⟨p0, p1, p2, p3⟩ := hS2
            simp only [Option.bind_some]
            have k2' : lowV b b1 b0 b3 b2 = some (c1, c0, c3, c2) := by
              obtain ⟨q, k, hq⟩ : ∃ q, lowV b b1 b0 b3 b2 = some q ∧ turnS q = (c0, c1, c2, c3) := by simpa [stepV, low4, turnS] using k2
              rw [k]
              obtain ⟨q0, q1, q2, q3⟩ := q
              simp only [turnS, Prod.mk.injEq] at hq
              obtain ⟨rfl, rfl, rfl, rfl⟩ := hq; rfl
            refine wp_call (low_some hb j1 j0 j3 j2 k2') rfl (wp_vals _ rfl (wp_alt0 ?_))
            refine wp_join (wp_chk rfl (wp_condT rfl ?_))
            refine wp_call (mir_call p1) rfl (wp_call (mir_call p3) rfl ?_)
            cases k3 : stepV l b r t 3 (c0, c1, c2, c3) with
            | none =>
              have k3' : lowV (-t) (-c1) c0 (-c3) c2 = none := by simpa [stepV, low4, turnS, mirS] using k3
              refine wp_callA [.int (-c1), .int c0, .int (-c3), .int c2, .int (-t)] (by rw [← et]; rfl) (low_none (inM_neg ht) (inM_neg p1) p0 (inM_neg p3) p2 k3') rfl ?_
              refine wp_call mir0 rfl (wp_call turn_call rfl (wp_call mir0 rfl (wp_call turn_call rfl (wp_vals _ rfl (wp_alt0 ?_)))))
              exact wp_chk rfl (wp_condT rfl (wp_res rfl))
            | some s3 =>
              have hS3 := stepV_in hl hb hr ht ⟨p0, p1, p2, p3⟩ k3
              obtain ⟨d0, d1, d2, d3⟩ := s3
              obtain ⟨r0, r1, r2, r3⟩ := hS3
              have k3' : lowV (-t) (-c1) c0 (-c3) c2 = some (-d1, d0, -d3, d2) := by
                obtain ⟨q, k, hq⟩ : ∃ q, lowV (-t) (-c1) c0 (-c3) c2 = some q ∧ turnS (mirS q) = (d0, d1, d2, d3) := by simpa [stepV, low4, turnS, mirS] using k3
                rw [k]
                obtain ⟨q0, q1, q2, q3⟩ := q
                simp only [turnS, mirS, Prod.mk.injEq] at hq
                simp only [Option.some.injEq, Prod.mk.injEq]
                omega
              refine wp_callA [.int (-c1), .int c0, .int (-c3), .int c2, .int (-t)] (by rw [← et]; rfl) (low_some (inM_neg ht) (inM_neg p1) p0 (inM_neg p3) p2 k3') rfl ?_
              refine wp_call (mir_back r1) rfl (wp_call turn_call rfl (wp_call (mir_back r3) rfl (wp_call turn_call rfl (wp_vals _ rfl (wp_alt0 ?_)))))
              exact wp_chk rfl (wp_condF rfl (wp_res rfl))
    · cases h
  · cases h

-- the reference's way
def beyV (l b r t i x y : Int) : Int := if i = 0 then l - x else if i = 1 then x - r else if i = 2 then b - y else y - t
def fM (l b r t : Int) : Prop := inM l ∧ inM b ∧ inM r ∧ inM t
instance (l b r t : Int) : Decidable (fM l b r t) := inferInstanceAs (Decidable (_ ∧ _))
theorem beyV_bnd {l b r t i x y : Int} (hf : fM l b r t) (hx : inM x) (hy : inM y) : -2000000 ≤ beyV l b r t i x y ∧ beyV l b r t i x y ≤ 2000000 := by
  unfold fM inM at *
  unfold beyV
  split
  · omega
  · split
    · omega
    · split <;> omega
def g_bey : List U → Option (List U)
  | [.int l, .int b, .int r, .int t, .int i, .int x, .int y] => if fM l b r t ∧ inM x ∧ inM y then some [.int (beyV l b r t i x y)] else none
  | _ => none
theorem ok_l18Beyond : FnOK Try.prog n_spec_l18Beyond sg_spec_l18Beyond g_bey := mk_spec_l18Beyond fun us rs hl h => by
  unfold g_bey at h
  split at h
  · rename_i l b r t i x y
    split at h
    · rename_i hw
      cases h
      have hb := beyV_bnd (i := i) hw.1 hw.2.1 hw.2.2
      have e : IntKind.i64.wrap (beyV l b r t i x y) = beyV l b r t i x y := by rw [wrap64] <;> omega
      unfold beyV at e ⊢
      unfold pr_spec_l18Beyond
      refine wp_chk rfl ?_
      by_cases h0 : i = 0
      · rw [if_pos h0] at e ⊢
        exact wp_condT (by simp [E.den, cmpB_eql, h0]) (wp_res (by simp [E.den, ar_sub, e]))
      · rw [if_neg h0] at e ⊢
        refine wp_condF (by simp [E.den, cmpB_eql, h0]) ?_
        by_cases h1 : i = 1
        · rw [if_pos h1] at e ⊢
          exact wp_condT (by simp [E.den, cmpB_eql, h1]) (wp_res (by simp [E.den, ar_sub, e]))
        · rw [if_neg h1] at e ⊢
          refine wp_condF (by simp [E.den, cmpB_eql, h1]) ?_
          by_cases h2 : i = 2
          · rw [if_pos h2] at e ⊢
            exact wp_condT (by simp [E.den, cmpB_eql, h2]) (wp_res (by simp [E.den, ar_sub, e]))
          · rw [if_neg h2] at e ⊢
            exact wp_condF (by simp [E.den, cmpB_eql, h2]) (wp_res (by simp [E.den, ar_sub, e]))
    · cases h
  · cases h
def cutV (l b r t i ox oy px py : Int) : Int × Int :=
  let k := beyV l b r t i ox oy
  let n := k - beyV l b r t i px py
  if i = 0 then (l, mixV oy py k n) else if i = 1 then (r, mixV oy py k n) else if i = 2 then (mixV ox px k n, b) else (mixV ox px k n, t)
def cutOk (l b r t i ox oy px py : Int) : Prop := fM l b r t ∧ (inM ox ∧ inM oy ∧ inM px ∧ inM py) ∧ 0 < beyV l b r t i ox oy ∧ beyV l b r t i px py ≤ 0
instance (l b r t i ox oy px py : Int) : Decidable (cutOk l b r t i ox oy px py) := inferInstanceAs (Decidable (_ ∧ _))
theorem cut_le {l b r t i ox oy px py : Int} (hw : cutOk l b r t i ox oy px py) : beyV l b r t i ox oy - beyV l b r t i px py ≤ 2000000 := by
  obtain ⟨hf, ⟨h1, h2, h3, h4⟩, _⟩ := hw
  unfold fM inM at *
  unfold beyV
  split
  · omega
  · split
    · omega
    · split <;> omega
def g_cut : List U → Option (List U)
  | [.int l, .int b, .int r, .int t, .int i, .int ox, .int oy, .int px, .int py] => if cutOk l b r t i ox oy px py then some [.int (cutV l b r t i ox oy px py).1, .int (cutV l b r t i ox oy px py).2] else none
  | _ => none
theorem bey_call {l b r t i x y : Int} (hf : fM l b r t) (hx : inM x) (hy : inM y) : g_bey [.int l, .int b, .int r, .int t, .int i, .int x, .int y] = some [.int (beyV l b r t i x y)] := by
  unfold g_bey; dsimp only; rw [if_pos ⟨hf, hx, hy⟩]
theorem ok_l18Cut : FnOK Try.prog n_spec_l18Cut sg_spec_l18Cut g_cut := mk_spec_l18Cut ok_l18Beyond ok_l01Mix fun us rs hl h => by
  unfold g_cut at h
  split at h
  · rename_i l b r t i ox oy px py
    split at h
    · rename_i hw
      cases h
      have hle := cut_le hw
      obtain ⟨hf, ⟨h1, h2, h3, h4⟩, h5, h6⟩ := hw
      have b1 := beyV_bnd (i := i) hf h1 h2
      have b2 := beyV_bnd (i := i) hf h3 h4
      unfold pr_spec_l18Cut cutV
      refine wp_chk rfl ?_
      refine wp_call (bey_call hf h1 h2) rfl (wp_call (bey_call hf h3 h4) rfl ?_)
      generalize beyV l b r t i ox oy = k at *
      generalize beyV l b r t i px py = m at *
      have e : arith .sub .i64 k m = k - m := by rw [ar_sub, wrap64] <;> omega
      have my : g_mix [.int oy, .int py, .int k, .int (k - m)] = some [.int (mixV oy py k (k - m))] := by
        unfold g_mix; dsimp only; rw [if_pos ⟨h2, h4, by omega, by omega, by omega, by omega⟩]
      have mx : g_mix [.int ox, .int px, .int k, .int (k - m)] = some [.int (mixV ox px k (k - m))] := by
        unfold g_mix; dsimp only; rw [if_pos ⟨h1, h3, by omega, by omega, by omega, by omega⟩]
      by_cases c0 : i = 0
      · refine wp_condT (by simp [E.den, cmpB_eql, c0]) ?_
        refine wp_callA [.int oy, .int py, .int k, .int (k - m)] (by rw [← e]; rfl) my rfl (wp_res ?_)
        simp only [c0, if_true]; rfl
      · refine wp_condF (by simp [E.den, cmpB_eql, c0]) ?_
        by_cases c1 : i = 1
        · refine wp_condT (by simp [E.den, cmpB_eql, c1]) ?_
          refine wp_callA [.int oy, .int py, .int k, .int (k - m)] (by rw [← e]; rfl) my rfl (wp_res ?_)
          simp only [if_neg c0, if_pos c1]; rfl
        · refine wp_condF (by simp [E.den, cmpB_eql, c1]) ?_
          by_cases c2 : i = 2
          · refine wp_condT (by simp [E.den, cmpB_eql, c2]) ?_
            refine wp_callA [.int ox, .int px, .int k, .int (k - m)] (by rw [← e]; rfl) mx rfl (wp_res ?_)
            simp only [if_neg c0, if_neg c1, if_pos c2]; rfl
          · refine wp_condF (by simp [E.den, cmpB_eql, c2]) ?_
            refine wp_callA [.int ox, .int px, .int k, .int (k - m)] (by rw [← e]; rfl) mx rfl (wp_res ?_)
            simp only [if_neg c0, if_neg c1, if_neg c2]; rfl
    · cases h
  · cases h
/-- one border, the reference's way -/
theorem stepV_bey {l b r t : Int} {i : Nat} (hi : i < 4) {ax ay cx cy : Int} :
    stepV l b r t i (ax, ay, cx, cy) = if 0 < beyV l b r t i ax ay ∧ 0 < beyV l b r t i cx cy then none
      else if 0 < beyV l b r t i ax ay then some ((cutV l b r t i ax ay cx cy).1, (cutV l b r t i ax ay cx cy).2, cx, cy)
      else if 0 < beyV l b r t i cx cy then some (ax, ay, (cutV l b r t i cx cy ax ay).1, (cutV l b r t i cx cy ax ay).2)
      else some (ax, ay, cx, cy) := by
  match i, hi with
  | 0, _ =>
    simp only [stepV, low4, lowV, beyV, cutV, Int.ofNat_zero, Int.natCast_zero, if_true]
    have e1 : l - ax - (l - cx) = cx - ax := by omega
    have e2 : l - cx - (l - ax) = ax - cx := by omega
    have c1 : ax < l ↔ 0 < l - ax := by omega
    have c2 : cx < l ↔ 0 < l - cx := by omega
    simp only [e1, e2, c1, c2]
  | 1, _ =>
    have z : ((1 : Nat) : Int) = 1 := rfl
    simp only [stepV, low4, lowV, mirS, beyV, cutV, z, if_true, show ¬ ((1 : Int) = 0) by decide, if_false]
    have c1 : -ax < -r ↔ 0 < ax - r := by omega
    have c2 : -cx < -r ↔ 0 < cx - r := by omega
    have e1 : -r - -ax = ax - r := by omega
    have e2 : -r - -cx = cx - r := by omega
    have e3 : -cx - -ax = ax - r - (cx - r) := by omega
    have e4 : -ax - -cx = cx - r - (ax - r) := by omega
    simp only [c1, c2, e1, e2, e3, e4]
    split
    · rfl
    · split
      · simp [mirS]
      · split <;> simp [mirS]
  | 2, _ =>
    have z : ((2 : Nat) : Int) = 2 := rfl
    simp only [stepV, low4, lowV, turnS, beyV, cutV, z, if_true, show ¬ ((2 : Int) = 0) by decide, show ¬ ((2 : Int) = 1) by decide, if_false]
    have c1 : ay < b ↔ 0 < b - ay := by omega
    have c2 : cy < b ↔ 0 < b - cy := by omega
    have e3 : cy - ay = b - ay - (b - cy) := by omega
    have e4 : ay - cy = b - cy - (b - ay) := by omega
    simp only [c1, c2, e3, e4]
    split
    · rfl
    · split
      · simp [turnS]
      · split <;> simp [turnS]
  | 3, _ =>
    have z : ((3 : Nat) : Int) = 3 := rfl
    simp only [stepV, low4, lowV, turnS, mirS, beyV, cutV, z, show ¬ ((3 : Int) = 0) by decide, show ¬ ((3 : Int) = 1) by decide, show ¬ ((3 : Int) = 2) by decide, if_false]
    have c1 : -ay < -t ↔ 0 < ay - t := by omega
    have c2 : -cy < -t ↔ 0 < cy - t := by omega
    have e1 : -t - -ay = ay - t := by omega
    have e2 : -t - -cy = cy - t := by omega
    have e3 : -cy - -ay = ay - t - (cy - t) := by omega
    have e4 : -ay - -cy = cy - t - (ay - t) := by omega
    simp only [c1, c2, e1, e2, e3, e4]
    split
    · rfl
    · split
      · simp [turnS, mirS]
      · split <;> simp [turnS, mirS]
def totV (l b r t : Int) (i : Nat) (s : Q4) : Option Q4 := match i with
  | 0 => clipV l b r t s
  | 1 => (stepV l b r t 1 s).bind fun s => (stepV l b r t 2 s).bind fun s => stepV l b r t 3 s
  | 2 => (stepV l b r t 2 s).bind fun s => stepV l b r t 3 s
  | 3 => stepV l b r t 3 s
  | _ => some s
theorem totV_step {l b r t : Int} {i : Nat} (hi : i < 4) (s : Q4) : totV l b r t i s = (stepV l b r t i s).bind (totV l b r t (i + 1)) := by
  match i, hi with
  | 0, _ => rfl
  | 1, _ => rfl
  | 2, _ => rfl
  | 3, _ =>
    show stepV l b r t 3 s = (stepV l b r t 3 s).bind (totV l b r t 4)
    cases stepV l b r t 3 s <;> rfl
end Go.Proofs.Ytjjnllklhcjomaa.Eng
