/- What the functions about shadows compute. No condition. -/
import Derived.Test.YtibbceoibcnpcaaGreatLawRG
namespace Go.Proofs.YtibbceoibcnpcaaGreat.Eng
open Go

-- places
def plV (a b c d : Int) : Bool := bndI a (-1000000) 1000000 && bndI b (-1000000) 1000000 && decide (a ≤ b) && (bndI c (-1000000) 1000000 && bndI d (-1000000) 1000000 && decide (c ≤ d))
def g_pl : List U → Option (List U)
  | [.int a, .int b, .int c, .int d] => some [.bool (plV a b c d)]
  | _ => none
theorem ok_coord : FnOK Tryz.prog n_spec_l14Coordinate sg_spec_l14Coordinate (fun us => match us with | [.int a, .int b] => some [.bool (bndI a (-1000000) b && bndI b (-1000000) 1000000)] | _ => none) := mk_spec_l14Coordinate ok_l01In fun us rs hl h => by
  split at h
  · rename_i a b
    cases h
    refine wp_chk rfl (wp_join (wp_call (rs := [.bool (bndI a (-1000000) b)]) rfl rfl ?_))
    cases h1 : bndI a (-1000000) b
    · exact wp_condF rfl (wp_vals [.bool false] rfl (wp_alt0 (wp_chk rfl (wp_res rfl))))
    · refine wp_condT rfl (wp_call (rs := [.bool (bndI b (-1000000) 1000000)]) rfl rfl (wp_vals _ rfl (wp_alt0 (wp_chk rfl (wp_res ?_)))))
      rw [Bool.true_and]; rfl
  · cases h
theorem plV_eq (a b c d : Int) : plV a b c d = (bndI a (-1000000) b && bndI b (-1000000) 1000000 && (bndI c (-1000000) d && bndI d (-1000000) 1000000)) := by
  rw [Bool.eq_iff_iff]
  simp only [plV, bndI, Bool.and_eq_true, decide_eq_true_eq]; omega
theorem ok_sIsPlace : FnOK Tryz.prog n_spec_IsPlace sg_spec_IsPlace g_pl := mk_spec_IsPlace ok_coord fun us rs hl h => by
  unfold g_pl at h
  split at h
  · rename_i a b c d
    cases h
    rw [plV_eq]
    refine wp_chk rfl (wp_join (wp_call (rs := [.bool (bndI a (-1000000) b && bndI b (-1000000) 1000000)]) rfl rfl ?_))
    cases h1 : bndI a (-1000000) b && bndI b (-1000000) 1000000
    · exact wp_condF rfl (wp_vals [.bool false] rfl (wp_alt0 (wp_chk rfl (wp_res rfl))))
    · refine wp_condT rfl (wp_call (rs := [.bool (bndI c (-1000000) d && bndI d (-1000000) 1000000)]) rfl rfl (wp_vals _ rfl (wp_alt0 (wp_chk rfl (wp_res ?_)))))
      rw [Bool.true_and]; rfl
  · cases h
theorem ok_iIsPlace : FnOK Tryz.prog n_impl_IsPlace sg_impl_IsPlace g_pl := mk_impl_IsPlace ok_within fun us rs hl h => by
  unfold g_pl at h
  split at h
  · rename_i a b c d
    cases h
    have c1 : g_within [.int a, .int b, .int 1000000] = some [.bool (bndI a (-1000000) 1000000 && bndI b (-1000000) 1000000)] := within_call (by decide)
    have c2 : g_within [.int c, .int d, .int 1000000] = some [.bool (bndI c (-1000000) 1000000 && bndI d (-1000000) 1000000)] := within_call (by decide)
    unfold plV
    refine wp_chk rfl (wp_join (wp_call c1 rfl ?_))
    cases h1 : bndI a (-1000000) 1000000 && bndI b (-1000000) 1000000
    · exact wp_condF rfl (wp_vals [.bool false] rfl (wp_alt0 (wp_chk rfl (wp_res rfl))))
    · refine wp_condT rfl (wp_call c2 rfl ?_)
      cases h2 : bndI c (-1000000) 1000000 && bndI d (-1000000) 1000000
      · refine wp_condF rfl (wp_vals [.bool false] rfl (wp_alt0 (wp_chk rfl (wp_res ?_))))
        rw [Bool.false_and, Bool.and_false]; rfl
      · refine wp_condT rfl ?_
        by_cases h3 : a ≤ b
        · refine wp_condT (by show cmpB .leq a b = true; rw [cmpB_leq]; simpa using h3) (wp_vals [.bool (decide (c ≤ d))] rfl (wp_alt0 (wp_chk rfl (wp_res ?_))))
          simp only [h3, decide_true, Bool.true_and]; rfl
        · refine wp_condF (by show cmpB .leq a b = false; rw [cmpB_leq]; simpa using h3) (wp_vals [.bool false] rfl (wp_alt0 (wp_chk rfl (wp_res ?_))))
          simp only [h3, decide_false, Bool.true_and, Bool.false_and]; rfl
  · cases h

-- how far a shadow falls
def farLo (h a b c d : Int) : Int := -h * divHi a b c d / 1000000
def farHi (h a b c d : Int) : Int := ceilV (-h * divLo a b c d) 1000000
def hB (h : Int) : Prop := 1 ≤ h ∧ h ≤ 10000
instance (x : Int) : Decidable (hB x) := inferInstanceAs (Decidable (_ ∧ _))
theorem far_facts {h a b c d : Int} (hh : hB h) (hq : qB a b c d) : arith .mul .i64 (arith .sub .i64 0 h) (divHi a b c d) = -h * divHi a b c d ∧ arith .mul .i64 (arith .sub .i64 0 h) (divLo a b c d) = -h * divLo a b c d ∧
    g_floor [.int (-h * divHi a b c d), .int 1000000] = some [.int (farLo h a b c d)] ∧ g_ceil [.int (-h * divLo a b c d), .int 1000000] = some [.int (farHi h a b c d)] := by
  have hb := div_bnd hq
  unfold hB at hh
  have m1 := mul_abs (a := -h) (A := 10000) (c := divHi a b c d) (C := 30000000000001) (by omega) (by omega) (by omega) (by omega)
  have m2 := mul_abs (a := -h) (A := 10000) (c := divLo a b c d) (C := 30000000000001) (by omega) (by omega) (by omega) (by omega)
  have e : arith .sub .i64 0 h = -h := by rw [a_sub (by omega) (by omega), Int.zero_sub]
  rw [e]
  exact ⟨a_mul (by omega) (by omega), a_mul (by omega) (by omega), floor_call (by omega) (by omega) (by omega) (by omega), ceil_call (by omega) (by omega) (by omega) (by omega)⟩
open Classical in
noncomputable def g_far : List U → Option (List U)
  | [.int h, .int a, .int b, .int c, .int d] => if hB h ∧ qB a b c d then some [.int (farLo h a b c d), .int (farHi h a b c d)] else none
  | _ => none
theorem ok_l14Far : FnOK Tryz.prog n_spec_l14Far sg_spec_l14Far g_far := mk_spec_l14Far ok_l02Div ok_l01Floor ok_l01Ceil fun us rs hl hx => by
  unfold g_far at hx
  split at hx
  · rename_i h a b c d
    split at hx
    · rename_i hw
      cases hx
      obtain ⟨e1, e2, f1, f2⟩ := far_facts hw.1 hw.2
      exact wp_chk rfl (wp_call (div_call hw.2) rfl (wp_callA [.int (-h * divHi a b c d), .int 1000000] (by rw [← e1]; rfl) f1 rfl (wp_callA [.int (-h * divLo a b c d), .int 1000000] (by rw [← e2]; rfl) f2 rfl (wp_res rfl))))
    · cases hx
  · cases hx
def toldB (a b c d : Int) : Bool := isV (divLo a b c d) && isV (divHi a b c d)
def wallV (h a b c d : Int) : List U := if toldB a b c d then [.int (farLo h a b c d), .int (farHi h a b c d), .int 0] else [.int 0, .int 0, .int 3]
open Classical in
noncomputable def g_wall : List U → Option (List U)
  | [.int h, .int a, .int b, .int c, .int d] => if hB h ∧ qB a b c d then some (wallV h a b c d) else none
  | _ => none
theorem wall_call {h a b c d : Int} (h1 : hB h) (h2 : qB a b c d) : g_wall [.int h, .int a, .int b, .int c, .int d] = some (wallV h a b c d) := by unfold g_wall; dsimp only; rw [if_pos ⟨h1, h2⟩]
theorem ok_onWall : FnOK Tryz.prog n_impl_onWall sg_impl_onWall g_wall := mk_impl_onWall ok_DivideIntervals ok_floor ok_ceil fun us rs hl hx => by
  unfold g_wall at hx
  split at hx
  · rename_i h a b c d
    split at hx
    · rename_i hw
      cases hx
      obtain ⟨e1, e2, f1, f2⟩ := far_facts hw.1 hw.2
      have hd : g_divI [.int a, .int b, .int c, .int d] = some (toldV (divLo a b c d) (divHi a b c d)) := by unfold g_divI; dsimp only; rw [if_pos hw.2]
      unfold wallV
      unfold toldV at hd
      cases ht : toldB a b c d
      · unfold toldB at ht
        rw [ht] at hd
        exact wp_chk rfl (wp_call hd rfl (wp_condT rfl (wp_res rfl)))
      · unfold toldB at ht
        rw [ht] at hd
        exact wp_chk rfl (wp_call hd rfl (wp_condF rfl (wp_callA [.int (-h * divHi a b c d), .int 1000000] (by rw [← e1]; rfl) f1 rfl (wp_callA [.int (-h * divLo a b c d), .int 1000000] (by rw [← e2]; rfl) f2 rfl (wp_res rfl)))))
    · cases hx
  · cases hx
/-- a quotient that is no value leads out of all places -/
theorem far_out {h a b c d : Int} (hh : hB h) (hq : qB a b c d) (ht : toldB a b c d = false) : (bndI (farLo h a b c d) (-1000000) 1000000 && bndI (farHi h a b c d) (-1000000) 1000000) = false := by
  have hle := div_le hq
  have hb := div_bnd hq
  unfold hB at hh
  rw [Bool.eq_false_iff]
  intro hc
  simp only [Bool.and_eq_true, bndI_iff] at hc
  have hn : ¬ (isV (divLo a b c d) = true ∧ isV (divHi a b c d) = true) := by
    intro hx; unfold toldB at ht; rw [hx.1, hx.2] at ht; cases ht
  simp only [isV, bndI_iff] at hn
  unfold farLo farHi ceilV at hc
  generalize divLo a b c d = q0 at *
  generalize divHi a b c d = q1 at *
  -- h * q is at least as great as q
  have key : ∀ q : Int, 1000000000000 < q → 1000000000000 < h * q := fun q hq => by
    have := Int.mul_le_mul_of_nonneg_right (show 1 ≤ h by omega) (show 0 ≤ q by omega)
    omega
  rcases Int.lt_or_le 1000000000000 q1 with k | k
  · have h1 := key q1 k
    have e : -h * q1 = -(h * q1) := Int.neg_mul h q1
    rw [e] at hc
    generalize h * q1 = z at *
    omega
  · rcases Int.lt_or_le q0 (-1000000000000) with k2 | k2
    · have h1 := key (-q0) (by omega)
      have e : -h * q0 = h * -q0 := by rw [Int.mul_neg, Int.neg_mul]
      rw [e] at hc
      generalize h * -q0 = z at *
      omega
    · omega

/-- the three parts -/
def pL (p q n : Int × Int) : List (List U) := [[.int p.1, .int p.2], [.int q.1, .int q.2], [.int n.1, .int n.2]]
/-- the place of the shadow, and whether it is one -/
def plX (h : Int) (p n : Int × Int) : Int × Int := (farLo h p.1 p.2 n.1 n.2, farHi h p.1 p.2 n.1 n.2)
def qP (p q n : Int × Int) : Prop := qB p.1 p.2 n.1 n.2 ∧ qB q.1 q.2 n.1 n.2
def okPl (h : Int) (p q n : Int × Int) : Bool := plV (plX h p n).1 (plX h p n).2 (plX h q n).1 (plX h q n).2
theorem one_l14Place : ∃ g, FnOK Tryz.prog n_spec_l14Place sg_spec_l14Place g ∧ ∀ h p q n, hB h → qP p q n → g [.int h, .lst (pL p q n)] = some [.int (plX h p n).1, .int (plX h p n).2, .int (plX h q n).1, .int (plX h q n).2] := by
  obtain ⟨g, h1, h2⟩ := one_of (n := 2) (Pre := fun us => ∃ h p q n, us = [.int h, .lst (pL p q n)] ∧ hB h ∧ qP p q n) (Post := fun us rs => ∀ h p q n, us = [.int h, .lst (pL p q n)] → rs = [.int (plX h p n).1, .int (plX h p n).2, .int (plX h q n).1, .int (plX h q n).2]) (mk_spec_l14Place ok_l14Far) (by
    rintro us ⟨h, p, q, n, rfl, hh, hq⟩
    have c1 : g_far [.int h, .int p.1, .int p.2, .int n.1, .int n.2] = some [.int (plX h p n).1, .int (plX h p n).2] := by unfold g_far; dsimp only; rw [if_pos ⟨hh, hq.1⟩]; rfl
    have c2 : g_far [.int h, .int q.1, .int q.2, .int n.1, .int n.2] = some [.int (plX h q n).1, .int (plX h q n).2] := by unfold g_far; dsimp only; rw [if_pos ⟨hh, hq.2⟩]; rfl
    refine wp_chk rfl (wp_guard rfl (wp_guard rfl (wp_guard rfl (wp_guard rfl (wp_call c1 rfl (wp_guard rfl (wp_guard rfl (wp_call c2 rfl ?_))))))))
    refine ⟨_, rfl, fun h' p' q' n' e => ?_⟩
    simp only [pL, List.cons.injEq, U.int.injEq, U.lst.injEq, and_true] at e
    obtain ⟨rfl, ⟨e1, e2⟩, ⟨e3, e4⟩, e5, e6⟩ := e
    have : p = p' ∧ q = q' ∧ n = n' := ⟨Prod.ext e1 e2, Prod.ext e3 e4, Prod.ext e5 e6⟩
    obtain ⟨rfl, rfl, rfl⟩ := this
    rfl)
  refine ⟨g, h1, fun h p q n hh hq => ?_⟩
  obtain ⟨rs, h3, h4⟩ := h2 _ ⟨h, p, q, n, rfl, hh, hq⟩
  rw [h3, h4 h p q n rfl]
theorem one_placeOf : ∃ g, FnOK Tryz.prog n_impl_placeOf sg_impl_placeOf g ∧ ∀ h p q n, hB h → qP p q n → g [.int h, .lst (pL p q n)] = some (if okPl h p q n then [.int (plX h p n).1, .int (plX h p n).2, .int (plX h q n).1, .int (plX h q n).2, .int 0] else [.int 0, .int 0, .int 0, .int 0, .int 3]) := by
  obtain ⟨g, h1, h2⟩ := one_of (n := 2) (Pre := fun us => ∃ h p q n, us = [.int h, .lst (pL p q n)] ∧ hB h ∧ qP p q n) (Post := fun us rs => ∀ h p q n, us = [.int h, .lst (pL p q n)] → rs = (if okPl h p q n then [.int (plX h p n).1, .int (plX h p n).2, .int (plX h q n).1, .int (plX h q n).2, .int 0] else [.int 0, .int 0, .int 0, .int 0, .int 3])) (mk_impl_placeOf ok_onWall ok_iIsPlace) (by
    rintro us ⟨h, p, q, n, rfl, hh, hq⟩
    have inj : ∀ (rs : List U), rs = (if okPl h p q n then [.int (plX h p n).1, .int (plX h p n).2, .int (plX h q n).1, .int (plX h q n).2, .int 0] else [.int 0, .int 0, .int 0, .int 0, .int 3]) → ∀ h' p' q' n', [U.int h, .lst (pL p q n)] = [.int h', .lst (pL p' q' n')] → rs = (if okPl h' p' q' n' then [.int (plX h' p' n').1, .int (plX h' p' n').2, .int (plX h' q' n').1, .int (plX h' q' n').2, .int 0] else [.int 0, .int 0, .int 0, .int 0, .int 3]) := by
      intro rs hrs h' p' q' n' e
      simp only [pL, List.cons.injEq, U.int.injEq, U.lst.injEq, and_true] at e
      obtain ⟨rfl, ⟨e1, e2⟩, ⟨e3, e4⟩, e5, e6⟩ := e
      have : p = p' ∧ q = q' ∧ n = n' := ⟨Prod.ext e1 e2, Prod.ext e3 e4, Prod.ext e5 e6⟩
      obtain ⟨rfl, rfl, rfl⟩ := this
      exact hrs
    have c1 := wall_call hh hq.1
    have c2 := wall_call hh hq.2
    unfold wallV at c1 c2
    refine wp_chk rfl (wp_guard rfl (wp_guard rfl (wp_guard rfl (wp_guard rfl ?_))))
    cases t1 : toldB p.1 p.2 n.1 n.2
    · rw [t1] at c1
      refine wp_call c1 rfl (wp_condT rfl ⟨_, rfl, inj _ ?_⟩)
      have hf := far_out hh hq.1 t1
      have : okPl h p q n = false := by unfold okPl plV plX; simp only; rw [hf]; rfl
      rw [this]; rfl
    · rw [t1] at c1
      refine wp_call c1 rfl (wp_condF rfl (wp_guard rfl (wp_guard rfl ?_)))
      cases t2 : toldB q.1 q.2 n.1 n.2
      · rw [t2] at c2
        refine wp_call c2 rfl (wp_join (wp_condT rfl (wp_vals [.bool true] rfl (wp_alt0 (wp_chk rfl (wp_condT rfl ⟨_, rfl, inj _ ?_⟩))))))
        have hf := far_out hh hq.2 t2
        have : okPl h p q n = false := by unfold okPl plV plX; simp only; rw [hf]; simp
        rw [this]; rfl
      · rw [t2] at c2
        refine wp_call c2 rfl (wp_join (wp_condF rfl (wp_call (rs := [.bool (okPl h p q n)]) rfl rfl ?_)))
        cases ho : okPl h p q n
        · exact wp_vals [.bool true] rfl (wp_alt0 (wp_chk rfl (wp_condT rfl ⟨_, rfl, inj _ (by rw [ho]; rfl)⟩)))
        · exact wp_vals [.bool false] rfl (wp_alt0 (wp_chk rfl (wp_condF rfl ⟨_, rfl, inj _ (by rw [ho]; rfl)⟩))))
  refine ⟨g, h1, fun h p q n hh hq => ?_⟩
  obtain ⟨rs, h3, h4⟩ := h2 _ ⟨h, p, q, n, rfl, hh, hq⟩
  rw [h3, h4 h p q n rfl]
end Go.Proofs.YtibbceoibcnpcaaGreat.Eng
