/- What the functions about quotients and places compute. No condition. -/
import Derived.Test.YtibbceoibcnpcaaGreatLawRF
namespace Go.Proofs.YtibbceoibcnpcaaGreat.Eng
open Go

-- quotients
def divLo (a b c d : Int) : Int := mn4 (a * 1000000 / c) (a * 1000000 / d) (b * 1000000 / c) (b * 1000000 / d)
def divHi (a b c d : Int) : Int := mx4 (ceilV (a * 1000000) c) (ceilV (a * 1000000) d) (ceilV (b * 1000000) c) (ceilV (b * 1000000) d)
/-- a dividend and a divisor above 0 -/
def qB (a b c d : Int) : Prop := ivB 30000000 a b ∧ 0 < c ∧ c ≤ d ∧ d ≤ 30000000
theorem quo_one {x y : Int} (hx : -30000000 ≤ x ∧ x ≤ 30000000) (hy : 0 < y ∧ y ≤ 30000000) : arith .mul .i64 x 1000000 = x * 1000000 ∧ g_floor [.int (x * 1000000), .int y] = some [.int (x * 1000000 / y)] ∧ g_ceil [.int (x * 1000000), .int y] = some [.int (ceilV (x * 1000000) y)] ∧
    (-30000000000001 ≤ x * 1000000 / y ∧ x * 1000000 / y ≤ 30000000000000) ∧ (-30000000000000 ≤ ceilV (x * 1000000) y ∧ ceilV (x * 1000000) y ≤ 30000000000001) := by
  have h1 := ediv_bound (a := x * 1000000) (b := y) (M := 30000000000000) (by omega) (by omega) (by omega) (by omega)
  have h2 := ediv_bound (a := -(x * 1000000)) (b := y) (M := 30000000000000) (by omega) (by omega) (by omega) (by omega)
  refine ⟨a_mul (by omega) (by omega), floor_call (by omega) (by omega) (by omega) (by omega), ceil_call (by omega) (by omega) (by omega) (by omega), by omega, ?_⟩
  unfold ceilV; omega
theorem div_bnd {a b c d : Int} (h : qB a b c d) : (-30000000000001 ≤ divLo a b c d ∧ divLo a b c d ≤ 30000000000000) ∧ (-30000000000000 ≤ divHi a b c d ∧ divHi a b c d ≤ 30000000000001) := by
  obtain ⟨⟨h1, h2, h3⟩, h4, h5, h6⟩ := h
  obtain ⟨_, _, _, q1, r1⟩ := quo_one (x := a) (y := c) (by omega) (by omega)
  obtain ⟨_, _, _, q2, r2⟩ := quo_one (x := a) (y := d) (by omega) (by omega)
  obtain ⟨_, _, _, q3, r3⟩ := quo_one (x := b) (y := c) (by omega) (by omega)
  obtain ⟨_, _, _, q4, r4⟩ := quo_one (x := b) (y := d) (by omega) (by omega)
  have k1 := mn4_le (a * 1000000 / c) (a * 1000000 / d) (b * 1000000 / c) (b * 1000000 / d)
  have k2 := mx4_ge (ceilV (a * 1000000) c) (ceilV (a * 1000000) d) (ceilV (b * 1000000) c) (ceilV (b * 1000000) d)
  unfold divLo divHi; omega
theorem div_le {a b c d : Int} (h : qB a b c d) : divLo a b c d ≤ divHi a b c d := by
  have k1 := mn4_le (a * 1000000 / c) (a * 1000000 / d) (b * 1000000 / c) (b * 1000000 / d)
  have k2 := mx4_ge (ceilV (a * 1000000) c) (ceilV (a * 1000000) d) (ceilV (b * 1000000) c) (ceilV (b * 1000000) d)
  have k3 := floor_le_ceil (a := a * 1000000) (b := c) (c := a * 1000000) h.2.1 (by omega)
  unfold divLo divHi; omega
open Classical in
noncomputable def g_div : List U → Option (List U)
  | [.int a, .int b, .int c, .int d] => if qB a b c d then some [.int (divLo a b c d), .int (divHi a b c d)] else none
  | _ => none
theorem div_call {a b c d : Int} (h : qB a b c d) : g_div [.int a, .int b, .int c, .int d] = some [.int (divLo a b c d), .int (divHi a b c d)] := by unfold g_div; dsimp only; rw [if_pos h]
theorem ok_l02Div : FnOK Tryz.prog n_spec_l02Div sg_spec_l02Div g_div := mk_spec_l02Div ok_l01Floor ok_l01Ceil fun us rs hl h => by
  unfold g_div at h
  split at h
  · rename_i a b c d
    split at h
    · rename_i hw
      cases h
      clear hl
      obtain ⟨⟨h1, h2, h3⟩, h4, h5, h6⟩ := hw
      obtain ⟨ea, f1, r1, _⟩ := quo_one (x := a) (y := c) (by omega) (by omega)
      obtain ⟨_, f2, r2, _⟩ := quo_one (x := a) (y := d) (by omega) (by omega)
      obtain ⟨eb, f3, r3, _⟩ := quo_one (x := b) (y := c) (by omega) (by omega)
      obtain ⟨_, f4, r4, _⟩ := quo_one (x := b) (y := d) (by omega) (by omega)
      refine wp_chk rfl (wp_callA [.int (a * 1000000), .int c] (by rw [← ea]; rfl) f1 rfl (wp_callA [.int (a * 1000000), .int d] (by rw [← ea]; rfl) f2 rfl (wp_callA [.int (b * 1000000), .int c] (by rw [← eb]; rfl) f3 rfl (wp_callA [.int (b * 1000000), .int d] (by rw [← eb]; rfl) f4 rfl ?_))))
      exact wp_callA [.int (a * 1000000), .int c] (by rw [← ea]; rfl) r1 rfl (wp_callA [.int (a * 1000000), .int d] (by rw [← ea]; rfl) r2 rfl (wp_callA [.int (b * 1000000), .int c] (by rw [← eb]; rfl) r3 rfl (wp_callA [.int (b * 1000000), .int d] (by rw [← eb]; rfl) r4 rfl (wp_res rfl))))
    · cases h
  · cases h
-- the program's own way
def g_within : List U → Option (List U)
  | [.int a, .int b, .int m] => if 0 ≤ m ∧ m ≤ 1000000000 then some [.bool (bndI a (-m) m && bndI b (-m) m)] else none
  | _ => none
theorem ok_within : FnOK Tryz.prog n_impl_Interval_within sg_impl_Interval_within g_within := mk_impl_Interval_within ok_in fun us rs hl h => by
  unfold g_within at h
  split at h
  · rename_i a b m
    split at h
    · cases h
      have e1 : arith .sub .i64 0 m = -m := by rw [a_sub (by omega) (by omega), Int.zero_sub]
      refine wp_chk rfl (wp_join (wp_callA [.int a, .int (-m), .int m] (by rw [← e1]; rfl) (rs := [.bool (bndI a (-m) m)]) rfl rfl ?_))
      cases h1 : bndI a (-m) m
      · exact wp_condF rfl (wp_vals [.bool false] rfl (wp_alt0 (wp_chk rfl (wp_res rfl))))
      · refine wp_condT rfl (wp_callA [.int b, .int (-m), .int m] (by rw [← e1]; rfl) (rs := [.bool (bndI b (-m) m)]) rfl rfl (wp_vals _ rfl (wp_alt0 (wp_chk rfl (wp_res ?_)))))
        rw [Bool.true_and]; rfl
    · cases h
  · cases h
theorem within_call {a b m : Int} (h : 0 ≤ m ∧ m ≤ 1000000000) : g_within [.int a, .int b, .int m] = some [.bool (bndI a (-m) m && bndI b (-m) m)] := by unfold g_within; dsimp only; rw [if_pos h]
theorem within_true {a b m : Int} (h1 : -m ≤ a) (h2 : a ≤ b) (h3 : b ≤ m) : (bndI a (-m) m && bndI b (-m) m) = true := by
  simp only [Bool.and_eq_true, bndI_iff]; omega
open Classical in
noncomputable def g_factors : List U → Option (List U)
  | [.int a, .int b, .int c, .int d] => if ivB 1000000000 a b ∧ ivB 1000000000 c d then some [.int 0] else none
  | _ => none
theorem isI_iv {B a b : Int} (h : ivB B a b) (hB : B ≤ 1000000000000) : isI a b = true := isI_true (by unfold ivB at h; omega) h.2.1 (by unfold ivB at h; omega)
theorem ok_factors : FnOK Tryz.prog n_impl_factors sg_impl_factors g_factors := mk_impl_factors ok_iIsInterval ok_within fun us rs hl h => by
  unfold g_factors at h
  split at h
  · rename_i a b c d
    split at h
    · rename_i hw
      cases h
      have i1 := isI_iv hw.1 (by decide)
      have i2 := isI_iv hw.2 (by decide)
      have w1 := within_true hw.1.1 hw.1.2.1 hw.1.2.2
      have w2 := within_true hw.2.1 hw.2.2.1 hw.2.2.2
      have c1 : g_isI [.int a, .int b] = some [.bool true] := by rw [← i1]; rfl
      have c2 : g_isI [.int c, .int d] = some [.bool true] := by rw [← i2]; rfl
      have c3 : g_within [.int a, .int b, .int 1000000000] = some [.bool true] := by rw [within_call (by decide), w1]
      have c4 : g_within [.int c, .int d, .int 1000000000] = some [.bool true] := by rw [within_call (by decide), w2]
      refine wp_chk rfl (wp_join (wp_call c1 rfl (wp_condF rfl (wp_call c2 rfl (wp_vals [.bool false] rfl (wp_alt0 (wp_chk rfl (wp_condF rfl ?_))))))))
      exact wp_join (wp_call c3 rfl (wp_condF rfl (wp_call c4 rfl (wp_vals [.bool false] rfl (wp_alt0 (wp_chk rfl (wp_condF rfl (wp_res rfl))))))))
    · cases h
  · cases h
def g_has : List U → Option (List U)
  | [.int a, .int b, .int x] => some [.bool (bndI x a b)]
  | _ => none
theorem ok_has : FnOK Tryz.prog n_impl_Interval_has sg_impl_Interval_has g_has := mk_impl_Interval_has ok_in fun us rs hl h => by
  unfold g_has at h
  split at h
  · cases h; exact wp_chk rfl (wp_call (rs := [.bool _]) rfl rfl (wp_res rfl))
  · cases h
def toldV (a b : Int) : List U := if isV a && isV b then [.int a, .int b, .int 0] else [.int 0, .int 0, .int 3]
def g_told : List U → Option (List U)
  | [.int a, .int b] => some (toldV a b)
  | _ => none
theorem ok_told : FnOK Tryz.prog n_impl_told sg_impl_told g_told := mk_impl_told ok_isValue fun us rs hl h => by
  unfold g_told at h
  split at h
  · rename_i a b
    cases h
    unfold toldV
    refine wp_chk rfl (wp_join (wp_call (rs := [.bool (isV a)]) rfl rfl ?_))
    cases h1 : isV a
    · exact wp_condT rfl (wp_vals [.bool true] rfl (wp_alt0 (wp_chk rfl (wp_condT rfl (wp_res rfl)))))
    · refine wp_condF rfl (wp_call (rs := [.bool (isV b)]) rfl rfl ?_)
      cases h2 : isV b
      · exact wp_vals [.bool true] rfl (wp_alt0 (wp_chk rfl (wp_condT rfl (wp_res rfl))))
      · exact wp_vals [.bool false] rfl (wp_alt0 (wp_chk rfl (wp_condF rfl (wp_res rfl))))
  · cases h
theorem wp_leafK {G : FEnv} {K : Leaf → List U → Prop} {η : List U} {lab : Nat} {l : Leaf} (h : K l η) : wpP G (.leaf l) lab η K := h
theorem iterP_arg {step : List U → (List U → Prop) → Prop} {n : Nat} {us : List U} (vs : List U) (he : us = vs) (h : iterP step n vs) : iterP step n us := by rw [he]; exact h
theorem iterP_succ {step : List U → (List U → Prop) → Prop} {n : Nat} {us : List U} (h : step us (iterP step n)) : iterP step (n + 1) us := h
open Classical in
noncomputable def g_divI : List U → Option (List U)
  | [.int a, .int b, .int c, .int d] => if qB a b c d then some (toldV (divLo a b c d) (divHi a b c d)) else none
  | _ => none
theorem toldV_three (a b : Int) : ∃ x y z : Int, toldV a b = [.int x, .int y, .int z] := by unfold toldV; split <;> exact ⟨_, _, _, rfl⟩
theorem mnI_self (a : Int) : mnI a a = a := by unfold mnI; split <;> rfl
theorem mxI_self (a : Int) : mxI a a = a := by unfold mxI; split <;> rfl
set_option maxHeartbeats 2000000 in
theorem ok_DivideIntervals : FnOK Tryz.prog n_impl_DivideIntervals sg_impl_DivideIntervals g_divI := mk_impl_DivideIntervals ok_factors ok_has ok_floor ok_ceil ok_hull ok_told fun us rs hl h => by
  unfold g_divI at h
  split at h
  · rename_i a b c d
    split at h
    · rename_i hw
      cases h
      clear hl
      obtain ⟨⟨h1, h2, h3⟩, h4, h5, h6⟩ := hw
      obtain ⟨ea, f1, r1, _⟩ := quo_one (x := a) (y := c) (by omega) (by omega)
      obtain ⟨_, f2, r2, _⟩ := quo_one (x := a) (y := d) (by omega) (by omega)
      obtain ⟨eb, f3, r3, _⟩ := quo_one (x := b) (y := c) (by omega) (by omega)
      obtain ⟨_, f4, r4, _⟩ := quo_one (x := b) (y := d) (by omega) (by omega)
      have c1 : g_factors [.int a, .int b, .int c, .int d] = some [.int 0] := by
        unfold g_factors; dsimp only; rw [if_pos ⟨⟨by omega, h2, by omega⟩, by omega, h5, by omega⟩]
      have c2 : g_has [.int c, .int d, .int 0] = some [.bool false] := by
        have : bndI 0 c d = false := by unfold bndI; simp; omega
        rw [← this]; rfl
      unfold divLo divHi mn4 mx4
      generalize a * 1000000 / c = p1 at *
      generalize a * 1000000 / d = p2 at *
      generalize b * 1000000 / c = p3 at *
      generalize b * 1000000 / d = p4 at *
      generalize ceilV (a * 1000000) c = q1 at *
      generalize ceilV (a * 1000000) d = q2 at *
      generalize ceilV (b * 1000000) c = q3 at *
      generalize ceilV (b * 1000000) d = q4 at *
      have w1 : arith .add .i64 0 1 = 1 := a_add (by decide) (by decide)
      have w2 : arith .add .i64 1 1 = 2 := a_add (by decide) (by decide)
      have hh : ∀ x y z u : Int, g_hull [.int x, .int y, .int z, .int u] = some [.int (mnI x z), .int (mxI y u)] := fun _ _ _ _ => rfl
      have h0 := hh p1 q1 p1 q1
      rw [mnI_self, mxI_self] at h0
      refine wp_chk rfl (wp_call c1 rfl (wp_condF rfl (wp_call c2 rfl (wp_condF rfl ?_))))
      simp only [List.cons_append, List.nil_append]
      refine ⟨3, iterP_succ (wp_chk rfl (wp_condT rfl (wp_guard rfl ?_)))⟩
      simp only [List.map_cons, List.map_nil, E.den, List.getD_cons_zero, List.getD_cons_succ, List.cons_append, List.nil_append]
      refine ⟨3, iterP_succ (wp_chk rfl (wp_condT rfl (wp_guard rfl ?_)))⟩
      refine wp_callA [.int (a * 1000000), .int c] (by rw [← ea]; rfl) f1 rfl (wp_callA [.int (a * 1000000), .int c] (by rw [← ea]; rfl) r1 rfl (wp_join (wp_condT rfl (wp_vals _ rfl (wp_alt0 (wp_call h0 rfl (wp_chk rfl ?_)))))))
      refine wp_leafK ?_
      dsimp only
      refine iterP_arg [.bool false, .int (arith .add .i64 0 1), .int p1, .int q1] rfl ?_
      rw [w1]
      refine iterP_succ (wp_chk rfl (wp_condT rfl (wp_guard rfl ?_)))
      refine wp_callA [.int (a * 1000000), .int d] (by rw [← ea]; rfl) f2 rfl (wp_callA [.int (a * 1000000), .int d] (by rw [← ea]; rfl) r2 rfl (wp_join (wp_condF rfl (wp_vals _ rfl (wp_alt0 (wp_call (hh p1 q1 p2 q2) rfl (wp_chk rfl ?_)))))))
      refine wp_leafK ?_
      dsimp only
      refine iterP_arg [.bool false, .int (arith .add .i64 1 1), .int (mnI p1 p2), .int (mxI q1 q2)] rfl ?_
      rw [w2]
      refine iterP_succ (wp_chk rfl (wp_condF rfl ?_))
      refine wp_leafK ?_
      dsimp only
      refine wp_alt0 (wp_chk rfl ?_)
      refine wp_leafK ?_
      dsimp only
      refine iterP_arg [.bool false, .int (arith .add .i64 0 1), .int (mnI p1 p2), .int (mxI q1 q2)] rfl ?_
      rw [w1]
      refine iterP_succ (wp_chk rfl (wp_condT rfl (wp_guard rfl ?_)))
      refine ⟨3, iterP_arg [.bool false, .int 0, .int (mnI p1 p2), .int (mxI q1 q2)] rfl ?_⟩
      simp only [List.cons_append, List.nil_append]
      refine iterP_succ (wp_chk rfl (wp_condT rfl (wp_guard rfl ?_)))
      refine wp_callA [.int (b * 1000000), .int c] (by rw [← eb]; rfl) f3 rfl (wp_callA [.int (b * 1000000), .int c] (by rw [← eb]; rfl) r3 rfl (wp_join (wp_condF rfl (wp_vals _ rfl (wp_alt0 (wp_call (hh (mnI p1 p2) (mxI q1 q2) p3 q3) rfl (wp_chk rfl ?_)))))))
      refine wp_leafK ?_
      dsimp only
      refine iterP_arg [.bool false, .int (arith .add .i64 0 1), .int (mnI (mnI p1 p2) p3), .int (mxI (mxI q1 q2) q3)] rfl ?_
      rw [w1]
      refine iterP_succ (wp_chk rfl (wp_condT rfl (wp_guard rfl ?_)))
      refine wp_callA [.int (b * 1000000), .int d] (by rw [← eb]; rfl) f4 rfl (wp_callA [.int (b * 1000000), .int d] (by rw [← eb]; rfl) r4 rfl (wp_join (wp_condF rfl (wp_vals _ rfl (wp_alt0 (wp_call (hh (mnI (mnI p1 p2) p3) (mxI (mxI q1 q2) q3) p4 q4) rfl (wp_chk rfl ?_)))))))
      refine wp_leafK ?_
      dsimp only
      refine iterP_arg [.bool false, .int (arith .add .i64 1 1), .int (mnI (mnI (mnI p1 p2) p3) p4), .int (mxI (mxI (mxI q1 q2) q3) q4)] rfl ?_
      rw [w2]
      refine iterP_succ (wp_chk rfl (wp_condF rfl ?_))
      refine wp_leafK ?_
      dsimp only
      refine wp_alt0 (wp_chk rfl ?_)
      refine wp_leafK ?_
      dsimp only
      refine iterP_arg [.bool false, .int (arith .add .i64 1 1), .int (mnI (mnI (mnI p1 p2) p3) p4), .int (mxI (mxI (mxI q1 q2) q3) q4)] rfl ?_
      rw [w2]
      refine iterP_succ (wp_chk rfl (wp_condF rfl ?_))
      refine wp_leafK ?_
      dsimp only
      refine wp_alt0 (wp_chk rfl ?_)
      obtain ⟨x, y, z, e⟩ := toldV_three (mnI (mnI (mnI p1 p2) p3) p4) (mxI (mxI (mxI q1 q2) q3) q4)
      rw [e]
      exact wp_call (rs := [.int x, .int y, .int z]) (by rw [← e]; rfl) rfl (wp_res rfl)
    · cases h
  · cases h
end Go.Proofs.YtibbceoibcnpcaaGreat.Eng
