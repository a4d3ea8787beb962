/- What the functions about directions and walls compute. No condition. -/
import Derived.Test.YtibbceoibcnpcaaGreatLawRE
namespace Go.Proofs.YtibbceoibcnpcaaGreat.Eng
open Go

theorem ok_shifted : FnOK Tryz.prog n_impl_Interval_shifted sg_impl_Interval_shifted (fun us => match us with | [.int a, .int b, .int c] => if angB a ∧ angB b ∧ c = 324000 then some [.int (a + 324000), .int (b + 324000)] else none | _ => none) := mk_impl_Interval_shifted fun us rs hl h => by
  split at h
  · rename_i a b c
    split at h
    · rename_i hw
      cases h
      obtain ⟨h1, h2, rfl⟩ := hw
      unfold angB at h1 h2
      have e1 : arith .add .i64 a 324000 = a + 324000 := a_add (by omega) (by omega)
      have e2 : arith .add .i64 b 324000 = b + 324000 := a_add (by omega) (by omega)
      exact wp_chk rfl (wp_res (by rw [← e1, ← e2]; rfl))
    · cases h
  · cases h
/-- an angle that is not too great -/
def smA (a : Int) : Prop := -1000000000000 ≤ a ∧ a ≤ 1000000000000
instance (x : Int) : Decidable (smA x) := inferInstanceAs (Decidable (_ ∧ _))
theorem smA.ang {a : Int} (h : smA a) : angB a := by unfold smA at h; unfold angB; omega
theorem smA.ang' {a : Int} (h : smA a) : angB (a + 324000) := by unfold smA at h; unfold angB; omega
def g_crng : List U → Option (List U)
  | [.int a, .int b] => if smA a ∧ smA b then some [.int (rng (a + 324000) (b + 324000)).1, .int (rng (a + 324000) (b + 324000)).2] else none
  | _ => none
theorem ok_cosineRange : FnOK Tryz.prog n_impl_cosineRange sg_impl_cosineRange g_crng := mk_impl_cosineRange ok_shifted ok_sineRange fun us rs hl h => by
  unfold g_crng at h
  split at h
  · rename_i a b
    split at h
    · rename_i hw
      cases h
      refine wp_chk rfl (wp_call (rs := [.int (a + 324000), .int (b + 324000)]) ?_ rfl (wp_call (rng_call hw.1.ang' hw.2.ang') rfl (wp_res rfl)))
      show (if angB a ∧ angB b ∧ (324000 : Int) = 324000 then _ else _) = _
      rw [if_pos ⟨hw.1.ang, hw.2.ang, rfl⟩]
    · cases h
  · cases h

structure V6 where
  x0 : Int
  x1 : Int
  y0 : Int
  y1 : Int
  z0 : Int
  z1 : Int
def V6.u (v : V6) : List U := [.int v.x0, .int v.x1, .int v.y0, .int v.y1, .int v.z0, .int v.z1]
def V6.B (B : Int) (v : V6) : Prop := ivB B v.x0 v.x1 ∧ ivB B v.y0 v.y1 ∧ ivB B v.z0 v.z1

-- the sun
def hourV (m : Int) : Int := (m - 720) * 900
def sunV (lat d0 d1 m : Int) : V6 :=
  let sd := rng d0 d1
  let cd := rng (d0 + 324000) (d1 + 324000)
  let h := hourV m
  let fl0 := mulLo cd.1 cd.2 (sLo (h + 324000)) (sHi (h + 324000))
  let fl1 := mulHi cd.1 cd.2 (sLo (h + 324000)) (sHi (h + 324000))
  { x0 := 0 - mulHi cd.1 cd.2 (sLo h) (sHi h), x1 := 0 - mulLo cd.1 cd.2 (sLo h) (sHi h),
    y0 := mulLo sd.1 sd.2 (sLo (lat + 324000)) (sHi (lat + 324000)) - mulHi fl0 fl1 (sLo lat) (sHi lat), y1 := mulHi sd.1 sd.2 (sLo (lat + 324000)) (sHi (lat + 324000)) - mulLo fl0 fl1 (sLo lat) (sHi lat),
    z0 := mulLo sd.1 sd.2 (sLo lat) (sHi lat) + mulLo fl0 fl1 (sLo (lat + 324000)) (sHi (lat + 324000)), z1 := mulHi sd.1 sd.2 (sLo lat) (sHi lat) + mulHi fl0 fl1 (sLo (lat + 324000)) (sHi (lat + 324000)) }
theorem ivS : ∀ {a b c d : Int}, ivB 1100001 a b → ivB 1100001 c d → ivB 1210003 (mulLo a b c d) (mulHi a b c d) := fun h1 h2 => mul_iv h1 h2 (by decide)
theorem ivF : ∀ {a b c d : Int}, ivB 1210003 a b → ivB 1100001 c d → ivB 1331005 (mulLo a b c d) (mulHi a b c d) := fun h1 h2 => mul_iv h1 h2 (by decide)
theorem zero_iv : ivB 0 0 0 := ⟨by decide, by decide, by decide⟩
theorem sun_B (lat d0 d1 m : Int) : (sunV lat d0 d1 m).B 2600000 := by
  unfold sunV V6.B
  simp only
  have r0 := rng_iv d0 d1
  have r1 := rng_iv (d0 + 324000) (d1 + 324000)
  have f := ivS r1 (s_iv (hourV m + 324000))
  exact ⟨(sub_iv zero_iv (ivS r1 (s_iv (hourV m)))).mono (by decide), (sub_iv (ivS r0 (s_iv (lat + 324000))) (ivF f (s_iv lat))).mono (by decide), (add_iv (ivS r0 (s_iv lat)) (ivF f (s_iv (lat + 324000)))).mono (by decide)⟩
def g_sun : List U → Option (List U)
  | [.int lat, .int d0, .int d1, .int m] => if smA lat ∧ smA d0 ∧ smA d1 ∧ nB m then some (sunV lat d0 d1 m).u else none
  | _ => none
theorem sun_call {lat d0 d1 m : Int} (h1 : smA lat) (h2 : smA d0) (h3 : smA d1) (h4 : nB m) : g_sun [.int lat, .int d0, .int d1, .int m] = some (sunV lat d0 d1 m).u := by unfold g_sun; dsimp only; rw [if_pos ⟨h1, h2, h3, h4⟩]
def g_hour : List U → Option (List U)
  | [.int m] => if nB m then some [.int (hourV m)] else none
  | _ => none
theorem hour_eq {m : Int} (h : nB m) : arith .mul .i64 (arith .sub .i64 m 720) 900 = hourV m ∧ smA (hourV m) := by
  unfold nB at h
  rw [a_sub (by omega) (by omega), a_mul (by omega) (by omega)]
  exact ⟨rfl, by unfold smA hourV; omega⟩
theorem ok_l09Hour : FnOK Tryz.prog n_spec_l09Hour sg_spec_l09Hour g_hour := mk_spec_l09Hour fun us rs hl h => by
  unfold g_hour at h
  split at h
  · rename_i m
    split at h
    · rename_i hw
      cases h
      exact wp_chk rfl (wp_res (by rw [← (hour_eq hw).1]; rfl))
    · cases h
  · cases h
theorem hour_call {m : Int} (h : nB m) : g_hour [.int m] = some [.int (hourV m)] := by unfold g_hour; dsimp only; rw [if_pos h]
set_option maxHeartbeats 1000000 in
theorem ok_l09Sun : FnOK Tryz.prog n_spec_l09Sun sg_spec_l09Sun g_sun := mk_spec_l09Sun ok_l04Range ok_l09Hour ok_l04Sin ok_l04Cos ok_l02Mul ok_l02Sub ok_l02Add fun us rs hl h => by
  unfold g_sun at h
  split at h
  · rename_i lat d0 d1 m
    split at h
    · rename_i hw
      cases h
      clear hl
      obtain ⟨h1, h2, h3, h4⟩ := hw
      have hh := (hour_eq h4).2
      have e1' : arith .add .i64 d0 324000 = d0 + 324000 := by unfold smA at h2; exact a_add (by omega) (by omega)
      have e2' : arith .add .i64 d1 324000 = d1 + 324000 := by unfold smA at h3; exact a_add (by omega) (by omega)
      have hq := hour_call h4
      have q1 := rng_call h2.ang h3.ang
      have q2 := rng_call h2.ang' h3.ang'
      have q3 := sin_callA hh.ang
      have q4 := cos_call hh.ang
      have q5 := sin_callA h1.ang
      have q6 := cos_call h1.ang
      have r0 := rng_iv d0 d1
      have r1 := rng_iv (d0 + 324000) (d1 + 324000)
      have s1 := s_iv (hourV m)
      have s2 := s_iv (hourV m + 324000)
      have s3 := s_iv lat
      have s4 := s_iv (lat + 324000)
      unfold sunV V6.u
      simp only
      generalize (rng d0 d1).1 = a0 at *
      generalize (rng d0 d1).2 = a1 at *
      generalize (rng (d0 + 324000) (d1 + 324000)).1 = b0 at *
      generalize (rng (d0 + 324000) (d1 + 324000)).2 = b1 at *
      generalize sLo (hourV m) = c0 at *
      generalize sHi (hourV m) = c1 at *
      generalize sLo (hourV m + 324000) = e0 at *
      generalize sHi (hourV m + 324000) = e1 at *
      generalize sLo lat = f0 at *
      generalize sHi lat = f1 at *
      generalize sLo (lat + 324000) = k0 at *
      generalize sHi (lat + 324000) = k1 at *
      have f := ivS r1 s2
      have t1 := mulC r1 s2 (by decide) (by decide)
      have t2 := mulC r1 s1 (by decide) (by decide)
      have t3 := subC zero_iv (ivS r1 s1) (by decide) (by decide)
      have t4 := mulC r0 s4 (by decide) (by decide)
      have t5 := mulC f s3 (by decide) (by decide)
      have t6 := subC (ivS r0 s4) (ivF f s3) (by decide) (by decide)
      have t7 := mulC r0 s3 (by decide) (by decide)
      have t8 := mulC f s4 (by decide) (by decide)
      have t9 := addC (ivS r0 s3) (ivF f s4) (by decide) (by decide)
      generalize mulLo b0 b1 c0 c1 = m0 at *
      generalize mulHi b0 b1 c0 c1 = m1 at *
      generalize mulLo b0 b1 e0 e1 = n0 at *
      generalize mulHi b0 b1 e0 e1 = n1 at *
      generalize mulLo a0 a1 k0 k1 = o0 at *
      generalize mulHi a0 a1 k0 k1 = o1 at *
      generalize mulLo a0 a1 f0 f1 = p0 at *
      generalize mulHi a0 a1 f0 f1 = p1 at *
      generalize mulLo n0 n1 f0 f1 = q0 at *
      generalize mulHi n0 n1 f0 f1 = qq at *
      generalize mulLo n0 n1 k0 k1 = u0 at *
      generalize mulHi n0 n1 k0 k1 = u1 at *
      clear f r0 r1 s1 s2 s3 s4
      refine wp_chk rfl (wp_call q1 rfl (wp_callA [.int (d0 + 324000), .int (d1 + 324000)] (by rw [← e1', ← e2']; rfl) q2 rfl ?_))
      simp only [List.cons_append, List.nil_append]
      refine wp_call hq rfl (wp_call q3 rfl (wp_call hq rfl (wp_call q4 rfl ?_)))
      simp only [List.cons_append, List.nil_append]
      refine wp_call q5 rfl (wp_call q6 rfl (wp_call t1 rfl ?_))
      simp only [List.cons_append, List.nil_append]
      refine wp_call t2 rfl (wp_call t3 rfl (wp_call t4 rfl ?_))
      simp only [List.cons_append, List.nil_append]
      refine wp_call t5 rfl (wp_call t6 rfl (wp_call t7 rfl ?_))
      simp only [List.cons_append, List.nil_append]
      exact wp_call t8 rfl (wp_call t9 rfl (wp_res rfl))
    · cases h
  · cases h
set_option maxHeartbeats 1000000 in
theorem ok_sunAt : FnOK Tryz.prog n_impl_sunAt sg_impl_sunAt g_sun := mk_impl_sunAt ok_sineRange ok_cosineRange ok_sine ok_cosine ok_times ok_minus ok_plus fun us rs hl h => by
  unfold g_sun at h
  split at h
  · rename_i lat d0 d1 m
    split at h
    · rename_i hw
      cases h
      clear hl
      obtain ⟨h1, h2, h3, h4⟩ := hw
      obtain ⟨eh, hh⟩ := hour_eq h4
      have hc : g_crng [.int d0, .int d1] = some [.int (rng (d0 + 324000) (d1 + 324000)).1, .int (rng (d0 + 324000) (d1 + 324000)).2] := by unfold g_crng; dsimp only; rw [if_pos ⟨h2, h3⟩]
      have q1 := rng_call h2.ang h3.ang
      have q2 := rng_call h2.ang' h3.ang'
      have q3 := sin_callA hh.ang
      have q4 := cos_call hh.ang
      have q5 := sin_callA h1.ang
      have q6 := cos_call h1.ang
      have r0 := rng_iv d0 d1
      have r1 := rng_iv (d0 + 324000) (d1 + 324000)
      have s1 := s_iv (hourV m)
      have s2 := s_iv (hourV m + 324000)
      have s3 := s_iv lat
      have s4 := s_iv (lat + 324000)
      unfold sunV V6.u
      simp only
      generalize (rng d0 d1).1 = a0 at *
      generalize (rng d0 d1).2 = a1 at *
      generalize (rng (d0 + 324000) (d1 + 324000)).1 = b0 at *
      generalize (rng (d0 + 324000) (d1 + 324000)).2 = b1 at *
      generalize sLo (hourV m) = c0 at *
      generalize sHi (hourV m) = c1 at *
      generalize sLo (hourV m + 324000) = e0 at *
      generalize sHi (hourV m + 324000) = e1 at *
      generalize sLo lat = f0 at *
      generalize sHi lat = f1 at *
      generalize sLo (lat + 324000) = k0 at *
      generalize sHi (lat + 324000) = k1 at *
      have f := ivS r1 s2
      have t1 := mulC r1 s2 (by decide) (by decide)
      have t2 := mulC r1 s1 (by decide) (by decide)
      have t3 := subC zero_iv (ivS r1 s1) (by decide) (by decide)
      have t4 := mulC r0 s4 (by decide) (by decide)
      have t5 := mulC f s3 (by decide) (by decide)
      have t6 := subC (ivS r0 s4) (ivF f s3) (by decide) (by decide)
      have t7 := mulC r0 s3 (by decide) (by decide)
      have t8 := mulC f s4 (by decide) (by decide)
      have t9 := addC (ivS r0 s3) (ivF f s4) (by decide) (by decide)
      generalize mulLo b0 b1 c0 c1 = m0 at *
      generalize mulHi b0 b1 c0 c1 = m1 at *
      generalize mulLo b0 b1 e0 e1 = n0 at *
      generalize mulHi b0 b1 e0 e1 = n1 at *
      generalize mulLo a0 a1 k0 k1 = o0 at *
      generalize mulHi a0 a1 k0 k1 = o1 at *
      generalize mulLo a0 a1 f0 f1 = p0 at *
      generalize mulHi a0 a1 f0 f1 = p1 at *
      generalize mulLo n0 n1 f0 f1 = q0 at *
      generalize mulHi n0 n1 f0 f1 = qq at *
      generalize mulLo n0 n1 k0 k1 = u0 at *
      generalize mulHi n0 n1 k0 k1 = u1 at *
      clear f r0 r1 s1 s2 s3 s4
      refine wp_chk rfl (wp_call q1 rfl (wp_call hc rfl (wp_call q5 rfl (wp_call q6 rfl ?_))))
      simp only [List.cons_append, List.nil_append]
      refine wp_callA [.int (hourV m)] (by rw [← eh]; rfl) q4 rfl (wp_call t1 rfl ?_)
      simp only [List.cons_append, List.nil_append]
      refine wp_callA [.int (hourV m)] (by rw [← eh]; rfl) q3 rfl (wp_call t2 rfl (wp_call t3 rfl ?_))
      simp only [List.cons_append, List.nil_append]
      refine wp_call t4 rfl (wp_call t5 rfl (wp_call t6 rfl ?_))
      simp only [List.cons_append, List.nil_append]
      exact wp_call t7 rfl (wp_call t8 rfl (wp_call t9 rfl (wp_res rfl)))
    · cases h
  · cases h

-- directions
def dirV (az alt : Int) : V6 :=
  { x0 := mulLo (sLo az) (sHi az) (sLo (alt + 324000)) (sHi (alt + 324000)), x1 := mulHi (sLo az) (sHi az) (sLo (alt + 324000)) (sHi (alt + 324000)),
    y0 := mulLo (sLo (az + 324000)) (sHi (az + 324000)) (sLo (alt + 324000)) (sHi (alt + 324000)), y1 := mulHi (sLo (az + 324000)) (sHi (az + 324000)) (sLo (alt + 324000)) (sHi (alt + 324000)),
    z0 := sLo alt, z1 := sHi alt }
theorem dir_B (az alt : Int) : (dirV az alt).B 1300000 := by
  unfold dirV V6.B
  exact ⟨(ivS (s_iv _) (s_iv _)).mono (by decide), (ivS (s_iv _) (s_iv _)).mono (by decide), (s_iv _).mono (by decide)⟩
def g_dir : List U → Option (List U)
  | [.int az, .int alt] => if smA az ∧ smA alt then some (dirV az alt).u else none
  | _ => none
theorem dir_call {az alt : Int} (h1 : smA az) (h2 : smA alt) : g_dir [.int az, .int alt] = some (dirV az alt).u := by unfold g_dir; dsimp only; rw [if_pos ⟨h1, h2⟩]
theorem ok_l06To : FnOK Tryz.prog n_spec_l06To sg_spec_l06To g_dir := mk_spec_l06To ok_l04Cos ok_l04Sin ok_l02Mul fun us rs hl h => by
  unfold g_dir at h
  split at h
  · rename_i az alt
    split at h
    · rename_i hw
      cases h
      obtain ⟨h1, h2⟩ := hw
      refine wp_chk rfl (wp_call (cos_call h2.ang) rfl (wp_call (sin_callA h1.ang) rfl (wp_call (mulC (s_iv _) (s_iv _) (by decide) (by decide)) rfl ?_)))
      exact wp_call (cos_call h1.ang) rfl (wp_call (mulC (s_iv _) (s_iv _) (by decide) (by decide)) rfl (wp_call (sin_callA h2.ang) rfl (wp_res rfl)))
    · cases h
  · cases h
theorem ok_direction : FnOK Tryz.prog n_impl_direction sg_impl_direction g_dir := mk_impl_direction ok_cosine ok_sine ok_times fun us rs hl h => by
  unfold g_dir at h
  split at h
  · rename_i az alt
    split at h
    · rename_i hw
      cases h
      obtain ⟨h1, h2⟩ := hw
      refine wp_chk rfl (wp_call (cos_call h2.ang) rfl (wp_call (sin_callA h1.ang) rfl (wp_call (mulC (s_iv _) (s_iv _) (by decide) (by decide)) rfl ?_)))
      exact wp_call (cos_call h1.ang) rfl (wp_call (mulC (s_iv _) (s_iv _) (by decide) (by decide)) rfl (wp_call (sin_callA h2.ang) rfl (wp_res rfl)))
    · cases h
  · cases h
def ax0 (az : Int) : V6 := dirV (az - 324000) 0
def ax1 (az sl : Int) : V6 := dirV az (sl + 324000)
def ax2 (az sl : Int) : V6 := dirV az sl
def axesL (az sl : Int) : List (List U) := [(ax0 az).u, (ax1 az sl).u, (ax2 az sl).u]
def wB (a : Int) : Prop := -10000000 ≤ a ∧ a ≤ 10000000
instance (x : Int) : Decidable (wB x) := inferInstanceAs (Decidable (_ ∧ _))
def g_axes : List U → Option (List U)
  | [.int az, .int sl] => if wB az ∧ wB sl then some [.lst (axesL az sl)] else none
  | _ => none
theorem axes_call {az sl : Int} (h1 : wB az) (h2 : wB sl) : g_axes [.int az, .int sl] = some [.lst (axesL az sl)] := by unfold g_axes; dsimp only; rw [if_pos ⟨h1, h2⟩]
theorem axes_facts {az sl : Int} (h1 : wB az) (h2 : wB sl) : arith .sub .i64 az 324000 = az - 324000 ∧ arith .add .i64 sl 324000 = sl + 324000 ∧ smA (az - 324000) ∧ smA az ∧ smA (sl + 324000) ∧ smA sl := by
  unfold wB at *; unfold smA
  exact ⟨a_sub (by omega) (by omega), a_add (by omega) (by omega), by omega, by omega, by omega, by omega⟩
theorem ok_l13Axes : FnOK Tryz.prog n_spec_l13Axes sg_spec_l13Axes g_axes := mk_spec_l13Axes ok_l06To fun us rs hl h => by
  unfold g_axes at h
  split at h
  · rename_i az sl
    split at h
    · rename_i hw
      cases h
      obtain ⟨e1, e2, k1, k2, k3, k4⟩ := axes_facts hw.1 hw.2
      refine wp_chk rfl (wp_callA [.int (az - 324000), .int 0] (by rw [← e1]; rfl) (dir_call k1 (by decide)) rfl ?_)
      exact wp_callA [.int az, .int (sl + 324000)] (by rw [← e2]; rfl) (dir_call k2 k3) rfl (wp_call (dir_call k2 k4) rfl (wp_res rfl))
    · cases h
  · cases h
theorem ok_axes : FnOK Tryz.prog n_impl_Wall_axes sg_impl_Wall_axes g_axes := mk_impl_Wall_axes ok_direction fun us rs hl h => by
  unfold g_axes at h
  split at h
  · rename_i az sl
    split at h
    · rename_i hw
      cases h
      obtain ⟨e1, e2, k1, k2, k3, k4⟩ := axes_facts hw.1 hw.2
      refine wp_chk rfl (wp_callA [.int (az - 324000), .int 0] (by rw [← e1]; rfl) (dir_call k1 (by decide)) rfl ?_)
      exact wp_callA [.int az, .int (sl + 324000)] (by rw [← e2]; rfl) (dir_call k2 k3) rfl (wp_call (dir_call k2 k4) rfl (wp_res rfl))
    · cases h
  · cases h

-- the sum of the products
theorem mn4_sw (p q r s : Int) : mn4 p q r s = mn4 p r q s := by unfold mn4 mnI; (repeat' split) <;> omega
theorem mx4_sw (p q r s : Int) : mx4 p q r s = mx4 p r q s := by unfold mx4 mxI; (repeat' split) <;> omega
theorem mulLo_comm (a b c d : Int) : mulLo a b c d = mulLo c d a b := by
  unfold mulLo; rw [mn4_sw, Int.mul_comm a c, Int.mul_comm b c, Int.mul_comm a d, Int.mul_comm b d]
theorem mulHi_comm (a b c d : Int) : mulHi a b c d = mulHi c d a b := by
  unfold mulHi; rw [mx4_sw, Int.mul_comm a c, Int.mul_comm b c, Int.mul_comm a d, Int.mul_comm b d]
def dotLo (v w : V6) : Int := mulLo v.x0 v.x1 w.x0 w.x1 + mulLo v.y0 v.y1 w.y0 w.y1 + mulLo v.z0 v.z1 w.z0 w.z1
def dotHi (v w : V6) : Int := mulHi v.x0 v.x1 w.x0 w.x1 + mulHi v.y0 v.y1 w.y0 w.y1 + mulHi v.z0 v.z1 w.z0 w.z1
theorem dotLo_comm (v w : V6) : dotLo v w = dotLo w v := by unfold dotLo; rw [mulLo_comm v.x0, mulLo_comm v.y0, mulLo_comm v.z0]
theorem dotHi_comm (v w : V6) : dotHi v w = dotHi w v := by unfold dotHi; rw [mulHi_comm v.x0, mulHi_comm v.y0, mulHi_comm v.z0]
theorem dot_iv {v w : V6} (h1 : v.B 2600000) (h2 : w.B 2600000) : ivB 30000000 (dotLo v w) (dotHi v w) := by
  have m1 := mul_iv (K := 6760000) h1.1 h2.1 (by decide)
  have m2 := mul_iv (K := 6760000) h1.2.1 h2.2.1 (by decide)
  have m3 := mul_iv (K := 6760000) h1.2.2 h2.2.2 (by decide)
  exact (add_iv (add_iv m1 m2) m3).mono (by decide)
/-- the answer of a dot product -/
def IsDot (g : List U → Option (List U)) : Prop := ∀ v w : V6, v.B 2600000 → w.B 2600000 → g (v.u ++ w.u) = some [.int (dotLo v w), .int (dotHi v w)]
theorem one_l06Dot : ∃ g, FnOK Tryz.prog n_spec_l06Dot sg_spec_l06Dot g ∧ IsDot g := by
  obtain ⟨g, h1, h2⟩ := one_of (n := 12) (Pre := fun us => ∃ v w : V6, us = v.u ++ w.u ∧ v.B 2600000 ∧ w.B 2600000) (Post := fun us rs => ∀ v w : V6, us = v.u ++ w.u → rs = [.int (dotLo v w), .int (dotHi v w)]) (mk_spec_l06Dot ok_l02Mul ok_l02Add) (by
    rintro us ⟨v, w, rfl, hv, hw⟩
    have m1 := mul_iv (K := 6760000) hv.1 hw.1 (by decide)
    have m2 := mul_iv (K := 6760000) hv.2.1 hw.2.1 (by decide)
    have m3 := mul_iv (K := 6760000) hv.2.2 hw.2.2 (by decide)
    refine wp_chk rfl (wp_call (mulC hv.1 hw.1 (by decide) (by decide)) rfl (wp_call (mulC hv.2.1 hw.2.1 (by decide) (by decide)) rfl (wp_call (addC m1 m2 (by decide) (by decide)) rfl ?_)))
    refine wp_call (mulC hv.2.2 hw.2.2 (by decide) (by decide)) rfl (wp_call (addC (add_iv m1 m2) m3 (by decide) (by decide)) rfl ?_)
    refine ⟨_, rfl, fun v' w' e => ?_⟩
    have : v = v' ∧ w = w' := by
      cases v; cases w; cases v'; cases w'
      simp only [V6.u, List.cons_append, List.nil_append, List.cons.injEq, U.int.injEq] at e
      simp only [V6.mk.injEq]; omega
    obtain ⟨rfl, rfl⟩ := this
    rfl)
  refine ⟨g, h1, fun v w hv hw => ?_⟩
  obtain ⟨rs, h3, h4⟩ := h2 _ ⟨v, w, rfl, hv, hw⟩
  rw [h3, h4 v w rfl]
theorem one_dot : ∃ g, FnOK Tryz.prog n_impl_Vector_dot sg_impl_Vector_dot g ∧ IsDot g := by
  obtain ⟨g, h1, h2⟩ := one_of (n := 12) (Pre := fun us => ∃ v w : V6, us = v.u ++ w.u ∧ v.B 2600000 ∧ w.B 2600000) (Post := fun us rs => ∀ v w : V6, us = v.u ++ w.u → rs = [.int (dotLo v w), .int (dotHi v w)]) (mk_impl_Vector_dot ok_times ok_plus) (by
    rintro us ⟨v, w, rfl, hv, hw⟩
    have m1 := mul_iv (K := 6760000) hv.1 hw.1 (by decide)
    have m2 := mul_iv (K := 6760000) hv.2.1 hw.2.1 (by decide)
    have m3 := mul_iv (K := 6760000) hv.2.2 hw.2.2 (by decide)
    refine wp_chk rfl (wp_call (mulC hv.1 hw.1 (by decide) (by decide)) rfl (wp_call (mulC hv.2.1 hw.2.1 (by decide) (by decide)) rfl (wp_call (addC m1 m2 (by decide) (by decide)) rfl ?_)))
    refine wp_call (mulC hv.2.2 hw.2.2 (by decide) (by decide)) rfl (wp_call (addC (add_iv m1 m2) m3 (by decide) (by decide)) rfl ?_)
    refine ⟨_, rfl, fun v' w' e => ?_⟩
    have : v = v' ∧ w = w' := by
      cases v; cases w; cases v'; cases w'
      simp only [V6.u, List.cons_append, List.nil_append, List.cons.injEq, U.int.injEq] at e
      simp only [V6.mk.injEq]; omega
    obtain ⟨rfl, rfl⟩ := this
    rfl)
  refine ⟨g, h1, fun v w hv hw => ?_⟩
  obtain ⟨rs, h3, h4⟩ := h2 _ ⟨v, w, rfl, hv, hw⟩
  rw [h3, h4 v w rfl]
end Go.Proofs.YtibbceoibcnpcaaGreat.Eng
