/- What the functions about the sun compute. No condition. -/
import Derived.Test.YtibbceoibcnpcaaGreatLawRD
namespace Go.Proofs.YtibbceoibcnpcaaGreat.Eng
open Go

def ivB (B x y : Int) : Prop := -B ≤ x ∧ x ≤ y ∧ y ≤ B
theorem mul_iv {A C K a b c d : Int} (h1 : ivB A a b) (h2 : ivB C c d) (hK : A * C ≤ K * 1000000) : ivB K (mulLo a b c d) (mulHi a b c d) := mul_bnd h1.1 h1.2.1 h1.2.2 h2.1 h2.2.1 h2.2.2 hK
theorem add_iv {A C a b c d : Int} (h1 : ivB A a b) (h2 : ivB C c d) : ivB (A + C) (a + c) (b + d) := by unfold ivB at *; omega
theorem sub_iv {A C a b c d : Int} (h1 : ivB A a b) (h2 : ivB C c d) : ivB (A + C) (a - d) (b - c) := by unfold ivB at *; omega
theorem ivB.mono {A B a b : Int} (h : ivB A a b) (hAB : A ≤ B) : ivB B a b := by unfold ivB at *; omega
theorem mulC {A C a b c d : Int} (h1 : ivB A a b) (h2 : ivB C c d) (hA : A ≤ 1000000000) (hC : C ≤ 1000000000) : g_mul [.int a, .int b, .int c, .int d] = some [.int (mulLo a b c d), .int (mulHi a b c d)] := by
  unfold ivB at *
  exact mul_call ⟨by omega, by omega⟩ ⟨by omega, by omega⟩ ⟨by omega, by omega⟩ ⟨by omega, by omega⟩
theorem addC {A C a b c d : Int} (h1 : ivB A a b) (h2 : ivB C c d) (hA : A ≤ 1000000000) (hC : C ≤ 1000000000) : g_add [.int a, .int b, .int c, .int d] = some [.int (a + c), .int (b + d)] := by
  unfold ivB at *
  exact add_call ⟨by omega, by omega⟩ ⟨by omega, by omega⟩ ⟨by omega, by omega⟩ ⟨by omega, by omega⟩
theorem subC {A C a b c d : Int} (h1 : ivB A a b) (h2 : ivB C c d) (hA : A ≤ 1000000000) (hC : C ≤ 1000000000) : g_sub [.int a, .int b, .int c, .int d] = some [.int (a - d), .int (b - c)] := by
  unfold ivB at *
  exact sub_call ⟨by omega, by omega⟩ ⟨by omega, by omega⟩ ⟨by omega, by omega⟩ ⟨by omega, by omega⟩
theorem s_iv (a : Int) : ivB 1100001 (sLo a) (sHi a) := s_bnd a

-- longitudes
def nB (n : Int) : Prop := -1000000 ≤ n ∧ n ≤ 1000000
instance (x : Int) : Decidable (nB x) := inferInstanceAs (Decidable (_ ∧ _))
def meanV (n : Int) : Int := (1009656 + n * 354833064 / 100000) % 1296000
def anoV (n : Int) : Int := (1287101 + n * 354816108 / 100000) % 1296000
def lonV (n : Int) : Int := (meanV n + nearV (6894 * sinV (anoV n) + 72 * sinV (2 * anoV n)) 1000000000) % 1296000
def g_mean : List U → Option (List U)
  | [.int n] => if nB n then some [.int (meanV n)] else none
  | _ => none
theorem ok_l08Mean : FnOK Tryz.prog n_spec_l08Mean sg_spec_l08Mean g_mean := mk_spec_l08Mean ok_l01Floor ok_l03Plain fun us rs hl h => by
  unfold g_mean at h
  split at h
  · rename_i n
    split at h
    · rename_i hw
      cases h
      unfold nB at hw
      have e1 : arith .mul .i64 n 354833064 = n * 354833064 := a_mul (by omega) (by omega)
      have e2 : arith .add .i64 1009656 (n * 354833064 / 100000) = 1009656 + n * 354833064 / 100000 := a_add (by omega) (by omega)
      refine wp_chk rfl (wp_callA [.int (n * 354833064), .int 100000] (by rw [← e1]; rfl) (floor_call (by omega) (by omega) (by omega) (by omega)) rfl ?_)
      exact wp_callA [.int (1009656 + n * 354833064 / 100000)] (by rw [← e2]; rfl) (plain_call (by omega) (by omega)) rfl (wp_res rfl)
    · cases h
  · cases h
theorem ok_mean : FnOK Tryz.prog n_impl_meanLongitude sg_impl_meanLongitude g_mean := mk_impl_meanLongitude ok_floor ok_plain fun us rs hl h => by
  unfold g_mean at h
  split at h
  · rename_i n
    split at h
    · rename_i hw
      cases h
      unfold nB at hw
      have e1 : arith .mul .i64 n 354833064 = n * 354833064 := a_mul (by omega) (by omega)
      have e2 : arith .add .i64 1009656 (n * 354833064 / 100000) = 1009656 + n * 354833064 / 100000 := a_add (by omega) (by omega)
      refine wp_chk rfl (wp_callA [.int (n * 354833064), .int 100000] (by rw [← e1]; rfl) (floor_call (by omega) (by omega) (by omega) (by omega)) rfl ?_)
      exact wp_callA [.int (1009656 + n * 354833064 / 100000)] (by rw [← e2]; rfl) (plain_call (by omega) (by omega)) rfl (wp_res rfl)
    · cases h
  · cases h
theorem mean_call {n : Int} (h : nB n) : g_mean [.int n] = some [.int (meanV n)] := by unfold g_mean; dsimp only; rw [if_pos h]
def g_lon : List U → Option (List U)
  | [.int n] => if nB n then some [.int (lonV n)] else none
  | _ => none
theorem lon_call {n : Int} (h : nB n) : g_lon [.int n] = some [.int (lonV n)] := by unfold g_lon; dsimp only; rw [if_pos h]
theorem lon_facts {n : Int} (hw : nB n) : arith .mul .i64 n 354816108 = n * 354816108 ∧ arith .add .i64 1287101 (n * 354816108 / 100000) = 1287101 + n * 354816108 / 100000 ∧ arith .mul .i64 2 (anoV n) = 2 * anoV n ∧
    arith .add .i64 (arith .mul .i64 6894 (sinV (anoV n))) (arith .mul .i64 72 (sinV (2 * anoV n))) = 6894 * sinV (anoV n) + 72 * sinV (2 * anoV n) ∧
    arith .add .i64 (meanV n) (nearV (6894 * sinV (anoV n) + 72 * sinV (2 * anoV n)) 1000000000) = meanV n + nearV (6894 * sinV (anoV n) + 72 * sinV (2 * anoV n)) 1000000000 ∧
    g_floor [.int (n * 354816108), .int 100000] = some [.int (n * 354816108 / 100000)] ∧ g_plain [.int (1287101 + n * 354816108 / 100000)] = some [.int (anoV n)] ∧ g_sin [.int (anoV n)] = some [.int (sinV (anoV n))] ∧ g_sin [.int (2 * anoV n)] = some [.int (sinV (2 * anoV n))] ∧
    g_near [.int (6894 * sinV (anoV n) + 72 * sinV (2 * anoV n)), .int 1000000000] = some [.int (nearV (6894 * sinV (anoV n) + 72 * sinV (2 * anoV n)) 1000000000)] ∧
    g_plain [.int (meanV n + nearV (6894 * sinV (anoV n) + 72 * sinV (2 * anoV n)) 1000000000)] = some [.int (lonV n)] := by
  unfold nB at hw
  have ha : 0 ≤ anoV n ∧ anoV n < 1296000 := by unfold anoV; omega
  have hm : 0 ≤ meanV n ∧ meanV n < 1296000 := by unfold meanV; omega
  have s1 := sinV_bnd (anoV n)
  have s2 := sinV_bnd (2 * anoV n)
  have hn := nearV_bound (a := 6894 * sinV (anoV n) + 72 * sinV (2 * anoV n)) (b := 1000000000) (M := 8000000000000) (by omega) (by omega) (by omega) (by omega)
  refine ⟨a_mul (by omega) (by omega), a_add (by omega) (by omega), a_mul (by omega) (by omega), ?_, a_add (by omega) (by omega), floor_call (by omega) (by omega) (by omega) (by omega), plain_call (by omega) (by omega), sin_call (by omega) (by omega), sin_call (by omega) (by omega), near_call (by omega) (by omega) (by omega) (by omega), plain_call (by omega) (by omega)⟩
  rw [a_mul (a := 6894) (by omega) (by omega), a_mul (a := 72) (by omega) (by omega), a_add (by omega) (by omega)]
theorem ok_l08Longitude : FnOK Tryz.prog n_spec_l08Longitude sg_spec_l08Longitude g_lon := mk_spec_l08Longitude ok_l01Floor ok_l03Plain ok_l08Mean ok_l04Sine ok_l01Nearest fun us rs hl h => by
  unfold g_lon at h
  split at h
  · rename_i n
    split at h
    · rename_i hw
      cases h
      obtain ⟨e1, e2, e3, e4, e5, f1, f2, f3, f4, f5, f6⟩ := lon_facts hw
      refine wp_chk rfl (wp_callA [.int (n * 354816108), .int 100000] (by rw [← e1]; rfl) f1 rfl (wp_callA [.int (1287101 + n * 354816108 / 100000)] (by rw [← e2]; rfl) f2 rfl (wp_call (mean_call hw) rfl (wp_call f3 rfl (wp_callA [.int (2 * anoV n)] (by rw [← e3]; rfl) f4 rfl ?_)))))
      exact wp_callA [.int (6894 * sinV (anoV n) + 72 * sinV (2 * anoV n)), .int 1000000000] (by rw [← e4]; rfl) f5 rfl (wp_callA [.int (meanV n + nearV (6894 * sinV (anoV n) + 72 * sinV (2 * anoV n)) 1000000000)] (by rw [← e5]; rfl) f6 rfl (wp_res rfl))
    · cases h
  · cases h
theorem ok_sunLongitude : FnOK Tryz.prog n_impl_sunLongitude sg_impl_sunLongitude g_lon := mk_impl_sunLongitude ok_floor ok_plain ok_mean ok_nanoSine ok_nearest fun us rs hl h => by
  unfold g_lon at h
  split at h
  · rename_i n
    split at h
    · rename_i hw
      cases h
      obtain ⟨e1, e2, e3, e4, e5, f1, f2, f3, f4, f5, f6⟩ := lon_facts hw
      refine wp_chk rfl (wp_callA [.int (n * 354816108), .int 100000] (by rw [← e1]; rfl) f1 rfl (wp_callA [.int (1287101 + n * 354816108 / 100000)] (by rw [← e2]; rfl) f2 rfl (wp_call (mean_call hw) rfl (wp_call f3 rfl (wp_callA [.int (2 * anoV n)] (by rw [← e3]; rfl) f4 rfl ?_)))))
      exact wp_callA [.int (6894 * sinV (anoV n) + 72 * sinV (2 * anoV n)), .int 1000000000] (by rw [← e4]; rfl) f5 rfl (wp_callA [.int (meanV n + nearV (6894 * sinV (anoV n) + 72 * sinV (2 * anoV n)) 1000000000)] (by rw [← e5]; rfl) f6 rfl (wp_res rfl))
    · cases h
  · cases h

-- the declination
def arcX (a b : Int) : Int := ((arcR a b).getD 0 default).I
def arcY (a b : Int) : Int := ((arcR a b).getD 1 default).I
def arcC (a b : Int) : Int := ((arcR a b).getD 2 default).I
theorem arcR_three (a b : Int) : arcR a b = [.int (arcX a b), .int (arcY a b), .int (arcC a b)] ∧ (-324000 ≤ arcX a b ∧ arcX a b ≤ 324000) ∧ (-324000 ≤ arcY a b ∧ arcY a b ≤ 324000) := by
  unfold arcX arcY arcC arcR
  split
  · split
    · exact ⟨rfl, by decide, by decide⟩
    · exact ⟨rfl, keepV_bnd _, keepV_bnd _⟩
  · exact ⟨rfl, by decide, by decide⟩
def dmLo (n : Int) : Int := mulLo (sLo 84380) (sHi 84380) (sLo (lonV n)) (sHi (lonV n))
def dmHi (n : Int) : Int := mulHi (sLo 84380) (sHi 84380) (sLo (lonV n)) (sHi (lonV n))
def dLo (n : Int) : Int := arcX (dmLo n) (dmHi n) - 60
def dHi (n : Int) : Int := arcY (dmLo n) (dmHi n) + 60
theorem d_bnd (n : Int) : (-324060 ≤ dLo n ∧ dLo n ≤ 324060) ∧ (-324060 ≤ dHi n ∧ dHi n ≤ 324060) := by
  obtain ⟨_, h1, h2⟩ := arcR_three (dmLo n) (dmHi n)
  unfold dLo dHi; omega
def g_decl : List U → Option (List U)
  | [.int n] => if nB n then some [.int (dLo n), .int (dHi n)] else none
  | _ => none
theorem decl_call {n : Int} (h : nB n) : g_decl [.int n] = some [.int (dLo n), .int (dHi n)] := by unfold g_decl; dsimp only; rw [if_pos h]
theorem decl_facts {n : Int} (hw : nB n) : g_sine [.int 84380] = some [.int (sLo 84380), .int (sHi 84380)] ∧ g_sine [.int (lonV n)] = some [.int (sLo (lonV n)), .int (sHi (lonV n))] ∧
    g_mul [.int (sLo 84380), .int (sHi 84380), .int (sLo (lonV n)), .int (sHi (lonV n))] = some [.int (dmLo n), .int (dmHi n)] ∧ g_arcR [.int (dmLo n), .int (dmHi n)] = some [.int (arcX (dmLo n) (dmHi n)), .int (arcY (dmLo n) (dmHi n)), .int (arcC (dmLo n) (dmHi n))] ∧
    arith .sub .i64 (arcX (dmLo n) (dmHi n)) 60 = dLo n ∧ arith .add .i64 (arcY (dmLo n) (dmHi n)) 60 = dHi n := by
  obtain ⟨h0, h1, h2⟩ := arcR_three (dmLo n) (dmHi n)
  have hlon : 0 ≤ lonV n ∧ lonV n < 1296000 := by unfold lonV; omega
  refine ⟨sine_call (by decide) (by decide), sine_call (by omega) (by omega), mulC (s_iv _) (s_iv _) (by decide) (by decide), by rw [← h0]; rfl, a_sub (by omega) (by omega), a_add (by omega) (by omega)⟩
theorem ok_l08Declination : FnOK Tryz.prog n_spec_l08Declination sg_spec_l08Declination g_decl := mk_spec_l08Declination ok_l04Sin ok_l08Longitude ok_l02Mul ok_sArcSineRange fun us rs hl h => by
  unfold g_decl at h
  split at h
  · rename_i n
    split at h
    · rename_i hw
      cases h
      obtain ⟨f1, f2, f3, f4, e1, e2⟩ := decl_facts hw
      exact wp_chk rfl (wp_call f1 rfl (wp_call (lon_call hw) rfl (wp_call f2 rfl (wp_call f3 rfl (wp_call f4 rfl (wp_res (by rw [← e1, ← e2]; rfl)))))))
    · cases h
  · cases h
theorem ok_declination : FnOK Tryz.prog n_impl_declination sg_impl_declination g_decl := mk_impl_declination ok_sine ok_sunLongitude ok_times ok_iArcSineRange fun us rs hl h => by
  unfold g_decl at h
  split at h
  · rename_i n
    split at h
    · rename_i hw
      cases h
      obtain ⟨f1, f2, f3, f4, e1, e2⟩ := decl_facts hw
      exact wp_chk rfl (wp_call f1 rfl (wp_call (lon_call hw) rfl (wp_call f2 rfl (wp_call f3 rfl (wp_call f4 rfl (wp_res (by rw [← e1, ← e2]; rfl)))))))
    · cases h
  · cases h

-- the sines of an interval of angles
def rng1 (a b : Int) : Int × Int := if (324000 - a) % 1296000 ≤ b - a then (mnI (mnI (sLo a) (sLo b)) 1000000, mxI (mxI (sHi a) (sHi b)) 1000000) else (mnI (sLo a) (sLo b), mxI (sHi a) (sHi b))
def rng (a b : Int) : Int × Int := if (-324000 - a) % 1296000 ≤ b - a then (mnI (rng1 a b).1 (-1000000), mxI (rng1 a b).2 (-1000000)) else rng1 a b
theorem mnmx {B a b c d : Int} (h1 : ivB B a b) (h2 : ivB B c d) : ivB B (mnI a c) (mxI b d) := by
  unfold ivB mnI mxI at *; split <;> split <;> omega
theorem rng_iv (a b : Int) : ivB 1100001 (rng a b).1 (rng a b).2 := by
  have h0 := mnmx (s_iv a) (s_iv b)
  have h1 : ivB 1100001 (rng1 a b).1 (rng1 a b).2 := by
    unfold rng1; split
    · exact mnmx h0 (show ivB 1100001 1000000 1000000 by unfold ivB; omega)
    · exact h0
  unfold rng; split
  · exact mnmx h1 (show ivB 1100001 (-1000000) (-1000000) by unfold ivB; omega)
  · exact h1
def g_rng : List U → Option (List U)
  | [.int a, .int b] => if angB a ∧ angB b then some [.int (rng a b).1, .int (rng a b).2] else none
  | _ => none
theorem rng_call {a b : Int} (h1 : angB a) (h2 : angB b) : g_rng [.int a, .int b] = some [.int (rng a b).1, .int (rng a b).2] := by unfold g_rng; dsimp only; rw [if_pos ⟨h1, h2⟩]
theorem ok_l04Range : FnOK Tryz.prog n_spec_l04Range sg_spec_l04Range g_rng := mk_spec_l04Range ok_l04Sin ok_l02Hull ok_l03Plain fun us rs hl h => by
  unfold g_rng at h
  split at h
  · rename_i a b
    split at h
    · rename_i hw
      cases h
      obtain ⟨h1, h2⟩ := hw
      have k1 := h1; have k2 := h2
      unfold angB at h1 h2
      have e1 : arith .sub .i64 324000 a = 324000 - a := a_sub (by omega) (by omega)
      have e2 : arith .sub .i64 (-324000) a = -324000 - a := a_sub (by omega) (by omega)
      have e3 : arith .sub .i64 b a = b - a := a_sub (by omega) (by omega)
      refine wp_chk rfl (wp_call (sin_callA k1) rfl (wp_call (sin_callA k2) rfl (wp_call (rs := [.int (mnI (sLo a) (sLo b)), .int (mxI (sHi a) (sHi b))]) rfl rfl (wp_join ?_))))
      refine wp_callA [.int (324000 - a)] (by rw [← e1]; rfl) (plain_call (by omega) (by omega)) rfl ?_
      have fin : ∀ c : Bool, wpP (fun k us => if 207 = k then g_sine us else if 240 = k then g_hull us else if 175 = k then g_plain us else none) (.join
          (.call 175 [(.ar .sub .i64 (.int (-324000)) (.var 0))] 1
          (.chk 12
          (.cond (.cmp .leq (.var 11) (.ar .sub .i64 (.var 1) (.var 0)))
           (.call 240 [(.var 9), (.var 10), (.int (-1000000)), (.int (-1000000))] 2
           (.leaf (.vals 0 [(.cmp .leq (.var 11) (.ar .sub .i64 (.var 1) (.var 0))), (.var 12), (.var 13)])))
           (.leaf (.vals 0 [(.cmp .leq (.var 11) (.ar .sub .i64 (.var 1) (.var 0))), (.var 9), (.var 10)])))))
          (.alt
           (.chk 14
           (.leaf (.res [(.var 12), (.var 13)])))
           .stop)) 0 [.int a, .int b, .int (sLo a), .int (sHi a), .int (sLo b), .int (sHi b), .int (mnI (sLo a) (sLo b)), .int (mxI (sHi a) (sHi b)), .bool c, .int (rng1 a b).1, .int (rng1 a b).2] (fun l η => ∃ es, l = .res es ∧ es.map (E.den η) = [.int (rng a b).1, .int (rng a b).2]) := fun c => by
        refine wp_join (wp_callA [.int (-324000 - a)] (by rw [← e2]; rfl) (plain_call (by omega) (by omega)) rfl (wp_chk rfl ?_))
        unfold rng
        by_cases hc : (-324000 - a) % 1296000 ≤ b - a
        · rw [if_pos hc]
          refine wp_condT (by show cmpB .leq ((-324000 - a) % 1296000) (arith .sub .i64 b a) = true; rw [e3, cmpB_leq]; simpa using hc) ?_
          exact wp_call (rs := [.int (mnI (rng1 a b).1 (-1000000)), .int (mxI (rng1 a b).2 (-1000000))]) rfl rfl (wp_vals _ rfl (wp_alt0 (wp_chk rfl (wp_res rfl))))
        · rw [if_neg hc]
          exact wp_condF (by show cmpB .leq ((-324000 - a) % 1296000) (arith .sub .i64 b a) = false; rw [e3, cmpB_leq]; simpa using hc) (wp_vals _ rfl (wp_alt0 (wp_chk rfl (wp_res rfl))))
      by_cases hc : (324000 - a) % 1296000 ≤ b - a
      · refine wp_condT (by show cmpB .leq ((324000 - a) % 1296000) (arith .sub .i64 b a) = true; rw [e3, cmpB_leq]; simpa using hc) ?_
        refine wp_call (rs := [.int (rng1 a b).1, .int (rng1 a b).2]) (by unfold rng1; rw [if_pos hc]; rfl) rfl (wp_vals _ rfl (wp_alt0 (fin _)))
      · refine wp_condF (by show cmpB .leq ((324000 - a) % 1296000) (arith .sub .i64 b a) = false; rw [e3, cmpB_leq]; simpa using hc) ?_
        have hr : rng1 a b = (mnI (sLo a) (sLo b), mxI (sHi a) (sHi b)) := by unfold rng1; rw [if_neg hc]
        have := fin (cmpB .leq ((324000 - a) % 1296000) (arith .sub .i64 b a))
        rw [hr] at this
        exact wp_vals _ rfl (wp_alt0 this)
    · cases h
  · cases h
/-- the closure of the program's own -/
def g_from : List U → Option (List U)
  | [.int x, .int a, .int _] => if angB x ∧ angB a then some [.int (a + (x - a) % 1296000)] else none
  | _ => none
theorem ok_from : FnOK Tryz.prog n_impl_sineRange_1 sg_impl_sineRange_1 g_from := mk_impl_sineRange_1 ok_plain fun us rs hl h => by
  unfold g_from at h
  split at h
  · rename_i x a b
    split at h
    · rename_i hw
      cases h
      unfold angB at hw
      have e1 : arith .sub .i64 x a = x - a := a_sub (by omega) (by omega)
      have e2 : arith .add .i64 a ((x - a) % 1296000) = a + (x - a) % 1296000 := a_add (by omega) (by omega)
      exact wp_chk rfl (wp_callA [.int (x - a)] (by rw [← e1]; rfl) (plain_call (by omega) (by omega)) rfl (wp_res (by rw [← e2]; rfl)))
    · cases h
  · cases h
theorem from_call {x a b : Int} (h1 : angB x) (h2 : angB a) : g_from [.int x, .int a, .int b] = some [.int (a + (x - a) % 1296000)] := by unfold g_from; dsimp only; rw [if_pos ⟨h1, h2⟩]
theorem ok_sineRange : FnOK Tryz.prog n_impl_sineRange sg_impl_sineRange g_rng := mk_impl_sineRange ok_sine ok_hull ok_from fun us rs hl h => by
  unfold g_rng at h
  split at h
  · rename_i a b
    split at h
    · rename_i hw
      cases h
      obtain ⟨k1, k2⟩ := hw
      refine wp_chk rfl (wp_call (sin_callA k1) rfl (wp_call (sin_callA k2) rfl (wp_call (rs := [.int (mnI (sLo a) (sLo b)), .int (mxI (sHi a) (sHi b))]) rfl rfl (wp_join ?_))))
      refine wp_call (from_call (x := 324000) (b := b) (by decide) k1) rfl ?_
      have fin : ∀ c : Bool, wpP (fun k us => if 185 = k then g_sine us else if 221 = k then g_hull us else if 222 = k then g_from us else none) (.join
          (.call 222 [(.int (-324000)), (.var 0), (.var 1)] 1
          (.chk 12
          (.cond (.cmp .leq (.var 11) (.var 1))
           (.call 221 [(.var 9), (.var 10), (.int (-1000000)), (.int (-1000000))] 2
           (.leaf (.vals 0 [(.cmp .leq (.var 11) (.var 1)), (.var 12), (.var 13)])))
           (.leaf (.vals 0 [(.cmp .leq (.var 11) (.var 1)), (.var 9), (.var 10)])))))
          (.alt
           (.chk 14
           (.leaf (.res [(.var 12), (.var 13)])))
           .stop)) 0 [.int a, .int b, .int (sLo a), .int (sHi a), .int (sLo b), .int (sHi b), .int (mnI (sLo a) (sLo b)), .int (mxI (sHi a) (sHi b)), .bool c, .int (rng1 a b).1, .int (rng1 a b).2] (fun l η => ∃ es, l = .res es ∧ es.map (E.den η) = [.int (rng a b).1, .int (rng a b).2]) := fun c => by
        refine wp_join (wp_call (from_call (x := -324000) (b := b) (by decide) k1) rfl (wp_chk rfl ?_))
        unfold rng
        by_cases hc : (-324000 - a) % 1296000 ≤ b - a
        · rw [if_pos hc]
          refine wp_condT (by show cmpB .leq (a + (-324000 - a) % 1296000) b = true; rw [cmpB_leq]; simp; omega) ?_
          exact wp_call (rs := [.int (mnI (rng1 a b).1 (-1000000)), .int (mxI (rng1 a b).2 (-1000000))]) rfl rfl (wp_vals _ rfl (wp_alt0 (wp_chk rfl (wp_res rfl))))
        · rw [if_neg hc]
          exact wp_condF (by show cmpB .leq (a + (-324000 - a) % 1296000) b = false; rw [cmpB_leq]; simp; omega) (wp_vals _ rfl (wp_alt0 (wp_chk rfl (wp_res rfl))))
      by_cases hc : (324000 - a) % 1296000 ≤ b - a
      · refine wp_condT (by show cmpB .leq (a + (324000 - a) % 1296000) b = true; rw [cmpB_leq]; simp; omega) ?_
        refine wp_call (rs := [.int (rng1 a b).1, .int (rng1 a b).2]) (by unfold rng1; rw [if_pos hc]; rfl) rfl (wp_vals _ rfl (wp_alt0 (fin _)))
      · refine wp_condF (by show cmpB .leq (a + (324000 - a) % 1296000) b = false; rw [cmpB_leq]; simp; omega) ?_
        have hr : rng1 a b = (mnI (sLo a) (sLo b), mxI (sHi a) (sHi b)) := by unfold rng1; rw [if_neg hc]
        have := fin (cmpB .leq (a + (324000 - a) % 1296000) b)
        rw [hr] at this
        exact wp_vals _ rfl (wp_alt0 this)
    · cases h
  · cases h
end Go.Proofs.YtibbceoibcnpcaaGreat.Eng
