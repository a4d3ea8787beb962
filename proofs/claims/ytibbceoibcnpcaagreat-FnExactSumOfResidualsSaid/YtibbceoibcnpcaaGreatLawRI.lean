/- Which dials, days, minutes, observations are ones, and what is said of lists of them. No condition. -/
import Derived.Test.YtibbceoibcnpcaaGreatLawRH
namespace Go.Proofs.YtibbceoibcnpcaaGreat.Eng
open Go

/-- one program for inputs that are written by enc -/
theorem one_enc {P : Program} {f1 n : Nat} {s1 : Sig} {G1 : FEnv} {p1 : Prog} {X : Type} (enc out : X → List U) (Pre : X → Prop) (inj : ∀ x y, enc x = enc y → out x = out y)
    (mk1 : ∀ {g}, (∀ us rs, us.length = n → g us = some rs → Ans G1 p1 us rs) → FnOK P f1 s1 g)
    (h1 : ∀ x, Pre x → Ans G1 p1 (enc x) (out x)) : ∃ g, FnOK P f1 s1 g ∧ ∀ x, Pre x → g (enc x) = some (out x) := by
  classical
  refine ⟨fun us => if h : ∃ x, Pre x ∧ enc x = us then some (out h.choose) else none, mk1 fun us rs _ h => ?_, fun x hx => ?_⟩
  · split at h
    · rename_i hx
      cases h
      have := h1 _ hx.choose_spec.1
      rwa [hx.choose_spec.2] at this
    · cases h
  · have hx : ∃ y, Pre y ∧ enc y = enc x := ⟨x, hx, rfl⟩
    show (if h : ∃ y, Pre y ∧ enc y = enc x then some (out h.choose) else none) = some (out x)
    rw [dif_pos hx, inj _ _ hx.choose_spec.2]

-- flags
def latB (a : Int) : Bool := bndI a (-324000) 324000
def g_lat : List U → Option (List U)
  | [.int a] => some [.bool (latB a)]
  | _ => none
theorem ok_l09Latitude : FnOK Tryz.prog n_spec_l09Latitude sg_spec_l09Latitude g_lat := mk_spec_l09Latitude ok_l01In fun us rs hl h => by
  unfold g_lat at h
  split at h
  · cases h; exact wp_chk rfl (wp_call (rs := [.bool _]) rfl rfl (wp_res rfl))
  · cases h
theorem ok_isLatitude : FnOK Tryz.prog n_impl_isLatitude sg_impl_isLatitude g_lat := mk_impl_isLatitude ok_in fun us rs hl h => by
  unfold g_lat at h
  split at h
  · cases h; exact wp_chk rfl (wp_call (rs := [.bool _]) rfl rfl (wp_res rfl))
  · cases h
def wallB (a b : Int) : Bool := bndI a 0 1295999 && latB b
def g_iswall : List U → Option (List U)
  | [.int a, .int b] => some [.bool (wallB a b)]
  | _ => none
theorem ok_sIsWall : FnOK Tryz.prog n_spec_IsWall sg_spec_IsWall g_iswall := mk_spec_IsWall ok_l01In ok_l09Latitude fun us rs hl h => by
  unfold g_iswall at h
  split at h
  · rename_i a b
    cases h
    unfold wallB
    refine wp_chk rfl (wp_join (wp_call (rs := [.bool (bndI a 0 1295999)]) rfl rfl ?_))
    cases h1 : bndI a 0 1295999
    · exact wp_condF rfl (wp_vals [.bool false] rfl (wp_alt0 (wp_chk rfl (wp_res rfl))))
    · exact wp_condT rfl (wp_call (rs := [.bool (latB b)]) rfl rfl (wp_vals _ rfl (wp_alt0 (wp_chk rfl (wp_res (by rw [Bool.true_and]; rfl))))))
  · cases h
theorem ok_iIsWall : FnOK Tryz.prog n_impl_IsWall sg_impl_IsWall g_iswall := mk_impl_IsWall ok_in fun us rs hl h => by
  unfold g_iswall at h
  split at h
  · rename_i a b
    cases h
    unfold wallB
    refine wp_chk rfl (wp_join (wp_call (rs := [.bool (bndI a 0 1295999)]) rfl rfl ?_))
    cases h1 : bndI a 0 1295999
    · exact wp_condF rfl (wp_vals [.bool false] rfl (wp_alt0 (wp_chk rfl (wp_res rfl))))
    · exact wp_condT rfl (wp_call (rs := [.bool (latB b)]) rfl rfl (wp_vals _ rfl (wp_alt0 (wp_chk rfl (wp_res (by rw [Bool.true_and]; rfl))))))
  · cases h
def heiB (a : Int) : Bool := bndI a 1 10000
def g_hei : List U → Option (List U)
  | [.int a] => some [.bool (heiB a)]
  | _ => none
theorem ok_l14Height : FnOK Tryz.prog n_spec_l14Height sg_spec_l14Height g_hei := mk_spec_l14Height ok_l01In fun us rs hl h => by
  unfold g_hei at h
  split at h
  · cases h; exact wp_chk rfl (wp_call (rs := [.bool _]) rfl rfl (wp_res rfl))
  · cases h
theorem ok_isHeight : FnOK Tryz.prog n_impl_isHeight sg_impl_isHeight g_hei := mk_impl_isHeight ok_in fun us rs hl h => by
  unfold g_hei at h
  split at h
  · cases h; exact wp_chk rfl (wp_call (rs := [.bool _]) rfl rfl (wp_res rfl))
  · cases h
def dialB (l a b h : Int) : Bool := latB l && (wallB a b && heiB h)
def g_isdial : List U → Option (List U)
  | [.int l, .int a, .int b, .int h] => some [.bool (dialB l a b h)]
  | _ => none
theorem ok_sIsDial : FnOK Tryz.prog n_spec_IsDial sg_spec_IsDial g_isdial := mk_spec_IsDial ok_l09Latitude ok_sIsWall ok_l14Height fun us rs hl h => by
  unfold g_isdial at h
  split at h
  · rename_i l a b k
    cases h
    unfold dialB
    refine wp_chk rfl (wp_join (wp_call (rs := [.bool (latB l)]) rfl rfl ?_))
    cases h1 : latB l
    · exact wp_condF rfl (wp_vals [.bool false] rfl (wp_alt0 (wp_chk rfl (wp_res rfl))))
    · refine wp_condT rfl (wp_call (rs := [.bool (wallB a b)]) rfl rfl ?_)
      cases h2 : wallB a b
      · exact wp_condF rfl (wp_vals [.bool false] rfl (wp_alt0 (wp_chk rfl (wp_res rfl))))
      · exact wp_condT rfl (wp_call (rs := [.bool (heiB k)]) rfl rfl (wp_vals _ rfl (wp_alt0 (wp_chk rfl (wp_res (by simp only [Bool.true_and]; rfl))))))
  · cases h
theorem ok_iIsDial : FnOK Tryz.prog n_impl_IsDial sg_impl_IsDial g_isdial := mk_impl_IsDial ok_isLatitude ok_iIsWall ok_isHeight fun us rs hl h => by
  unfold g_isdial at h
  split at h
  · rename_i l a b k
    cases h
    unfold dialB
    refine wp_chk rfl (wp_join (wp_call (rs := [.bool (latB l)]) rfl rfl ?_))
    cases h1 : latB l
    · exact wp_condF rfl (wp_vals [.bool false] rfl (wp_alt0 (wp_chk rfl (wp_res rfl))))
    · refine wp_condT rfl (wp_call (rs := [.bool (wallB a b)]) rfl rfl ?_)
      cases h2 : wallB a b
      · exact wp_condF rfl (wp_vals [.bool false] rfl (wp_alt0 (wp_chk rfl (wp_res rfl))))
      · exact wp_condT rfl (wp_call (rs := [.bool (heiB k)]) rfl rfl (wp_vals _ rfl (wp_alt0 (wp_chk rfl (wp_res (by simp only [Bool.true_and]; rfl))))))
  · cases h
theorem dial_facts {l a b h : Int} (hd : dialB l a b h = true) : (-324000 ≤ l ∧ l ≤ 324000) ∧ (0 ≤ a ∧ a ≤ 1295999) ∧ (-324000 ≤ b ∧ b ≤ 324000) ∧ hB h := by
  simp only [dialB, latB, wallB, heiB, Bool.and_eq_true, bndI_iff] at hd
  unfold hB; omega

-- days
def yrV (y : Int) : Int := 365 * (y - 2000) + ceilV (y - 2000) 4
def g_year : List U → Option (List U)
  | [.int y] => if 0 ≤ y ∧ y ≤ 10000 then some [.int (yrV y)] else none
  | _ => none
theorem ok_l07Year : FnOK Tryz.prog n_spec_l07Year sg_spec_l07Year g_year := mk_spec_l07Year ok_l01Ceil fun us rs hl h => by
  unfold g_year at h
  split at h
  · rename_i y
    split at h
    · rename_i hy
      cases h
      have e1 : arith .sub .i64 y 2000 = y - 2000 := a_sub (by omega) (by omega)
      refine wp_chk rfl (wp_callA [.int (y - 2000), .int 4] (by rw [← e1]; rfl) (ceil_call (by omega) (by omega) (by omega) (by omega)) rfl (wp_res ?_))
      have e2 : arith .mul .i64 365 (y - 2000) = 365 * (y - 2000) := a_mul (by omega) (by omega)
      have e3 : arith .add .i64 (365 * (y - 2000)) (ceilV (y - 2000) 4) = yrV y := by
        have : -9000 ≤ ceilV (y - 2000) 4 ∧ ceilV (y - 2000) 4 ≤ 9000 := by unfold ceilV; omega
        exact a_add (by omega) (by omega)
      show [U.int (arith .add .i64 (arith .mul .i64 365 (arith .sub .i64 y 2000)) (ceilV (y - 2000) 4))] = _
      rw [e1, e2, e3]
    · cases h
  · cases h
def dayB (n : Int) : Bool := bndI n (-36159) 36524
def g_day : List U → Option (List U)
  | [.int a] => some [.bool (dayB a)]
  | _ => none
theorem ok_l07Has : FnOK Tryz.prog n_spec_l07Has sg_spec_l07Has g_day := mk_spec_l07Has ok_l07Year ok_l01In fun us rs hl h => by
  unfold g_day at h
  split at h
  · rename_i n
    cases h
    exact wp_chk rfl (wp_call (rs := [.int (-36159)]) rfl rfl (wp_call (rs := [.int 36525]) rfl rfl (wp_call (rs := [.bool (dayB n)]) rfl rfl (wp_res rfl))))
  · cases h
def dimV (y m : Int) : Int := if m = 4 ∨ m = 6 ∨ m = 9 ∨ m = 11 then 30 else if m = 2 then (if y.tmod 4 = 0 then 29 else 28) else 31
def g_dim : List U → Option (List U)
  | [.int y, .int m] => some [.int (dimV y m)]
  | _ => none
theorem ok_daysInMonth : FnOK Tryz.prog n_impl_daysInMonth sg_impl_daysInMonth g_dim := mk_impl_daysInMonth fun us rs hl h => by
  unfold g_dim at h
  split at h
  · rename_i y m
    cases h
    simp only [pr_impl_daysInMonth, wpP, dimV, E.den, ar_rem]
    by_cases h1 : m = 4
    · simp [h1, E.den, cmpB_eql]
    by_cases h2 : m = 6
    · simp [h2, E.den, cmpB_eql]
    by_cases h3 : m = 9
    · simp [h3, E.den, cmpB_eql]
    by_cases h4 : m = 11
    · simp [h4, E.den, cmpB_eql]
    by_cases h5 : m = 2
    · by_cases h6 : y.tmod 4 = 0
      · simp [h5, h6, E.den, cmpB_eql]
      · simp [h5, h6, E.den, cmpB_eql]
    · simp [h1, h2, h3, h4, h5, E.den, cmpB_eql]
  · cases h
def dimS (y : Int) : Nat → Int
  | 0 => 0
  | k + 1 => dimS y k + dimV y ((k : Int) + 1)
theorem dimV_b (y m : Int) : 28 ≤ dimV y m ∧ dimV y m ≤ 31 := by unfold dimV; (repeat' split) <;> omega
theorem dimS_b (y : Int) : ∀ k, 0 ≤ dimS y k ∧ dimS y k ≤ 31 * (k : Int)
  | 0 => by unfold dimS; omega
  | k + 1 => by have := dimS_b y k; have := dimV_b y ((k : Int) + 1); unfold dimS; push_cast; omega
/-- the number of a day -/
def dnV (y m d : Int) : Int := -36159 + 365 * (y - 1901) + (y - 1901) / 4 + d - 1 + dimS y (m - 1).toNat
def g_dn : List U → Option (List U)
  | [.int y, .int m, .int d] => if (1901 ≤ y ∧ y ≤ 3000) ∧ (1 ≤ m ∧ m ≤ 12) ∧ (0 ≤ d ∧ d ≤ 100) then some [.int (dnV y m d)] else none
  | _ => none
theorem ok_dayNumber : FnOK Tryz.prog n_impl_dayNumber sg_impl_dayNumber g_dn := mk_impl_dayNumber ok_daysInMonth fun us rs hl h => by
  unfold g_dn at h
  split at h
  · rename_i y m d
    split at h
    · rename_i hw
      cases h
      obtain ⟨⟨y1, y2⟩, ⟨m1, m2⟩, d1, d2⟩ := hw
      have e0 : arith .sub .i64 y 1901 = y - 1901 := a_sub (by omega) (by omega)
      have e1 : arith .mul .i64 365 (y - 1901) = 365 * (y - 1901) := a_mul (by omega) (by omega)
      have e2 : arith .quo .i64 (y - 1901) 4 = (y - 1901) / 4 := a_quo (by omega) (by omega) (by omega)
      have e3 : arith .add .i64 (-36159) (365 * (y - 1901)) = -36159 + 365 * (y - 1901) := a_add (by omega) (by omega)
      have e4 : arith .add .i64 (-36159 + 365 * (y - 1901)) ((y - 1901) / 4) = -36159 + 365 * (y - 1901) + (y - 1901) / 4 := a_add (by omega) (by omega)
      have e5 : arith .add .i64 (-36159 + 365 * (y - 1901) + (y - 1901) / 4) d = -36159 + 365 * (y - 1901) + (y - 1901) / 4 + d := a_add (by omega) (by omega)
      have e6 : arith .sub .i64 (-36159 + 365 * (y - 1901) + (y - 1901) / 4 + d) 1 = -36159 + 365 * (y - 1901) + (y - 1901) / 4 + d - 1 := a_sub (by omega) (by omega)
      refine wp_chk rfl ?_
      obtain ⟨B, hB⟩ : ∃ B, B = -36159 + 365 * (y - 1901) + (y - 1901) / 4 + d - 1 := ⟨_, rfl⟩
      have hBb : -40000 ≤ B ∧ B ≤ 1000000 := by omega
      rw [← hB] at e6
      obtain ⟨M, hM⟩ : ∃ M : Nat, m = (M : Int) + 1 := ⟨(m - 1).toNat, by omega⟩
      have hdn : dnV y m d = B + dimS y M := by unfold dnV; rw [← hB, hM]; congr 2; omega
      rw [hdn]
      have hz : [U.int (B + dimS y 0), U.int (((0 : Nat) : Int) + 1)] = [.int B, .int 1] := by
        have : B + dimS y 0 = B := by unfold dimS; omega
        rw [this]; rfl
      suffices hs : ∃ k, iterP _ k [U.int (B + dimS y 0), U.int (((0 : Nat) : Int) + 1)] by
        obtain ⟨k, hk⟩ := hs
        rw [hz] at hk
        refine ⟨k, iterP_arg [.int B, .int 1] ?_ hk⟩
        show [U.int (arith .sub .i64 (arith .add .i64 (arith .add .i64 (arith .add .i64 (-36159) (arith .mul .i64 365 (arith .sub .i64 y 1901))) (arith .quo .i64 (arith .sub .i64 y 1901) 4)) d) 1), U.int 1] = _
        rw [e0, e1, e2, e3, e4, e5, e6]
      refine iterP_upto M (fun i => [.int (B + dimS y i), .int ((i : Int) + 1)]) (fun _ => True) trivial fun i hi _ R hR => ?_
      refine wp_chk rfl ?_
      have hb := dimS_b y i
      have hv := dimV_b y ((i : Int) + 1)
      by_cases hc : i < M
      · refine wp_condT (by show cmpB .lss ((i : Int) + 1) m = true; rw [cmpB_lss, hM]; simp; omega) (wp_call (rs := [.int (dimV y ((i : Int) + 1))]) rfl rfl (wp_next _ ?_ (hR hc trivial)))
        have e7 : arith .add .i64 (B + dimS y i) (dimV y ((i : Int) + 1)) = B + dimS y (i + 1) := by rw [a_add (by omega) (by omega)]; show _ = B + (dimS y i + dimV y ((i : Int) + 1)); omega
        have e8 : arith .add .i64 ((i : Int) + 1) 1 = ((i + 1 : Nat) : Int) + 1 := by rw [a_add (by omega) (by omega)]; push_cast; rfl
        show [U.int (arith .add .i64 (B + dimS y i) (dimV y ((i : Int) + 1))), U.int (arith .add .i64 ((i : Int) + 1) 1)] = _
        rw [e7, e8]
      · have : i = M := by omega
        subst this
        exact wp_condF (by show cmpB .lss ((i : Int) + 1) m = false; rw [cmpB_lss, hM]; simp) (wp_brk _ rfl (wp_alt0 (wp_chk rfl (wp_res rfl))))
    · cases h
  · cases h
theorem ok_isDayNumber : FnOK Tryz.prog n_impl_isDayNumber sg_impl_isDayNumber g_day := mk_impl_isDayNumber ok_dayNumber ok_in fun us rs hl h => by
  unfold g_day at h
  split at h
  · rename_i n
    cases h
    exact wp_chk rfl (wp_call (rs := [.int (-36159)]) (by show g_dn [.int 1901, .int 1, .int 1] = _; unfold g_dn; dsimp only; rw [if_pos (by decide), show dnV 1901 1 1 = -36159 by decide +kernel]) rfl (wp_call (rs := [.int 36524]) (by show g_dn [.int 2099, .int 12, .int 31] = _; unfold g_dn; dsimp only; rw [if_pos (by decide), show dnV 2099 12 31 = 36524 by decide +kernel]) rfl (wp_call (rs := [.bool (dayB n)]) rfl rfl (wp_res rfl))))
  · cases h

-- minutes, points, observations
def minB (m : Int) : Bool := bndI m 0 1439
def g_min : List U → Option (List U)
  | [.int a] => some [.bool (minB a)]
  | _ => none
theorem ok_l09Minute : FnOK Tryz.prog n_spec_l09Minute sg_spec_l09Minute g_min := mk_spec_l09Minute ok_l01In fun us rs hl h => by
  unfold g_min at h
  split at h
  · cases h; exact wp_chk rfl (wp_call (rs := [.bool _]) rfl rfl (wp_res rfl))
  · cases h
theorem ok_isMinute : FnOK Tryz.prog n_impl_isMinute sg_impl_isMinute g_min := mk_impl_isMinute ok_in fun us rs hl h => by
  unfold g_min at h
  split at h
  · cases h; exact wp_chk rfl (wp_call (rs := [.bool _]) rfl rfl (wp_res rfl))
  · cases h
def spot (x : Int) : Bool := bndI x (-1000000) 1000000
def g_spot : List U → Option (List U)
  | [.int a] => some [.bool (spot a)]
  | _ => none
theorem ok_isSpot : FnOK Tryz.prog n_impl_isSpot sg_impl_isSpot g_spot := mk_impl_isSpot ok_in fun us rs hl h => by
  unfold g_spot at h
  split at h
  · cases h; exact wp_chk rfl (wp_call (rs := [.bool _]) rfl rfl (wp_res rfl))
  · cases h
def g_point : List U → Option (List U)
  | [.int x, .int y] => some [.bool (spot x && spot y)]
  | _ => none
theorem ok_l14Point : FnOK Tryz.prog n_spec_l14Point sg_spec_l14Point g_point := mk_spec_l14Point ok_l01In fun us rs hl h => by
  unfold g_point at h
  split at h
  · rename_i a b
    cases h
    refine wp_chk rfl (wp_join (wp_call (rs := [.bool (spot a)]) rfl rfl ?_))
    cases h1 : spot a
    · exact wp_condF rfl (wp_vals [.bool false] rfl (wp_alt0 (wp_chk rfl (wp_res rfl))))
    · exact wp_condT rfl (wp_call (rs := [.bool (spot b)]) rfl rfl (wp_vals _ rfl (wp_alt0 (wp_chk rfl (wp_res (by rw [Bool.true_and]; rfl))))))
  · cases h
theorem ok_isPoint : FnOK Tryz.prog n_impl_isPoint sg_impl_isPoint g_point := mk_impl_isPoint ok_isSpot fun us rs hl h => by
  unfold g_point at h
  split at h
  · rename_i a b
    cases h
    refine wp_chk rfl (wp_join (wp_call (rs := [.bool (spot a)]) rfl rfl ?_))
    cases h1 : spot a
    · exact wp_condF rfl (wp_vals [.bool false] rfl (wp_alt0 (wp_chk rfl (wp_res rfl))))
    · exact wp_condT rfl (wp_call (rs := [.bool (spot b)]) rfl rfl (wp_vals _ rfl (wp_alt0 (wp_chk rfl (wp_res (by rw [Bool.true_and]; rfl))))))
  · cases h
def obsV (n m x y : Int) : Bool := dayB n && (minB m && (spot x && spot y))
def g_isobs : List U → Option (List U)
  | [.int n, .int m, .int x, .int y] => some [.bool (obsV n m x y)]
  | _ => none
theorem ok_l25Is : FnOK Tryz.prog n_spec_l25Is sg_spec_l25Is g_isobs := mk_spec_l25Is ok_l07Has ok_l09Minute ok_l14Point fun us rs hl h => by
  unfold g_isobs at h
  split at h
  · rename_i n m x y
    cases h
    unfold obsV
    refine wp_chk rfl (wp_join (wp_call (rs := [.bool (dayB n)]) rfl rfl ?_))
    cases h1 : dayB n
    · exact wp_condF rfl (wp_vals [.bool false] rfl (wp_alt0 (wp_chk rfl (wp_res rfl))))
    · refine wp_condT rfl (wp_call (rs := [.bool (minB m)]) rfl rfl ?_)
      cases h2 : minB m
      · exact wp_condF rfl (wp_vals [.bool false] rfl (wp_alt0 (wp_chk rfl (wp_res rfl))))
      · exact wp_condT rfl (wp_call (rs := [.bool (spot x && spot y)]) rfl rfl (wp_vals _ rfl (wp_alt0 (wp_chk rfl (wp_res (by simp only [Bool.true_and]; rfl))))))
  · cases h
theorem ok_isObservation : FnOK Tryz.prog n_impl_isObservation sg_impl_isObservation g_isobs := mk_impl_isObservation ok_isDayNumber ok_isMinute ok_isPoint fun us rs hl h => by
  unfold g_isobs at h
  split at h
  · rename_i n m x y
    cases h
    unfold obsV
    refine wp_chk rfl (wp_join (wp_call (rs := [.bool (dayB n)]) rfl rfl ?_))
    cases h1 : dayB n
    · exact wp_condF rfl (wp_vals [.bool false] rfl (wp_alt0 (wp_chk rfl (wp_res rfl))))
    · refine wp_condT rfl (wp_call (rs := [.bool (minB m)]) rfl rfl ?_)
      cases h2 : minB m
      · exact wp_condF rfl (wp_vals [.bool false] rfl (wp_alt0 (wp_chk rfl (wp_res rfl))))
      · exact wp_condT rfl (wp_call (rs := [.bool (spot x && spot y)]) rfl rfl (wp_vals _ rfl (wp_alt0 (wp_chk rfl (wp_res (by simp only [Bool.true_and]; rfl))))))
  · cases h
def g_nobs : List U → Option (List U)
  | [.int n, .int m, .int x, .int y] => some [.bool (!(obsV n m x y))]
  | _ => none
theorem ok_all1 : FnOK Tryz.prog n_impl_allObservations_1 sg_impl_allObservations_1 g_nobs := mk_impl_allObservations_1 ok_isObservation fun us rs hl h => by
  unfold g_nobs at h
  split at h
  · rename_i n m x y
    cases h
    exact wp_chk rfl (wp_call (rs := [.bool (obsV n m x y)]) rfl rfl (wp_res rfl))
  · cases h

-- lists of observations
def obR (r : List U) : Prop := ∃ n m x y, r = [.int n, .int m, .int x, .int y]
def Obs (l : List (List U)) : Prop := (∀ r ∈ l, obR r) ∧ l.length ≤ 1048576
def obB (r : List U) : Bool := obsV (r.getD 0 default).I (r.getD 1 default).I (r.getD 2 default).I (r.getD 3 default).I
theorem all_take {α : Type} {p : α → Bool} {l : List α} {i : Nat} (h : i < l.length) : (l.take (i + 1)).all p = ((l.take i).all p && p l[i]) := by
  rw [List.take_succ_eq_append_getElem h, List.all_append]
  simp only [List.all_cons, List.all_nil, Bool.and_true]
theorem all_false {α : Type} {p : α → Bool} {l : List α} {i : Nat} (h : i < l.length) (hp : p l[i] = false) : l.all p = false := by
  rw [List.all_eq_false]
  exact ⟨l[i], List.getElem_mem h, by simp [hp]⟩
theorem all_end {α : Type} {p : α → Bool} {l : List α} {i : Nat} (h : ¬ i < l.length) (hp : (l.take i).all p = true) : l.all p = true := by
  rwa [List.take_of_length_le (by omega)] at hp
/-- a row of a list, as the programs take it -/
theorem row_at {l : List (List U)} {i : Nat} (hi : i < l.length) {r : List U} (e : l[i] = r) (j : Nat) : (l.getD ((i : Int).toNat) []).getD j default = r.getD j default := by
  have : l.getD ((i : Int).toNat) [] = r := by
    rw [Int.toNat_natCast, ← e]
    simp [hi]
  rw [this]
def ocode (l : List (List U)) : Int := if l.all obB then (if l.length > 10 then 3 else 0) else 1
open Classical in
noncomputable def g_ocode : List U → Option (List U)
  | [.lst l] => if Obs l then some [.int (ocode l)] else none
  | _ => none
open Classical in
noncomputable def g_oall : List U → Option (List U)
  | [.lst l] => if Obs l then some [.bool (l.all obB)] else none
  | _ => none
theorem ok_l25Code : FnOK Tryz.prog n_spec_l25Code sg_spec_l25Code g_ocode := mk_spec_l25Code ok_l25Is fun us rs hl h => by
  unfold g_ocode at h
  split at h
  · rename_i l
    split at h
    · rename_i hw
      cases h
      simp only [pr_spec_l25Code, wpP, E.den, List.map_cons, List.map_nil]
      repeat refine ⟨rfl, ?_⟩
      refine iterP_upto l.length (fun i => [.int i]) (fun i => (l.take i).all obB = true) rfl fun i hi hp R hR => ?_
      have hwl := hw.2
      by_cases h1 : i < l.length
      · obtain ⟨a, b, c, d, e⟩ := hw.1 _ (List.getElem_mem h1)
        have hall := all_take (p := obB) h1
        have hc : obB l[i] = obsV a b c d := by rw [e]; rfl
        rw [hp, hc, Bool.true_and] at hall
        cases h2 : obsV a b c d
        · have := all_false h1 (hc.trans h2)
          simp [h1, h2, E.den, cmpB_lss, cmpB_leq, g_isobs, e, this, ocode]
        · have hR : R [.int ((i : Int) + 1)] := hR h1 (hall.trans h2)
          have hwr : IntKind.i64.wrap ((i : Int) + 1) = (i : Int) + 1 := by rw [wrap64] <;> omega
          simp [h1, h2, E.den, cmpB_lss, cmpB_leq, ar_add, g_isobs, e, hwr, hR]
      · have := all_end h1 hp
        by_cases h3 : l.length > 10
        · have h3' : (10 : Int) < l.length := by omega
          simp [h1, E.den, cmpB_lss, cmpB_leq, cmpB_gtr, this, ocode, h3, h3']
        · have h3' : ¬ (10 : Int) < l.length := by omega
          simp [h1, E.den, cmpB_lss, cmpB_leq, cmpB_gtr, this, ocode, h3, h3']
    · cases h
  · cases h
theorem one_index : ∃ g, FnOK Tryz.prog n_slices_IndexFuncimpl_Observationimpl_Observation sg_slices_IndexFuncimpl_Observationimpl_Observation g ∧ ∀ l, Obs l → ∃ v, g [.lst l] = some [.int v] ∧ (l.all obB = true → v < 0) ∧ (l.all obB = false → 0 ≤ v) := by
  let Q : List U → List U → Prop := fun us rs => ∀ l, us = [.lst l] → ∃ v, rs = [.int v] ∧ (l.all obB = true → v < 0) ∧ (l.all obB = false → 0 ≤ v)
  refine one_of (n := 1) (Pre := fun us => ∃ l, us = [.lst l] ∧ Obs l) (Post := Q) (mk_slices_IndexFuncimpl_Observationimpl_Observation ok_all1) ?_ |>.imp fun g hg => ⟨hg.1, fun l hl => ?_⟩
  · rintro us ⟨l, rfl, hw⟩
    simp only [pr_slices_IndexFuncimpl_Observationimpl_Observation, wpP, E.den, List.map_cons, List.map_nil]
    repeat refine ⟨rfl, ?_⟩
    refine iterP_upto l.length (fun i => [.int i]) (fun i => (l.take i).all obB = true) rfl fun i hi hp R hR => ?_
    have hwl := hw.2
    by_cases h1 : i < l.length
    · obtain ⟨a, b, c, d, e⟩ := hw.1 _ (List.getElem_mem h1)
      have hall := all_take (p := obB) h1
      have hc : obB l[i] = obsV a b c d := by rw [e]; rfl
      rw [hp, hc, Bool.true_and] at hall
      cases h2 : obsV a b c d
      · have := all_false h1 (hc.trans h2)
        simp [h1, h2, E.den, cmpB_lss, cmpB_leq, g_nobs, e, this, Q, -List.all_eq_true, -List.all_eq_false]
      · have hR : R [.int ((i : Int) + 1)] := hR h1 (hall.trans h2)
        have hwr : IntKind.i64.wrap ((i : Int) + 1) = (i : Int) + 1 := by rw [wrap64] <;> omega
        simp [h1, h2, E.den, cmpB_lss, cmpB_leq, ar_add, g_nobs, e, hwr, hR]
    · have := all_end h1 hp
      simp [h1, E.den, cmpB_lss, cmpB_leq, cmpB_gtr, this, Q, -List.all_eq_true, -List.all_eq_false]
  · obtain ⟨rs, h1, h2⟩ := hg.2 _ ⟨l, rfl, hl⟩
    obtain ⟨v, rfl, h3⟩ := h2 l rfl
    exact ⟨v, h1, h3⟩
open Classical in
noncomputable def g_ohas : List U → Option (List U)
  | [.lst l] => if Obs l then some [.bool (!l.all obB)] else none
  | _ => none
theorem ok_contains : FnOK Tryz.prog n_slices_ContainsFuncimpl_Observationimpl_Observation sg_slices_ContainsFuncimpl_Observationimpl_Observation g_ohas := by
  obtain ⟨g, ok, hg⟩ := one_index
  refine mk_slices_ContainsFuncimpl_Observationimpl_Observation ok fun us rs hl h => ?_
  unfold g_ohas at h
  split at h
  · rename_i l
    split at h
    · rename_i hw
      cases h
      obtain ⟨v, e, h1, h2⟩ := hg l hw
      refine wp_chk rfl (wp_call e rfl (wp_res ?_))
      show [U.bool (cmpB .geq v 0)] = _
      rw [cmpB_geq]
      cases h3 : l.all obB
      · have := h2 h3; simp; omega
      · have := h1 h3; simp; omega
    · cases h
  · cases h
theorem ok_allObs : FnOK Tryz.prog n_impl_allObservations sg_impl_allObservations g_oall := mk_impl_allObservations ok_contains fun us rs hl h => by
  unfold g_oall at h
  split at h
  · rename_i l
    split at h
    · rename_i hw
      cases h
      exact wp_chk rfl (wp_call (rs := [.bool (!l.all obB)]) (by show g_ohas [.lst l] = _; unfold g_ohas; dsimp only; rw [if_pos hw]) rfl (wp_res (by show [U.bool (!(!l.all obB))] = _; rw [Bool.not_not])))
    · cases h
  · cases h
def dcode (a b c d : Int) (l : List (List U)) : Int := if dialB a b c d then ocode l else 1
open Classical in
noncomputable def g_dcode : List U → Option (List U)
  | [.int a, .int b, .int c, .int d, .lst l] => if Obs l then some [.int (dcode a b c d l)] else none
  | _ => none
theorem ok_l25Dial : FnOK Tryz.prog n_spec_l25Dial sg_spec_l25Dial g_dcode := mk_spec_l25Dial ok_sIsDial ok_l25Code fun us rs hl h => by
  unfold g_dcode at h
  split at h
  · rename_i a b c d l
    split at h
    · rename_i hw
      cases h
      refine wp_chk rfl (wp_call (rs := [.bool (dialB a b c d)]) rfl rfl ?_)
      unfold dcode
      cases h1 : dialB a b c d
      · exact wp_condT rfl (wp_res rfl)
      · exact wp_condF rfl (wp_call (rs := [.int (ocode l)]) (by show g_ocode [.lst l] = _; unfold g_ocode; dsimp only; rw [if_pos hw]) rfl (wp_res rfl))
    · cases h
  · cases h
theorem ok_observed : FnOK Tryz.prog n_impl_observed sg_impl_observed g_dcode := mk_impl_observed ok_iIsDial ok_allObs fun us rs hl h => by
  unfold g_dcode at h
  split at h
  · rename_i a b c d l
    split at h
    · rename_i hw
      cases h
      refine wp_chk rfl (wp_join (wp_call (rs := [.bool (dialB a b c d)]) rfl rfl ?_))
      unfold dcode
      cases h1 : dialB a b c d
      · exact wp_condT rfl (wp_vals [.bool true] rfl (wp_alt0 (wp_chk rfl (wp_condT rfl (wp_res rfl)))))
      · refine wp_condF rfl (wp_call (rs := [.bool (l.all obB)]) (by show g_oall [.lst l] = _; unfold g_oall; dsimp only; rw [if_pos hw]) rfl ?_)
        unfold ocode
        cases h2 : l.all obB
        · exact wp_vals [.bool true] rfl (wp_alt0 (wp_chk rfl (wp_condT rfl (wp_res rfl))))
        · refine wp_vals [.bool false] rfl (wp_alt0 (wp_chk rfl (wp_condF rfl ?_)))
          by_cases h3 : l.length > 10
          · exact wp_condT (by show cmpB .gtr (l.length : Int) 10 = true; rw [cmpB_gtr]; simp; omega) (wp_res (by rw [if_pos rfl, if_pos rfl, if_pos h3]; rfl))
          · exact wp_condF (by show cmpB .gtr (l.length : Int) 10 = false; rw [cmpB_gtr]; simp; omega) (wp_res (by rw [if_pos rfl, if_pos rfl, if_neg h3]; rfl))
    · cases h
  · cases h
end Go.Proofs.YtibbceoibcnpcaaGreat.Eng
