/- What the functions about sines compute. No condition. -/
import Derived.Test.YtibbceoibcnpcaaGreatLawRA
namespace Go.Proofs.YtibbceoibcnpcaaGreat.Eng
open Go

-- the two polynomials
def pX (r : Int) : Int := arith .quo .i64 (arith .mul .i64 r 48481368) 10000
def pY (r : Int) : Int := arith .quo .i64 (arith .mul .i64 (pX r) (pX r)) 1000000000
def pT (a y k : Int) : Int := arith .quo .i64 (arith .quo .i64 (arith .mul .i64 a y) 1000000000) k
def polyP' (x y : Int) : Int :=
  arith .add .i64 (arith .sub .i64 (arith .add .i64 (arith .sub .i64 x (pT x y 6)) (pT (pT x y 6) y 20)) (pT (pT (pT x y 6) y 20) y 42)) (pT (pT (pT (pT x y 6) y 20) y 42) y 72)
def polyQ' (y : Int) : Int :=
  let c := arith .quo .i64 y 2
  arith .sub .i64 (arith .add .i64 (arith .sub .i64 (arith .add .i64 (arith .sub .i64 1000000000 c) (pT c y 12)) (pT (pT c y 12) y 30)) (pT (pT (pT c y 12) y 30) y 56)) (pT (pT (pT (pT c y 12) y 30) y 56) y 90)
def polyP (r : Int) : Int := polyP' (pX r) (pY r)
def polyQ (r : Int) : Int := polyQ' (pY r)
def g_arc : List U → Option (List U)
  | [.int r] => some [.int (pX r), .int (pY r)]
  | _ => none
theorem ok_l04Arc : FnOK Tryz.prog n_spec_l04Arc sg_spec_l04Arc g_arc := mk_spec_l04Arc fun us rs hl h => by
  unfold g_arc at h
  split at h
  · cases h
    exact wp_chk rfl (wp_res rfl)
  · cases h
def g_P : List U → Option (List U)
  | [.int r] => some [.int (polyP r)]
  | _ => none
def g_Q : List U → Option (List U)
  | [.int r] => some [.int (polyQ r)]
  | _ => none
theorem ok_l04P : FnOK Tryz.prog n_spec_l04P sg_spec_l04P g_P := mk_spec_l04P ok_l04Arc fun us rs hl h => by
  unfold g_P at h
  split at h
  · rename_i r
    cases h
    refine wp_chk rfl (wp_call (rs := [.int (pX r), .int (pY r)]) rfl rfl ?_)
    unfold polyP
    generalize pX r = x
    generalize pY r = y
    exact wp_res rfl
  · cases h
theorem ok_l04Q : FnOK Tryz.prog n_spec_l04Q sg_spec_l04Q g_Q := mk_spec_l04Q ok_l04Arc fun us rs hl h => by
  unfold g_Q at h
  split at h
  · rename_i r
    cases h
    refine wp_chk rfl (wp_call (rs := [.int (pX r), .int (pY r)]) rfl rfl ?_)
    unfold polyQ
    generalize pX r = x
    generalize pY r = y
    exact wp_res rfl
  · cases h
def g_poly : List U → Option (List U)
  | [.int r] => some [.int (polyP r), .int (polyQ r)]
  | _ => none
set_option maxRecDepth 100000 in
theorem ok_polynomials : FnOK Tryz.prog n_impl_polynomials sg_impl_polynomials g_poly := mk_impl_polynomials fun us rs hl h => by
  unfold g_poly at h
  split at h
  · cases h
    exact wp_chk rfl (wp_res rfl)
  · cases h

/-- one member of a series -/
theorem pT_bnd {a y k A Y B : Int} (ha : 0 ≤ a) (ha' : a ≤ A) (hy : 0 ≤ y) (hy' : y ≤ Y) (hk : 0 < k) (hAY : A * Y ≤ 9000000000000000000) (hB : A * Y ≤ (B + 1) * k * 1000000000 - 1) (hB0 : 0 ≤ B) : 0 ≤ pT a y k ∧ pT a y k ≤ B := by
  unfold pT
  have h0 := Int.mul_nonneg ha hy
  have h1 : a * y ≤ A * Y := Int.mul_le_mul ha' hy' hy (by omega)
  rw [a_mul (by omega) (by omega), a_quo h0 (by omega) (by omega)]
  have h2 := Int.ediv_nonneg h0 (show (0 : Int) ≤ 1000000000 by decide)
  have h3 := Int.ediv_le_self 1000000000 h0
  rw [a_quo h2 hk (by omega)]
  refine ⟨Int.ediv_nonneg h2 (by omega), ?_⟩
  have h4 : a * y / 1000000000 ≤ (B + 1) * k - 1 := by omega
  have h5 : a * y / 1000000000 / k < B + 1 := Int.ediv_lt_of_lt_mul hk (by omega)
  omega
theorem pX_bnd {r : Int} (h : 0 ≤ r) (h' : r ≤ 162000) : 0 ≤ pX r ∧ pX r ≤ 785398162 := by
  unfold pX
  rw [a_mul (by omega) (by omega), a_quo (by omega) (by omega) (by omega)]
  omega
theorem pY_bnd {r : Int} (h : 0 ≤ r) (h' : r ≤ 162000) : 0 ≤ pY r ∧ pY r ≤ 616850274 := by
  obtain ⟨h1, h2⟩ := pX_bnd h h'
  unfold pY
  have h0 := Int.mul_nonneg h1 h1
  have h3 : pX r * pX r ≤ 785398162 * 785398162 := Int.mul_le_mul h2 h2 h1 (by decide)
  rw [a_mul (by omega) (by omega), a_quo h0 (by omega) (by omega)]
  omega
theorem polyP_bnd {r : Int} (h : 0 ≤ r) (h' : r ≤ 162000) : -1100000000 ≤ polyP r ∧ polyP r ≤ 1100000000 := by
  obtain ⟨x0, x1⟩ := pX_bnd h h'
  obtain ⟨y0, y1⟩ := pY_bnd h h'
  unfold polyP polyP'
  generalize pX r = x at *
  generalize pY r = y at *
  have t3 := pT_bnd (B := 81000000) (k := 6) x0 x1 y0 y1 (by decide) (by decide) (by decide) (by decide)
  generalize pT x y 6 = a3 at *
  have t5 := pT_bnd (B := 2500000) (k := 20) t3.1 t3.2 y0 y1 (by decide) (by decide) (by decide) (by decide)
  generalize pT a3 y 20 = a5 at *
  have t7 := pT_bnd (B := 37000) (k := 42) t5.1 t5.2 y0 y1 (by decide) (by decide) (by decide) (by decide)
  generalize pT a5 y 42 = a7 at *
  have t9 := pT_bnd (B := 400) (k := 72) t7.1 t7.2 y0 y1 (by decide) (by decide) (by decide) (by decide)
  generalize pT a7 y 72 = a9 at *
  rw [a_sub (a := x) (by omega) (by omega), a_add (a := x - a3) (by omega) (by omega), a_sub (a := x - a3 + a5) (by omega) (by omega), a_add (by omega) (by omega)]
  omega
theorem polyQ_bnd {r : Int} (h : 0 ≤ r) (h' : r ≤ 162000) : -1100000000 ≤ polyQ r ∧ polyQ r ≤ 1100000000 := by
  obtain ⟨y0, y1⟩ := pY_bnd h h'
  unfold polyQ polyQ'
  generalize pY r = y at *
  simp only
  have hc : arith .quo .i64 y 2 = y / 2 := a_quo y0 (by decide) (by omega)
  have c0 : 0 ≤ arith .quo .i64 y 2 ∧ arith .quo .i64 y 2 ≤ 310000000 := by rw [hc]; omega
  generalize arith .quo .i64 y 2 = c at *
  have t4 := pT_bnd (B := 16000000) (k := 12) c0.1 c0.2 y0 y1 (by decide) (by decide) (by decide) (by decide)
  generalize pT c y 12 = a4 at *
  have t6 := pT_bnd (B := 330000) (k := 30) t4.1 t4.2 y0 y1 (by decide) (by decide) (by decide) (by decide)
  generalize pT a4 y 30 = a6 at *
  have t8 := pT_bnd (B := 4000) (k := 56) t6.1 t6.2 y0 y1 (by decide) (by decide) (by decide) (by decide)
  generalize pT a6 y 56 = a8 at *
  have t10 := pT_bnd (B := 40) (k := 90) t8.1 t8.2 y0 y1 (by decide) (by decide) (by decide) (by decide)
  generalize pT a8 y 90 = a10 at *
  rw [a_sub (a := 1000000000) (by omega) (by omega), a_add (a := 1000000000 - c) (by omega) (by omega), a_sub (a := 1000000000 - c + a4) (by omega) (by omega), a_add (by omega) (by omega), a_sub (by omega) (by omega)]
  omega

-- the nano sine
def rV (a : Int) : Int := if a % 1296000 / 324000 % 2 = 1 then 324000 - a % 1296000 % 324000 else a % 1296000 % 324000
def nV (a : Int) : Int := if rV a ≤ 162000 then polyP (rV a) else polyQ (324000 - rV a)
def sinV (a : Int) : Int := if a % 1296000 / 324000 < 2 then nV a else -nV a
theorem rV_bnd (a : Int) : 0 ≤ rV a ∧ rV a ≤ 324000 := by unfold rV; split <;> omega
theorem nV_bnd (a : Int) : -1100000000 ≤ nV a ∧ nV a ≤ 1100000000 := by
  have := rV_bnd a
  unfold nV
  split
  · exact polyP_bnd this.1 (by omega)
  · exact polyQ_bnd (by omega) (by omega)
theorem sinV_bnd (a : Int) : -1100000000 ≤ sinV a ∧ sinV a ≤ 1100000000 := by
  have := nV_bnd a
  unfold sinV; split <;> omega
def g_sin : List U → Option (List U)
  | [.int a] => if -4000000000000000000 ≤ a ∧ a ≤ 4000000000000000000 then some [.int (sinV a)] else none
  | _ => none
theorem sin_call {a : Int} (h3 : -4000000000000000000 ≤ a) (h4 : a ≤ 4000000000000000000) : g_sin [.int a] = some [.int (sinV a)] := by
  unfold g_sin; dsimp only; rw [if_pos ⟨h3, h4⟩]
theorem ok_l04Sine : FnOK Tryz.prog n_spec_l04Sine sg_spec_l04Sine g_sin := mk_spec_l04Sine ok_l03Plain ok_l04P ok_l04Q fun us rs hl h => by
  unfold g_sin at h
  split at h
  · rename_i a
    split at h
    · rename_i hw
      cases h
      refine wp_chk rfl (wp_call (plain_call hw.1 hw.2) rfl (wp_join ?_))
      have hn := nV_bnd a
      have hr := rV_bnd a
      have e1 : arith .quo .i64 (a % 1296000) 324000 = a % 1296000 / 324000 := a_quo (by omega) (by omega) (by omega)
      have e2 : arith .rem .i64 (arith .quo .i64 (a % 1296000) 324000) 2 = a % 1296000 / 324000 % 2 := by rw [e1]; exact a_rem (by omega)
      have e3 : arith .rem .i64 (a % 1296000) 324000 = a % 1296000 % 324000 := a_rem (by omega)
      have e4 : arith .sub .i64 324000 (arith .rem .i64 (a % 1296000) 324000) = 324000 - a % 1296000 % 324000 := by rw [e3]; exact a_sub (by omega) (by omega)
      have key : wpP (fun k us => if 175 = k then g_plain us else if 255 = k then g_P us else if 256 = k then g_Q us else none)
          (.join
            (.cond (.cmp .leq (.var 2) (.int 162000))
             (.call 255 [(.var 2)] 1
             (.leaf (.vals 0 [(.var 3)])))
             (.call 256 [(.ar .sub .i64 (.int 324000) (.var 2))] 1
             (.leaf (.vals 0 [(.var 3)]))))
            (.alt
             (.chk 4
             (.cond (.cmp .geq (.ar .quo .i64 (.var 1) (.int 324000)) (.int 2))
              (.leaf (.res [(.ar .sub .i64 (.int 0) (.var 3))]))
              (.leaf (.res [(.var 3)]))))
             .stop)) 0 [.int a, .int (a % 1296000), .int (rV a)] (fun l η => ∃ es, l = .res es ∧ es.map (E.den η) = [.int (sinV a)]) := by
        refine wp_join ?_
        have fin : wpP (fun k us => if 175 = k then g_plain us else if 255 = k then g_P us else if 256 = k then g_Q us else none) (.cond (.cmp .geq (.ar .quo .i64 (.var 1) (.int 324000)) (.int 2))
              (.leaf (.res [(.ar .sub .i64 (.int 0) (.var 3))]))
              (.leaf (.res [(.var 3)]))) 0 [.int a, .int (a % 1296000), .int (rV a), .int (nV a)] (fun l η => ∃ es, l = .res es ∧ es.map (E.den η) = [.int (sinV a)]) := by
          unfold sinV
          split
          · refine wp_condF ?_ (wp_res rfl)
            show cmpB .geq (arith .quo .i64 (a % 1296000) 324000) 2 = false
            rw [e1, cmpB_geq]; simp; omega
          · refine wp_condT ?_ (wp_res ?_)
            · show cmpB .geq (arith .quo .i64 (a % 1296000) 324000) 2 = true
              rw [e1, cmpB_geq]; simp; omega
            · show [U.int (arith .sub .i64 0 (nV a))] = _
              rw [a_sub (by omega) (by omega), Int.zero_sub]
        by_cases hc : rV a ≤ 162000
        · have en : nV a = polyP (rV a) := by unfold nV; rw [if_pos hc]
          refine wp_condT ?_ (wp_call (rs := [.int (nV a)]) (by rw [en]; rfl) rfl (wp_vals _ rfl (wp_alt0 (wp_chk rfl fin))))
          show cmpB .leq (rV a) 162000 = true
          rw [cmpB_leq]; simpa using hc
        · have en : nV a = polyQ (324000 - rV a) := by unfold nV; rw [if_neg hc]
          refine wp_condF ?_ (wp_callA [.int (324000 - rV a)] ?_ (rs := [.int (nV a)]) (by rw [en]; rfl) rfl (wp_vals _ rfl (wp_alt0 (wp_chk rfl fin))))
          · show cmpB .leq (rV a) 162000 = false
            rw [cmpB_leq]; simpa using hc
          · show [U.int (arith .sub .i64 324000 (rV a))] = _
            rw [a_sub (by omega) (by omega)]
      by_cases hq : a % 1296000 / 324000 % 2 = 1
      · refine wp_condT ?_ (wp_vals [.int (rV a)] ?_ (wp_alt0 (wp_chk rfl key)))
        · show cmpB .eql (arith .rem .i64 (arith .quo .i64 (a % 1296000) 324000) 2) 1 = true
          rw [e2, cmpB_eql]; simpa using hq
        · show [U.int (arith .sub .i64 324000 (arith .rem .i64 (a % 1296000) 324000))] = _
          rw [e4]; unfold rV; rw [if_pos hq]
      · refine wp_condF ?_ (wp_vals [.int (rV a)] ?_ (wp_alt0 (wp_chk rfl key)))
        · show cmpB .eql (arith .rem .i64 (arith .quo .i64 (a % 1296000) 324000) 2) 1 = false
          rw [e2, cmpB_eql]; simpa using hq
        · show [U.int (arith .rem .i64 (a % 1296000) 324000)] = _
          rw [e3]; unfold rV; rw [if_neg hq]
    · cases h
  · cases h
theorem ok_nanoSine : FnOK Tryz.prog n_impl_nanoSine sg_impl_nanoSine g_sin := mk_impl_nanoSine ok_plain ok_polynomials fun us rs hl h => by
  unfold g_sin at h
  split at h
  · rename_i a
    split at h
    · rename_i hw
      cases h
      refine wp_chk rfl (wp_call (plain_call hw.1 hw.2) rfl (wp_join ?_))
      have hn := nV_bnd a
      have hr := rV_bnd a
      have e1 : arith .quo .i64 (a % 1296000) 324000 = a % 1296000 / 324000 := a_quo (by omega) (by omega) (by omega)
      have e2 : arith .rem .i64 (arith .quo .i64 (a % 1296000) 324000) 2 = a % 1296000 / 324000 % 2 := by rw [e1]; exact a_rem (by omega)
      have e3 : arith .rem .i64 (a % 1296000) 324000 = a % 1296000 % 324000 := a_rem (by omega)
      have e4 : arith .sub .i64 324000 (arith .rem .i64 (a % 1296000) 324000) = 324000 - a % 1296000 % 324000 := by rw [e3]; exact a_sub (by omega) (by omega)
      have key : wpP (fun k us => if 176 = k then g_plain us else if 243 = k then g_poly us else none)
          (.join
            (.cond (.cmp .leq (.var 2) (.int 162000))
             (.call 243 [(.var 2)] 2
             (.leaf (.vals 0 [(.var 3)])))
             (.call 243 [(.ar .sub .i64 (.int 324000) (.var 2))] 2
             (.leaf (.vals 0 [(.var 4)]))))
            (.alt
             (.chk 4
             (.cond (.cmp .lss (.ar .quo .i64 (.var 1) (.int 324000)) (.int 2))
              (.leaf (.res [(.var 3)]))
              (.leaf (.res [(.ar .sub .i64 (.int 0) (.var 3))]))))
             .stop)) 0 [.int a, .int (a % 1296000), .int (rV a)] (fun l η => ∃ es, l = .res es ∧ es.map (E.den η) = [.int (sinV a)]) := by
        refine wp_join ?_
        have fin : wpP (fun k us => if 176 = k then g_plain us else if 243 = k then g_poly us else none) (.cond (.cmp .lss (.ar .quo .i64 (.var 1) (.int 324000)) (.int 2))
              (.leaf (.res [(.var 3)]))
              (.leaf (.res [(.ar .sub .i64 (.int 0) (.var 3))]))) 0 [.int a, .int (a % 1296000), .int (rV a), .int (nV a)] (fun l η => ∃ es, l = .res es ∧ es.map (E.den η) = [.int (sinV a)]) := by
          unfold sinV
          split
          · refine wp_condT ?_ (wp_res rfl)
            show cmpB .lss (arith .quo .i64 (a % 1296000) 324000) 2 = true
            rw [e1, cmpB_lss]; simp; omega
          · refine wp_condF ?_ (wp_res ?_)
            · show cmpB .lss (arith .quo .i64 (a % 1296000) 324000) 2 = false
              rw [e1, cmpB_lss]; simp; omega
            · show [U.int (arith .sub .i64 0 (nV a))] = _
              rw [a_sub (by omega) (by omega), Int.zero_sub]
        by_cases hc : rV a ≤ 162000
        · have en : nV a = polyP (rV a) := by unfold nV; rw [if_pos hc]
          refine wp_condT ?_ (wp_call (rs := [.int (nV a), .int (polyQ (rV a))]) (by rw [en]; rfl) rfl (wp_vals _ rfl (wp_alt0 (wp_chk rfl fin))))
          show cmpB .leq (rV a) 162000 = true
          rw [cmpB_leq]; simpa using hc
        · have en : nV a = polyQ (324000 - rV a) := by unfold nV; rw [if_neg hc]
          refine wp_condF ?_ (wp_callA [.int (324000 - rV a)] ?_ (rs := [.int (polyP (324000 - rV a)), .int (nV a)]) (by rw [en]; rfl) rfl (wp_vals _ rfl (wp_alt0 (wp_chk rfl fin))))
          · show cmpB .leq (rV a) 162000 = false
            rw [cmpB_leq]; simpa using hc
          · show [U.int (arith .sub .i64 324000 (rV a))] = _
            rw [a_sub (by omega) (by omega)]
      by_cases hq : a % 1296000 / 324000 % 2 = 1
      · refine wp_condT ?_ (wp_vals [.int (rV a)] ?_ (wp_alt0 (wp_chk rfl key)))
        · show cmpB .eql (arith .rem .i64 (arith .quo .i64 (a % 1296000) 324000) 2) 1 = true
          rw [e2, cmpB_eql]; simpa using hq
        · show [U.int (arith .sub .i64 324000 (arith .rem .i64 (a % 1296000) 324000))] = _
          rw [e4]; unfold rV; rw [if_pos hq]
      · refine wp_condF ?_ (wp_vals [.int (rV a)] ?_ (wp_alt0 (wp_chk rfl key)))
        · show cmpB .eql (arith .rem .i64 (arith .quo .i64 (a % 1296000) 324000) 2) 1 = false
          rw [e2, cmpB_eql]; simpa using hq
        · show [U.int (arith .rem .i64 (a % 1296000) 324000)] = _
          rw [e3]; unfold rV; rw [if_neg hq]
    · cases h
  · cases h

-- the sine's interval
def sLo (a : Int) : Int := (sinV a - 60) / 1000
def sHi (a : Int) : Int := ceilV (sinV a + 60) 1000
theorem s_bnd (a : Int) : -1100001 ≤ sLo a ∧ sLo a ≤ sHi a ∧ sHi a ≤ 1100001 := by
  have h := sinV_bnd a
  have h1 := floor_bnd (a := sinV a - 60) (b := 1000) (M := 1100001) (by omega) (by omega) (by omega)
  have h2 := ceil_bnd (a := sinV a + 60) (b := 1000) (M := 1100001) (by omega) (by omega) (by omega)
  have h3 := floor_le_ceil (a := sinV a - 60) (b := 1000) (c := sinV a + 60) (by omega) (by omega)
  exact ⟨h1.1, h3, h2.2⟩
def g_sine : List U → Option (List U)
  | [.int a] => if -4000000000000000000 ≤ a ∧ a ≤ 4000000000000000000 then some [.int (sLo a), .int (sHi a)] else none
  | _ => none
theorem sine_call {a : Int} (h3 : -4000000000000000000 ≤ a) (h4 : a ≤ 4000000000000000000) : g_sine [.int a] = some [.int (sLo a), .int (sHi a)] := by
  unfold g_sine; dsimp only; rw [if_pos ⟨h3, h4⟩]
def g_intv : List U → Option (List U)
  | [.int n] => if -1100000000 ≤ n ∧ n ≤ 1100000000 then some [.int ((n - 60) / 1000), .int (ceilV (n + 60) 1000)] else none
  | _ => none
theorem ok_l04Interval : FnOK Tryz.prog n_spec_l04Interval sg_spec_l04Interval g_intv := mk_spec_l04Interval ok_l01Floor ok_l01Ceil fun us rs hl h => by
  unfold g_intv at h
  split at h
  · rename_i n
    split at h
    · rename_i hw
      cases h
      have e1 : arith .sub .i64 n 60 = n - 60 := a_sub (by omega) (by omega)
      have e2 : arith .add .i64 n 60 = n + 60 := a_add (by omega) (by omega)
      refine wp_chk rfl (wp_callA [.int (n - 60), .int 1000] (by rw [← e1]; rfl) (floor_call (by omega) (by omega) (by omega) (by omega)) rfl ?_)
      exact wp_callA [.int (n + 60), .int 1000] (by rw [← e2]; rfl) (ceil_call (by omega) (by omega) (by omega) (by omega)) rfl (wp_res rfl)
    · cases h
  · cases h
theorem ok_l04Sin : FnOK Tryz.prog n_spec_l04Sin sg_spec_l04Sin g_sine := mk_spec_l04Sin ok_l04Sine ok_l04Interval fun us rs hl h => by
  unfold g_sine at h
  split at h
  · rename_i a
    split at h
    · rename_i hw
      cases h
      have hb := sinV_bnd a
      refine wp_chk rfl (wp_call (sin_call hw.1 hw.2) rfl (wp_call (rs := [.int (sLo a), .int (sHi a)]) ?_ rfl (wp_res rfl)))
      show g_intv [.int (sinV a)] = _
      unfold g_intv; dsimp only; rw [if_pos hb]; rfl
    · cases h
  · cases h
theorem ok_sine : FnOK Tryz.prog n_impl_sine sg_impl_sine g_sine := mk_impl_sine ok_nanoSine ok_floor ok_ceil fun us rs hl h => by
  unfold g_sine at h
  split at h
  · rename_i a
    split at h
    · rename_i hw
      cases h
      have hb := sinV_bnd a
      have e1 : arith .sub .i64 (sinV a) 60 = sinV a - 60 := a_sub (by omega) (by omega)
      have e2 : arith .add .i64 (sinV a) 60 = sinV a + 60 := a_add (by omega) (by omega)
      refine wp_chk rfl (wp_call (sin_call hw.1 hw.2) rfl ?_)
      refine wp_callA [.int (sinV a - 60), .int 1000] (by rw [← e1]; rfl) (floor_call (by omega) (by omega) (by omega) (by omega)) rfl ?_
      exact wp_callA [.int (sinV a + 60), .int 1000] (by rw [← e2]; rfl) (ceil_call (by omega) (by omega) (by omega) (by omega)) rfl (wp_res rfl)
    · cases h
  · cases h
end Go.Proofs.YtibbceoibcnpcaaGreat.Eng
