/- What the functions about pens and ways compute; the laws on PenChanges, IdleWay and DrawnLength in plain data. No condition. -/
import Derived.Test.YtjjnllklhcjomaaLawB
namespace Go.Proofs.Ytjjnllklhcjomaa.Eng
open Go

-- pens
theorem tw_changes : Twin Try.prog n_spec_l28Changes sg_spec_l28Changes n_impl_changes sg_impl_changes (fun us => ∃ l, us = [.lst l] ∧ Sts l) (fun _ rs => ∃ v : Int, rs = [.int v]) :=
  twin_of mk_spec_l28Changes mk_impl_changes [] hm_nil (by kernel_rfl) fun us ⟨l, e, hw⟩ => by
    subst e
    have hwl := hw.2
    simp only [pr_spec_l28Changes, wpP, E.den, List.map_cons, List.map_nil]
    repeat refine ⟨rfl, ?_⟩
    refine iterP_count l.length 1 (fun i us => ∃ c : Int, us = [.int c, .int i] ∧ 1 ≤ i) _ ⟨0, rfl, Nat.le_refl _⟩ fun i us ⟨c, e, h1⟩ R hR => ?_
    subst e
    have hR : i < l.length → ∀ c : Int, R [.int c, .int ((i : Int) + 1)] := fun h c => hR h _ ⟨c, by simp, by omega⟩
    by_cases h2 : i < l.length
    · have hwr : IntKind.i64.wrap ((i : Int) + 1) = (i : Int) + 1 := by rw [wrap64] <;> omega
      have hwm : IntKind.i64.wrap ((i : Int) - 1) = (i : Int) - 1 := by rw [wrap64] <;> omega
      have hR := hR h2
      have g1 : (0 : Int) ≤ i - 1 := by omega
      have g2 : (i : Int) - 1 < l.length := by omega
      simp [h2, E.den, cmpB_lss, cmpB_leq, cmpB_neq, ar_add, ar_sub, hwr, hwm, hR, g1, g2]
      exact ⟨by omega, (Classical.em _).symm⟩
    · simp [h2, E.den, cmpB_lss]
def IsSts (us : List U) : Prop := ∃ l, us = [.lst l] ∧ Sts l
def Two (rs : List U) : Prop := ∃ a b : Int, rs = [.int a, .int b]
theorem tw_PenChanges : Twin Try.prog n_spec_PenChanges sg_spec_PenChanges n_impl_PenChanges sg_impl_PenChanges IsSts (fun _ rs => Two rs) := by
  obtain ⟨g, ok1, ok2, tot⟩ := tw_changes
  refine twin_of (mk_spec_PenChanges ok_l28Code ok1) (mk_impl_PenChanges ok_drawing ok2) [(82, 84), (90, 91)] (hm_cons rfl (hm_cons rfl hm_nil)) (by kernel_rfl) ?_
  rintro us ⟨l, rfl, hw⟩
  obtain ⟨rs, h1, v, rfl⟩ := tot [.lst l] ⟨l, rfl, hw⟩
  simp only [pr_spec_PenChanges, wpP]
  by_cases hc : codeV l = 0 <;> simp [E.den, g_code, hw, cmpB_neq, hc, h1, Two]
theorem ok_lawPen : FnOK Try.prog n_laws_FnExactPenChanges sg_laws_FnExactPenChanges g_lawS := by
  obtain ⟨g, ok1, ok2, tot⟩ := tw_PenChanges
  refine mk_laws_FnExactPenChanges ok_szStrokeS ok_toStrokeS ok1 ok2 ok_eqStrokeS fun us rs hl h => ?_
  unfold g_lawS at h
  split at h
  · rename_i l
    split at h
    · rename_i hw
      cases h
      simp only [pr_laws_FnExactPenChanges, wpP]
      by_cases h1 : 0 ≤ szSts 1048576 l
      · have hS := szSts_ok hw h1
        obtain ⟨rs, e, a, b, rfl⟩ := tot [.lst l] ⟨l, rfl, hS⟩
        simp [E.den, cmpB_lss, cmpB_neq, g_szSts, hw, g_idS, hS, e, g_sameS]
        omega
      · have h2 : szSts 1048576 l < 0 := by omega
        simp [E.den, cmpB_lss, g_szSts, hw, h2]
    · cases h
  · cases h

-- ways
theorem tw_square : Twin Try.prog n_spec_l16Square sg_spec_l16Square n_impl_Point_square sg_impl_Point_square (fun us => ∃ a b c d : Int, us = [.int a, .int b, .int c, .int d]) (fun _ rs => ∃ v : Int, rs = [.int v]) :=
  twin_of mk_spec_l16Square mk_impl_Point_square [] hm_nil (by kernel_rfl) (by
    rintro us ⟨a, b, c, d, rfl⟩
    simp [pr_spec_l16Square, wpP, E.den])
theorem tdiv2 {a : Int} (h : 0 ≤ a) : a.tdiv 2 = a / 2 := Int.tdiv_eq_ediv_of_nonneg h
theorem tw_root : Twin Try.prog n_spec_l01Root sg_spec_l01Root n_impl_root sg_impl_root (fun us => ∃ a : Int, us = [.int a]) (fun _ rs => ∃ v : Int, rs = [.int v]) :=
  twin_of mk_spec_l01Root mk_impl_root [] hm_nil (by kernel_rfl) (by
    rintro us ⟨n, rfl⟩
    simp only [pr_spec_l01Root, wpP, E.den, List.map_cons, List.map_nil]
    repeat refine ⟨rfl, ?_⟩
    refine ⟨_, iterP_inv (fun us => ∃ a b : Int, us = [.int a, .int b] ∧ 0 ≤ a ∧ a < b ∧ b ≤ 2000000001) (fun us => ((us.getD 1 default).I - (us.getD 0 default).I).toNat) (fun us ⟨a, b, e, h1, h2, h3⟩ R hR => ?_) _ _ (Nat.lt_succ_self _) ⟨0, 2000000001, rfl, by decide, by decide, by decide⟩⟩
    subst e
    have hR : ∀ a' b' : Int, 0 ≤ a' → a' < b' → b' ≤ 2000000001 → b' - a' < b - a → R [.int a', .int b'] := fun a' b' k1 k2 k3 k4 => hR _ ⟨a', b', rfl, k1, k2, k3⟩ (by simp; omega)
    have hw1 : IntKind.i64.wrap (b - a) = b - a := by rw [wrap64] <;> omega
    have hw2 : IntKind.i64.wrap (a + b) = a + b := by rw [wrap64] <;> omega
    have hd : (a + b).tdiv 2 = (a + b) / 2 := tdiv2 (by omega)
    have hw3 : IntKind.i64.wrap ((a + b) / 2) = (a + b) / 2 := by rw [wrap64] <;> omega
    by_cases h4 : 1 < b - a
    · have r1 := hR ((a + b) / 2) b (by omega) (by omega) (by omega) (by omega)
      have r2 := hR a ((a + b) / 2) (by omega) (by omega) (by omega) (by omega)
      simp [h4, E.den, cmpB_gtr, cmpB_leq, ar_add, ar_sub, ar_quo, hw1, hw2, hd, hw3, r1, r2]
      omega
    · simp [h4, E.den, cmpB_gtr, ar_sub, hw1])
/-- the distance, out of its parts' answers -/
def dI (gs gr : List U → Option (List U)) (a b c d : Int) : Int := valI gr [.int (valI gs [.int a, .int b, .int c, .int d])]
theorem one_distance {gs gr : List U → Option (List U)} (o1 : FnOK Try.prog n_impl_Point_square sg_impl_Point_square gs) (o2 : FnOK Try.prog n_impl_root sg_impl_root gr)
    (hs : ∀ a b c d : Int, gs [.int a, .int b, .int c, .int d] = some [.int (valI gs [.int a, .int b, .int c, .int d])]) (hr : ∀ a : Int, gr [.int a] = some [.int (valI gr [.int a])]) :
    ∃ g, FnOK Try.prog n_impl_distance sg_impl_distance g ∧ ∀ a b c d : Int, g [.int a, .int b, .int c, .int d] = some [.int (dI gs gr a b c d)] := by
  obtain ⟨g, h1, h2⟩ := one_fun (n1 := 4) (Pre := fun us => ∃ a b c d : Int, us = [.int a, .int b, .int c, .int d]) (f := fun us => [.int (valI gr [.int (valI gs us)])]) (mk_impl_distance o1 o2) (by
    rintro us ⟨a, b, c, d, rfl⟩
    simp [Ans, pr_impl_distance, wpP, E.den, hs, hr])
  exact ⟨g, h1, fun a b c d => h2 _ ⟨a, b, c, d, rfl⟩⟩
def g_first : List U → Option (List U)
  | [_, .lst (r :: _)] => match r with | [a, b] => some [a, b] | _ => none
  | _ => none
theorem ok_first : FnOK Try.prog n_impl_Stroke_first sg_impl_Stroke_first g_first := mk_impl_Stroke_first fun us rs hl h => by
  unfold g_first at h
  split at h
  · split at h
    · cases h
      simp [pr_impl_Stroke_first, wpP, E.den, cmpB_leq, cmpB_lss]
    · cases h
  · cases h
open Classical in
noncomputable def g_last : List U → Option (List U)
  | [.int _, .lst l] => if Pts l ∧ 1 ≤ l.length then some [(l.getD (l.length - 1) []).getD 0 default, (l.getD (l.length - 1) []).getD 1 default] else none
  | _ => none
theorem ok_last : FnOK Try.prog n_impl_Stroke_last sg_impl_Stroke_last g_last := mk_impl_Stroke_last fun us rs hl h => by
  unfold g_last at h
  split at h
  · rename_i p l
    split at h
    · rename_i hw
      cases h
      have hwl := hw.1.2
      have hwm : IntKind.i64.wrap ((l.length : Int) - 1) = (l.length : Int) - 1 := by rw [wrap64] <;> omega
      have e1 : ((l.length : Int) - 1).toNat = l.length - 1 := by omega
      simp [pr_impl_Stroke_last, wpP, E.den, cmpB_leq, cmpB_lss, ar_sub, hwm, e1]
      omega
    · cases h
  · cases h
def px (l : List (List U)) (j : Nat) : Int := ((l.getD j []).getD 0 default).I
def py (l : List (List U)) (j : Nat) : Int := ((l.getD j []).getD 1 default).I
theorem pts_at {l : List (List U)} (h : Pts l) {j : Nat} (hj : j < l.length) : l[j] = [.int (px l j), .int (py l j)] := by
  obtain ⟨a, b, e⟩ := h.1 _ (List.getElem_mem hj)
  unfold px py
  simp [hj, e]
theorem first_pts {m : List (List U)} {p : Int} (hm : Pts m) (h : 1 ≤ m.length) : g_first [.int p, .lst m] = some [.int (px m 0), .int (py m 0)] := by
  cases m with
  | nil => simp at h
  | cons r m' =>
    obtain ⟨a, b, e⟩ := hm.1 r List.mem_cons_self
    subst e; rfl
abbrev D4 := Int → Int → Int → Int → Int
def idF (D : D4) (s : Int × Int × Int) (r : List U) : Int × Int × Int :=
  let m := (r.getD 1 default).L
  (IntKind.i64.wrap (s.1 + D s.2.1 s.2.2 (px m 0) (py m 0)), px m (m.length - 1), py m (m.length - 1))
/-- strokes of a drawing -/
def Drw (us : List U) : Prop := ∃ l, us = [.lst l] ∧ Sts l ∧ l.all stB = true
theorem drw_at {l : List (List U)} (hw : Sts l) (ha : l.all stB = true) {i : Nat} (h : i < l.length) : ∃ p m, l[i] = [.int p, .lst m] ∧ Pts m ∧ 2 ≤ m.length ∧ lineB m = true := by
  obtain ⟨p, m, e, hm⟩ := hw.1 _ (List.getElem_mem h)
  have := List.all_eq_true.1 ha _ (List.getElem_mem h)
  rw [e] at this
  simp only [stB, Bool.and_eq_true, decide_eq_true_eq] at this
  exact ⟨p, m, e, hm, this.2, this.1.2⟩
theorem tw_idle {gs gr : List U → Option (List U)} (o1 : FnOK Try.prog n_spec_l16Square sg_spec_l16Square gs) (o2 : FnOK Try.prog n_impl_Point_square sg_impl_Point_square gs) (o3 : FnOK Try.prog n_spec_l01Root sg_spec_l01Root gr) (o4 : FnOK Try.prog n_impl_root sg_impl_root gr)
    (hs : ∀ a b c d : Int, gs [.int a, .int b, .int c, .int d] = some [.int (valI gs [.int a, .int b, .int c, .int d])]) (hr : ∀ a : Int, gr [.int a] = some [.int (valI gr [.int a])]) :
    ∃ g, FnOK Try.prog n_spec_l28Idle sg_spec_l28Idle g ∧ FnOK Try.prog n_impl_idle sg_impl_idle g ∧ ∀ us, Drw us → ∃ v : Int, g us = some [.int v] := by
  obtain ⟨gd, o5, hd⟩ := one_distance o2 o4 hs hr
  obtain ⟨g, k1, k2, k3⟩ := twin_fun (n1 := 1) (n2 := 1) (Pre := Drw) (f := fun us => [.int ((us.getD 0 default).L.foldl (idF (dI gs gr)) (0, 0, 0)).1]) (mk_spec_l28Idle o1 o3) (mk_impl_idle ok_first o5 ok_last) (by
    rintro us ⟨l, rfl, hw, ha⟩
    have hwl := hw.2
    simp only [Ans, pr_spec_l28Idle, wpP, E.den, List.map_cons, List.map_nil]
    repeat refine ⟨rfl, ?_⟩
    refine iterP_upto l.length (fun i => [.int ((l.take i).foldl (idF (dI gs gr)) (0, 0, 0)).1, .int i, .int ((l.take i).foldl (idF (dI gs gr)) (0, 0, 0)).2.1, .int ((l.take i).foldl (idF (dI gs gr)) (0, 0, 0)).2.2]) (fun _ => True) trivial fun i hi _ R hR => ?_
    by_cases h1 : i < l.length
    · obtain ⟨p, m, e, hm, h2, _⟩ := drw_at hw ha h1
      have hml := hm.2
      have hR := hR h1 trivial
      have hst := foldl_take (f := idF (dI gs gr)) (b := (0, 0, 0)) h1
      simp only [hst] at hR
      generalize (l.take i).foldl (idF (dI gs gr)) (0, 0, 0) = s at *
      have ei : idF (dI gs gr) s l[i] = (IntKind.i64.wrap (s.1 + dI gs gr s.2.1 s.2.2 (px m 0) (py m 0)), px m (m.length - 1), py m (m.length - 1)) := by rw [e]; rfl
      rw [ei] at hR
      have e0 := pts_at hm (show 0 < m.length by omega)
      have e1 := pts_at hm (show m.length - 1 < m.length by omega)
      have hwr : IntKind.i64.wrap ((i : Int) + 1) = (i : Int) + 1 := by rw [wrap64] <;> omega
      have hwm : IntKind.i64.wrap ((m.length : Int) - 1) = (m.length : Int) - 1 := by rw [wrap64] <;> omega
      have t1 : ((m.length : Int) - 1).toNat = m.length - 1 := by omega
      have t2 : m.length - 1 < m.length := by omega
      have t3 : (0 : Int) < m.length := by omega
      have t4 : (0 : Int) ≤ (m.length : Int) - 1 := by omega
      have t5 : 0 < m.length := by omega
      have hR : R [.int (IntKind.i64.wrap (s.1 + dI gs gr s.2.1 s.2.2 (px m 0) (py m 0))), .int ((i : Int) + 1), .int (px m (m.length - 1)), .int (py m (m.length - 1))] := by simpa using hR
      simp [h1, E.den, cmpB_lss, cmpB_leq, ar_add, ar_sub, e, hs, hr, e0, e1, hwr, hwm, t1, t2, t3, t4, t5]
      exact ⟨by omega, by omega, hR⟩
    · have : i = l.length := by omega
      subst this
      simp [E.den, cmpB_lss]) (by
    rintro us ⟨l, rfl, hw, ha⟩
    have hwl := hw.2
    simp only [Ans, pr_impl_idle, wpP, E.den, List.map_cons, List.map_nil]
    repeat refine ⟨rfl, ?_⟩
    refine iterP_upto l.length (fun i => [.int ((l.take i).foldl (idF (dI gs gr)) (0, 0, 0)).1, .int i, .int ((l.take i).foldl (idF (dI gs gr)) (0, 0, 0)).2.1, .int ((l.take i).foldl (idF (dI gs gr)) (0, 0, 0)).2.2]) (fun _ => True) trivial fun i hi _ R hR => ?_
    by_cases h1 : i < l.length
    · obtain ⟨p, m, e, hm, h2, _⟩ := drw_at hw ha h1
      have hml := hm.2
      have hR := hR h1 trivial
      have hst := foldl_take (f := idF (dI gs gr)) (b := (0, 0, 0)) h1
      simp only [hst] at hR
      generalize (l.take i).foldl (idF (dI gs gr)) (0, 0, 0) = s at *
      have ei : idF (dI gs gr) s l[i] = (IntKind.i64.wrap (s.1 + dI gs gr s.2.1 s.2.2 (px m 0) (py m 0)), px m (m.length - 1), py m (m.length - 1)) := by rw [e]; rfl
      rw [ei] at hR
      have f0 : g_first [.int p, .lst m] = some [.int (px m 0), .int (py m 0)] := first_pts hm (by omega)
      have f1 : g_last [.int p, .lst m] = some [.int (px m (m.length - 1)), .int (py m (m.length - 1))] := by
        have e1 := pts_at hm (show m.length - 1 < m.length by omega)
        have t2 : m.length - 1 < m.length := by omega
        simp only [g_last]
        rw [if_pos ⟨hm, by omega⟩]
        simp [t2, e1]
      have hwr : IntKind.i64.wrap ((i : Int) + 1) = (i : Int) + 1 := by rw [wrap64] <;> omega
      have hR : R [.int (IntKind.i64.wrap (s.1 + dI gs gr s.2.1 s.2.2 (px m 0) (py m 0))), .int ((i : Int) + 1), .int (px m (m.length - 1)), .int (py m (m.length - 1))] := by simpa using hR
      simp [h1, E.den, cmpB_lss, cmpB_leq, ar_add, e, f0, f1, hd, hwr]
      exact hR
    · have : i = l.length := by omega
      subst this
      simp [E.den, cmpB_lss])
  exact ⟨g, k1, k2, fun us hu => ⟨_, k3 us hu⟩⟩
theorem tw_IdleWay : Twin Try.prog n_spec_IdleWay sg_spec_IdleWay n_impl_IdleWay sg_impl_IdleWay IsSts (fun _ rs => Two rs) := by
  obtain ⟨gs, o1, o2, t1⟩ := tw_square
  obtain ⟨gr, o3, o4, t2⟩ := tw_root
  obtain ⟨g, k1, k2, k3⟩ := tw_idle o1 o2 o3 o4 (fun a b c d => valI_of (t1 _ ⟨a, b, c, d, rfl⟩)) (fun a => valI_of (t2 _ ⟨a, rfl⟩))
  refine twin_of (mk_spec_IdleWay ok_l28Code k1) (mk_impl_IdleWay ok_drawing k2) [(82, 84), (92, 93)] (hm_cons rfl (hm_cons rfl hm_nil)) (by kernel_rfl) ?_
  rintro us ⟨l, rfl, hw⟩
  simp only [pr_spec_IdleWay, wpP]
  by_cases hc : codeV l = 0
  · have ha : l.all stB = true := by
      unfold codeV at hc
      split at hc
      · assumption
      · cases hc
    obtain ⟨v, h1⟩ := k3 [.lst l] ⟨l, rfl, hw, ha⟩
    simp [E.den, g_code, hw, cmpB_neq, hc, h1, Two]
  · simp [E.den, g_code, hw, cmpB_neq, hc, Two]
theorem ok_lawIdle : FnOK Try.prog n_laws_FnExactIdleWay sg_laws_FnExactIdleWay g_lawS := by
  obtain ⟨g, ok1, ok2, tot⟩ := tw_IdleWay
  refine mk_laws_FnExactIdleWay ok_szStrokeS ok_toStrokeS ok1 ok2 ok_eqStrokeS fun us rs hl h => ?_
  unfold g_lawS at h
  split at h
  · rename_i l
    split at h
    · rename_i hw
      cases h
      simp only [pr_laws_FnExactIdleWay, wpP]
      by_cases h1 : 0 ≤ szSts 1048576 l
      · have hS := szSts_ok hw h1
        obtain ⟨rs, e, a, b, rfl⟩ := tot [.lst l] ⟨l, rfl, hS⟩
        simp [E.den, cmpB_lss, cmpB_neq, g_szSts, hw, g_idS, hS, e, g_sameS]
        omega
      · have h2 : szSts 1048576 l < 0 := by omega
        simp [E.den, cmpB_lss, g_szSts, hw, h2]
    · cases h
  · cases h

-- lengths
def lenA (D : D4) (l : List (List U)) : Nat → Int
  | 0 => 0
  | j + 1 => IntKind.i64.wrap (lenA D l j + D (px l j) (py l j) (px l (j + 1)) (py l (j + 1)))
def lenV (D : D4) (l : List (List U)) : Int := lenA D l (l.length - 1)
section
variable {gs gr : List U → Option (List U)}
theorem one_LineLength (o1 : FnOK Try.prog n_spec_l16Square sg_spec_l16Square gs) (o3 : FnOK Try.prog n_spec_l01Root sg_spec_l01Root gr)
    (hs : ∀ a b c d : Int, gs [.int a, .int b, .int c, .int d] = some [.int (valI gs [.int a, .int b, .int c, .int d])]) (hr : ∀ a : Int, gr [.int a] = some [.int (valI gr [.int a])]) :
    ∃ g, FnOK Try.prog n_spec_LineLength sg_spec_LineLength g ∧ ∀ l, Pts l → lineB l = true → g [.lst l] = some [.int (lenV (dI gs gr) l), .int 0] := by
  obtain ⟨g, h1, h2⟩ := one_fun (n1 := 1) (Pre := fun us => ∃ l, us = [.lst l] ∧ Pts l ∧ lineB l = true) (f := fun us => [.int (lenV (dI gs gr) (us.getD 0 default).L), .int 0]) (mk_spec_LineLength ok_sIsLine o1 o3) (by
    rintro us ⟨l, rfl, hw, hb⟩
    have hwl := hw.2
    simp only [Ans, pr_spec_LineLength, wpP]
    refine ⟨rfl, rfl, [.bool true], by simp [g_line, hw, hb, E.den], rfl, ?_⟩
    repeat refine ⟨rfl, ?_⟩
    refine .inr ⟨rfl, ?_⟩
    repeat refine ⟨rfl, ?_⟩
    refine iterP_upto (l.length - 1) (fun j => [.int (lenA (dI gs gr) l j), .int ((j : Int) + 1)]) (fun _ => True) trivial fun j hj _ R hR => ?_
    by_cases h1 : j + 1 < l.length
    · have hR := hR (by omega) trivial
      have e0 := pts_at hw (show j < l.length by omega)
      have e1 := pts_at hw h1
      have hwr : IntKind.i64.wrap ((j : Int) + 1 + 1) = (j : Int) + 1 + 1 := by rw [wrap64] <;> omega
      have hwj : IntKind.i64.wrap (j : Int) = (j : Int) := by rw [wrap64] <;> omega
      have t1 : ((j : Int) + 1).toNat = j + 1 := by omega
      have t2 : (j : Int) + 1 < l.length := by omega
      have t3 : (j : Int) < l.length := by omega
      have t4 : j < l.length := by omega
      have t5 : (0 : Int) ≤ (j : Int) + 1 := by omega
      simp [h1, E.den, cmpB_lss, cmpB_leq, ar_add, ar_sub, hs, hr, e0, e1, hwr, hwj, t1, t2, t3, t4, t5]
      simpa [lenA, dI] using hR
    · have t2 : ¬ (j : Int) + 1 < l.length := by omega
      have t3 : j = l.length - 1 := by omega
      simp [E.den, cmpB_lss, t2, lenV]
      rw [t3])
  exact ⟨g, h1, fun l a b => h2 _ ⟨l, rfl, a, b⟩⟩
theorem one_length (o1 : FnOK Try.prog n_impl_Point_square sg_impl_Point_square gs) (o3 : FnOK Try.prog n_impl_root sg_impl_root gr)
    (hs : ∀ a b c d : Int, gs [.int a, .int b, .int c, .int d] = some [.int (valI gs [.int a, .int b, .int c, .int d])]) (hr : ∀ a : Int, gr [.int a] = some [.int (valI gr [.int a])]) :
    ∃ g, FnOK Try.prog n_impl_length sg_impl_length g ∧ ∀ l, Pts l → g [.lst l] = some [.int (lenV (dI gs gr) l)] := by
  obtain ⟨g, h1, h2⟩ := one_fun (n1 := 1) (Pre := fun us => ∃ l, us = [.lst l] ∧ Pts l) (f := fun us => [.int (lenV (dI gs gr) (us.getD 0 default).L)]) (mk_impl_length o1 o3) (by
    rintro us ⟨l, rfl, hw⟩
    have hwl := hw.2
    simp only [Ans, pr_impl_length, wpP]
    repeat refine ⟨rfl, ?_⟩
    refine iterP_upto (l.length - 1) (fun j => [.int (lenA (dI gs gr) l j), .int ((j : Int) + 1)]) (fun _ => True) trivial fun j hj _ R hR => ?_
    by_cases h1 : j + 1 < l.length
    · have hR := hR (by omega) trivial
      have e0 := pts_at hw (show j < l.length by omega)
      have e1 := pts_at hw h1
      have hwr : IntKind.i64.wrap ((j : Int) + 1 + 1) = (j : Int) + 1 + 1 := by rw [wrap64] <;> omega
      have hwj : IntKind.i64.wrap (j : Int) = (j : Int) := by rw [wrap64] <;> omega
      have t1 : ((j : Int) + 1).toNat = j + 1 := by omega
      have t2 : (j : Int) + 1 < l.length := by omega
      have t3 : (j : Int) < l.length := by omega
      have t4 : j < l.length := by omega
      have t5 : (0 : Int) ≤ (j : Int) + 1 := by omega
      simp [h1, E.den, cmpB_lss, cmpB_leq, ar_add, ar_sub, hs, hr, e0, e1, hwr, hwj, t1, t2, t3, t4, t5]
      simpa [lenA, dI] using hR
    · have t2 : ¬ (j : Int) + 1 < l.length := by omega
      have t3 : j = l.length - 1 := by omega
      simp [E.den, cmpB_lss, t2, lenV]
      rw [t3])
  exact ⟨g, h1, fun l a => h2 _ ⟨l, rfl, a⟩⟩
end
def drF (L : List (List U) → Int) (s : Int) (r : List U) : Int := IntKind.i64.wrap (s + L (r.getD 1 default).L)
theorem tw_DrawnLength : ∃ g, FnOK Try.prog n_spec_DrawnLength sg_spec_DrawnLength g ∧ FnOK Try.prog n_impl_DrawnLength sg_impl_DrawnLength g ∧ ∀ us, IsSts us → ∃ rs, g us = some rs ∧ Two rs := by
  obtain ⟨gs, o1, o2, t1⟩ := tw_square
  obtain ⟨gr, o3, o4, t2⟩ := tw_root
  have hs := fun a b c d : Int => valI_of (t1 _ ⟨a, b, c, d, rfl⟩)
  have hr := fun a : Int => valI_of (t2 _ ⟨a, rfl⟩)
  obtain ⟨gL, oL, hL⟩ := one_LineLength o1 o3 hs hr
  obtain ⟨gl, ol, hl⟩ := one_length o2 o4 hs hr
  generalize dI gs gr = D at hL hl
  obtain ⟨g, k1, k2, k3⟩ := twin_fun (n1 := 1) (n2 := 1) (Pre := IsSts) (f := fun us => let l := (us.getD 0 default).L; if codeV l = 0 then [.int (l.foldl (drF (lenV D)) 0), .int 0] else [.int 0, .int (codeV l)]) (mk_spec_DrawnLength ok_l28Code oL) (mk_impl_DrawnLength ok_drawing ol) (by
    rintro us ⟨l, rfl, hw⟩
    have hwl := hw.2
    simp only [Ans, pr_spec_DrawnLength, wpP]
    refine ⟨rfl, rfl, [.int (codeV l)], by simp [g_code, hw, E.den], rfl, ?_⟩
    repeat refine ⟨rfl, ?_⟩
    by_cases hc : codeV l = 0
    · have ha : l.all stB = true := by
        unfold codeV at hc
        split at hc
        · assumption
        · cases hc
      refine .inr ⟨by simp [E.den, cmpB_neq, hc], ?_⟩
      repeat refine ⟨rfl, ?_⟩
      refine iterP_upto l.length (fun i => [.int ((l.take i).foldl (drF (lenV D)) 0), .int i]) (fun _ => True) trivial fun i hi _ R hR => ?_
      by_cases h1 : i < l.length
      · obtain ⟨p, m, e, hm, h2, hb⟩ := drw_at hw ha h1
        have hR := hR h1 trivial
        have hst := foldl_take (f := drF (lenV D)) (b := 0) h1
        simp only [hst] at hR
        generalize (l.take i).foldl (drF (lenV D)) 0 = s at *
        have ei : drF (lenV D) s l[i] = IntKind.i64.wrap (s + lenV D m) := by rw [e]; rfl
        rw [ei] at hR
        have hwr : IntKind.i64.wrap ((i : Int) + 1) = (i : Int) + 1 := by rw [wrap64] <;> omega
        have hR : R [.int (IntKind.i64.wrap (s + lenV D m)), .int ((i : Int) + 1)] := by simpa using hR
        have hLm := hL m hm hb
        simp [h1, E.den, cmpB_lss, cmpB_leq, ar_add, e, hLm, hwr, hR]
      · have : i = l.length := by omega
        subst this
        simp [E.den, cmpB_lss, hc]
    · refine .inl ⟨by simp [E.den, cmpB_neq, hc], ?_⟩
      simp [E.den, hc]) (by
    rintro us ⟨l, rfl, hw⟩
    have hwl := hw.2
    simp only [Ans, pr_impl_DrawnLength, wpP]
    refine ⟨rfl, rfl, [.int (codeV l)], by simp [g_code, hw, E.den], rfl, ?_⟩
    repeat refine ⟨rfl, ?_⟩
    by_cases hc : codeV l = 0
    · have ha : l.all stB = true := by
        unfold codeV at hc
        split at hc
        · assumption
        · cases hc
      refine .inr ⟨by simp [E.den, cmpB_neq, hc], ?_⟩
      repeat refine ⟨rfl, ?_⟩
      refine iterP_upto l.length (fun i => [.int ((l.take i).foldl (drF (lenV D)) 0), .int i]) (fun _ => True) trivial fun i hi _ R hR => ?_
      by_cases h1 : i < l.length
      · obtain ⟨p, m, e, hm, h2, hb⟩ := drw_at hw ha h1
        have hR := hR h1 trivial
        have hst := foldl_take (f := drF (lenV D)) (b := 0) h1
        simp only [hst] at hR
        generalize (l.take i).foldl (drF (lenV D)) 0 = s at *
        have ei : drF (lenV D) s l[i] = IntKind.i64.wrap (s + lenV D m) := by rw [e]; rfl
        rw [ei] at hR
        have hwr : IntKind.i64.wrap ((i : Int) + 1) = (i : Int) + 1 := by rw [wrap64] <;> omega
        have hR : R [.int (IntKind.i64.wrap (s + lenV D m)), .int ((i : Int) + 1)] := by simpa using hR
        have hLm := hl m hm
        simp [h1, E.den, cmpB_lss, cmpB_leq, ar_add, e, hLm, hwr, hR]
      · have : i = l.length := by omega
        subst this
        simp [E.den, cmpB_lss, hc]
    · refine .inl ⟨by simp [E.den, cmpB_neq, hc], ?_⟩
      simp [E.den, hc])
  refine ⟨g, k1, k2, fun us hu => ⟨_, k3 us hu, ?_⟩⟩
  simp only
  split
  · exact ⟨_, _, rfl⟩
  · exact ⟨_, _, rfl⟩
theorem ok_lawDrawn : FnOK Try.prog n_laws_FnExactDrawnLength sg_laws_FnExactDrawnLength g_lawS := by
  obtain ⟨g, ok1, ok2, tot⟩ := tw_DrawnLength
  refine mk_laws_FnExactDrawnLength ok_szStrokeS ok_toStrokeS ok1 ok2 ok_eqStrokeS fun us rs hl h => ?_
  unfold g_lawS at h
  split at h
  · rename_i l
    split at h
    · rename_i hw
      cases h
      simp only [pr_laws_FnExactDrawnLength, wpP]
      by_cases h1 : 0 ≤ szSts 1048576 l
      · have hS := szSts_ok hw h1
        obtain ⟨rs, e, a, b, rfl⟩ := tot [.lst l] ⟨l, rfl, hS⟩
        simp [E.den, cmpB_lss, cmpB_neq, g_szSts, hw, g_idS, hS, e, g_sameS]
        omega
      · have h2 : szSts 1048576 l < 0 := by omega
        simp [E.den, cmpB_lss, g_szSts, hw, h2]
    · cases h
  · cases h
end Go.Proofs.Ytjjnllklhcjomaa.Eng
