/- What the functions about strokes compute; the laws on IsDrawing, PenChanges, IdleWay and DrawnLength in plain data. No condition. -/
import Derived.Test.YtjjnllklhcjomaaFnsB
import Derived.Test.YtjjnllklhcjomaaEngY
namespace Go.Proofs.Ytjjnllklhcjomaa.Eng
open Go

def bndI (x lo hi : Int) : Bool := decide (lo ≤ x) && decide (x ≤ hi)
def g_in : List U → Option (List U)
  | [.int x, .int a, .int b] => some [.bool (bndI x a b)]
  | _ => none
theorem ok_l01In : FnOK Try.prog n_spec_l01In sg_spec_l01In g_in := mk_spec_l01In fun us rs hl h => by
  unfold g_in at h
  split at h
  · rename_i x a b
    cases h
    simp only [pr_spec_l01In, wpP]
    by_cases h1 : a ≤ x <;> simp [h1, E.den, cmpB_eql, cmpB_neq, cmpB_lss, cmpB_leq, cmpB_gtr, cmpB_geq, bndI] <;> omega
  · cases h
theorem ok_in : FnOK Try.prog n_impl_in sg_impl_in g_in := mk_impl_in fun us rs hl h => by
  unfold g_in at h
  split at h
  · rename_i x a b
    cases h
    simp only [pr_impl_in, wpP]
    by_cases h1 : a ≤ x <;> simp [h1, E.den, cmpB_eql, cmpB_neq, cmpB_lss, cmpB_leq, cmpB_gtr, cmpB_geq, bndI] <;> omega
  · cases h
def pen (x : Int) : Bool := bndI x 1 8
def spot (x : Int) : Bool := bndI x (-1000000) 1000000
def g_pen : List U → Option (List U)
  | [.int x] => some [.bool (pen x)]
  | _ => none
def g_spot : List U → Option (List U)
  | [.int x] => some [.bool (spot x)]
  | _ => none
def g_point : List U → Option (List U)
  | [.int x, .int y] => some [.bool (spot x && spot y)]
  | _ => none
theorem ok_l28Pen : FnOK Try.prog n_spec_l28Pen sg_spec_l28Pen g_pen := mk_spec_l28Pen ok_l01In fun us rs hl h => by
  unfold g_pen at h
  split at h
  · rename_i x
    cases h
    simp [pr_spec_l28Pen, wpP, E.den, g_in, pen]
  · cases h
theorem ok_isPen : FnOK Try.prog n_impl_isPen sg_impl_isPen g_pen := mk_impl_isPen ok_in fun us rs hl h => by
  unfold g_pen at h
  split at h
  · rename_i x
    cases h
    simp [pr_impl_isPen, wpP, E.den, g_in, pen]
  · cases h
theorem ok_isSpot : FnOK Try.prog n_impl_isSpot sg_impl_isSpot g_spot := mk_impl_isSpot ok_in fun us rs hl h => by
  unfold g_spot at h
  split at h
  · rename_i x
    cases h
    simp [pr_impl_isSpot, wpP, E.den, g_in, spot]
  · cases h
theorem ok_l14Point : FnOK Try.prog n_spec_l14Point sg_spec_l14Point g_point := mk_spec_l14Point ok_l01In fun us rs hl h => by
  unfold g_point at h
  split at h
  · rename_i x y
    cases h
    simp only [pr_spec_l14Point, wpP, spot]
    cases h1 : bndI x (-1000000) 1000000 <;> simp [h1, E.den, g_in]
  · cases h
theorem ok_isPoint : FnOK Try.prog n_impl_isPoint sg_impl_isPoint g_point := mk_impl_isPoint ok_isSpot fun us rs hl h => by
  unfold g_point at h
  split at h
  · rename_i x y
    cases h
    simp only [pr_impl_isPoint, wpP]
    cases h1 : spot x <;> simp [h1, E.den, g_spot]
  · cases h
def g_npoint : List U → Option (List U)
  | [.int x, .int y] => some [.bool (!(spot x && spot y))]
  | _ => none
theorem ok_IsLine1 : FnOK Try.prog n_impl_IsLine_1 sg_impl_IsLine_1 g_npoint := mk_impl_IsLine_1 ok_isPoint fun us rs hl h => by
  unfold g_npoint at h
  split at h
  · rename_i x y
    cases h
    simp [pr_impl_IsLine_1, wpP, E.den, g_point]
  · cases h

-- lists of points
def ptR (r : List U) : Prop := ∃ x y, r = [.int x, .int y]
def Pts (l : List (List U)) : Prop := (∀ r ∈ l, ptR r) ∧ l.length ≤ 1048576
def ptB (r : List U) : Bool := spot (r.getD 0 default).I && spot (r.getD 1 default).I
theorem all_take {α : Type} {p : α → Bool} {l : List α} {i : Nat} (h : i < l.length) : (l.take (i + 1)).all p = ((l.take i).all p && p l[i]) := by
  rw [List.take_succ_eq_append_getElem h, List.all_append]
  simp only [List.all_cons, List.all_nil, Bool.and_true]
theorem all_false {α : Type} {p : α → Bool} {l : List α} {i : Nat} (h : i < l.length) (hp : p l[i] = false) : l.all p = false := by
  rw [List.all_eq_false]
  exact ⟨l[i], List.getElem_mem h, by simp [hp]⟩
theorem all_end {α : Type} {p : α → Bool} {l : List α} {i : Nat} (h : ¬ i < l.length) (hp : (l.take i).all p = true) : l.all p = true := by
  rwa [List.take_of_length_le (by omega)] at hp

open Classical in
noncomputable def g_points : List U → Option (List U)
  | [.lst l] => if Pts l then some [.bool (l.all ptB)] else none
  | _ => none
theorem ok_l16Points : FnOK Try.prog n_spec_l16Points sg_spec_l16Points g_points := mk_spec_l16Points ok_l14Point fun us rs hl h => by
  unfold g_points at h
  split at h
  · rename_i l
    split at h
    · rename_i hw
      cases h
      simp only [pr_spec_l16Points, wpP, E.den, List.map_cons, List.map_nil]
      repeat refine ⟨rfl, ?_⟩
      refine iterP_upto l.length (fun i => [.int i]) (fun i => (l.take i).all ptB = true) rfl fun i hi hp R hR => ?_
      have hwl := hw.2
      by_cases h1 : i < l.length
      · obtain ⟨a, b, e⟩ := hw.1 _ (List.getElem_mem h1)
        have hall := all_take (p := ptB) h1
        have hc : ptB l[i] = (spot a && spot b) := by rw [e]; rfl
        rw [hp, hc, Bool.true_and] at hall
        cases h2 : (spot a && spot b)
        · have := all_false h1 (hc.trans h2)
          simp [h1, h2, E.den, cmpB_lss, cmpB_leq, g_point, e, this]
        · have hR : R [.int ((i : Int) + 1)] := hR h1 (hall.trans h2)
          have hwr : IntKind.i64.wrap ((i : Int) + 1) = (i : Int) + 1 := by rw [wrap64] <;> omega
          simp [h1, h2, E.den, cmpB_lss, cmpB_leq, ar_add, g_point, e, hwr, hR]
      · have := all_end h1 hp
        simp [h1, E.den, cmpB_lss, cmpB_leq, cmpB_gtr, this]
    · cases h
  · cases h
theorem one_index : ∃ g, FnOK Try.prog n_slices_IndexFuncimpl_Pointimpl_Point sg_slices_IndexFuncimpl_Pointimpl_Point g ∧ ∀ l, Pts l → ∃ v, g [.lst l] = some [.int v] ∧ (l.all ptB = true → v < 0) ∧ (l.all ptB = false → 0 ≤ v) := by
  let Q : List U → List U → Prop := fun us rs => ∀ l, us = [.lst l] → ∃ v, rs = [.int v] ∧ (l.all ptB = true → v < 0) ∧ (l.all ptB = false → 0 ≤ v)
  refine one_of (n := 1) (Pre := fun us => ∃ l, us = [.lst l] ∧ Pts l) (Post := Q) (mk_slices_IndexFuncimpl_Pointimpl_Point ok_IsLine1) ?_ |>.imp fun g hg => ⟨hg.1, fun l hl => ?_⟩
  · rintro us ⟨l, rfl, hw⟩
    simp only [pr_slices_IndexFuncimpl_Pointimpl_Point, wpP, E.den, List.map_cons, List.map_nil]
    repeat refine ⟨rfl, ?_⟩
    refine iterP_upto l.length (fun i => [.int i]) (fun i => (l.take i).all ptB = true) rfl fun i hi hp R hR => ?_
    have hwl := hw.2
    by_cases h1 : i < l.length
    · obtain ⟨a, b, e⟩ := hw.1 _ (List.getElem_mem h1)
      have hall := all_take (p := ptB) h1
      have hc : ptB l[i] = (spot a && spot b) := by rw [e]; rfl
      rw [hp, hc, Bool.true_and] at hall
      cases h2 : (spot a && spot b)
      · have := all_false h1 (hc.trans h2)
        simp [h1, h2, E.den, cmpB_lss, cmpB_leq, g_npoint, e, this, Q, -List.all_eq_true, -List.all_eq_false]
      · have hR : R [.int ((i : Int) + 1)] := hR h1 (hall.trans h2)
        have hwr : IntKind.i64.wrap ((i : Int) + 1) = (i : Int) + 1 := by rw [wrap64] <;> omega
        simp [h1, h2, E.den, cmpB_lss, cmpB_leq, ar_add, g_npoint, e, hwr, hR]
    · have := all_end h1 hp
      simp [h1, E.den, cmpB_lss, cmpB_leq, cmpB_gtr, this, Q, -List.all_eq_true, -List.all_eq_false]
  · obtain ⟨rs, h1, h2⟩ := hg.2 _ ⟨l, rfl, hl⟩
    obtain ⟨v, rfl, h3⟩ := h2 l rfl
    exact ⟨v, h1, h3⟩
open Classical in
noncomputable def g_has : List U → Option (List U)
  | [.lst l] => if Pts l then some [.bool (!l.all ptB)] else none
  | _ => none
theorem ok_contains : FnOK Try.prog n_slices_ContainsFuncimpl_Pointimpl_Point sg_slices_ContainsFuncimpl_Pointimpl_Point g_has := by
  obtain ⟨g, ok, hg⟩ := one_index
  refine mk_slices_ContainsFuncimpl_Pointimpl_Point ok fun us rs hl h => ?_
  unfold g_has at h
  split at h
  · rename_i l
    split at h
    · rename_i hw
      cases h
      obtain ⟨v, h1, h2, h3⟩ := hg l hw
      simp only [pr_slices_ContainsFuncimpl_Pointimpl_Point, wpP]
      cases h4 : l.all ptB
      · simp [E.den, h1, cmpB_geq, h3 h4]
      · simp [E.den, h1, cmpB_geq, h2 h4]
    · cases h
  · cases h
def lineB (l : List (List U)) : Bool := decide (l.length ≤ 200) && l.all ptB
open Classical in
noncomputable def g_line : List U → Option (List U)
  | [.lst l] => if Pts l then some [.bool (lineB l)] else none
  | _ => none
theorem ok_sIsLine : FnOK Try.prog n_spec_IsLine sg_spec_IsLine g_line := mk_spec_IsLine ok_l16Points fun us rs hl h => by
  unfold g_line at h
  split at h
  · rename_i l
    split at h
    · rename_i hw
      cases h
      simp only [pr_spec_IsLine, wpP]
      by_cases h1 : l.length ≤ 200 <;> simp [h1, hw, E.den, g_points, cmpB_leq, lineB] <;> omega
    · cases h
  · cases h
theorem ok_iIsLine : FnOK Try.prog n_impl_IsLine sg_impl_IsLine g_line := mk_impl_IsLine ok_contains fun us rs hl h => by
  unfold g_line at h
  split at h
  · rename_i l
    split at h
    · rename_i hw
      cases h
      simp only [pr_impl_IsLine, wpP]
      by_cases h1 : l.length ≤ 200 <;> simp [h1, hw, E.den, g_has, cmpB_leq, lineB] <;> omega
    · cases h
  · cases h

-- lists of strokes
def stR (r : List U) : Prop := ∃ p l, r = [.int p, .lst l] ∧ Pts l
def Sts (l : List (List U)) : Prop := (∀ r ∈ l, stR r) ∧ l.length ≤ 1048576
def stB (r : List U) : Bool := pen (r.getD 0 default).I && lineB (r.getD 1 default).L && decide (2 ≤ (r.getD 1 default).L.length)
def codeV (l : List (List U)) : Int := if l.all stB then if 40 < l.length then 3 else 0 else 1
open Classical in
noncomputable def g_code : List U → Option (List U)
  | [.lst l] => if Sts l then some [.int (codeV l)] else none
  | _ => none
theorem ok_l28Code : FnOK Try.prog n_spec_l28Code sg_spec_l28Code g_code := mk_spec_l28Code ok_l28Pen ok_sIsLine fun us rs hl h => by
  unfold g_code at h
  split at h
  · rename_i l
    split at h
    · rename_i hw
      cases h
      simp only [pr_spec_l28Code, wpP, E.den, List.map_cons, List.map_nil]
      repeat refine ⟨rfl, ?_⟩
      refine iterP_upto l.length (fun i => [.int i]) (fun i => (l.take i).all stB = true) rfl fun i hi hp R hR => ?_
      have hwl := hw.2
      by_cases h1 : i < l.length
      · obtain ⟨p, m, e, hm⟩ := hw.1 _ (List.getElem_mem h1)
        have hall := all_take (p := stB) h1
        have hc : stB l[i] = (pen p && lineB m && decide (2 ≤ m.length)) := by rw [e]; rfl
        rw [hp, hc, Bool.true_and] at hall
        cases h2 : pen p
        · have := all_false h1 (hc.trans (by simp [h2]))
          simp [h1, h2, E.den, cmpB_lss, cmpB_leq, g_pen, e, this, codeV]
        · cases h3 : lineB m
          · have := all_false h1 (hc.trans (by simp [h3]))
            simp [h1, h2, h3, hm, E.den, cmpB_lss, cmpB_leq, g_pen, g_line, e, this, codeV]
          · by_cases h4 : 2 ≤ m.length
            · have hR : R [.int ((i : Int) + 1)] := hR h1 (hall.trans (by simp [h2, h3, h4]))
              have hwr : IntKind.i64.wrap ((i : Int) + 1) = (i : Int) + 1 := by rw [wrap64] <;> omega
              have h4' : ¬ ((m.length : Int) < 2) := by omega
              simp [h1, h2, h3, h4', hm, E.den, cmpB_lss, cmpB_leq, ar_add, g_pen, g_line, e, hwr, hR]
            · have := all_false h1 (hc.trans (by simp [h4]))
              have h4' : ((m.length : Int) < 2) := by omega
              simp [h1, h2, h3, h4', hm, E.den, cmpB_lss, cmpB_leq, g_pen, g_line, e, this, codeV]
      · have := all_end h1 hp
        by_cases h2 : 40 < l.length <;> simp [h1, h2, E.den, cmpB_lss, cmpB_leq, cmpB_gtr, this, codeV] <;> omega
    · cases h
  · cases h
theorem ok_drawing : FnOK Try.prog n_impl_drawing sg_impl_drawing g_code := mk_impl_drawing ok_isPen ok_iIsLine fun us rs hl h => by
  unfold g_code at h
  split at h
  · rename_i l
    split at h
    · rename_i hw
      cases h
      simp only [pr_impl_drawing, wpP, E.den, List.map_cons, List.map_nil]
      repeat refine ⟨rfl, ?_⟩
      refine iterP_upto l.length (fun i => [.int i]) (fun i => (l.take i).all stB = true) rfl fun i hi hp R hR => ?_
      have hwl := hw.2
      by_cases h1 : i < l.length
      · obtain ⟨p, m, e, hm⟩ := hw.1 _ (List.getElem_mem h1)
        have hall := all_take (p := stB) h1
        have hc : stB l[i] = (pen p && lineB m && decide (2 ≤ m.length)) := by rw [e]; rfl
        rw [hp, hc, Bool.true_and] at hall
        cases h2 : pen p
        · have := all_false h1 (hc.trans (by simp [h2]))
          simp [h1, h2, E.den, cmpB_lss, cmpB_leq, g_pen, e, this, codeV]
        · cases h3 : lineB m
          · have := all_false h1 (hc.trans (by simp [h3]))
            simp [h1, h2, h3, hm, E.den, cmpB_lss, cmpB_leq, g_pen, g_line, e, this, codeV]
          · by_cases h4 : 2 ≤ m.length
            · have hR : R [.int ((i : Int) + 1)] := hR h1 (hall.trans (by simp [h2, h3, h4]))
              have hwr : IntKind.i64.wrap ((i : Int) + 1) = (i : Int) + 1 := by rw [wrap64] <;> omega
              have h4' : ¬ ((m.length : Int) < 2) := by omega
              simp [h1, h2, h3, h4', hm, E.den, cmpB_lss, cmpB_leq, ar_add, g_pen, g_line, e, hwr, hR]
            · have := all_false h1 (hc.trans (by simp [h4]))
              have h4' : ((m.length : Int) < 2) := by omega
              simp [h1, h2, h3, h4', hm, E.den, cmpB_lss, cmpB_leq, g_pen, g_line, e, this, codeV]
      · have := all_end h1 hp
        by_cases h2 : 40 < l.length <;> simp [h1, h2, E.den, cmpB_lss, cmpB_leq, cmpB_gtr, this, codeV] <;> omega
    · cases h
  · cases h

-- the law's own helpers: sizes
def szP (k : Int) (l : List (List U)) : Int := if k - l.length < 0 then -1 else k - l.length
def szF (k : Int) (r : List U) : Int := if k < 0 then -1 else szP k (r.getD 1 default).L
def Big (l : List (List U)) : Prop := l.length ≤ 9223372036854775807
/-- strokes of any size -/
def stW (r : List U) : Prop := ∃ p m, r = [.int p, .lst m] ∧ (∀ q ∈ m, ptR q) ∧ Big m
def StW (l : List (List U)) : Prop := (∀ r ∈ l, stW r) ∧ Big l
theorem szP_le {k : Int} {l : List (List U)} (h : 0 ≤ k) : szP k l ≤ k ∧ -1 ≤ szP k l ∧ (0 ≤ szP k l → (l.length : Int) ≤ k) := by
  unfold szP; split <;> omega
theorem szF_neg : ∀ (l : List (List U)), l.foldl szF (-1) = -1
  | [] => rfl
  | r :: l => by
    have : szF (-1) r = -1 := rfl
    rw [List.foldl_cons, this]; exact szF_neg l
theorem szF_le : ∀ (l : List (List U)) (k : Int), 0 ≤ k → l.foldl szF k ≤ k ∧ -1 ≤ l.foldl szF k ∧ (0 ≤ l.foldl szF k → ∀ r ∈ l, (((r.getD 1 default).L.length : Nat) : Int) ≤ k)
  | [], k, hk => ⟨Int.le_refl _, by simp only [List.foldl_nil]; omega, fun _ r hr => by simp at hr⟩
  | r :: l, k, hk => by
    rw [List.foldl_cons]
    have h1 : szF k r = szP k (r.getD 1 default).L := by unfold szF; rw [if_neg (by omega)]
    obtain ⟨h2, h3, h4⟩ := szP_le (l := (r.getD 1 default).L) hk
    rw [h1]
    by_cases hn : 0 ≤ szP k (r.getD 1 default).L
    · obtain ⟨h5, h6, h7⟩ := szF_le l _ hn
      refine ⟨by omega, h6, fun h8 q hq => ?_⟩
      rcases List.mem_cons.1 hq with rfl | hq
      · exact h4 hn
      · have := h7 h8 q hq; omega
    · have : szP k (r.getD 1 default).L = -1 := by omega
      rw [this, szF_neg]
      exact ⟨by omega, by omega, fun h8 => by omega⟩
open Classical in
noncomputable def g_szP : List U → Option (List U)
  | [.lst l, .int k] => if Big l ∧ 0 ≤ k ∧ k ≤ 1048576 then some [.int (szP k l)] else none
  | _ => none
theorem ok_szPointS : FnOK Try.prog n_laws_szPointS sg_laws_szPointS g_szP := mk_laws_szPointS fun us rs hl h => by
  unfold g_szP at h
  split at h
  · rename_i l k
    split at h
    · rename_i hw
      cases h
      have hb := hw.1
      unfold Big at hb
      have hwr : IntKind.i64.wrap (k - l.length) = k - l.length := by rw [wrap64] <;> omega
      simp only [pr_laws_szPointS, wpP, szP]
      by_cases h1 : k - l.length < 0 <;> simp [h1, E.den, cmpB_lss, ar_sub, hwr]
    · cases h
  · cases h
open Classical in
noncomputable def g_szSt : List U → Option (List U)
  | [.int _, .lst l, .int k] => if Big l ∧ 0 ≤ k ∧ k ≤ 1048576 then some [.int (szP k l)] else none
  | _ => none
theorem ok_szStroke : FnOK Try.prog n_laws_szStroke sg_laws_szStroke g_szSt := mk_laws_szStroke ok_szPointS fun us rs hl h => by
  unfold g_szSt at h
  split at h
  · rename_i p l k
    split at h
    · rename_i hw
      cases h
      simp only [pr_laws_szStroke, wpP]
      have h2 := szP_le (l := l) hw.2.1
      by_cases h1 : szP k l < 0
      · have : szP k l = -1 := by omega
        simp [hw, g_szP, E.den, cmpB_lss, this]
      · simp [hw, g_szP, E.den, cmpB_lss]
        omega
    · cases h
  · cases h
def szSts (k : Int) (l : List (List U)) : Int := if k - l.length < 0 then -1 else l.foldl szF (k - l.length)
open Classical in
noncomputable def g_szSts : List U → Option (List U)
  | [.lst l, .int k] => if StW l ∧ 0 ≤ k ∧ k ≤ 1048576 then some [.int (szSts k l)] else none
  | _ => none
theorem foldl_take {α β : Type} {f : β → α → β} {b : β} {l : List α} {i : Nat} (h : i < l.length) : (l.take (i + 1)).foldl f b = f ((l.take i).foldl f b) l[i] := by
  rw [List.take_succ_eq_append_getElem h, List.foldl_append]; rfl
theorem foldl_brk {α β : Type} {f : β → α → β} {b : β} {l : List α} (i : Nat) : l.foldl f b = (l.drop i).foldl f ((l.take i).foldl f b) := by
  rw [← List.foldl_append, List.take_append_drop]
theorem ok_szStrokeS : FnOK Try.prog n_laws_szStrokeS sg_laws_szStrokeS g_szSts := mk_laws_szStrokeS ok_szStroke fun us rs hl h => by
  unfold g_szSts at h
  split at h
  · rename_i l k
    split at h
    · rename_i hw
      cases h
      obtain ⟨⟨hr, hb⟩, hk0, hk1⟩ := hw
      unfold Big at hb
      have hwr : IntKind.i64.wrap (k - l.length) = k - l.length := by rw [wrap64] <;> omega
      simp only [pr_laws_szStrokeS, wpP, szSts]
      by_cases h1 : k - l.length < 0
      · simp [h1, E.den, cmpB_lss, ar_sub, hwr]
      · repeat refine ⟨rfl, ?_⟩
        refine .inr ⟨by simp [h1, E.den, cmpB_lss, ar_sub, hwr], ?_⟩
        repeat refine ⟨rfl, ?_⟩
        have e0 : [E.ar .sub .i64 (.var 1) (.len (.var 0)), .int 0].map (E.den [.lst l, .int k]) = [.int (k - l.length), .int ((0 : Nat) : Int)] := by simp [E.den, ar_sub, hwr]
        rw [e0]
        have hK : ∀ i, (l.take i).foldl szF (k - l.length) ≤ k - l.length ∧ -1 ≤ (l.take i).foldl szF (k - l.length) := fun i => let h := szF_le (l.take i) (k - l.length) (by omega); ⟨h.1, h.2.1⟩
        refine iterP_upto l.length (fun i => [.int ((l.take i).foldl szF (k - l.length)), .int i]) (fun i => 0 ≤ (l.take i).foldl szF (k - l.length)) (by simp only [List.take_zero, List.foldl_nil]; omega) fun i hi hp R hR => ?_
        by_cases h2 : i < l.length
        · obtain ⟨p, m, e, hm, hbm⟩ := hr _ (List.getElem_mem h2)
          have hst := foldl_take (f := szF) (b := k - l.length) h2
          have hKi := hK i
          generalize hKe : (l.take i).foldl szF (k - l.length) = ki at *
          have hs : szF ki l[i] = szP ki m := by unfold szF; rw [if_neg (by omega), e]; rfl
          rw [hs] at hst
          have hwi : IntKind.i64.wrap ((i : Int) + 1) = (i : Int) + 1 := by rw [wrap64] <;> omega
          by_cases h3 : szP ki m < 0
          · have h4 := szP_le (l := m) hp
            have h5 : szP ki m = -1 := by omega
            have h6 : l.foldl szF (k - l.length) = -1 := by
              rw [foldl_brk (i + 1), hst, h5, szF_neg]
            have hc : ki ≤ 1048576 := by omega
            simp [h1, h2, h5, h6, e, hbm, hp, hc, E.den, cmpB_lss, cmpB_leq, g_szSt]
          · have hR := hR h2 (by rw [hst]; omega)
            rw [hst] at hR
            have hc : ki ≤ 1048576 := by omega
            simp [h1, h2, h3, e, hbm, hp, hc, E.den, cmpB_lss, cmpB_leq, ar_add, g_szSt, hwi]
            exact ⟨by omega, by simpa using hR⟩
        · have : i = l.length := by omega
          subst this
          simp [h1, E.den, cmpB_lss]
    · cases h
  · cases h
theorem szSts_ok {l : List (List U)} (hw : StW l) (h : 0 ≤ szSts 1048576 l) : Sts l := by
  unfold szSts at h
  split at h
  · omega
  · rename_i h1
    have h2 := szF_le l (1048576 - l.length) (by omega)
    refine ⟨fun r hr => ?_, by omega⟩
    obtain ⟨p, m, e, hm, _⟩ := hw.1 r hr
    have := h2.2.2 h r hr
    refine ⟨p, m, e, hm, ?_⟩
    rw [e] at this
    have e2 : (([U.int p, U.lst m] : List U).getD 1 default).L = m := rfl
    rw [e2] at this
    omega

-- copies
def g_two : List U → Option (List U)
  | [a, b] => some [a, b]
  | _ => none
theorem ok_toPoint : FnOK Try.prog n_laws_toPoint sg_laws_toPoint g_two := mk_laws_toPoint fun us rs hl h => by
  unfold g_two at h
  split at h
  · cases h
    simp [pr_laws_toPoint, wpP, E.den]
  · cases h
open Classical in
noncomputable def g_idP : List U → Option (List U)
  | [.lst l] => if Pts l then some [.lst l] else none
  | _ => none
theorem ok_toPointS : FnOK Try.prog n_laws_toPointS sg_laws_toPointS g_idP := mk_laws_toPointS ok_toPoint fun us rs hl h => by
  unfold g_idP at h
  split at h
  · rename_i l
    split at h
    · rename_i hw
      cases h
      have hwl := hw.2
      simp only [pr_laws_toPointS, wpP, E.den, List.map_cons, List.map_nil]
      refine ⟨rfl, rfl, by simp [cmpB_leq], by simp [cmpB_leq]; omega, ?_⟩
      repeat refine ⟨rfl, ?_⟩
      refine iterP_upto l.length (fun i => [.int i, .lst (l.take i ++ List.replicate (l.length - i) [.int 0, .int 0])]) (fun i => True) trivial fun i hi _ R hR => ?_
      by_cases h1 : i < l.length
      · obtain ⟨a, b, e⟩ := hw.1 _ (List.getElem_mem h1)
        have hR := hR h1 trivial
        have hwr : IntKind.i64.wrap ((i : Int) + 1) = (i : Int) + 1 := by rw [wrap64] <;> omega
        have hcp := copy_step (f := fun r => (r.set 0 (.int a)).set 1 (.int b)) (z := [.int 0, .int 0]) rfl h1 (by simp [h1, e])
        rw [← hcp] at hR
        simp [h1, E.den, cmpB_lss, cmpB_leq, ar_add, g_two, e, hwr, List.modify_modify_eq, Function.comp_def]
        exact ⟨by omega, hR⟩
      · have : i = l.length := by omega
        subst this
        simp [E.den, cmpB_lss, cmpB_leq]
    · cases h
  · cases h
open Classical in
noncomputable def g_idS1 : List U → Option (List U)
  | [.int p, .lst l] => if Pts l then some [.int p, .lst l] else none
  | _ => none
theorem ok_toStroke : FnOK Try.prog n_laws_toStroke sg_laws_toStroke g_idS1 := mk_laws_toStroke ok_toPointS fun us rs hl h => by
  unfold g_idS1 at h
  split at h
  · rename_i p l
    split at h
    · rename_i hw
      cases h
      simp [pr_laws_toStroke, wpP, E.den, g_idP, hw]
    · cases h
  · cases h
open Classical in
noncomputable def g_idS : List U → Option (List U)
  | [.lst l] => if Sts l then some [.lst l] else none
  | _ => none
theorem ok_toStrokeS : FnOK Try.prog n_laws_toStrokeS sg_laws_toStrokeS g_idS := mk_laws_toStrokeS ok_toStroke fun us rs hl h => by
  unfold g_idS at h
  split at h
  · rename_i l
    split at h
    · rename_i hw
      cases h
      have hwl := hw.2
      simp only [pr_laws_toStrokeS, wpP, E.den, List.map_cons, List.map_nil]
      refine ⟨rfl, rfl, by simp [cmpB_leq], by simp [cmpB_leq]; omega, ?_⟩
      repeat refine ⟨rfl, ?_⟩
      refine iterP_upto l.length (fun i => [.int i, .lst (l.take i ++ List.replicate (l.length - i) [.int 0, .lst []])]) (fun i => True) trivial fun i hi _ R hR => ?_
      by_cases h1 : i < l.length
      · obtain ⟨a, b, e, hm⟩ := hw.1 _ (List.getElem_mem h1)
        have hR := hR h1 trivial
        have hwr : IntKind.i64.wrap ((i : Int) + 1) = (i : Int) + 1 := by rw [wrap64] <;> omega
        have hcp := copy_step (f := fun r => (r.set 0 (.int a)).set 1 (.lst b)) (z := [.int 0, .lst []]) rfl h1 (by simp [h1, e])
        rw [← hcp] at hR
        simp [h1, E.den, cmpB_lss, cmpB_leq, ar_add, g_idS1, e, hm, hwr, List.modify_modify_eq, Function.comp_def]
        exact ⟨by omega, hR⟩
      · have : i = l.length := by omega
        subst this
        simp [E.den, cmpB_lss, cmpB_leq]
    · cases h
  · cases h

-- the same
def g_eqP : List U → Option (List U)
  | [.int a, .int b, .int c, .int d] => some [.bool (decide (a = c) && decide (b = d))]
  | _ => none
theorem ok_eqPoint : FnOK Try.prog n_laws_eqPoint sg_laws_eqPoint g_eqP := mk_laws_eqPoint fun us rs hl h => by
  unfold g_eqP at h
  split at h
  · rename_i a b c d
    cases h
    simp only [pr_laws_eqPoint, wpP]
    by_cases h1 : a = c <;> by_cases h2 : b = d <;> simp [h1, h2, E.den, cmpB_neq]
  · cases h
open Classical in
noncomputable def g_samePs : List U → Option (List U)
  | [.lst l, .lst l'] => if Pts l ∧ l = l' then some [.bool true] else none
  | _ => none
theorem ok_eqPointS : FnOK Try.prog n_laws_eqPointS sg_laws_eqPointS g_samePs := mk_laws_eqPointS ok_eqPoint fun us rs hl h => by
  unfold g_samePs at h
  split at h
  · rename_i l l'
    split at h
    · rename_i hw
      cases h
      obtain ⟨hw, he⟩ := hw
      subst he
      have hwl := hw.2
      simp only [pr_laws_eqPointS, wpP, E.den, List.map_cons, List.map_nil]
      repeat refine ⟨rfl, ?_⟩
      refine .inr ⟨by simp [cmpB_neq], ?_⟩
      repeat refine ⟨rfl, ?_⟩
      refine iterP_upto l.length (fun i => [.int i]) (fun i => True) trivial fun i hi _ R hR => ?_
      by_cases h1 : i < l.length
      · obtain ⟨a, b, e⟩ := hw.1 _ (List.getElem_mem h1)
        have hR : R [.int ((i : Int) + 1)] := hR h1 trivial
        have hwr : IntKind.i64.wrap ((i : Int) + 1) = (i : Int) + 1 := by rw [wrap64] <;> omega
        simp [h1, E.den, cmpB_lss, cmpB_leq, ar_add, g_eqP, e, hwr, hR]
      · simp [h1, E.den, cmpB_lss]
    · cases h
  · cases h
open Classical in
noncomputable def g_sameS1 : List U → Option (List U)
  | [.int p, .lst l, .int p', .lst l'] => if Pts l ∧ l = l' ∧ p = p' then some [.bool true] else none
  | _ => none
theorem ok_eqStroke : FnOK Try.prog n_laws_eqStroke sg_laws_eqStroke g_sameS1 := mk_laws_eqStroke ok_eqPointS fun us rs hl h => by
  unfold g_sameS1 at h
  split at h
  · rename_i p l p' l'
    split at h
    · rename_i hw
      cases h
      obtain ⟨hw, rfl, rfl⟩ := hw
      simp [pr_laws_eqStroke, wpP, E.den, cmpB_neq, g_samePs, hw]
    · cases h
  · cases h
open Classical in
noncomputable def g_sameS : List U → Option (List U)
  | [.lst l, .lst l'] => if Sts l ∧ l = l' then some [.bool true] else none
  | _ => none
theorem ok_eqStrokeS : FnOK Try.prog n_laws_eqStrokeS sg_laws_eqStrokeS g_sameS := mk_laws_eqStrokeS ok_eqStroke fun us rs hl h => by
  unfold g_sameS at h
  split at h
  · rename_i l l'
    split at h
    · rename_i hw
      cases h
      obtain ⟨hw, he⟩ := hw
      subst he
      have hwl := hw.2
      simp only [pr_laws_eqStrokeS, wpP, E.den, List.map_cons, List.map_nil]
      repeat refine ⟨rfl, ?_⟩
      refine .inr ⟨by simp [cmpB_neq], ?_⟩
      repeat refine ⟨rfl, ?_⟩
      refine iterP_upto l.length (fun i => [.int i]) (fun i => True) trivial fun i hi _ R hR => ?_
      by_cases h1 : i < l.length
      · obtain ⟨a, b, e, hm⟩ := hw.1 _ (List.getElem_mem h1)
        have hR : R [.int ((i : Int) + 1)] := hR h1 trivial
        have hwr : IntKind.i64.wrap ((i : Int) + 1) = (i : Int) + 1 := by rw [wrap64] <;> omega
        simp [h1, E.den, cmpB_lss, cmpB_leq, ar_add, g_sameS1, e, hm, hwr, hR]
      · simp [h1, E.den, cmpB_lss]
    · cases h
  · cases h

-- IsDrawing
open Classical in
noncomputable def g_drawing : List U → Option (List U)
  | [.lst l] => if Sts l then some [.bool (decide (codeV l = 0))] else none
  | _ => none
theorem ok_sIsDrawing : FnOK Try.prog n_spec_IsDrawing sg_spec_IsDrawing g_drawing := mk_spec_IsDrawing ok_l28Code fun us rs hl h => by
  unfold g_drawing at h
  split at h
  · rename_i l
    split at h
    · rename_i hw
      cases h
      simp [pr_spec_IsDrawing, wpP, E.den, g_code, hw, cmpB_eql]
    · cases h
  · cases h
theorem ok_iIsDrawing : FnOK Try.prog n_impl_IsDrawing sg_impl_IsDrawing g_drawing := mk_impl_IsDrawing ok_drawing fun us rs hl h => by
  unfold g_drawing at h
  split at h
  · rename_i l
    split at h
    · rename_i hw
      cases h
      simp [pr_impl_IsDrawing, wpP, E.den, g_code, hw, cmpB_eql]
    · cases h
  · cases h
open Classical in
/-- a law on strokes answers true -/
noncomputable def g_lawS : List U → Option (List U)
  | [.lst l] => if StW l then some [.bool true] else none
  | _ => none
theorem ok_lawDrawing : FnOK Try.prog n_laws_FnExactIsDrawing sg_laws_FnExactIsDrawing g_lawS := mk_laws_FnExactIsDrawing ok_szStrokeS ok_toStrokeS ok_sIsDrawing ok_iIsDrawing ok_eqStrokeS fun us rs hl h => by
  unfold g_lawS at h
  split at h
  · rename_i l
    split at h
    · rename_i hw
      cases h
      simp only [pr_laws_FnExactIsDrawing, wpP]
      by_cases h1 : 0 ≤ szSts 1048576 l
      · have hS := szSts_ok hw h1
        have h2 : ¬ szSts 1048576 l < 0 := by omega
        simp [E.den, cmpB_lss, g_szSts, hw, g_idS, hS, g_drawing, g_sameS]
        omega
      · have h2 : szSts 1048576 l < 0 := by omega
        simp [E.den, cmpB_lss, g_szSts, hw, h2]
    · cases h
  · cases h
end Go.Proofs.Ytjjnllklhcjomaa.Eng
