/- What the functions about the plotter's commands compute; the law on IsProgram in plain data. No condition. -/
import Derived.Test.YtjjnllklhcjomaaFnsA
import Derived.Test.YtjjnllklhcjomaaEngW
namespace Go.Proofs.Ytjjnllklhcjomaa.Eng
open Go

def bndI (x lo hi : Int) : Bool := decide (lo ≤ x) && decide (x ≤ hi)
def g_in : List U → Option (List U)
  | [.int x, .int a, .int b] => some [.bool (bndI x a b)]
  | _ => none
theorem ok_l01In : FnOK Try.prog n_spec_l01In sg_spec_l01In g_in := mk_spec_l01In fun us rs hl h => by
  unfold g_in at h
  split at h
  · rename_i x a b
    cases h
    simp only [pr_spec_l01In, wpP]
    by_cases h1 : a ≤ x <;> simp [h1, E.den, cmpB_eql, cmpB_neq, cmpB_lss, cmpB_leq, cmpB_gtr, cmpB_geq, bndI] <;> omega
  · cases h
theorem ok_in : FnOK Try.prog n_impl_in sg_impl_in g_in := mk_impl_in fun us rs hl h => by
  unfold g_in at h
  split at h
  · rename_i x a b
    cases h
    simp only [pr_impl_in, wpP]
    by_cases h1 : a ≤ x <;> simp [h1, E.den, cmpB_eql, cmpB_neq, cmpB_lss, cmpB_leq, cmpB_gtr, cmpB_geq, bndI] <;> omega
  · cases h
def pen (x : Int) : Bool := bndI x 1 8
def spot (x : Int) : Bool := bndI x (-1000000) 1000000
def g_pen : List U → Option (List U)
  | [.int x] => some [.bool (pen x)]
  | _ => none
def g_spot : List U → Option (List U)
  | [.int x] => some [.bool (spot x)]
  | _ => none
def g_point : List U → Option (List U)
  | [.int x, .int y] => some [.bool (spot x && spot y)]
  | _ => none
theorem ok_l28Pen : FnOK Try.prog n_spec_l28Pen sg_spec_l28Pen g_pen := mk_spec_l28Pen ok_l01In fun us rs hl h => by
  unfold g_pen at h
  split at h
  · rename_i x
    cases h
    simp [pr_spec_l28Pen, wpP, E.den, g_in, pen]
  · cases h
theorem ok_isPen : FnOK Try.prog n_impl_isPen sg_impl_isPen g_pen := mk_impl_isPen ok_in fun us rs hl h => by
  unfold g_pen at h
  split at h
  · rename_i x
    cases h
    simp [pr_impl_isPen, wpP, E.den, g_in, pen]
  · cases h
theorem ok_isSpot : FnOK Try.prog n_impl_isSpot sg_impl_isSpot g_spot := mk_impl_isSpot ok_in fun us rs hl h => by
  unfold g_spot at h
  split at h
  · rename_i x
    cases h
    simp [pr_impl_isSpot, wpP, E.den, g_in, spot]
  · cases h
theorem ok_l14Point : FnOK Try.prog n_spec_l14Point sg_spec_l14Point g_point := mk_spec_l14Point ok_l01In fun us rs hl h => by
  unfold g_point at h
  split at h
  · rename_i x y
    cases h
    simp only [pr_spec_l14Point, wpP, spot]
    cases h1 : bndI x (-1000000) 1000000 <;> simp [h1, E.den, g_in]
  · cases h

/-- a command: what the language lets it be -/
def isCmd (k x y : Int) : Bool := if k = 80 then pen x && decide (y = 0) else if k = 85 ∨ k = 68 then spot x && spot y else false
def g_cmd : List U → Option (List U)
  | [.int k, .int x, .int y] => some [.bool (isCmd k x y)]
  | _ => none
theorem ok_l29Is : FnOK Try.prog n_spec_l29Is sg_spec_l29Is g_cmd := mk_spec_l29Is ok_l28Pen ok_l14Point fun us rs hl h => by
  unfold g_cmd at h
  split at h
  · rename_i k x y
    cases h
    simp only [pr_spec_l29Is, wpP, isCmd]
    by_cases h1 : k = 80
    · cases h2 : pen x <;> simp [h1, h2, E.den, g_pen, cmpB_eql, cmpB_neq, cmpB_lss, cmpB_leq, cmpB_gtr, cmpB_geq]
    · by_cases h2 : k = 85 <;> by_cases h3 : k = 68 <;> simp [h1, h2, h3, E.den, g_point, cmpB_eql, cmpB_neq, cmpB_lss, cmpB_leq, cmpB_gtr, cmpB_geq]
  · cases h
theorem ok_isCommand : FnOK Try.prog n_impl_isCommand sg_impl_isCommand g_cmd := mk_impl_isCommand ok_isPen ok_isSpot fun us rs hl h => by
  unfold g_cmd at h
  split at h
  · rename_i k x y
    cases h
    simp only [pr_impl_isCommand, wpP, isCmd]
    by_cases h1 : k = 80
    · cases h2 : pen x <;> simp [h1, h2, E.den, g_pen, cmpB_eql, cmpB_neq, cmpB_lss, cmpB_leq, cmpB_gtr, cmpB_geq]
    · by_cases h2 : k = 85 <;> by_cases h3 : k = 68 <;> cases h4 : spot x <;> simp [h1, h2, h3, h4, E.den, g_spot, cmpB_eql, cmpB_neq, cmpB_lss, cmpB_leq, cmpB_gtr, cmpB_geq]
  · cases h

/-- a row of three numbers -/
def row3 (r : List U) : Bool := match r with | [.int _, .int _, .int _] => true | _ => false
theorem row3_get {r : List U} (h : row3 r = true) : ∃ a b c, r = [.int a, .int b, .int c] := by
  unfold row3 at h
  split at h
  · exact ⟨_, _, _, rfl⟩
  · cases h
def cmdR (r : List U) : Bool := isCmd (r.getD 0 default).I (r.getD 1 default).I (r.getD 2 default).I
def wellS (l : List (List U)) : Prop := (∀ r ∈ l, row3 r = true) ∧ l.length ≤ 1048576
instance (l : List (List U)) : Decidable (wellS l) := inferInstanceAs (Decidable (_ ∧ _))
def g_code : List U → Option (List U)
  | [.lst l] => if wellS l then some [.int (if l.all cmdR then if l.length > 400 then 3 else 0 else 1)] else none
  | _ => none

theorem all_take {α : Type} {p : α → Bool} {l : List α} {i : Nat} (h : i < l.length) : (l.take (i + 1)).all p = ((l.take i).all p && p l[i]) := by
  rw [List.take_succ_eq_append_getElem h, List.all_append]
  simp only [List.all_cons, List.all_nil, Bool.and_true]
theorem all_false {α : Type} {p : α → Bool} {l : List α} {i : Nat} (h : i < l.length) (hp : p l[i] = false) : l.all p = false := by
  rw [List.all_eq_false]
  exact ⟨l[i], List.getElem_mem h, by simp [hp]⟩
theorem all_end {α : Type} {p : α → Bool} {l : List α} {i : Nat} (h : ¬ i < l.length) (hp : (l.take i).all p = true) : l.all p = true := by
  rwa [List.take_of_length_le (by omega)] at hp

theorem ok_l29Code : FnOK Try.prog n_spec_l29Code sg_spec_l29Code g_code := mk_spec_l29Code ok_l29Is fun us rs hl h => by
  unfold g_code at h
  split at h
  · rename_i l
    split at h
    · rename_i hw
      cases h
      simp only [pr_spec_l29Code, wpP, E.den, List.map_cons, List.map_nil]
      refine ⟨rfl, rfl, rfl, rfl, ?_⟩
      refine iterP_upto l.length (fun i => [.int i]) (fun i => (l.take i).all cmdR = true) rfl fun i hi hp R hR => ?_
      have hwl := hw.2
      by_cases h1 : i < l.length
      · obtain ⟨a, b, c, e⟩ := row3_get (hw.1 _ (List.getElem_mem h1))
        have hall := all_take (p := cmdR) h1
        have hc : cmdR l[i] = isCmd a b c := by rw [e]; rfl
        rw [hp, hc, Bool.true_and] at hall
        cases h2 : isCmd a b c
        · have := all_false h1 (hc.trans h2)
          simp [h1, h2, E.den, cmpB_lss, cmpB_leq, g_cmd, e, this]
        · have hR : R [.int ((i : Int) + 1)] := hR h1 (hall.trans h2)
          have hwr : IntKind.i64.wrap ((i : Int) + 1) = (i : Int) + 1 := by rw [wrap64] <;> omega
          simp [h1, h2, E.den, cmpB_lss, cmpB_leq, ar_add, g_cmd, e, hwr, hR]
      · have := all_end h1 hp
        by_cases h2 : 400 < l.length <;> simp [h1, h2, E.den, cmpB_lss, cmpB_leq, cmpB_gtr, this] <;> omega
    · cases h
  · cases h
def g_are : List U → Option (List U)
  | [.lst l] => if wellS l then some [.bool (l.all cmdR)] else none
  | _ => none
theorem ok_areCommands : FnOK Try.prog n_impl_areCommands sg_impl_areCommands g_are := mk_impl_areCommands ok_isCommand fun us rs hl h => by
  unfold g_are at h
  split at h
  · rename_i l
    split at h
    · rename_i hw
      cases h
      simp only [pr_impl_areCommands, wpP, E.den, List.map_cons, List.map_nil]
      refine ⟨rfl, rfl, rfl, rfl, ?_⟩
      refine iterP_upto l.length (fun i => [.int i]) (fun i => (l.take i).all cmdR = true) rfl fun i hi hp R hR => ?_
      have hwl := hw.2
      by_cases h1 : i < l.length
      · obtain ⟨a, b, c, e⟩ := row3_get (hw.1 _ (List.getElem_mem h1))
        have hall := all_take (p := cmdR) h1
        have hc : cmdR l[i] = isCmd a b c := by rw [e]; rfl
        rw [hp, hc, Bool.true_and] at hall
        cases h2 : isCmd a b c
        · have := all_false h1 (hc.trans h2)
          simp [h1, h2, E.den, cmpB_lss, cmpB_leq, g_cmd, e, this]
        · have hR : R [.int ((i : Int) + 1)] := hR h1 (hall.trans h2)
          have hwr : IntKind.i64.wrap ((i : Int) + 1) = (i : Int) + 1 := by rw [wrap64] <;> omega
          simp [h1, h2, E.den, cmpB_lss, cmpB_leq, ar_add, g_cmd, e, hwr, hR]
      · have := all_end h1 hp
        simp [h1, E.den, cmpB_lss, cmpB_leq, cmpB_gtr, this]
    · cases h
  · cases h
theorem ok_program : FnOK Try.prog n_impl_program sg_impl_program g_code := mk_impl_program ok_areCommands fun us rs hl h => by
  unfold g_code at h
  split at h
  · rename_i l
    split at h
    · rename_i hw
      cases h
      simp only [pr_impl_program, wpP]
      cases h1 : l.all cmdR <;> by_cases h2 : 400 < l.length <;> simp [h1, h2, hw, E.den, g_are, cmpB_gtr] <;> omega
    · cases h
  · cases h
def g_isProgram : List U → Option (List U)
  | [.lst l] => if wellS l then some [.bool (l.all cmdR && decide (l.length ≤ 400))] else none
  | _ => none
theorem ok_sIsProgram : FnOK Try.prog n_spec_IsProgram sg_spec_IsProgram g_isProgram := mk_spec_IsProgram ok_l29Code fun us rs hl h => by
  unfold g_isProgram at h
  split at h
  · rename_i l
    split at h
    · rename_i hw
      cases h
      simp only [pr_spec_IsProgram, wpP]
      cases h1 : l.all cmdR <;> by_cases h2 : 400 < l.length <;> simp [h1, h2, hw, E.den, g_code, cmpB_eql] <;> omega
    · cases h
  · cases h
theorem ok_iIsProgram : FnOK Try.prog n_impl_IsProgram sg_impl_IsProgram g_isProgram := mk_impl_IsProgram ok_program fun us rs hl h => by
  unfold g_isProgram at h
  split at h
  · rename_i l
    split at h
    · rename_i hw
      cases h
      simp only [pr_impl_IsProgram, wpP]
      cases h1 : l.all cmdR <;> by_cases h2 : 400 < l.length <;> simp [h1, h2, hw, E.den, g_code, cmpB_eql] <;> omega
    · cases h
  · cases h

-- the law's own helpers
def g_toCommand : List U → Option (List U)
  | [a, b, c] => some [a, b, c]
  | _ => none
theorem ok_toCommand : FnOK Try.prog n_laws_toCommand sg_laws_toCommand g_toCommand := mk_laws_toCommand fun us rs hl h => by
  unfold g_toCommand at h
  split at h
  · cases h
    simp [pr_laws_toCommand, wpP, E.den]
  · cases h
def g_id : List U → Option (List U)
  | [.lst l] => if wellS l then some [.lst l] else none
  | _ => none
theorem ok_toCommandS : FnOK Try.prog n_laws_toCommandS sg_laws_toCommandS g_id := mk_laws_toCommandS ok_toCommand fun us rs hl h => by
  unfold g_id at h
  split at h
  · rename_i l
    split at h
    · rename_i hw
      cases h
      have hwl := hw.2
      simp only [pr_laws_toCommandS, wpP, E.den, List.map_cons, List.map_nil]
      refine ⟨rfl, rfl, by simp [cmpB_leq], by simp [cmpB_leq]; omega, rfl, rfl, rfl, rfl, ?_⟩
      refine iterP_upto l.length (fun i => [.int i, .lst (l.take i ++ List.replicate (l.length - i) [.int 0, .int 0, .int 0])]) (fun i => True) trivial fun i hi _ R hR => ?_
      by_cases h1 : i < l.length
      · obtain ⟨a, b, c, e⟩ := row3_get (hw.1 _ (List.getElem_mem h1))
        have hR := hR h1 trivial
        have hwr : IntKind.i64.wrap ((i : Int) + 1) = (i : Int) + 1 := by rw [wrap64] <;> omega
        have hcp := copy_step (f := fun r => ((r.set 0 (.int a)).set 1 (.int b)).set 2 (.int c)) (z := [.int 0, .int 0, .int 0]) rfl h1 (by simp [h1, e])
        rw [← hcp] at hR
        simp [h1, E.den, cmpB_lss, cmpB_leq, ar_add, g_toCommand, e, hwr, List.modify_modify_eq, Function.comp_def]
        exact ⟨by omega, hR⟩
      · have : i = l.length := by omega
        subst this
        simp [E.den, cmpB_lss, cmpB_leq]
    · cases h
  · cases h
def g_eq3 : List U → Option (List U)
  | [.int a, .int b, .int c, .int d, .int e, .int f] => some [.bool (decide (a = d) && decide (b = e) && decide (c = f))]
  | _ => none
theorem ok_eqCommand : FnOK Try.prog n_laws_eqCommand sg_laws_eqCommand g_eq3 := mk_laws_eqCommand fun us rs hl h => by
  unfold g_eq3 at h
  split at h
  · rename_i a b c d e f
    cases h
    simp only [pr_laws_eqCommand, wpP]
    by_cases h1 : a = d <;> by_cases h2 : b = e <;> by_cases h3 : c = f <;> simp [h1, h2, h3, E.den, cmpB_neq]
  · cases h
/-- the two hold the same -/
def g_same : List U → Option (List U)
  | [.lst l, .lst l'] => if wellS l ∧ U.sameLL l l' = true then some [.bool true] else none
  | _ => none
theorem ok_eqCommandS : FnOK Try.prog n_laws_eqCommandS sg_laws_eqCommandS g_same := mk_laws_eqCommandS ok_eqCommand fun us rs hl h => by
  unfold g_same at h
  split at h
  · rename_i l l'
    split at h
    · rename_i hw
      cases h
      obtain ⟨hw, he⟩ := hw
      have he := U.sameLL_eq _ _ he
      subst he
      have hwl := hw.2
      simp only [pr_laws_eqCommandS, wpP, E.den, List.map_cons, List.map_nil]
      refine ⟨rfl, rfl, rfl, rfl, .inr ⟨by simp [cmpB_neq], rfl, rfl, rfl, ?_⟩⟩
      refine iterP_upto l.length (fun i => [.int i]) (fun i => True) trivial fun i hi _ R hR => ?_
      by_cases h1 : i < l.length
      · obtain ⟨a, b, c, e⟩ := row3_get (hw.1 _ (List.getElem_mem h1))
        have hR : R [.int ((i : Int) + 1)] := hR h1 trivial
        have hwr : IntKind.i64.wrap ((i : Int) + 1) = (i : Int) + 1 := by rw [wrap64] <;> omega
        simp [h1, E.den, cmpB_lss, cmpB_leq, ar_add, g_eq3, e, hwr, hR]
      · simp [h1, E.den, cmpB_lss]
    · cases h
  · cases h
def g_sz : List U → Option (List U)
  | [.lst l, .int k] => if (l.length : Int) ≤ 9223372036854775807 ∧ 0 ≤ k ∧ k ≤ 1048576 then some [.int (if k - l.length < 0 then -1 else k - l.length)] else none
  | _ => none
theorem ok_szCommandS : FnOK Try.prog n_laws_szCommandS sg_laws_szCommandS g_sz := mk_laws_szCommandS fun us rs hl h => by
  unfold g_sz at h
  split at h
  · rename_i l k
    split at h
    · rename_i hw
      cases h
      have hwr : IntKind.i64.wrap (k - l.length) = k - l.length := by rw [wrap64] <;> omega
      simp only [pr_laws_szCommandS, wpP]
      by_cases h1 : k - l.length < 0 <;> simp [h1, E.den, cmpB_lss, ar_sub, hwr]
    · cases h
  · cases h
/-- THE LAW: whatever the commands are, it answers true -/
def g_law1 : List U → Option (List U)
  | [.lst l] => if (∀ r ∈ l, row3 r = true) ∧ (l.length : Int) ≤ 9223372036854775807 then some [.bool true] else none
  | _ => none
theorem ok_law : FnOK Try.prog n_laws_FnExactIsProgram sg_laws_FnExactIsProgram g_law1 := mk_laws_FnExactIsProgram ok_szCommandS ok_toCommandS ok_sIsProgram ok_iIsProgram ok_eqCommandS fun us rs hl h => by
  unfold g_law1 at h
  split at h
  · rename_i l
    split at h
    · rename_i hw
      cases h
      obtain ⟨hw, hlen⟩ := hw
      simp only [pr_laws_FnExactIsProgram, wpP]
      by_cases h1 : l.length ≤ 1048576
      · have hS : wellS l := ⟨hw, h1⟩
        obtain ⟨v, hv, hv0⟩ : ∃ v : Int, g_sz [.lst l, .int 1048576] = some [.int v] ∧ ¬ v < 0 := ⟨1048576 - l.length, by unfold g_sz; dsimp only; rw [if_pos ⟨hlen, by omega, by omega⟩, if_neg (by omega)], by omega⟩
        simp only [E.den, cmpB_lss, List.map_cons, List.map_nil, List.getD_cons_zero, if_true, hv, Option.some.injEq, exists_eq_left', U.I_int, List.cons_append, List.nil_append, List.getD_cons_succ]
        simp [hv0, g_id, hS, g_isProgram, g_same, U.sameLL_self, E.den]
      · obtain ⟨v, hv, hv0⟩ : ∃ v : Int, g_sz [.lst l, .int 1048576] = some [.int v] ∧ v < 0 := ⟨-1, by unfold g_sz; dsimp only; rw [if_pos ⟨hlen, by omega, by omega⟩, if_pos (by omega)], by omega⟩
        simp [E.den, cmpB_lss, hv, hv0]
    · cases h
  · cases h
end Go.Proofs.Ytjjnllklhcjomaa.Eng
