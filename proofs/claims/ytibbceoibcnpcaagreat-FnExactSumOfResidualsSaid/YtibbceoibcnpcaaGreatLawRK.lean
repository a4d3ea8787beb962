/- The sum of the residuals, and the law about it. No condition. -/
import Derived.Test.YtibbceoibcnpcaaGreatLawRJ
namespace Go.Proofs.YtibbceoibcnpcaaGreat.Eng
open Go

theorem foldl_take {α β : Type} {f : β → α → β} {b : β} {l : List α} {i : Nat} (h : i < l.length) : (l.take (i + 1)).foldl f b = f ((l.take i).foldl f b) l[i] := by
  rw [List.take_succ_eq_append_getElem h, List.foldl_append]; rfl
theorem foldl_end {α β : Type} {f : β → α → β} {b : β} {l : List α} {i : Nat} (h : ¬ i < l.length) : (l.take i).foldl f b = l.foldl f b := by
  rw [List.take_of_length_le (by omega)]
/-- the residual of a row -/
def resR (l a b h : Int) (r : List U) : Int := resV l a b h (r.getD 0 default).I (r.getD 1 default).I (r.getD 2 default).I (r.getD 3 default).I
def sumF (l a b h : Int) (s : Int) (r : List U) : Int := arith .add .i64 s (resR l a b h r)
def posR (l a b h : Int) (r : List U) : Bool := decide (0 ≤ resR l a b h r)
def sumV (l a b h : Int) (o : List (List U)) : Int := if o.all (posR l a b h) then o.foldl (sumF l a b h) 0 else -1
theorem obB_row {r : List U} (hr : obR r) (hb : obB r = true) : ∃ n m x y, r = [.int n, .int m, .int x, .int y] ∧ nB n ∧ nB m := by
  obtain ⟨n, m, x, y, rfl⟩ := hr
  exact ⟨n, m, x, y, rfl, obs_n (hb : obsV n m x y = true)⟩
theorem all_at {α : Type} {p : α → Bool} {l : List α} (h : l.all p = true) {i : Nat} (hi : i < l.length) : p l[i] = true := by
  rw [List.all_eq_true] at h
  exact h _ (List.getElem_mem hi)
open Classical in
noncomputable def g_sum : List U → Option (List U)
  | [.int l, .int a, .int b, .int h, .lst o] => if dialB l a b h = true ∧ Obs o ∧ o.all obB = true then some [.int (sumV l a b h o)] else none
  | _ => none
theorem ok_l25Sum : FnOK Tryz.prog n_spec_l25Sum sg_spec_l25Sum g_sum := mk_spec_l25Sum ok_l25Residual fun us rs hl h => by
  unfold g_sum at h
  split at h
  · rename_i l a b k o
    split at h
    · rename_i hw
      cases h
      obtain ⟨hd, hw, ho⟩ := hw
      have hwl := hw.2
      refine wp_chk rfl ?_
      refine iterP_upto o.length (fun i => [.int ((o.take i).foldl (sumF l a b k) 0), .int i]) (fun i => (o.take i).all (posR l a b k) = true) rfl fun i hi hp R hR => ?_
      refine wp_chk rfl ?_
      by_cases h1 : i < o.length
      · obtain ⟨n, m, x, y, e, hn, hm⟩ := obB_row (hw.1 _ (List.getElem_mem h1)) (all_at ho h1)
        have hall := all_take (p := posR l a b k) h1
        have hst := foldl_take (f := sumF l a b k) (b := 0) h1
        simp only [hall, hst, hp, Bool.true_and] at hR
        generalize (o.take i).foldl (sumF l a b k) 0 = s at *
        have er := row_at h1 e
        have hres := res_call x y hd hn hm
        have e2 : resR l a b k o[i] = resV l a b k n m x y := by rw [e]; rfl
        generalize resV l a b k n m x y = q at *
        have e4 : sumF l a b k s o[i] = arith .add .i64 s q := by unfold sumF; rw [e2]
        have e5 : posR l a b k o[i] = decide (0 ≤ q) := by unfold posR; rw [e2]
        have e6 : o.all (posR l a b k) = false → sumV l a b k o = -1 := fun hf => by unfold sumV; rw [hf]; rfl
        rw [e4, e5] at hR
        have e7 := fun hf : posR l a b k o[i] = false => e6 (all_false h1 hf)
        rw [e5] at e7
        generalize sumV l a b k o = sv at *
        refine wp_condT (by show cmpB .lss (i : Int) (o.length : Int) = true; rw [cmpB_lss]; simpa using h1) (wp_guard (by show cmpB .leq 0 (i : Int) = true; rw [cmpB_leq]; simp) ?_)
        refine wp_callA [.int l, .int a, .int b, .int k, .int n, .int m, .int x, .int y] ?_ hres rfl ?_
        · show [U.int l, .int a, .int b, .int k, (o.getD ((i : Int).toNat) []).getD 0 default, (o.getD ((i : Int).toNat) []).getD 1 default, (o.getD ((i : Int).toNat) []).getD 2 default, (o.getD ((i : Int).toNat) []).getD 3 default] = _
          rw [er, er, er, er]; rfl
        by_cases h2 : 0 ≤ q
        · have hR := hR h1 (by simpa using h2)
          refine wp_condF (by show cmpB .lss q 0 = false; rw [cmpB_lss]; simpa using h2) (wp_next _ ?_ hR)
          have e3 : arith .add .i64 (i : Int) 1 = ((i + 1 : Nat) : Int) := by rw [a_add (by omega) (by omega)]; push_cast; rfl
          show [U.int (arith .add .i64 s q), U.int (arith .add .i64 (i : Int) 1)] = _
          rw [e3]
        · have hf := e7 (by simpa using h2)
          refine wp_condT (by show cmpB .lss q 0 = true; rw [cmpB_lss]; simpa using h2) (wp_brk _ rfl (wp_alt0 (wp_res ?_)))
          rw [hf]; rfl
      · have ha := all_end h1 hp
        refine wp_condF (by show cmpB .lss (i : Int) (o.length : Int) = false; rw [cmpB_lss]; simpa using h1) (wp_brk _ rfl (wp_altS (wp_alt0 (wp_chk rfl (wp_res ?_)))))
        unfold sumV; rw [if_pos ha, ← foldl_end h1]; rfl
    · cases h
  · cases h
theorem ok_sum : FnOK Tryz.prog n_impl_Dial_sum sg_impl_Dial_sum g_sum := mk_impl_Dial_sum ok_residual fun us rs hl h => by
  unfold g_sum at h
  split at h
  · rename_i l a b k o
    split at h
    · rename_i hw
      cases h
      obtain ⟨hd, hw, ho⟩ := hw
      have hwl := hw.2
      refine wp_chk rfl ?_
      refine iterP_upto o.length (fun i => [.int ((o.take i).foldl (sumF l a b k) 0), .int i]) (fun i => (o.take i).all (posR l a b k) = true) rfl fun i hi hp R hR => ?_
      refine wp_chk rfl ?_
      by_cases h1 : i < o.length
      · obtain ⟨n, m, x, y, e, hn, hm⟩ := obB_row (hw.1 _ (List.getElem_mem h1)) (all_at ho h1)
        have hall := all_take (p := posR l a b k) h1
        have hst := foldl_take (f := sumF l a b k) (b := 0) h1
        simp only [hall, hst, hp, Bool.true_and] at hR
        generalize (o.take i).foldl (sumF l a b k) 0 = s at *
        have er := row_at h1 e
        have hres := res_call x y hd hn hm
        have e2 : resR l a b k o[i] = resV l a b k n m x y := by rw [e]; rfl
        generalize resV l a b k n m x y = q at *
        have e4 : sumF l a b k s o[i] = arith .add .i64 s q := by unfold sumF; rw [e2]
        have e5 : posR l a b k o[i] = decide (0 ≤ q) := by unfold posR; rw [e2]
        have e6 : o.all (posR l a b k) = false → sumV l a b k o = -1 := fun hf => by unfold sumV; rw [hf]; rfl
        rw [e4, e5] at hR
        have e7 := fun hf : posR l a b k o[i] = false => e6 (all_false h1 hf)
        rw [e5] at e7
        generalize sumV l a b k o = sv at *
        refine wp_condT (by show cmpB .lss (i : Int) (o.length : Int) = true; rw [cmpB_lss]; simpa using h1) (wp_guard (by show cmpB .leq 0 (i : Int) = true; rw [cmpB_leq]; simp) ?_)
        refine wp_callA [.int l, .int a, .int b, .int k, .int n, .int m, .int x, .int y] ?_ hres rfl ?_
        · show [U.int l, .int a, .int b, .int k, (o.getD ((i : Int).toNat) []).getD 0 default, (o.getD ((i : Int).toNat) []).getD 1 default, (o.getD ((i : Int).toNat) []).getD 2 default, (o.getD ((i : Int).toNat) []).getD 3 default] = _
          rw [er, er, er, er]; rfl
        by_cases h2 : 0 ≤ q
        · have hR := hR h1 (by simpa using h2)
          refine wp_condF (by show cmpB .lss q 0 = false; rw [cmpB_lss]; simpa using h2) (wp_next _ ?_ hR)
          have e3 : arith .add .i64 (i : Int) 1 = ((i + 1 : Nat) : Int) := by rw [a_add (by omega) (by omega)]; push_cast; rfl
          show [U.int (arith .add .i64 s q), U.int (arith .add .i64 (i : Int) 1)] = _
          rw [e3]
        · have hf := e7 (by simpa using h2)
          refine wp_condT (by show cmpB .lss q 0 = true; rw [cmpB_lss]; simpa using h2) (wp_brk _ rfl (wp_alt0 (wp_res ?_)))
          rw [hf]; rfl
      · have ha := all_end h1 hp
        refine wp_condF (by show cmpB .lss (i : Int) (o.length : Int) = false; rw [cmpB_lss]; simpa using h1) (wp_brk _ rfl (wp_altS (wp_alt0 (wp_chk rfl (wp_res ?_)))))
        unfold sumV; rw [if_pos ha, ← foldl_end h1]; rfl
    · cases h
  · cases h
theorem dcode_ok {a b c d : Int} {l : List (List U)} (h : dcode a b c d l = 0) : dialB a b c d = true ∧ l.all obB = true ∧ l.length ≤ 10 := by
  unfold dcode ocode at h
  split at h
  · split at h
    · split at h
      · cases h
      · exact ⟨by assumption, by assumption, by omega⟩
    · cases h
  · cases h
def sorV (l a b h : Int) (o : List (List U)) : List U := if dcode l a b h o = 0 then (if sumV l a b h o < 0 then [.int 0, .int 4] else [.int (sumV l a b h o), .int 0]) else [.int 0, .int (dcode l a b h o)]
open Classical in
noncomputable def g_sor : List U → Option (List U)
  | [.int l, .int a, .int b, .int h, .lst o] => if Obs o then some (sorV l a b h o) else none
  | _ => none
theorem dcode_call {l a b k : Int} {o : List (List U)} (hw : Obs o) : g_dcode [.int l, .int a, .int b, .int k, .lst o] = some [.int (dcode l a b k o)] := by unfold g_dcode; dsimp only; rw [if_pos hw]
theorem sum_call {l a b k : Int} {o : List (List U)} (hd : dialB l a b k = true) (hw : Obs o) (ho : o.all obB = true) : g_sum [.int l, .int a, .int b, .int k, .lst o] = some [.int (sumV l a b k o)] := by unfold g_sum; dsimp only; rw [if_pos ⟨hd, hw, ho⟩]
theorem ok_sSumOf : FnOK Tryz.prog n_spec_SumOfResiduals sg_spec_SumOfResiduals g_sor := mk_spec_SumOfResiduals ok_l25Dial ok_l25Sum fun us rs hl h => by
  unfold g_sor at h
  split at h
  · rename_i l a b k o
    split at h
    · rename_i hw
      cases h
      unfold sorV
      refine wp_chk rfl (wp_call (dcode_call hw) rfl ?_)
      by_cases h0 : dcode l a b k o = 0
      · obtain ⟨hd, ho, _⟩ := dcode_ok h0
        rw [if_pos h0]
        refine wp_condF (by show cmpB .neq (dcode l a b k o) 0 = false; rw [cmpB_neq]; simpa using h0) (wp_call (sum_call hd hw ho) rfl ?_)
        by_cases h1 : sumV l a b k o < 0
        · exact wp_condT (by show cmpB .lss (sumV l a b k o) 0 = true; rw [cmpB_lss]; simpa using h1) (wp_res (by rw [if_pos h1]; rfl))
        · exact wp_condF (by show cmpB .lss (sumV l a b k o) 0 = false; rw [cmpB_lss]; simpa using h1) (wp_res (by rw [if_neg h1]; rfl))
      · exact wp_condT (by show cmpB .neq (dcode l a b k o) 0 = true; rw [cmpB_neq]; simpa using h0) (wp_res (by rw [if_neg h0]; rfl))
    · cases h
  · cases h
theorem ok_iSumOf : FnOK Tryz.prog n_impl_SumOfResiduals sg_impl_SumOfResiduals g_sor := mk_impl_SumOfResiduals ok_observed ok_sum fun us rs hl h => by
  unfold g_sor at h
  split at h
  · rename_i l a b k o
    split at h
    · rename_i hw
      cases h
      unfold sorV
      refine wp_chk rfl (wp_call (dcode_call hw) rfl ?_)
      by_cases h0 : dcode l a b k o = 0
      · obtain ⟨hd, ho, _⟩ := dcode_ok h0
        rw [if_pos h0]
        refine wp_condF (by show cmpB .neq (dcode l a b k o) 0 = false; rw [cmpB_neq]; simpa using h0) (wp_call (sum_call hd hw ho) rfl ?_)
        by_cases h1 : sumV l a b k o < 0
        · exact wp_condT (by show cmpB .lss (sumV l a b k o) 0 = true; rw [cmpB_lss]; simpa using h1) (wp_res (by rw [if_pos h1]; rfl))
        · exact wp_condF (by show cmpB .lss (sumV l a b k o) 0 = false; rw [cmpB_lss]; simpa using h1) (wp_res (by rw [if_neg h1]; rfl))
      · exact wp_condT (by show cmpB .neq (dcode l a b k o) 0 = true; rw [cmpB_neq]; simpa using h0) (wp_res (by rw [if_neg h0]; rfl))
    · cases h
  · cases h

-- the law's own helpers
def Big (l : List (List U)) : Prop := l.length ≤ 9223372036854775807
def ObW (l : List (List U)) : Prop := (∀ r ∈ l, obR r) ∧ Big l
def szV (k : Int) (l : List (List U)) : Int := if k - l.length < 0 then -1 else k - l.length
open Classical in
noncomputable def g_szO : List U → Option (List U)
  | [.lst l, .int k] => if Big l ∧ 0 ≤ k ∧ k ≤ 1048576 then some [.int (szV k l)] else none
  | _ => none
theorem szO_call {l : List (List U)} {k : Int} (h : Big l) (h0 : 0 ≤ k) (h1 : k ≤ 1048576) : g_szO [.lst l, .int k] = some [.int (szV k l)] := by unfold g_szO; dsimp only; rw [if_pos ⟨h, h0, h1⟩]
theorem ok_szObs : FnOK Tryz.prog n_laws_szObservationS sg_laws_szObservationS g_szO := mk_laws_szObservationS fun us rs hl h => by
  unfold g_szO at h
  split at h
  · rename_i l k
    split at h
    · rename_i hw
      cases h
      obtain ⟨hb, h0, h1⟩ := hw
      unfold Big at hb
      have e : arith .sub .i64 k (l.length : Int) = k - l.length := by
        show IntKind.i64.wrap (k - l.length) = _
        rw [wrap64] <;> omega
      refine wp_chk rfl ?_
      unfold szV
      by_cases h2 : k - (l.length : Int) < 0
      · exact wp_condT (by show cmpB .lss (arith .sub .i64 k (l.length : Int)) 0 = true; rw [e, cmpB_lss]; simpa using h2) (wp_res (by rw [if_pos h2]; rfl))
      · exact wp_condF (by show cmpB .lss (arith .sub .i64 k (l.length : Int)) 0 = false; rw [e, cmpB_lss]; simpa using h2) (wp_res (by rw [if_neg h2, ← e]; rfl))
    · cases h
  · cases h
def g_two : List U → Option (List U)
  | [.int a, .int b] => some [.int a, .int b]
  | _ => none
def g_four : List U → Option (List U)
  | [.int a, .int b, .int c, .int d] => some [.int a, .int b, .int c, .int d]
  | _ => none
theorem ok_toWall : FnOK Tryz.prog n_laws_toWall sg_laws_toWall g_two := mk_laws_toWall fun us rs hl h => by
  unfold g_two at h
  split at h
  · cases h; exact wp_chk rfl (wp_res rfl)
  · cases h
theorem ok_toDial : FnOK Tryz.prog n_laws_toDial sg_laws_toDial g_four := mk_laws_toDial ok_toWall fun us rs hl h => by
  unfold g_four at h
  split at h
  · rename_i a b c d; cases h; exact wp_chk rfl (wp_call (rs := [.int b, .int c]) rfl rfl (wp_res rfl))
  · cases h
theorem ok_toPoint : FnOK Tryz.prog n_laws_toPoint sg_laws_toPoint g_two := mk_laws_toPoint fun us rs hl h => by
  unfold g_two at h
  split at h
  · cases h; exact wp_chk rfl (wp_res rfl)
  · cases h
theorem ok_toObs : FnOK Tryz.prog n_laws_toObservation sg_laws_toObservation g_four := mk_laws_toObservation ok_toPoint fun us rs hl h => by
  unfold g_four at h
  split at h
  · rename_i a b c d; cases h; exact wp_chk rfl (wp_call (rs := [.int c, .int d]) rfl rfl (wp_res rfl))
  · cases h
open Classical in
noncomputable def g_idO : List U → Option (List U)
  | [.lst l] => if Obs l then some [.lst l] else none
  | _ => none
theorem idO_call {l : List (List U)} (h : Obs l) : g_idO [.lst l] = some [.lst l] := by unfold g_idO; dsimp only; rw [if_pos h]
theorem ok_toObsS : FnOK Tryz.prog n_laws_toObservationS sg_laws_toObservationS g_idO := mk_laws_toObservationS ok_toObs fun us rs hl h => by
  unfold g_idO at h
  split at h
  · rename_i l
    split at h
    · rename_i hw
      cases h
      have hwl := hw.2
      simp only [pr_laws_toObservationS, wpP, E.den, List.map_cons, List.map_nil]
      refine ⟨rfl, by simp [cmpB_leq], by simp [cmpB_leq]; omega, ?_⟩
      refine iterP_upto l.length (fun i => [.int i, .lst (l.take i ++ List.replicate (l.length - i) [.int 0, .int 0, .int 0, .int 0])]) (fun i => True) trivial fun i hi _ R hR => ?_
      by_cases h1 : i < l.length
      · obtain ⟨a, b, c, d, e⟩ := hw.1 _ (List.getElem_mem h1)
        have hR := hR h1 trivial
        have hwr : IntKind.i64.wrap ((i : Int) + 1) = (i : Int) + 1 := by rw [wrap64] <;> omega
        have hcp := copy_step (f := fun r => (((r.set 0 (.int a)).set 1 (.int b)).set 2 (.int c)).set 3 (.int d)) (z := [.int 0, .int 0, .int 0, .int 0]) rfl h1 (by simp [h1, e])
        rw [← hcp] at hR
        simp [h1, E.den, cmpB_lss, cmpB_leq, ar_add, g_four, e, hwr, List.modify_modify_eq, Function.comp_def]
        exact ⟨by omega, hR⟩
      · have : i = l.length := by omega
        subst this
        simp [E.den, cmpB_lss, cmpB_leq]
    · cases h
  · cases h
def g_eqP : List U → Option (List U)
  | [.int a, .int b, .int c, .int d] => some [.bool (decide (a = c) && decide (b = d))]
  | _ => none
theorem ok_eqPoint : FnOK Tryz.prog n_laws_eqPoint sg_laws_eqPoint g_eqP := mk_laws_eqPoint fun us rs hl h => by
  unfold g_eqP at h
  split at h
  · rename_i a b c d
    cases h
    simp only [pr_laws_eqPoint, wpP]
    by_cases h1 : a = c <;> by_cases h2 : b = d <;> simp [h1, h2, E.den, cmpB_neq]
  · cases h
def g_eqO : List U → Option (List U)
  | [.int a, .int b, .int c, .int d, .int a', .int b', .int c', .int d'] => if a = a' ∧ b = b' ∧ c = c' ∧ d = d' then some [.bool true] else none
  | _ => none
theorem ok_eqObs : FnOK Tryz.prog n_laws_eqObservation sg_laws_eqObservation g_eqO := mk_laws_eqObservation ok_eqPoint fun us rs hl h => by
  unfold g_eqO at h
  split at h
  · rename_i a b c d a' b' c' d'
    split at h
    · rename_i hw
      obtain ⟨rfl, rfl, rfl, rfl⟩ := hw
      cases h
      simp [pr_laws_eqObservation, wpP, E.den, cmpB_neq, g_eqP]
    · cases h
  · cases h
open Classical in
noncomputable def g_sameO : List U → Option (List U)
  | [.lst l, .lst l'] => if Obs l ∧ l = l' then some [.bool true] else none
  | _ => none
theorem sameO_call {l : List (List U)} (h : Obs l) : g_sameO [.lst l, .lst l] = some [.bool true] := by unfold g_sameO; dsimp only; rw [if_pos ⟨h, rfl⟩]
theorem ok_eqObsS : FnOK Tryz.prog n_laws_eqObservationS sg_laws_eqObservationS g_sameO := mk_laws_eqObservationS ok_eqObs fun us rs hl h => by
  unfold g_sameO at h
  split at h
  · rename_i l l'
    split at h
    · rename_i hw
      cases h
      obtain ⟨hw, he⟩ := hw
      subst he
      have hwl := hw.2
      simp only [pr_laws_eqObservationS, wpP, E.den, List.map_cons, List.map_nil]
      repeat refine ⟨rfl, ?_⟩
      refine .inr ⟨by simp [cmpB_neq], ?_⟩
      repeat refine ⟨rfl, ?_⟩
      refine iterP_upto l.length (fun i => [.int i]) (fun i => True) trivial fun i hi _ R hR => ?_
      by_cases h1 : i < l.length
      · obtain ⟨a, b, c, d, e⟩ := hw.1 _ (List.getElem_mem h1)
        have hR : R [.int ((i : Int) + 1)] := hR h1 trivial
        have hwr : IntKind.i64.wrap ((i : Int) + 1) = (i : Int) + 1 := by rw [wrap64] <;> omega
        simp [h1, E.den, cmpB_lss, cmpB_leq, ar_add, g_eqO, e, hwr, hR]
      · simp [h1, E.den, cmpB_lss]
    · cases h
  · cases h

-- the law
theorem obs_of_sz {l : List (List U)} (h : ObW l) (h0 : 0 ≤ szV 1048576 l) : Obs l := by
  refine ⟨h.1, ?_⟩
  unfold szV at h0
  split at h0 <;> omega
open Classical in
noncomputable def g_lawO : List U → Option (List U)
  | [.int _, .int _, .int _, .int _, .lst o] => if ObW o then some [.bool true] else none
  | _ => none
theorem ok_lawSum : FnOK Tryz.prog n_laws_FnExactSumOfResiduals sg_laws_FnExactSumOfResiduals g_lawO := mk_laws_FnExactSumOfResiduals ok_szObs ok_toDial ok_toObsS ok_sSumOf ok_iSumOf ok_eqObsS fun us rs hl h => by
  unfold g_lawO at h
  split at h
  · rename_i l a b k o
    split at h
    · rename_i hw
      cases h
      refine wp_chk rfl (wp_call (szO_call hw.2 (by decide) (by decide)) rfl ?_)
      by_cases h0 : 0 ≤ szV 1048576 o
      · have ho := obs_of_sz hw h0
        have hs : g_sor [.int l, .int a, .int b, .int k, .lst o] = some (sorV l a b k o) := by unfold g_sor; dsimp only; rw [if_pos ho]
        obtain ⟨x, y, e⟩ : ∃ x y : Int, sorV l a b k o = [.int x, .int y] := by
          unfold sorV; split
          · split <;> exact ⟨_, _, rfl⟩
          · exact ⟨_, _, rfl⟩
        rw [e] at hs
        refine wp_condF (by show cmpB .lss (szV 1048576 o) 0 = false; rw [cmpB_lss]; simpa using h0) ?_
        refine wp_call (rs := [.int l, .int a, .int b, .int k]) rfl rfl (wp_call (idO_call ho) rfl (wp_call hs rfl (wp_call (idO_call ho) rfl ?_)))
        refine wp_call (rs := [.int l, .int a, .int b, .int k]) rfl rfl (wp_call hs rfl (wp_join ?_))
        refine wp_condF (by show cmpB .neq x x = false; rw [cmpB_neq]; simp) (wp_vals [.bool false] (by show [U.bool (cmpB .neq y y)] = _; rw [cmpB_neq]; simp) (wp_alt0 (wp_chk rfl (wp_condF rfl ?_))))
        exact wp_call (idO_call ho) rfl (wp_call (sameO_call ho) rfl (wp_condF rfl (wp_res rfl)))
      · exact wp_condT (by show cmpB .lss (szV 1048576 o) 0 = true; rw [cmpB_lss]; simpa using h0) (wp_res rfl)
    · cases h
  · cases h
end Go.Proofs.YtibbceoibcnpcaaGreat.Eng
