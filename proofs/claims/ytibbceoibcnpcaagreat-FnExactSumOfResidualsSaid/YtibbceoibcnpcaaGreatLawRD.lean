/- What the functions about arcs and the sun compute. No condition. -/
import Derived.Test.YtibbceoibcnpcaaGreatLawRC
namespace Go.Proofs.YtibbceoibcnpcaaGreat.Eng
open Go

def vB (v : Int) : Prop := -1000000000000 ≤ v ∧ v ≤ 1000000000000
instance (x : Int) : Decidable (vB x) := inferInstanceAs (Decidable (_ ∧ _))
def g_lo : List U → Option (List U)
  | [.int v] => some [.int (loV v)]
  | _ => none
def g_hi : List U → Option (List U)
  | [.int v] => some [.int (hiV v)]
  | _ => none
theorem hs_mid {p : Int → Bool} {V lo hi : Int} (h : HS p V lo hi) : arith .sub .i64 hi lo = hi - lo ∧ arith .add .i64 lo hi = lo + hi ∧ g_floor [.int (lo + hi), .int 2] = some [.int ((lo + hi) / 2)] ∧ g_sine [.int ((lo + hi) / 2)] = some [.int (sLo ((lo + hi) / 2)), .int (sHi ((lo + hi) / 2))] := by
  obtain ⟨a, b, c, _⟩ := h
  exact ⟨a_sub (by omega) (by omega), a_add (by omega) (by omega), floor_call (by omega) (by omega) (by omega) (by omega), sine_call (by omega) (by omega)⟩
section
variable {G : FEnv} {K : Leaf → List U → Prop} {η : List U} {lab : Nat}
theorem wp_next {es : List E} {R : List U → Prop} {c : Prog} {η0 : List U} (vs : List U) (he : es.map (E.den η) = vs) (hw : R vs) : wpP G (.leaf (.vals 0 es)) lab η fun l η' => match l with
    | .vals 0 es => R (es.map (E.den η'))
    | .vals (lab + 1) es => wpP G c lab (η0 ++ es.map (E.den η')) K
    | _ => False := by
  show R (es.map (E.den η)); rw [he]; exact hw
theorem wp_brk {lb : Nat} {es : List E} {R : List U → Prop} {c : Prog} {η0 : List U} (vs : List U) (he : es.map (E.den η) = vs) (hw : wpP G c lb (η0 ++ vs) K) : wpP G (.leaf (.vals (lb + 1) es)) lab η fun l η' => match l with
    | .vals 0 es => R (es.map (E.den η'))
    | .vals (lab + 1) es => wpP G c lab (η0 ++ es.map (E.den η')) K
    | _ => False := by
  show wpP G c lb (η0 ++ es.map (E.den η)) K; rw [he]; exact hw
end
theorem ok_l05Low : FnOK Tryz.prog n_spec_l05Low sg_spec_l05Low g_lo := mk_spec_l05Low ok_l01Floor ok_l04Sin fun us rs hl h => by
  unfold g_lo at h
  split at h
  · rename_i v
    cases h
    refine wp_chk rfl ?_
    refine ⟨_, iterP_inv (fun us => ∃ lo hi : Int, us = [.int lo, .int hi] ∧ HS (fun m => decide (sHi m < v)) (loV v) lo hi) (fun us => ((us.getD 1 default).I - (us.getD 0 default).I).toNat) (fun us ⟨lo, hi, e, hs⟩ R hR => ?_) _ _ (Nat.lt_succ_self _) ⟨-324001, 324001, rfl, by decide, by decide, by decide, 700000, by decide, rfl⟩⟩
    subst e
    have hR : ∀ lo' hi' : Int, HS (fun m => decide (sHi m < v)) (loV v) lo' hi' → hi' - lo' < hi - lo → R [.int lo', .int hi'] := fun lo' hi' k1 k2 => hR _ ⟨lo', hi', rfl, k1⟩ (by have := k1.2.1; simp; omega)
    obtain ⟨e1, e2, e3, e4⟩ := hs_mid hs
    refine wp_chk rfl ?_
    by_cases hc : 1 < hi - lo
    · obtain ⟨s1, s2⟩ := hs.step hc
      refine wp_condT (by show cmpB .gtr (arith .sub .i64 hi lo) 1 = true; rw [e1, cmpB_gtr]; simpa using hc) ?_
      refine wp_callA [.int (lo + hi), .int 2] (by rw [← e2]; rfl) e3 rfl (wp_call e4 rfl ?_)
      by_cases hp : sHi ((lo + hi) / 2) < v
      · exact wp_condT (by show cmpB .lss (sHi ((lo + hi) / 2)) v = true; rw [cmpB_lss]; simpa using hp) (wp_next _ rfl (hR _ _ (s1 (by simpa using hp)) (by omega)))
      · exact wp_condF (by show cmpB .lss (sHi ((lo + hi) / 2)) v = false; rw [cmpB_lss]; simpa using hp) (wp_next _ rfl (hR _ _ (s2 (by simpa using hp)) (by omega)))
    · refine wp_condF (by show cmpB .gtr (arith .sub .i64 hi lo) 1 = false; rw [e1, cmpB_gtr]; simpa using hc) (wp_brk _ rfl (wp_alt0 (wp_chk rfl (wp_res ?_))))
      rw [hs.end hc]; rfl
  · cases h
theorem ok_l05High : FnOK Tryz.prog n_spec_l05High sg_spec_l05High g_hi := mk_spec_l05High ok_l01Floor ok_l04Sin fun us rs hl h => by
  unfold g_hi at h
  split at h
  · rename_i v
    cases h
    refine wp_chk rfl ?_
    refine ⟨_, iterP_inv (fun us => ∃ lo hi : Int, us = [.int lo, .int hi] ∧ HS (fun m => decide (sLo m ≤ v)) (hiV v) lo hi) (fun us => ((us.getD 1 default).I - (us.getD 0 default).I).toNat) (fun us ⟨lo, hi, e, hs⟩ R hR => ?_) _ _ (Nat.lt_succ_self _) ⟨-324001, 324001, rfl, by decide, by decide, by decide, 700000, by decide, rfl⟩⟩
    subst e
    have hR : ∀ lo' hi' : Int, HS (fun m => decide (sLo m ≤ v)) (hiV v) lo' hi' → hi' - lo' < hi - lo → R [.int lo', .int hi'] := fun lo' hi' k1 k2 => hR _ ⟨lo', hi', rfl, k1⟩ (by have := k1.2.1; simp; omega)
    obtain ⟨e1, e2, e3, e4⟩ := hs_mid hs
    refine wp_chk rfl ?_
    by_cases hc : 1 < hi - lo
    · obtain ⟨s1, s2⟩ := hs.step hc
      refine wp_condT (by show cmpB .gtr (arith .sub .i64 hi lo) 1 = true; rw [e1, cmpB_gtr]; simpa using hc) ?_
      refine wp_callA [.int (lo + hi), .int 2] (by rw [← e2]; rfl) e3 rfl (wp_call e4 rfl ?_)
      by_cases hp : sLo ((lo + hi) / 2) ≤ v
      · exact wp_condT (by show cmpB .leq (sLo ((lo + hi) / 2)) v = true; rw [cmpB_leq]; simpa using hp) (wp_next _ rfl (hR _ _ (s1 (by simpa using hp)) (by omega)))
      · exact wp_condF (by show cmpB .leq (sLo ((lo + hi) / 2)) v = false; rw [cmpB_leq]; simpa using hp) (wp_next _ rfl (hR _ _ (s2 (by simpa using hp)) (by omega)))
    · refine wp_condF (by show cmpB .gtr (arith .sub .i64 hi lo) 1 = false; rw [e1, cmpB_gtr]; simpa using hc) (wp_brk _ rfl (wp_alt0 (wp_chk rfl (wp_res ?_))))
      rw [hs.end hc]; rfl
  · cases h
-- the program's halving, with its conditions
def g_c1 : List U → Option (List U)
  | [.int m, .int v] => if -4000000000000000000 ≤ m ∧ m ≤ 4000000000000000000 then some [.bool (decide (sHi m < v)), .int v] else none
  | _ => none
def g_c2 : List U → Option (List U)
  | [.int m, .int v] => if -4000000000000000000 ≤ m ∧ m ≤ 4000000000000000000 then some [.bool (decide (sLo m ≤ v)), .int v] else none
  | _ => none
theorem ok_arc1 : FnOK Tryz.prog n_impl_arcSine_1 sg_impl_arcSine_1 g_c1 := mk_impl_arcSine_1 ok_sine fun us rs hl h => by
  unfold g_c1 at h
  split at h
  · rename_i m v
    split at h
    · rename_i hw
      cases h
      exact wp_chk rfl (wp_call (sine_call hw.1 hw.2) rfl (wp_res rfl))
    · cases h
  · cases h
theorem ok_arc2 : FnOK Tryz.prog n_impl_arcSine_2 sg_impl_arcSine_2 g_c2 := mk_impl_arcSine_2 ok_sine fun us rs hl h => by
  unfold g_c2 at h
  split at h
  · rename_i m v
    split at h
    · rename_i hw
      cases h
      exact wp_chk rfl (wp_call (sine_call hw.1 hw.2) rfl (wp_res rfl))
    · cases h
  · cases h
def g_h1 : List U → Option (List U)
  | [.int a, .int b, .int v] => if a = -324001 ∧ b = 324001 then some [.int (loV v), .int v] else none
  | _ => none
def g_h2 : List U → Option (List U)
  | [.int a, .int b, .int v] => if a = -324001 ∧ b = 324001 then some [.int (hiV v), .int v] else none
  | _ => none
theorem ok_halve1 : FnOK Tryz.prog 245 sg_impl_halve g_h1 := mk_impl_halve ok_floor ok_arc1 fun us rs hl h => by
  unfold g_h1 at h
  split at h
  · rename_i a b v
    split at h
    · rename_i hw
      obtain ⟨rfl, rfl⟩ := hw
      cases h
      refine wp_chk rfl ?_
      refine ⟨_, iterP_inv (fun us => ∃ lo hi : Int, us = [.int lo, .int hi, .int v] ∧ HS (fun m => decide (sHi m < v)) (loV v) lo hi) (fun us => ((us.getD 1 default).I - (us.getD 0 default).I).toNat) (fun us ⟨lo, hi, e, hs⟩ R hR => ?_) _ _ (Nat.lt_succ_self _) ⟨-324001, 324001, rfl, by decide, by decide, by decide, 700000, by decide, rfl⟩⟩
      subst e
      have hR : ∀ lo' hi' : Int, HS (fun m => decide (sHi m < v)) (loV v) lo' hi' → hi' - lo' < hi - lo → R [.int lo', .int hi', .int v] := fun lo' hi' k1 k2 => hR _ ⟨lo', hi', rfl, k1⟩ (by have := k1.2.1; simp; omega)
      obtain ⟨e1, e2, e3, _⟩ := hs_mid hs
      have e4 : g_c1 [.int ((lo + hi) / 2), .int v] = some [.bool (decide (sHi ((lo + hi) / 2) < v)), .int v] := by
        obtain ⟨a, b, c, _⟩ := hs
        unfold g_c1; dsimp only; rw [if_pos (by omega)]
      refine wp_chk rfl ?_
      by_cases hc : 1 < hi - lo
      · obtain ⟨s1, s2⟩ := hs.step hc
        refine wp_condT (by show cmpB .gtr (arith .sub .i64 hi lo) 1 = true; rw [e1, cmpB_gtr]; simpa using hc) ?_
        refine wp_callA [.int (lo + hi), .int 2] (by rw [← e2]; rfl) e3 rfl (wp_call e4 rfl ?_)
        by_cases hp : sHi ((lo + hi) / 2) < v
        · exact wp_condT (by show decide _ = true; simpa using hp) (wp_next _ rfl (hR _ _ (s1 (by simpa using hp)) (by omega)))
        · exact wp_condF (by show decide _ = false; simpa using hp) (wp_next _ rfl (hR _ _ (s2 (by simpa using hp)) (by omega)))
      · refine wp_condF (by show cmpB .gtr (arith .sub .i64 hi lo) 1 = false; rw [e1, cmpB_gtr]; simpa using hc) (wp_brk _ rfl (wp_alt0 (wp_chk rfl (wp_res ?_))))
        rw [hs.end hc]; rfl
    · cases h
  · cases h
theorem ok_halve2 : FnOK Tryz.prog 245 sg_impl_halve_v1 g_h2 := mk_impl_halve_v1 ok_floor ok_arc2 fun us rs hl h => by
  unfold g_h2 at h
  split at h
  · rename_i a b v
    split at h
    · rename_i hw
      obtain ⟨rfl, rfl⟩ := hw
      cases h
      refine wp_chk rfl ?_
      refine ⟨_, iterP_inv (fun us => ∃ lo hi : Int, us = [.int lo, .int hi, .int v] ∧ HS (fun m => decide (sLo m ≤ v)) (hiV v) lo hi) (fun us => ((us.getD 1 default).I - (us.getD 0 default).I).toNat) (fun us ⟨lo, hi, e, hs⟩ R hR => ?_) _ _ (Nat.lt_succ_self _) ⟨-324001, 324001, rfl, by decide, by decide, by decide, 700000, by decide, rfl⟩⟩
      subst e
      have hR : ∀ lo' hi' : Int, HS (fun m => decide (sLo m ≤ v)) (hiV v) lo' hi' → hi' - lo' < hi - lo → R [.int lo', .int hi', .int v] := fun lo' hi' k1 k2 => hR _ ⟨lo', hi', rfl, k1⟩ (by have := k1.2.1; simp; omega)
      obtain ⟨e1, e2, e3, _⟩ := hs_mid hs
      have e4 : g_c2 [.int ((lo + hi) / 2), .int v] = some [.bool (decide (sLo ((lo + hi) / 2) ≤ v)), .int v] := by
        obtain ⟨a, b, c, _⟩ := hs
        unfold g_c2; dsimp only; rw [if_pos (by omega)]
      refine wp_chk rfl ?_
      by_cases hc : 1 < hi - lo
      · obtain ⟨s1, s2⟩ := hs.step hc
        refine wp_condT (by show cmpB .gtr (arith .sub .i64 hi lo) 1 = true; rw [e1, cmpB_gtr]; simpa using hc) ?_
        refine wp_callA [.int (lo + hi), .int 2] (by rw [← e2]; rfl) e3 rfl (wp_call e4 rfl ?_)
        by_cases hp : sLo ((lo + hi) / 2) ≤ v
        · exact wp_condT (by show decide _ = true; simpa using hp) (wp_next _ rfl (hR _ _ (s1 (by simpa using hp)) (by omega)))
        · exact wp_condF (by show decide _ = false; simpa using hp) (wp_next _ rfl (hR _ _ (s2 (by simpa using hp)) (by omega)))
      · refine wp_condF (by show cmpB .gtr (arith .sub .i64 hi lo) 1 = false; rw [e1, cmpB_gtr]; simpa using hc) (wp_brk _ rfl (wp_alt0 (wp_chk rfl (wp_res ?_))))
        rw [hs.end hc]; rfl
    · cases h
  · cases h
def keepV (a : Int) : Int := if a < -324000 then -324000 else if 324000 < a then 324000 else a
def g_keep : List U → Option (List U)
  | [.int a] => some [.int (keepV a)]
  | _ => none
theorem ok_l05Keep : FnOK Tryz.prog n_spec_l05Keep sg_spec_l05Keep g_keep := mk_spec_l05Keep fun us rs hl h => by
  unfold g_keep at h
  split at h
  · rename_i a
    cases h
    refine wp_chk rfl (wp_res ?_)
    show [U.int (mxI (-324000) (mnI 324000 a))] = _
    congr 2
    unfold mxI mnI keepV; (repeat' split) <;> omega
  · cases h
theorem ok_kept : FnOK Tryz.prog n_impl_kept sg_impl_kept g_keep := mk_impl_kept fun us rs hl h => by
  unfold g_keep at h
  split at h
  · rename_i a
    cases h
    refine wp_chk rfl (wp_res ?_)
    show [U.int (mnI (mxI a (-324000)) 324000)] = _
    congr 2
    unfold mxI mnI keepV; (repeat' split) <;> omega
  · cases h
theorem loV_bnd (v : Int) : -324001 ≤ loV v ∧ loV v < 324001 := halveV_bnd _ _ _ _ (by decide)
theorem hiV_bnd (v : Int) : -324001 ≤ hiV v ∧ hiV v < 324001 := halveV_bnd _ _ _ _ (by decide)
def g_arcS : List U → Option (List U)
  | [.int v] => some [.int (keepV (loV v)), .int (keepV (1 + hiV v))]
  | _ => none
theorem ok_l05Arc : FnOK Tryz.prog n_spec_l05Arc sg_spec_l05Arc g_arcS := mk_spec_l05Arc ok_l05Low ok_l05Keep ok_l05High fun us rs hl h => by
  unfold g_arcS at h
  split at h
  · rename_i v
    cases h
    have hb := hiV_bnd v
    have e1 : arith .add .i64 1 (hiV v) = 1 + hiV v := a_add (by omega) (by omega)
    refine wp_chk rfl (wp_call (rs := [.int (loV v)]) rfl rfl (wp_call (rs := [.int (keepV (loV v))]) rfl rfl (wp_call (rs := [.int (hiV v)]) rfl rfl ?_)))
    exact wp_callA [.int (1 + hiV v)] (by rw [← e1]; rfl) (rs := [.int (keepV (1 + hiV v))]) rfl rfl (wp_res rfl)
  · cases h
theorem ok_arcSine : FnOK Tryz.prog n_impl_arcSine sg_impl_arcSine g_arcS := mk_impl_arcSine ok_halve1 ok_halve2 ok_kept fun us rs hl h => by
  unfold g_arcS at h
  split at h
  · rename_i v
    cases h
    have hb := hiV_bnd v
    have e1 : arith .add .i64 1 (hiV v) = 1 + hiV v := a_add (by omega) (by omega)
    refine wp_chk rfl (wp_call (rs := [.int (loV v), .int v]) rfl rfl (wp_call (rs := [.int (hiV v), .int v]) rfl rfl (wp_call (rs := [.int (keepV (loV v))]) rfl rfl ?_)))
    exact wp_callA [.int (1 + hiV v)] (by rw [← e1]; rfl) (rs := [.int (keepV (1 + hiV v))]) rfl rfl (wp_res rfl)
  · cases h
/-- the range of arcs -/
def arcR (a b : Int) : List U :=
  if isI a b then if 1000000 < a ∨ b < -1000000 then [.int 0, .int 0, .int 4] else [.int (keepV (loV (mxI a (-1000000)))), .int (keepV (1 + hiV (mnI b 1000000))), .int 0] else [.int 0, .int 0, .int 1]
def g_arcR : List U → Option (List U)
  | [.int a, .int b] => some (arcR a b)
  | _ => none
theorem ok_sArcSineRange : FnOK Tryz.prog n_spec_ArcSineRange sg_spec_ArcSineRange g_arcR := mk_spec_ArcSineRange ok_sIsInterval (g1 := fun us => match us with | [.int a, .int b, .int c, .int d] => some [.int (mxI a c), .int (mnI b d), .bool (decide (mxI a c ≤ mnI b d))] | _ => none) (mk_spec_l02Meet fun us rs hl h => by
    split at h
    · cases h; exact wp_chk rfl (wp_res rfl)
    · cases h) ok_l05Arc fun us rs hl h => by
  unfold g_arcR at h
  split at h
  · rename_i a b
    cases h
    unfold arcR
    refine wp_chk rfl (wp_call (rs := [.bool (isI a b)]) rfl rfl ?_)
    cases hi : isI a b
    · exact wp_condT rfl (wp_res rfl)
    · have hab : a ≤ b := by simp only [isI, Bool.and_eq_true, decide_eq_true_eq] at hi; exact hi.2
      refine wp_condF rfl (wp_call (rs := [.int (mxI a (-1000000)), .int (mnI b 1000000), .bool (decide (mxI a (-1000000) ≤ mnI b 1000000))]) rfl rfl ?_)
      rw [if_pos rfl]
      by_cases hc : 1000000 < a ∨ b < -1000000
      · rw [if_pos hc]
        have : ¬ mxI a (-1000000) ≤ mnI b 1000000 := by unfold mxI mnI; split <;> split <;> omega
        exact wp_condT (by show (!decide _) = true; simp [this]) (wp_res rfl)
      · rw [if_neg hc]
        have : mxI a (-1000000) ≤ mnI b 1000000 := by unfold mxI mnI; split <;> split <;> omega
        refine wp_condF (by show (!decide _) = false; simp [this]) ?_
        exact wp_call (rs := [.int (keepV (loV (mxI a (-1000000)))), .int (keepV (1 + hiV (mxI a (-1000000))))]) rfl rfl (wp_call (rs := [.int (keepV (loV (mnI b 1000000))), .int (keepV (1 + hiV (mnI b 1000000)))]) rfl rfl (wp_res rfl))
  · cases h
theorem ok_iArcSineRange : FnOK Tryz.prog n_impl_ArcSineRange sg_impl_ArcSineRange g_arcR := mk_impl_ArcSineRange ok_iIsInterval ok_arcSine fun us rs hl h => by
  unfold g_arcR at h
  split at h
  · rename_i a b
    cases h
    unfold arcR
    refine wp_chk rfl (wp_call (rs := [.bool (isI a b)]) rfl rfl ?_)
    cases hi : isI a b
    · exact wp_condT rfl (wp_res rfl)
    · refine wp_condF rfl ?_
      rw [if_pos rfl]
      have go : ¬ (1000000 < a ∨ b < -1000000) → wpP (fun k us => if 226 = k then g_isI us else if 227 = k then g_arcS us else none)
          (.call 227 [(.mx (.var 0) (.int (-1000000)))] 2
             (.call 227 [(.mn (.var 1) (.int 1000000))] 2
             (.leaf (.res [(.var 4), (.var 7), (.int 0)])))) 0 [.int a, .int b, .bool true, .bool false] (fun l η => ∃ es, l = .res es ∧ es.map (E.den η) = (if 1000000 < a ∨ b < -1000000 then [.int 0, .int 0, .int 4] else [.int (keepV (loV (mxI a (-1000000)))), .int (keepV (1 + hiV (mnI b 1000000))), .int 0])) := fun hc => by
        rw [if_neg hc]
        exact wp_call (rs := [.int (keepV (loV (mxI a (-1000000)))), .int (keepV (1 + hiV (mxI a (-1000000))))]) rfl rfl (wp_call (rs := [.int (keepV (loV (mnI b 1000000))), .int (keepV (1 + hiV (mnI b 1000000)))]) rfl rfl (wp_res rfl))
      refine wp_join ?_
      by_cases h1 : 1000000 < a
      · refine wp_condT (by show cmpB .gtr a 1000000 = true; rw [cmpB_gtr]; simpa using h1) (wp_vals [.bool true] rfl (wp_alt0 (wp_chk rfl (wp_condT rfl ?_))))
        rw [if_pos (.inl h1)]; exact wp_res rfl
      · refine wp_condF (by show cmpB .gtr a 1000000 = false; rw [cmpB_gtr]; simpa using h1) ?_
        by_cases h2 : b < -1000000
        · refine wp_vals [.bool true] (by show [U.bool (cmpB .lss b (-1000000))] = _; rw [cmpB_lss]; simp [h2]) (wp_alt0 (wp_chk rfl (wp_condT rfl ?_)))
          rw [if_pos (.inr h2)]; exact wp_res rfl
        · exact wp_vals [.bool false] (by show [U.bool (cmpB .lss b (-1000000))] = _; rw [cmpB_lss]; simp [h2]) (wp_alt0 (wp_chk rfl (wp_condF rfl (go (by omega)))))
  · cases h
theorem keepV_bnd (a : Int) : -324000 ≤ keepV a ∧ keepV a ≤ 324000 := by unfold keepV; split <;> (try split) <;> omega
end Go.Proofs.YtibbceoibcnpcaaGreat.Eng
