/- Where a shadow falls, and how far that is from a point. No condition. -/
import Derived.Test.YtibbceoibcnpcaaGreatLawRI
namespace Go.Proofs.YtibbceoibcnpcaaGreat.Eng
open Go

theorem V6.u_inj {v w : V6} (h : v.u = w.u) : v = w := by
  cases v; cases w
  simp only [V6.u, List.cons.injEq, U.int.injEq] at h
  simp only [V6.mk.injEq]; omega
/-- the three axes of a wall -/
structure Ax where
  a : V6
  b : V6
  c : V6
def Ax.l (A : Ax) : List (List U) := [A.a.u, A.b.u, A.c.u]
theorem Ax.l_inj {A C : Ax} (h : A.l = C.l) : A = C := by
  cases A; cases C
  simp only [Ax.l, List.cons.injEq, and_true] at h
  obtain ⟨h1, h2, h3⟩ := h
  rw [V6.u_inj h1, V6.u_inj h2, V6.u_inj h3]
def Ax.B (A : Ax) : Prop := A.a.B 2600000 ∧ A.b.B 2600000 ∧ A.c.B 2600000
def axs (az sl : Int) : Ax := ⟨ax0 az, ax1 az sl, ax2 az sl⟩
theorem V6.B.mono {B C : Int} {v : V6} (h : v.B B) (hBC : B ≤ C) : v.B C := ⟨h.1.mono hBC, h.2.1.mono hBC, h.2.2.mono hBC⟩
theorem axs_B (az sl : Int) : (axs az sl).B := ⟨(dir_B _ _).mono (by decide), (dir_B _ _).mono (by decide), (dir_B _ _).mono (by decide)⟩
def ptV (v a : V6) : Int × Int := (dotLo v a, dotHi v a)
def Ax.p (A : Ax) (v : V6) : List (List U) := pL (ptV v A.a) (ptV v A.b) (ptV v A.c)

theorem one_l13Parts : ∃ g, FnOK Tryz.prog n_spec_l13Parts sg_spec_l13Parts g ∧ ∀ (A : Ax) (v : V6), A.B → v.B 2600000 → g (.lst A.l :: v.u) = some [.lst (A.p v)] := by
  obtain ⟨gd, od, hd⟩ := one_l06Dot
  obtain ⟨g, h1, h2⟩ := one_enc (n := 7) (X := Ax × V6) (fun x => .lst x.1.l :: x.2.u) (fun x => [.lst (x.1.p x.2)]) (fun x => x.1.B ∧ x.2.B 2600000) (fun x y h => by
    simp only [List.cons.injEq, U.lst.injEq] at h
    have e : x = y := Prod.ext (Ax.l_inj h.1) (V6.u_inj h.2)
    rw [e]) (mk_spec_l13Parts od) (by
    rintro ⟨⟨a, b, c⟩, v⟩ ⟨⟨ha, hb, hc⟩, hv⟩
    have c1 := hd a v ha hv
    have c2 := hd b v hb hv
    have c3 := hd c v hc hv
    rw [dotLo_comm, dotHi_comm] at c1 c2 c3
    exact wp_chk rfl (wp_guard rfl (wp_guard rfl (wp_call c1 rfl (wp_guard rfl (wp_guard rfl (wp_call c2 rfl (wp_guard rfl (wp_guard rfl (wp_call c3 rfl (wp_res rfl)))))))))))
  exact ⟨g, h1, fun A v hA hv => h2 (A, v) ⟨hA, hv⟩⟩
theorem lenG {e : E} {η : List U} (l : List (List U)) (he : e.den η = .lst l) (h : l.length ≤ 1048576) : ((E.cmp .leq (.len e) (.int 8796093022208)).den η).B = true := by
  simp only [E.den, he, cmpB_leq]
  show decide ((l.length : Int) ≤ 8796093022208) = true
  simp; omega
theorem one_parts : ∃ g, FnOK Tryz.prog n_impl_Wall_parts sg_impl_Wall_parts g ∧ ∀ (az sl : Int) (v : V6), wB az → wB sl → v.B 2600000 → g (.int az :: .int sl :: v.u) = some [.lst ((axs az sl).p v)] := by
  obtain ⟨gd, od, hd⟩ := one_dot
  obtain ⟨g, h1, h2⟩ := one_enc (n := 8) (X := Int × Int × V6) (fun x => .int x.1 :: .int x.2.1 :: x.2.2.u) (fun x => [.lst ((axs x.1 x.2.1).p x.2.2)]) (fun x => wB x.1 ∧ wB x.2.1 ∧ x.2.2.B 2600000) (fun x y h => by
    simp only [List.cons.injEq, U.int.injEq] at h
    have e : x = y := Prod.ext h.1 (Prod.ext h.2.1 (V6.u_inj h.2.2))
    rw [e]) (mk_impl_Wall_parts ok_axes od) (by
    rintro ⟨az, sl, v⟩ ⟨k1, k2, hv⟩
    have hA := axs_B az sl
    have c0 : g_axes [.int az, .int sl] = some [.lst (axs az sl).l] := axes_call k1 k2
    show Ans _ _ (.int az :: .int sl :: v.u) [.lst ((axs az sl).p v)]
    generalize axs az sl = A at *
    obtain ⟨a, b, c⟩ := A
    obtain ⟨ha, hb, hc⟩ := hA
    have c1 := hd v a hv ha
    have c2 := hd v b hv hb
    have c3 := hd v c hv hc
    refine wp_chk rfl (wp_call c0 rfl ?_)
    refine ⟨4, iterP_arg [.int 0, .lst []] rfl ?_⟩
    refine iterP_succ (wp_chk rfl (wp_condT rfl (wp_guard rfl (wp_call c1 rfl (wp_guard (lenG [[.int (ptV v a).1, .int (ptV v a).2]] rfl (by decide : 1 ≤ 1048576)) (wp_next [.int 1, .lst [[.int (ptV v a).1, .int (ptV v a).2]]] rfl ?_))))))
    refine iterP_succ (wp_chk rfl (wp_condT rfl (wp_guard rfl (wp_call c2 rfl (wp_guard (lenG [[.int (ptV v a).1, .int (ptV v a).2], [.int (ptV v b).1, .int (ptV v b).2]] rfl (by decide : 2 ≤ 1048576)) (wp_next [.int 2, .lst [[.int (ptV v a).1, .int (ptV v a).2], [.int (ptV v b).1, .int (ptV v b).2]]] rfl ?_))))))
    refine iterP_succ (wp_chk rfl (wp_condT rfl (wp_guard rfl (wp_call c3 rfl (wp_guard (lenG [[.int (ptV v a).1, .int (ptV v a).2], [.int (ptV v b).1, .int (ptV v b).2], [.int (ptV v c).1, .int (ptV v c).2]] rfl (by decide : 3 ≤ 1048576)) (wp_next [.int 3, .lst [[.int (ptV v a).1, .int (ptV v a).2], [.int (ptV v b).1, .int (ptV v b).2], [.int (ptV v c).1, .int (ptV v c).2]]] rfl ?_))))))
    exact iterP_succ (wp_chk rfl (wp_condF rfl (wp_brk _ rfl (wp_alt0 (wp_chk rfl (wp_res rfl)))))))
  exact ⟨g, h1, fun az sl v a b c => h2 (az, sl, v) ⟨a, b, c⟩⟩

-- vectors
def g_isPart : List U → Option (List U)
  | [.int a, .int b] => some [.bool (isI a b && (bndI a (-10000000) 10000000 && bndI b (-10000000) 10000000))]
  | _ => none
theorem ok_isPart : FnOK Tryz.prog n_impl_isPart sg_impl_isPart g_isPart := mk_impl_isPart ok_iIsInterval ok_within fun us rs hl h => by
  unfold g_isPart at h
  split at h
  · rename_i a b
    cases h
    refine wp_chk rfl (wp_join (wp_call (rs := [.bool (isI a b)]) rfl rfl ?_))
    cases h1 : isI a b
    · exact wp_condF rfl (wp_vals [.bool false] rfl (wp_alt0 (wp_chk rfl (wp_res rfl))))
    · exact wp_condT rfl (wp_call (within_call (m := 10000000) (by decide)) rfl (wp_vals _ rfl (wp_alt0 (wp_chk rfl (wp_res (by rw [Bool.true_and]; rfl))))))
  · cases h
theorem part_true {a b : Int} (h : ivB 2600000 a b) : g_isPart [.int a, .int b] = some [.bool true] := by
  have h1 := isI_iv h (by decide)
  have h2 : (bndI a (-10000000) 10000000 && bndI b (-10000000) 10000000) = true := within_true (m := 10000000) (by unfold ivB at h; omega) h.2.1 (by unfold ivB at h; omega)
  unfold g_isPart; dsimp only; rw [h1, h2]; rfl
theorem one_IsVector : ∃ g, FnOK Tryz.prog n_impl_IsVector sg_impl_IsVector g ∧ ∀ v : V6, v.B 2600000 → g v.u = some [.bool true] := by
  obtain ⟨g, h1, h2⟩ := one_enc (n := 6) (X := V6) (fun v => v.u) (fun _ => [.bool true]) (fun v => v.B 2600000) (fun _ _ _ => rfl) (mk_impl_IsVector ok_isPart) (by
    rintro v ⟨k1, k2, k3⟩
    exact wp_chk rfl (wp_join (wp_call (part_true k1) rfl (wp_condT rfl (wp_call (part_true k2) rfl (wp_condT rfl (wp_call (part_true k3) rfl (wp_vals [.bool true] rfl (wp_alt0 (wp_chk rfl (wp_res rfl)))))))))))
  exact ⟨g, h1, h2⟩

-- shadows
def upB (v : V6) (A : Ax) : Bool := decide (0 < v.z0) && decide (0 < (ptV v A.c).1)
def okS (h : Int) (v : V6) (A : Ax) : Bool := okPl h (ptV v A.a) (ptV v A.b) (ptV v A.c)
def plS (h : Int) (v : V6) (A : Ax) : List U := [.int (plX h (ptV v A.a) (ptV v A.c)).1, .int (plX h (ptV v A.a) (ptV v A.c)).2, .int (plX h (ptV v A.b) (ptV v A.c)).1, .int (plX h (ptV v A.b) (ptV v A.c)).2]
def plZ : List U := [.int 0, .int 0, .int 0, .int 0]
theorem qP_of {v : V6} {A : Ax} (hv : v.B 2600000) (hA : A.B) (h : 0 < (ptV v A.c).1) : qP (ptV v A.a) (ptV v A.b) (ptV v A.c) := by
  have a := dot_iv hv hA.1
  have b := dot_iv hv hA.2.1
  have c := dot_iv hv hA.2.2
  exact ⟨⟨a, h, c.2.1, c.2.2⟩, ⟨b, h, c.2.1, c.2.2⟩⟩
def shS (h : Int) (v : V6) (A : Ax) : List U := if upB v A then plS h v A ++ [.bool (okS h v A)] else plZ ++ [.bool false]
def shI (h : Int) (v : V6) (A : Ax) : List U := if upB v A && okS h v A then plS h v A ++ [.bool true] else plZ ++ [.bool false]
def shC (h : Int) (v : V6) (A : Ax) : List U := if 0 < (ptV v A.c).1 then (if okS h v A then plS h v A ++ [.int 0] else plZ ++ [.int 3]) else plZ ++ [.int 5]
def g_make : List U → Option (List U)
  | [.int l, .int a, .int b, .int h, .int n] => if wB a ∧ wB b ∧ nB n then some [.int l, .int a, .int b, .int h, .int (dLo n), .int (dHi n), .lst (axs a b).l] else none
  | _ => none
theorem make_call {l a b h n : Int} (h1 : wB a) (h2 : wB b) (h3 : nB n) : g_make [.int l, .int a, .int b, .int h, .int n] = some [.int l, .int a, .int b, .int h, .int (dLo n), .int (dHi n), .lst (axs a b).l] := by unfold g_make; dsimp only; rw [if_pos ⟨h1, h2, h3⟩]
theorem ok_l15Make : FnOK Tryz.prog n_spec_l15Make sg_spec_l15Make g_make := mk_spec_l15Make ok_l08Declination ok_l13Axes fun us rs hl h => by
  unfold g_make at h
  split at h
  · rename_i l a b k n
    split at h
    · rename_i hw
      cases h
      exact wp_chk rfl (wp_call (decl_call hw.2.2) rfl (wp_call (axes_call hw.1 hw.2.1) rfl (wp_res rfl)))
    · cases h
  · cases h
/-- a sun at work: latitude, wall (kept as told), height, declination, axes, minute -/
structure SunIn where
  lat : Int
  az : Int
  sl : Int
  h : Int
  d0 : Int
  d1 : Int
  A : Ax
  m : Int
def SunIn.u (x : SunIn) : List U := [.int x.lat, .int x.az, .int x.sl, .int x.h, .int x.d0, .int x.d1, .lst x.A.l, .int x.m]
theorem SunIn.u_inj {x y : SunIn} (h : x.u = y.u) : x = y := by
  cases x; cases y
  simp only [SunIn.u, List.cons.injEq, U.int.injEq, U.lst.injEq, and_true] at h
  obtain ⟨h1, h2, h3, h4, h5, h6, h7, h8⟩ := h
  have h7 := Ax.l_inj h7
  simp only [SunIn.mk.injEq]
  exact ⟨h1, h2, h3, h4, h5, h6, h7, h8⟩
def SunIn.v (x : SunIn) : V6 := sunV x.lat x.d0 x.d1 x.m
def SunIn.Ok (x : SunIn) : Prop := smA x.lat ∧ smA x.d0 ∧ smA x.d1 ∧ nB x.m ∧ hB x.h ∧ x.A.B
theorem one_l15Shadow : ∃ g, FnOK Tryz.prog n_spec_l15Shadow sg_spec_l15Shadow g ∧ ∀ x : SunIn, x.Ok → g x.u = some (shS x.h x.v x.A) := by
  obtain ⟨g1, o1, c1⟩ := one_l13Parts
  obtain ⟨g2, o2, c2⟩ := one_l14Place
  obtain ⟨g, h1, h2⟩ := one_enc (n := 8) (X := SunIn) SunIn.u (fun x => shS x.h x.v x.A) SunIn.Ok (fun x y h => by rw [SunIn.u_inj h]) (mk_spec_l15Shadow ok_l09Sun o1 o2 ok_sIsPlace) (by
    rintro ⟨lat, az, sl, k, d0, d1, A, m⟩ ⟨k1, k2, k3, k4, k5, k6⟩
    have hv := sun_B lat d0 d1 m
    have c0 := sun_call k1 k2 k3 k4
    show Ans _ _ _ (shS k (sunV lat d0 d1 m) A)
    generalize sunV lat d0 d1 m = v at *
    have c1 := c1 A v k6 hv
    have hq := qP_of hv k6
    unfold shS upB
    refine wp_chk rfl (wp_call c0 rfl (wp_call c1 rfl (wp_join ?_)))
    by_cases hz : 0 < v.z0
    · refine wp_condF (by show cmpB .leq v.z0 0 = false; rw [cmpB_leq]; simpa using hz) (wp_guard rfl (wp_guard rfl ?_))
      by_cases hn : 0 < (ptV v A.c).1
      · refine wp_vals [.bool false] (by show [U.bool (cmpB .leq (ptV v A.c).1 0)] = _; rw [cmpB_leq]; simpa using hn) (wp_alt0 (wp_chk rfl (wp_condF rfl ?_)))
        have c3 : g_pl (plS k v A) = some [.bool (okS k v A)] := rfl
        refine wp_call (c2 k _ _ _ k5 (hq hn)) rfl (wp_call c3 rfl (wp_res ?_))
        simp only [hz, hn, decide_true, Bool.and_true, if_true]; rfl
      · refine wp_vals [.bool true] (by show [U.bool (cmpB .leq (ptV v A.c).1 0)] = _; rw [cmpB_leq]; simpa using hn) (wp_alt0 (wp_chk rfl (wp_condT rfl (wp_res ?_))))
        simp only [hz, hn, decide_true, decide_false, Bool.and_false, if_false, Bool.false_eq_true]; rfl
    · refine wp_condT (by show cmpB .leq v.z0 0 = true; rw [cmpB_leq]; simpa using hz) (wp_vals [.bool true] rfl (wp_alt0 (wp_chk rfl (wp_condT rfl (wp_res ?_)))))
      simp only [hz, decide_false, Bool.false_and, if_false, Bool.false_eq_true]; rfl)
  exact ⟨g, h1, h2⟩
theorem hei_of {h : Int} (hh : hB h) : heiB h = true := by unfold heiB; rw [bndI_iff]; exact hh
theorem wall_w {a b : Int} (h : wallB a b = true) : wB a ∧ wB b := by
  simp only [wallB, latB, Bool.and_eq_true, bndI_iff] at h
  unfold wB; omega
theorem one_ShadowPlace : ∃ g, FnOK Tryz.prog n_impl_ShadowPlace sg_impl_ShadowPlace g ∧ ∀ (az sl h : Int) (v : V6), wallB az sl = true → hB h → v.B 2600000 → g (.int az :: .int sl :: .int h :: v.u) = some (shC h v (axs az sl)) := by
  obtain ⟨g0, o0, c0⟩ := one_IsVector
  obtain ⟨g1, o1, c1⟩ := one_parts
  obtain ⟨g2, o2, c2⟩ := one_placeOf
  obtain ⟨g, h1, h2⟩ := one_enc (n := 9) (X := Int × Int × Int × V6) (fun x => .int x.1 :: .int x.2.1 :: .int x.2.2.1 :: x.2.2.2.u) (fun x => shC x.2.2.1 x.2.2.2 (axs x.1 x.2.1)) (fun x => wallB x.1 x.2.1 = true ∧ hB x.2.2.1 ∧ x.2.2.2.B 2600000) (fun x y h => by
    simp only [List.cons.injEq, U.int.injEq] at h
    have e : x = y := Prod.ext h.1 (Prod.ext h.2.1 (Prod.ext h.2.2.1 (V6.u_inj h.2.2.2)))
    rw [e]) (mk_impl_ShadowPlace ok_iIsWall o0 ok_isHeight o1 o2) (by
    rintro ⟨az, sl, k, v⟩ ⟨k1, k2, hv⟩
    have hw := wall_w k1
    have c1 := c1 az sl v hw.1 hw.2 hv
    have hA := axs_B az sl
    have d0 : g_iswall [.int az, .int sl] = some [.bool true] := by unfold g_iswall; dsimp only; rw [k1]
    have d1 : g_hei [.int k] = some [.bool true] := by unfold g_hei; dsimp only; rw [hei_of k2]
    show Ans _ _ (.int az :: .int sl :: .int k :: v.u) (shC k v (axs az sl))
    generalize axs az sl = A at *
    have hq := qP_of hv hA
    unfold shC
    refine wp_chk rfl (wp_join (wp_call d0 rfl (wp_condF rfl (wp_call (c0 v hv) rfl (wp_vals [.bool false] rfl (wp_alt0 (wp_chk rfl (wp_condF rfl (wp_call d1 rfl (wp_condF rfl (wp_call c1 rfl (wp_guard rfl (wp_guard rfl ?_)))))))))))))
    by_cases hn : 0 < (ptV v A.c).1
    · refine wp_condF (by show cmpB .leq (ptV v A.c).1 0 = false; rw [cmpB_leq]; simpa using hn) ?_
      rw [if_pos hn]
      have c2 := c2 k _ _ _ k2 (hq hn)
      show wpP _ _ _ _ _
      unfold okS
      cases ho : okPl k (ptV v A.a) (ptV v A.b) (ptV v A.c)
      · rw [ho] at c2
        exact wp_call c2 rfl (wp_res rfl)
      · rw [ho] at c2
        exact wp_call c2 rfl (wp_res rfl)
    · refine wp_condT (by show cmpB .leq (ptV v A.c).1 0 = true; rw [cmpB_leq]; simpa using hn) (wp_res ?_)
      rw [if_neg hn]; rfl)
  exact ⟨g, h1, fun az sl k v a b c => h2 (az, sl, k, v) ⟨a, b, c⟩⟩
theorem one_shadowOf : ∃ g, FnOK Tryz.prog n_impl_Dial_shadowOf sg_impl_Dial_shadowOf g ∧ ∀ (l az sl h : Int) (v : V6), wallB az sl = true → hB h → v.B 2600000 → g (.int l :: .int az :: .int sl :: .int h :: v.u) = some (shI h v (axs az sl)) := by
  obtain ⟨g0, o0, c0⟩ := one_ShadowPlace
  obtain ⟨g, h1, h2⟩ := one_enc (n := 10) (X := Int × Int × Int × Int × V6) (fun x => .int x.1 :: .int x.2.1 :: .int x.2.2.1 :: .int x.2.2.2.1 :: x.2.2.2.2.u) (fun x => shI x.2.2.2.1 x.2.2.2.2 (axs x.2.1 x.2.2.1)) (fun x => wallB x.2.1 x.2.2.1 = true ∧ hB x.2.2.2.1 ∧ x.2.2.2.2.B 2600000) (fun x y h => by
    simp only [List.cons.injEq, U.int.injEq] at h
    have e : x = y := Prod.ext h.1 (Prod.ext h.2.1 (Prod.ext h.2.2.1 (Prod.ext h.2.2.2.1 (V6.u_inj h.2.2.2.2))))
    rw [e]) (mk_impl_Dial_shadowOf o0) (by
    rintro ⟨l, az, sl, k, v⟩ ⟨k1, k2, hv⟩
    have c0 := c0 az sl k v k1 k2 hv
    show Ans _ _ (.int l :: .int az :: .int sl :: .int k :: v.u) (shI k v (axs az sl))
    generalize axs az sl = A at *
    unfold shI upB
    refine wp_chk rfl ?_
    by_cases hz : 0 < v.z0
    · refine wp_condF (by show cmpB .leq v.z0 0 = false; rw [cmpB_leq]; simpa using hz) ?_
      unfold shC at c0
      by_cases hn : 0 < (ptV v A.c).1
      · rw [if_pos hn] at c0
        cases ho : okS k v A
        · rw [ho] at c0
          refine wp_call c0 rfl (wp_res ?_)
          simp only [Bool.and_false, if_false, Bool.false_eq_true]; rfl
        · rw [ho] at c0
          refine wp_call c0 rfl (wp_res ?_)
          simp only [hz, hn, decide_true, Bool.and_true, if_true]; rfl
      · rw [if_neg hn] at c0
        refine wp_call c0 rfl (wp_res ?_)
        simp only [hz, hn, decide_true, decide_false, Bool.and_false, Bool.false_and, if_false, Bool.false_eq_true]; rfl
    · refine wp_condT (by show cmpB .leq v.z0 0 = true; rw [cmpB_leq]; simpa using hz) (wp_res ?_)
      simp only [hz, decide_false, Bool.false_and, if_false, Bool.false_eq_true]; rfl)
  exact ⟨g, h1, fun l az sl k v a b c => h2 (l, az, sl, k, v) ⟨a, b, c⟩⟩
/-- the sun of a day and a minute -/
def sunD (l n m : Int) : V6 := sunV l (dLo n) (dHi n) m
theorem one_shadow : ∃ g, FnOK Tryz.prog n_impl_Dial_shadow sg_impl_Dial_shadow g ∧ ∀ l a b h n m : Int, dialB l a b h = true → nB n → nB m → g [.int l, .int a, .int b, .int h, .int n, .int m] = some (shI h (sunD l n m) (axs a b)) := by
  obtain ⟨g0, o0, c0⟩ := one_shadowOf
  obtain ⟨g, h1, h2⟩ := one_enc (n := 6) (X := Int × Int × Int × Int × Int × Int) (fun x => [.int x.1, .int x.2.1, .int x.2.2.1, .int x.2.2.2.1, .int x.2.2.2.2.1, .int x.2.2.2.2.2]) (fun x => shI x.2.2.2.1 (sunD x.1 x.2.2.2.2.1 x.2.2.2.2.2) (axs x.2.1 x.2.2.1)) (fun x => dialB x.1 x.2.1 x.2.2.1 x.2.2.2.1 = true ∧ nB x.2.2.2.2.1 ∧ nB x.2.2.2.2.2) (fun x y h => by
    simp only [List.cons.injEq, U.int.injEq, and_true] at h
    obtain ⟨e1, e2, e3, e4, e5, e6⟩ := h
    simp only [e1, e2, e3, e4, e5, e6]) (mk_impl_Dial_shadow ok_declination ok_sunAt o0) (by
    rintro ⟨l, a, b, k, n, m⟩ ⟨k1, k2, k3⟩
    have hd := dial_facts k1
    have hw : wallB a b = true := by simp only [dialB, Bool.and_eq_true] at k1; exact k1.2.1
    have db := d_bnd n
    have hv := sun_B l (dLo n) (dHi n) m
    have c1 := sun_call (lat := l) (d0 := dLo n) (d1 := dHi n) (m := m) (by unfold smA; omega) (by unfold smA; omega) (by unfold smA; omega) k3
    have c2 := c0 l a b k _ hw hd.2.2.2 hv
    show Ans _ _ _ (shI k (sunV l (dLo n) (dHi n) m) (axs a b))
    generalize axs a b = A at *
    generalize sunV l (dLo n) (dHi n) m = v at *
    refine wp_chk rfl (wp_call (decl_call k2) rfl (wp_call c1 rfl (wp_call c2 ?_ (wp_res ?_))))
    · unfold shI; split <;> rfl
    · unfold shI; split <;> rfl)
  exact ⟨g, h1, fun l a b k n m x y z => h2 (l, a, b, k, n, m) ⟨x, y, z⟩⟩

-- residuals
def sqA (a b c d : Int) : Int := arith .add .i64 (arith .mul .i64 (arith .sub .i64 a c) (arith .sub .i64 a c)) (arith .mul .i64 (arith .sub .i64 b d) (arith .sub .i64 b d))
def g_sq : List U → Option (List U)
  | [.int a, .int b, .int c, .int d] => some [.int (sqA a b c d)]
  | _ => none
theorem ok_l16Square : FnOK Tryz.prog n_spec_l16Square sg_spec_l16Square g_sq := mk_spec_l16Square fun us rs hl h => by
  unfold g_sq at h
  split at h
  · cases h; exact wp_chk rfl (wp_res rfl)
  · cases h
theorem ok_square : FnOK Tryz.prog n_impl_Point_square sg_impl_Point_square g_sq := mk_impl_Point_square fun us rs hl h => by
  unfold g_sq at h
  split at h
  · cases h; exact wp_chk rfl (wp_res rfl)
  · cases h
def cB (a : Int) : Prop := -100000000000000000 ≤ a ∧ a ≤ 100000000000000000
instance (x : Int) : Decidable (cB x) := inferInstanceAs (Decidable (_ ∧ _))
def g_mid : List U → Option (List U)
  | [.int a, .int b, .int c, .int d] => if cB a ∧ cB b ∧ cB c ∧ cB d then some [.int ((a + b) / 2), .int ((c + d) / 2)] else none
  | _ => none
theorem ok_l14Middle : FnOK Tryz.prog n_spec_l14Middle sg_spec_l14Middle g_mid := mk_spec_l14Middle ok_l01Floor fun us rs hl h => by
  unfold g_mid at h
  split at h
  · rename_i a b c d
    split at h
    · rename_i hw
      cases h
      unfold cB at hw
      have e1 : arith .add .i64 a b = a + b := a_add (by omega) (by omega)
      have e2 : arith .add .i64 c d = c + d := a_add (by omega) (by omega)
      exact wp_chk rfl (wp_callA [.int (a + b), .int 2] (by rw [← e1]; rfl) (floor_call (by omega) (by omega) (by omega) (by omega)) rfl (wp_callA [.int (c + d), .int 2] (by rw [← e2]; rfl) (floor_call (by omega) (by omega) (by omega) (by omega)) rfl (wp_res rfl)))
    · cases h
  · cases h
theorem ok_middle : FnOK Tryz.prog n_impl_Place_middle sg_impl_Place_middle g_mid := mk_impl_Place_middle ok_floor fun us rs hl h => by
  unfold g_mid at h
  split at h
  · rename_i a b c d
    split at h
    · rename_i hw
      cases h
      unfold cB at hw
      have e1 : arith .add .i64 a b = a + b := a_add (by omega) (by omega)
      have e2 : arith .add .i64 c d = c + d := a_add (by omega) (by omega)
      exact wp_chk rfl (wp_callA [.int (a + b), .int 2] (by rw [← e1]; rfl) (floor_call (by omega) (by omega) (by omega) (by omega)) rfl (wp_callA [.int (c + d), .int 2] (by rw [← e2]; rfl) (floor_call (by omega) (by omega) (by omega) (by omega)) rfl (wp_res rfl)))
    · cases h
  · cases h
/-- the middle of the place -/
def mdX (h : Int) (v : V6) (A : Ax) : Int := ((plX h (ptV v A.a) (ptV v A.c)).1 + (plX h (ptV v A.a) (ptV v A.c)).2) / 2
def mdY (h : Int) (v : V6) (A : Ax) : Int := ((plX h (ptV v A.b) (ptV v A.c)).1 + (plX h (ptV v A.b) (ptV v A.c)).2) / 2
def resS (h : Int) (v : V6) (A : Ax) (x y : Int) : Int := if upB v A && okS h v A then sqA (mdX h v A) (mdY h v A) x y else -1
theorem okS_b {h : Int} {v : V6} {A : Ax} (ho : okS h v A = true) : (-1000000 ≤ (plX h (ptV v A.a) (ptV v A.c)).1 ∧ (plX h (ptV v A.a) (ptV v A.c)).1 ≤ 1000000) ∧ (-1000000 ≤ (plX h (ptV v A.a) (ptV v A.c)).2 ∧ (plX h (ptV v A.a) (ptV v A.c)).2 ≤ 1000000) ∧
    (-1000000 ≤ (plX h (ptV v A.b) (ptV v A.c)).1 ∧ (plX h (ptV v A.b) (ptV v A.c)).1 ≤ 1000000) ∧ (-1000000 ≤ (plX h (ptV v A.b) (ptV v A.c)).2 ∧ (plX h (ptV v A.b) (ptV v A.c)).2 ≤ 1000000) := by
  simp only [okS, okPl, plV, Bool.and_eq_true, bndI_iff] at ho
  exact ⟨ho.1.1.1, ho.1.1.2, ho.2.1.1, ho.2.1.2⟩
theorem mid_call {h : Int} {v : V6} {A : Ax} (ho : okS h v A = true) : g_mid (plS h v A) = some [.int (mdX h v A), .int (mdY h v A)] := by
  obtain ⟨h1, h2, h3, h4⟩ := okS_b ho
  unfold g_mid plS; dsimp only; rw [if_pos ⟨by unfold cB; omega, by unfold cB; omega, by unfold cB; omega, by unfold cB; omega⟩]; rfl
/-- the residual of an observation -/
def resV (l a b h n m x y : Int) : Int := resS h (sunD l n m) (axs a b) x y
theorem obs_n {n m x y : Int} (h : obsV n m x y = true) : nB n ∧ nB m := by
  simp only [obsV, dayB, minB, Bool.and_eq_true, bndI_iff] at h
  unfold nB; omega
def g_res (us : List U) : Option (List U) :=
  match us with
  | [.int l, .int a, .int b, .int h, .int n, .int m, .int x, .int y] => if dialB l a b h = true ∧ nB n ∧ nB m then some [.int (resV l a b h n m x y)] else none
  | _ => none
theorem res_call {l a b h n m : Int} (x y : Int) (h1 : dialB l a b h = true) (h2 : nB n) (h3 : nB m) : g_res [.int l, .int a, .int b, .int h, .int n, .int m, .int x, .int y] = some [.int (resV l a b h n m x y)] := by unfold g_res; dsimp only; rw [if_pos ⟨h1, h2, h3⟩]
theorem ok_l25Residual : FnOK Tryz.prog n_spec_l25Residual sg_spec_l25Residual g_res := by
  obtain ⟨g1, o1, c1⟩ := one_l15Shadow
  refine mk_spec_l25Residual ok_l15Make o1 ok_l14Middle ok_l16Square fun us rs hl h => ?_
  unfold g_res at h
  split at h
  · rename_i l a b k n m x y
    split at h
    · rename_i hw
      cases h
      clear hl
      obtain ⟨k1, k2, k3⟩ := hw
      have hd := dial_facts k1
      have hwl : wallB a b = true := by simp only [dialB, Bool.and_eq_true] at k1; exact k1.2.1
      have hww := wall_w hwl
      have db := d_bnd n
      have c1 := c1 ⟨l, a, b, k, dLo n, dHi n, axs a b, m⟩ ⟨by unfold smA; simp only; omega, by unfold smA; simp only; omega, by unfold smA; simp only; omega, k3, hd.2.2.2, axs_B a b⟩
      have c0 := make_call (l := l) (h := k) hww.1 hww.2 k2
      unfold resV resS
      change g1 [.int l, .int a, .int b, .int k, .int (dLo n), .int (dHi n), .lst (axs a b).l, .int m] = some (shS k (sunD l n m) (axs a b)) at c1
      generalize axs a b = A at *
      generalize sunD l n m = v at *
      unfold shS at c1
      cases h1 : upB v A
      · rw [h1] at c1
        exact wp_chk rfl (wp_call c0 rfl (wp_call c1 rfl (wp_condT rfl (wp_res rfl))))
      · rw [h1] at c1
        cases h2 : okS k v A
        · rw [h2] at c1
          exact wp_chk rfl (wp_call c0 rfl (wp_call c1 rfl (wp_condT rfl (wp_res rfl))))
        · rw [h2] at c1
          exact wp_chk rfl (wp_call c0 rfl (wp_call c1 rfl (wp_condF rfl (wp_call (mid_call h2) rfl (wp_call (rs := [.int (sqA (mdX k v A) (mdY k v A) x y)]) rfl rfl (wp_res rfl))))))
    · cases h
  · cases h
theorem ok_residual : FnOK Tryz.prog n_impl_Dial_residual sg_impl_Dial_residual g_res := by
  obtain ⟨g1, o1, c1⟩ := one_shadow
  refine mk_impl_Dial_residual o1 ok_middle ok_square fun us rs hl h => ?_
  unfold g_res at h
  split at h
  · rename_i l a b k n m x y
    split at h
    · rename_i hw
      cases h
      clear hl
      obtain ⟨k1, k2, k3⟩ := hw
      have c1 := c1 l a b k n m k1 k2 k3
      unfold resV resS
      generalize axs a b = A at *
      generalize sunD l n m = v at *
      unfold shI at c1
      cases h1 : upB v A
      · rw [h1] at c1
        exact wp_chk rfl (wp_call c1 rfl (wp_condT rfl (wp_res rfl)))
      · rw [h1] at c1
        cases h2 : okS k v A
        · rw [h2] at c1
          exact wp_chk rfl (wp_call c1 rfl (wp_condT rfl (wp_res rfl)))
        · rw [h2] at c1
          exact wp_chk rfl (wp_call c1 rfl (wp_condF rfl (wp_call (mid_call h2) rfl (wp_call (rs := [.int (sqA (mdX k v A) (mdY k v A) x y)]) rfl rfl (wp_res rfl)))))
    · cases h
  · cases h
end Go.Proofs.YtibbceoibcnpcaaGreat.Eng
