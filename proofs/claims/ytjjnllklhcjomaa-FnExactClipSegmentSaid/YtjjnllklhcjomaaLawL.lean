/- The reference's clipping; the law on ClipSegment in plain data. No condition. -/
import Derived.Test.YtjjnllklhcjomaaLawK
namespace Go.Proofs.Ytjjnllklhcjomaa.Eng
open Go

section
variable {G : FEnv} {K : Leaf → List U → Prop} {η : List U} {lab : Nat}
theorem wp_next {es : List E} {R : List U → Prop} {c : Prog} {η0 : List U} (vs : List U) (he : es.map (E.den η) = vs) (hw : R vs) : wpP G (.leaf (.vals 0 es)) lab η fun l η' => match l with
    | .vals 0 es => R (es.map (E.den η'))
    | .vals (lab + 1) es => wpP G c lab (η0 ++ es.map (E.den η')) K
    | _ => False := by
  show R (es.map (E.den η)); rw [he]; exact hw
theorem wp_brk {lb : Nat} {es : List E} {R : List U → Prop} {c : Prog} {η0 : List U} (vs : List U) (he : es.map (E.den η) = vs) (hw : wpP G c lb (η0 ++ vs) K) : wpP G (.leaf (.vals (lb + 1) es)) lab η fun l η' => match l with
    | .vals 0 es => R (es.map (E.den η'))
    | .vals (lab + 1) es => wpP G c lab (η0 ++ es.map (E.den η')) K
    | _ => False := by
  show wpP G c lb (η0 ++ es.map (E.den η)) K; rw [he]; exact hw
end

theorem cut_call {l b r t i ox oy px py : Int} (h : cutOk l b r t i ox oy px py) : g_cut [.int l, .int b, .int r, .int t, .int i, .int ox, .int oy, .int px, .int py] = some [.int (cutV l b r t i ox oy px py).1, .int (cutV l b r t i ox oy px py).2] := by
  unfold g_cut; dsimp only; rw [if_pos h]
set_option maxHeartbeats 1000000 in
theorem ok_l18Clip : FnOK Try.prog n_spec_l18Clip sg_spec_l18Clip g_clip := mk_spec_l18Clip ok_l18Beyond ok_l18Cut fun us rs hlen h => by
  unfold g_clip at h
  split at h
  · rename_i l b r t ax ay cx cy
    split at h
    · rename_i hw
      cases h
      clear hlen
      obtain ⟨hf, h1, h2, h3, h4⟩ := hw
      have hS : inS (ax, ay, cx, cy) := ⟨h1, h2, h3, h4⟩
      unfold pr_spec_l18Clip
      refine wp_chk rfl ?_
      refine iterP_count 4 0 (fun i us => ∃ px py qx qy : Int, us = [.int i, .int qx, .int qy, .int px, .int py] ∧ i ≤ 4 ∧ inS (px, py, qx, qy) ∧ totV l b r t i (px, py, qx, qy) = clipV l b r t (ax, ay, cx, cy)) _ ⟨ax, ay, cx, cy, rfl, by omega, hS, rfl⟩ ?_
      rintro i us ⟨px, py, qx, qy, rfl, hi, ⟨s1, s2, s3, s4⟩, ht⟩ R hR
      simp only at s1 s2 s3 s4
      refine wp_chk rfl ?_
      by_cases hi4 : i < 4
      · refine wp_condT (by simp [E.den, cmpB_lss]; omega) (wp_join ?_)
        refine wp_call (bey_call hf s1 s2) rfl (wp_call (bey_call hf s3 s4) rfl ?_)
        have hst := stepV_bey (l := l) (b := b) (r := r) (t := t) hi4 (ax := px) (ay := py) (cx := qx) (cy := qy)
        rw [totV_step hi4] at ht
        have hb1 := beyV_bnd (i := i) hf s1 s2
        have hb2 := beyV_bnd (i := i) hf s3 s4
        have hnx : ∀ px' py' qx' qy' : Int, stepV l b r t i (px, py, qx, qy) = some (px', py', qx', qy') → R [.int ((i : Int) + 1), .int qx', .int qy', .int px', .int py'] := fun px' py' qx' qy' e => by
          refine hR hi4 _ ⟨px', py', qx', qy', by simp, by omega, stepV_in hf.1 hf.2.1 hf.2.2.1 hf.2.2.2 ⟨s1, s2, s3, s4⟩ e, ?_⟩
          rw [e] at ht; exact ht
        have hwr : arith .add .i64 (i : Int) 1 = (i : Int) + 1 := by rw [ar_add, wrap64] <;> omega
        by_cases hx : 0 < beyV l b r t i px py
        · refine wp_join (wp_condT (by simp [E.den, cmpB_gtr, hx]) ?_)
          by_cases hy : 0 < beyV l b r t i qx qy
          · rw [if_pos ⟨hx, hy⟩] at hst
            rw [hst] at ht
            refine wp_vals [.bool true] (by simp [E.den, cmpB_gtr, hy]) (wp_alt0 (wp_chk rfl (wp_condT rfl ?_)))
            refine wp_vals _ rfl (wp_altS (wp_alt0 (wp_brk _ rfl (wp_alt0 (wp_res ?_)))))
            rw [← ht]; rfl
          · rw [if_neg (by omega), if_pos hx] at hst
            refine wp_vals [.bool false] (by simp [E.den, cmpB_gtr, hy]) (wp_alt0 (wp_chk rfl (wp_condF rfl (wp_condT (by simp [E.den, cmpB_gtr, hx]) ?_))))
            refine wp_call (cut_call ⟨hf, ⟨s1, s2, s3, s4⟩, hx, by omega⟩) rfl ?_
            refine wp_vals _ rfl (wp_alt0 (wp_chk rfl (wp_next _ rfl ?_)))
            have := hnx _ _ _ _ hst
            rw [← hwr] at this; exact this
        · refine wp_join (wp_condF (by simp [E.den, cmpB_gtr, hx]) ?_)
          rw [if_neg (by omega), if_neg hx] at hst
          refine wp_vals [.bool false] rfl (wp_alt0 (wp_chk rfl (wp_condF rfl (wp_condF (by simp [E.den, cmpB_gtr, hx]) ?_))))
          by_cases hy : 0 < beyV l b r t i qx qy
          · rw [if_pos hy] at hst
            refine wp_condT (by simp [E.den, cmpB_gtr, hy]) ?_
            refine wp_call (cut_call ⟨hf, ⟨s3, s4, s1, s2⟩, hy, by omega⟩) rfl ?_
            refine wp_vals _ rfl (wp_alt0 (wp_chk rfl (wp_next _ rfl ?_)))
            have := hnx _ _ _ _ hst
            rw [← hwr] at this; exact this
          · rw [if_neg hy] at hst
            refine wp_condF (by simp [E.den, cmpB_gtr, hy]) ?_
            refine wp_vals _ rfl (wp_alt0 (wp_chk rfl (wp_next _ rfl ?_)))
            have := hnx _ _ _ _ hst
            rw [← hwr] at this; exact this
      · have hi4' : i = 4 := by omega
        subst hi4'
        refine wp_condF (by simp [E.den, cmpB_lss]) (wp_brk _ rfl (wp_altS (wp_alt0 (wp_chk rfl (wp_res ?_)))))
        rw [← ht]; rfl
    · cases h
  · cases h

-- ClipSegment
def segV (l b r t ax ay cx cy : Int) : List U :=
  if faceV l b r t then if spot ax && spot ay && (spot cx && spot cy) then (match clipV l b r t (ax, ay, cx, cy) with
      | some (p, q, u, v) => [.int p, .int q, .int u, .int v, .int 0]
      | none => [.int 0, .int 0, .int 0, .int 0, .int 4])
    else [.int 0, .int 0, .int 0, .int 0, .int 2] else [.int 0, .int 0, .int 0, .int 0, .int 1]
def g_seg : List U → Option (List U)
  | [.int l, .int b, .int r, .int t, .int ax, .int ay, .int cx, .int cy] => some (segV l b r t ax ay cx cy)
  | _ => none
theorem inM_spot {x : Int} (h : spot x = true) : inM x := spot_iff.1 h
theorem clip_call {l b r t ax ay cx cy : Int} (hf : faceV l b r t = true) (hp : (spot ax && spot ay && (spot cx && spot cy)) = true) : g_clip [.int l, .int b, .int r, .int t, .int ax, .int ay, .int cx, .int cy] = some (outS (clipV l b r t (ax, ay, cx, cy))) := by
  simp only [faceV, Bool.and_eq_true, decide_eq_true_eq] at hf hp
  unfold g_clip; dsimp only
  rw [if_pos ⟨⟨inM_spot hf.1.1.1.1.1, inM_spot hf.1.1.1.1.2, inM_spot hf.1.1.1.2, inM_spot hf.1.1.2⟩, inM_spot hp.1.1, inM_spot hp.1.2, inM_spot hp.2.1, inM_spot hp.2.2⟩]
theorem ok_sClipSegment : FnOK Try.prog n_spec_ClipSegment sg_spec_ClipSegment g_seg := mk_spec_ClipSegment ok_sIsFace ok_l16Points ok_l18Clip fun us rs hlen h => by
  unfold g_seg at h
  split at h
  · rename_i l b r t ax ay cx cy
    cases h
    unfold pr_spec_ClipSegment segV
    refine wp_chk rfl ?_
    refine wp_call (rs := [.bool (faceV l b r t)]) rfl rfl ?_
    cases hf : faceV l b r t
    · exact wp_condT rfl (wp_res rfl)
    · refine wp_condF rfl ?_
      refine wp_call (rs := [.bool (spot ax && spot ay && (spot cx && spot cy))]) rfl rfl ?_
      cases hp : (spot ax && spot ay && (spot cx && spot cy))
      · exact wp_condT rfl (wp_res rfl)
      · refine wp_condF rfl ?_
        have hc := clip_call hf hp
        cases hv : clipV l b r t (ax, ay, cx, cy) with
        | none => rw [hv] at hc; exact wp_call hc rfl (wp_condT rfl (wp_res rfl))
        | some s => obtain ⟨p, q, u, v⟩ := s; rw [hv] at hc; exact wp_call hc rfl (wp_condF rfl (wp_res rfl))
  · cases h
theorem ok_iClipSegment : FnOK Try.prog n_impl_ClipSegment sg_impl_ClipSegment g_seg := mk_impl_ClipSegment ok_faced ok_clip fun us rs hlen h => by
  unfold g_seg at h
  split at h
  · rename_i l b r t ax ay cx cy
    cases h
    unfold pr_impl_ClipSegment segV
    refine wp_chk rfl ?_
    refine wp_call (rs := [.int (if faceV l b r t then if spot ax && spot ay && (spot cx && spot cy) then 0 else 2 else 1)]) rfl rfl ?_
    cases hf : faceV l b r t
    · exact wp_condT rfl (wp_res rfl)
    · cases hp : (spot ax && spot ay && (spot cx && spot cy))
      · exact wp_condT rfl (wp_res rfl)
      · refine wp_condF rfl ?_
        have hc := clip_call hf hp
        cases hv : clipV l b r t (ax, ay, cx, cy) with
        | none => rw [hv] at hc; exact wp_call hc rfl (wp_condT rfl (wp_res rfl))
        | some s => obtain ⟨p, q, u, v⟩ := s; rw [hv] at hc; exact wp_call hc rfl (wp_condF rfl (wp_res rfl))
  · cases h

-- the law
def g_two : List U → Option (List U)
  | [a, b] => some [a, b]
  | _ => none
theorem ok_toPoint : FnOK Try.prog n_laws_toPoint sg_laws_toPoint g_two := mk_laws_toPoint fun us rs hl h => by
  unfold g_two at h
  split at h
  · cases h
    exact wp_chk rfl (wp_res rfl)
  · cases h
def g_four : List U → Option (List U)
  | [a, b, c, d] => some [a, b, c, d]
  | _ => none
theorem ok_toFace : FnOK Try.prog n_laws_toFace sg_laws_toFace g_four := mk_laws_toFace fun us rs hl h => by
  unfold g_four at h
  split at h
  · cases h
    exact wp_chk rfl (wp_res rfl)
  · cases h
def g_eqP : List U → Option (List U)
  | [.int a, .int b, .int c, .int d] => some [.bool (decide (a = c) && decide (b = d))]
  | _ => none
theorem ok_eqPoint : FnOK Try.prog n_laws_eqPoint sg_laws_eqPoint g_eqP := mk_laws_eqPoint fun us rs hl h => by
  unfold g_eqP at h
  split at h
  · rename_i a b c d
    cases h
    simp only [pr_laws_eqPoint, wpP]
    by_cases h1 : a = c <;> by_cases h2 : b = d <;> simp [h1, h2, E.den, cmpB_neq]
  · cases h
def g_lawSeg : List U → Option (List U)
  | [.int _, .int _, .int _, .int _, .int _, .int _, .int _, .int _] => some [.bool true]
  | _ => none
theorem segV_five (l b r t ax ay cx cy : Int) : ∃ p q u v c : Int, segV l b r t ax ay cx cy = [.int p, .int q, .int u, .int v, .int c] := by
  unfold segV
  split
  · split
    · split
      · exact ⟨_, _, _, _, _, rfl⟩
      · exact ⟨_, _, _, _, _, rfl⟩
    · exact ⟨_, _, _, _, _, rfl⟩
  · exact ⟨_, _, _, _, _, rfl⟩
theorem ok_lawSeg : FnOK Try.prog n_laws_FnExactClipSegment sg_laws_FnExactClipSegment g_lawSeg := mk_laws_FnExactClipSegment ok_toFace ok_toPoint ok_sClipSegment ok_iClipSegment ok_eqPoint fun us rs hlen h => by
  unfold g_lawSeg at h
  split at h
  · rename_i l b r t ax ay cx cy
    cases h
    obtain ⟨p, q, u, v, c, e⟩ := segV_five l b r t ax ay cx cy
    have hg : g_seg [.int l, .int b, .int r, .int t, .int ax, .int ay, .int cx, .int cy] = some [.int p, .int q, .int u, .int v, .int c] := by rw [← e]; rfl
    have he : ∀ a b : Int, g_eqP [.int a, .int b, .int a, .int b] = some [.bool true] := fun a b => by simp [g_eqP]
    unfold pr_laws_FnExactClipSegment
    refine wp_chk rfl (wp_call (rs := [.int l, .int b, .int r, .int t]) rfl rfl (wp_call (rs := [.int ax, .int ay]) rfl rfl (wp_call (rs := [.int cx, .int cy]) rfl rfl ?_)))
    refine wp_call hg rfl ?_
    refine wp_call (rs := [.int l, .int b, .int r, .int t]) rfl rfl (wp_call (rs := [.int ax, .int ay]) rfl rfl (wp_call (rs := [.int cx, .int cy]) rfl rfl ?_))
    refine wp_call hg rfl (wp_join ?_)
    refine wp_call (he _ _) rfl (wp_condF rfl (wp_call (he _ _) rfl (wp_condF rfl ?_)))
    refine wp_vals [.bool false] (by simp [E.den, cmpB_neq]) (wp_alt0 (wp_chk rfl (wp_condF rfl (wp_res rfl))))
  · cases h
end Go.Proofs.Ytjjnllklhcjomaa.Eng
