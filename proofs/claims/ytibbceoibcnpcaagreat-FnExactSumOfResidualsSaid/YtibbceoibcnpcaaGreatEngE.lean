/- The engine, part E: a state that fits a template reads as the template does; forgetting slots; the soundness of the executor over pieces of code, out of that over regions. No condition. -/
import Derived.Test.YtibbceoibcnpcaaGreatEngD
namespace Go.Proofs.YtibbceoibcnpcaaGreat.Eng
open Go

theorem Rel'.lt {w0 M I η σ a w} (h : Rel' w0 M I η σ a w) {g : Nat} (hg : WB I σ g) : g < w.heap.size := by
  rcases hg with ⟨b, hb, rfl⟩ | ⟨r, hr, hv⟩
  · obtain ⟨ls, hl⟩ := Option.isSome_iff_exists.1 hb
    obtain ⟨cur, e, h1, _⟩ := h.boxes b ls hl
    exact (Array.getElem?_eq_some_iff.1 h1).1
  · obtain ⟨q, hq⟩ := Option.isSome_iff_exists.1 hr
    obtain ⟨us, _, xs, h1, _⟩ := h.rows r q hq
    exact (h1.lt _ hv).2

section fit
variable {n : Nat} {η ζ : List U} {w : World} {I : In} {R R' : Nat → Prop} {σ T : PS}

def Pre (acc es : List E) : Prop := ∃ zs, es = acc ++ zs
theorem Pre.refl (l : List E) : Pre l l := ⟨[], by simp⟩
theorem Pre.trans {a b c : List E} (h : Pre a b) (k : Pre b c) : Pre a c := by
  obtain ⟨x, rfl⟩ := h; obtain ⟨y, rfl⟩ := k; exact ⟨x ++ y, by simp⟩

theorem fitE_den (hn : η.length = n) {acc acc' : List E} {t s : E} (h : fitE n acc t s = some acc') :
    Pre acc acc' ∧ ∀ es, Pre acc' es → t.den (η ++ es.map (E.den (η ++ ζ))) = s.den (η ++ ζ) := by
  unfold fitE at h
  split at h
  · rename_i ht
    cases h
    refine ⟨⟨[s], rfl⟩, ?_⟩
    rintro es ⟨zs, rfl⟩
    have ht := of_decide_eq_true ht; subst ht
    simp [E.den, hn]
  · split at h
    · rename_i hs; cases h
      rw [Bool.and_eq_true] at hs
      obtain ⟨h1, h2⟩ := hs
      have h2 := of_decide_eq_true h2; subst h2
      exact ⟨Pre.refl _, fun es _ => by rw [E.den_app hn _ h1, E.den_app hn _ h1]⟩
    · cases h

theorem fitLV_sound (hn : η.length = n) (hR : ∀ b, R b → R' b) : ∀ {t s : LV} {acc acc' : List E}, fitLV n acc t s = some acc' → t.wf T = true →
    Pre acc acc' ∧ ∀ es, Pre acc' es → ∀ v, LVr R w (η ++ ζ) I σ s v → LVr R' w (η ++ es.map (E.den (η ++ ζ))) I T t v
  | .u k t, .u k' s, acc, acc', h, _ => by
    have h' : (if K.beq k k' then fitE n acc t s else none) = some acc' := by cases k <;> exact h
    split at h'
    · rename_i hk
      have := K.eq_of_beq _ _ hk; subst this
      obtain ⟨h1, h2⟩ := fitE_den (ζ := ζ) hn h'
      refine ⟨h1, fun es he v hv => ?_⟩
      simp only [LVr] at hv ⊢
      rw [h2 es he]; exact Rd.mono hv hR fun _ _ => rfl
    · cases h'
  | .u (.lst e ks) t, .nil, acc, acc', h, _ => by
    obtain ⟨h1, h2⟩ := fitE_den (ζ := ζ) hn h
    refine ⟨h1, fun es he v hv => ?_⟩
    simp only [LVr] at hv ⊢
    rw [h2 es he, hv]; exact Rd.nil _ _
  | .own r, .own r', acc, acc', h, hw => by
    simp only [fitLV] at h
    split at h
    · rename_i hr; cases h
      have := Nat.eq_of_beq_eq_true hr; subst this
      exact ⟨Pre.refl _, fun es _ v hv => ⟨hv.1, hw⟩⟩
    · cases h
  | .nil, .nil, acc, acc', h, _ => by
    cases h; exact ⟨Pre.refl _, fun es _ v hv => hv⟩
  | .u (.int _) _, .nil, _, _, h, _ | .u .bool _, .nil, _, _, h, _ | .u .str _, .nil, _, _, h, _ | .u _ _, .own _, _, _, h, _ | .own _, .u _ _, _, _, h, _ | .own _, .nil, _, _, h, _
  | .nil, .u _ _, _, _, h, _ | .nil, .own _, _, _, h, _ => by simp [fitLV] at h

theorem fitLs_sound (hn : η.length = n) (hR : ∀ b, R b → R' b) : ∀ {t s : List LV} {acc acc' : List E}, fitLs n acc t s = some acc' → t.all (LV.wf T) = true →
    Pre acc acc' ∧ ∀ es, Pre acc' es → ∀ vs, All2 (LVr R w (η ++ ζ) I σ) s vs → All2 (LVr R' w (η ++ es.map (E.den (η ++ ζ))) I T) t vs
  | [], [], acc, acc', h, _ => by
    cases h; exact ⟨Pre.refl _, fun es _ v hv => by cases v <;> first | trivial | exact hv.elim⟩
  | t :: ts, s :: ss, acc, acc', h, hw => by
    simp only [fitLs] at h
    simp only [List.all_cons, Bool.and_eq_true] at hw
    split at h
    · rename_i a1 h1
      obtain ⟨p1, f1⟩ := fitLV_sound (R := R) (R' := R') (w := w) (I := I) (σ := σ) (ζ := ζ) hn hR h1 hw.1
      obtain ⟨p2, f2⟩ := fitLs_sound hn hR h hw.2
      refine ⟨p1.trans p2, fun es he vs hv => ?_⟩
      match vs, hv with
      | v :: vs, hv => exact ⟨f1 es (p2.trans he) v hv.1, f2 es he vs hv.2⟩
    · cases h
  | [], _ :: _, _, _, h, _ | _ :: _, [], _, _, h, _ => by simp [fitLs] at h

theorem fitSV_sound (hn : η.length = n) (hR : ∀ b, R b → R' b) {t s : SV} {acc acc' : List E} (h : fitSV n acc t s = some acc') (hw : t.wf T = true) :
    Pre acc acc' ∧ ∀ es, Pre acc' es → ∀ v, SVr R w (η ++ ζ) I σ s v → SVr R' w (η ++ es.map (E.den (η ++ ζ))) I T t v := by
  unfold fitSV at h
  split at h
  · cases h; exact ⟨Pre.refl _, fun es _ v _ => trivial⟩
  · rename_i t s
    exact fitLV_sound hn hR h (by simpa [SV.wf, TV.ls] using hw)
  · rename_i t s
    obtain ⟨p, f⟩ := fitLs_sound (R := R) (R' := R') (w := w) (I := I) (σ := σ) (ζ := ζ) hn hR h (by simpa [SV.wf, TV.ls] using hw)
    exact ⟨p, fun es he v hv => let ⟨cs, h1, h2⟩ := hv; ⟨cs, h1, f es he _ h2⟩⟩
  · split at h
    · rename_i b o b' o' hb; cases h
      rw [Bool.and_eq_true] at hb
      have h1 := Nat.eq_of_beq_eq_true hb.1; have h2 := Nat.eq_of_beq_eq_true hb.2; subst h1; subst h2
      exact ⟨Pre.refl _, fun es _ v hv => ⟨hv.1, hw⟩⟩
    · cases h
  · split at h
    · rename_i f a g b hb; cases h
      rw [Bool.and_eq_true] at hb
      have h1 := Nat.eq_of_beq_eq_true hb.1; have h2 := of_decide_eq_true hb.2; subst h1; subst h2
      exact ⟨Pre.refl _, fun es _ v hv => ⟨hv.1, by simpa [SV.wf] using hw⟩⟩
    · cases h
  · cases h

theorem fitSs_sound (hn : η.length = n) (hR : ∀ b, R b → R' b) : ∀ {t s : List SV} {acc acc' : List E}, fitSs n acc t s = some acc' → t.all (SV.wf T) = true →
    Pre acc acc' ∧ ∀ es, Pre acc' es → ∀ vs, All2 (SVr R w (η ++ ζ) I σ) s vs → All2 (SVr R' w (η ++ es.map (E.den (η ++ ζ))) I T) t vs
  | [], [], acc, acc', h, _ => by
    cases h; exact ⟨Pre.refl _, fun es _ v hv => by cases v <;> first | trivial | exact hv.elim⟩
  | t :: ts, s :: ss, acc, acc', h, hw => by
    simp only [fitSs] at h
    simp only [List.all_cons, Bool.and_eq_true] at hw
    split at h
    · rename_i a1 h1
      obtain ⟨p1, f1⟩ := fitSV_sound (R := R) (R' := R') (w := w) (I := I) (σ := σ) (ζ := ζ) hn hR h1 hw.1
      obtain ⟨p2, f2⟩ := fitSs_sound hn hR h hw.2
      refine ⟨p1.trans p2, fun es he vs hv => ?_⟩
      match vs, hv with
      | v :: vs, hv => exact ⟨f1 es (p2.trans he) v hv.1, f2 es he vs hv.2⟩
    · cases h
  | [], _ :: _, _, _, h, _ | _ :: _, [], _, _, h, _ => by simp [fitSs] at h

theorem fitBs_keys {bs : List (Nat × List LV)} : ∀ {t : List (Nat × List LV)} {acc acc' : List E}, fitBs n bs acc t = some acc' → ∀ b, (lookB t b).isSome = true → (lookB bs b).isSome = true
  | [], _, _, _, b, hb => by simp [lookB] at hb
  | (c, t) :: ts, acc, acc', h, b, hb => by
    simp only [fitBs] at h
    split at h
    · rename_i s hs
      split at h
      · simp only [lookB] at hb
        split at hb
        · rename_i hc; have := Nat.eq_of_beq_eq_true hc; subst this; rw [hs]; rfl
        · exact fitBs_keys h b hb
      · cases h
    · cases h

theorem fitBs_sound (hn : η.length = n) (hR : ∀ b, R b → R' b) {bs : List (Nat × List LV)} : ∀ {t : List (Nat × List LV)} {acc acc' : List E}, fitBs n bs acc t = some acc' → t.all (fun p => p.2.all (LV.wf T)) = true →
    Pre acc acc' ∧ ∀ es, Pre acc' es → ∀ b lt, lookB t b = some lt → ∃ ls, lookB bs b = some ls ∧ ∀ vs, All2 (LVr R w (η ++ ζ) I σ) ls vs → All2 (LVr R' w (η ++ es.map (E.den (η ++ ζ))) I T) lt vs
  | [], acc, acc', h, _ => by
    cases h; exact ⟨Pre.refl _, fun es _ b lt hl => by simp [lookB] at hl⟩
  | (c, t) :: ts, acc, acc', h, hw => by
    simp only [fitBs] at h
    simp only [List.all_cons, Bool.and_eq_true] at hw
    split at h
    · rename_i s hs
      split at h
      · rename_i a1 h1
        obtain ⟨p1, f1⟩ := fitLs_sound (R := R) (R' := R') (w := w) (I := I) (σ := σ) (ζ := ζ) hn hR h1 hw.1
        obtain ⟨p2, f2⟩ := fitBs_sound hn hR h hw.2
        refine ⟨p1.trans p2, fun es he b lt hl => ?_⟩
        simp only [lookB] at hl
        split at hl
        · rename_i hc; have := Nat.eq_of_beq_eq_true hc; subst this; cases hl
          exact ⟨s, hs, fun vs hv => f1 es (p2.trans he) vs hv⟩
        · exact f2 es he b lt hl
      · cases h
    · cases h

theorem fitRs_sound (hn : η.length = n) {rs : List Row} : ∀ {t : List Row} {acc acc' : List E}, fitRs n rs acc t = some acc' →
    Pre acc acc' ∧ ∀ es, Pre acc' es → ∀ r qt, lookR t r = some qt → ∃ q, lookR rs r = some q ∧ q.e = qt.e ∧ q.ks = qt.ks ∧ qt.c.den (η ++ es.map (E.den (η ++ ζ))) = q.c.den (η ++ ζ)
  | [], acc, acc', h => by
    cases h; exact ⟨Pre.refl _, fun es _ b lt hl => by simp [lookR] at hl⟩
  | t :: ts, acc, acc', h => by
    simp only [fitRs] at h
    split at h
    · rename_i s hs
      split at h
      · rename_i hk
        split at h
        · rename_i a1 h1
          obtain ⟨p1, f1⟩ := fitE_den (ζ := ζ) hn h1
          obtain ⟨p2, f2⟩ := fitRs_sound hn h
          refine ⟨p1.trans p2, fun es he b lt hl => ?_⟩
          simp only [lookR] at hl
          split at hl
          · rename_i hc; have := Nat.eq_of_beq_eq_true hc; subst this; cases hl
            have hk := K.eq_of_beq _ _ hk
            injection hk with k1 k2
            exact ⟨s, hs, k1.symm, k2.symm, f1 es (p2.trans he)⟩
          · exact f2 es he b lt hl
        · cases h
      · cases h
    · cases h

theorem fit_sound {w0 : World} {M : List Nat} {a : Act} (hn : η.length = n) {es : List E} (h : fit n T σ = some es) (hr : Rel' w0 M I (η ++ ζ) σ a w) :
    Rel' w0 M I (η ++ es.map (E.den (η ++ ζ))) T a w := by
  unfold fit at h
  split at h
  · rename_i hwf
    split at h
    · rename_i a1 h1
      split at h
      · rename_i a2 h2
        simp only [PS.wf, Bool.and_eq_true] at hwf
        obtain ⟨⟨⟨w1, w2⟩, w3⟩, w4⟩ := hwf
        have hkB : ∀ b, (lookB T.boxes b).isSome = true → (lookB σ.boxes b).isSome = true := fitBs_keys h2
        obtain ⟨p3, f3⟩ := fitRs_sound (ζ := ζ) hn h
        have hkR : ∀ r, (lookR T.rows r).isSome = true → (lookR σ.rows r).isSome = true := fun r hr => by
          obtain ⟨q, hq⟩ := Option.isSome_iff_exists.1 hr
          obtain ⟨q', hq', _⟩ := f3 _ (Pre.refl _) r q hq
          rw [hq']; rfl
        have hWB : ∀ g, WB I T g → WB I σ g := fun g hg => hg.imp (fun ⟨b, hb, e⟩ => ⟨b, hkB b hb, e⟩) (fun ⟨b, hb, e⟩ => ⟨b, hkR b hb, e⟩)
        have hR : ∀ b, Ok I σ w b → Ok I T w b := fun b hb => ⟨hb.1, fun x => hb.2 (hWB b x)⟩
        obtain ⟨p1, f1⟩ := fitSs_sound (w := w) (I := I) (σ := σ) (ζ := ζ) hn hR h1 w1
        obtain ⟨p2, f2⟩ := fitBs_sound (w := w) (I := I) (σ := σ) (ζ := ζ) hn hR h2 w2
        exact {
          defers := hr.defers
          slots := f1 es (p2.trans p3) _ hr.slots
          boxes := fun b lt hl => by
            obtain ⟨ls, h3, h4⟩ := f2 es p3 b lt hl
            obtain ⟨cur, e, h5, h6⟩ := hr.boxes b ls h3
            exact ⟨cur, e, h5, h4 _ h6⟩
          rows := fun r qt hq => by
            obtain ⟨q, h3, h4, h5, h6⟩ := f3 es (Pre.refl _) r qt hq
            obtain ⟨us, h7, h8⟩ := hr.rows r q h3
            refine ⟨us, by rw [h6]; exact h7, ?_⟩
            rw [← h4, ← h5]
            obtain ⟨xs, y1, y2, y3⟩ := h8
            exact ⟨xs, y1, y2, fun i j hi hj => let ⟨x, hx, hrd⟩ := y3 i j hi hj; ⟨x, hx, hrd.mono hR fun _ _ => rfl⟩⟩
          injB := fun b b' h1 h2 => hr.injB b b' (hkB b h1) (hkB b' h2)
          injR := fun r r' g h1 h2 => hr.injR r r' g (hkR r h1) (hkR r' h2)
          injBR := fun b r h1 h2 => hr.injBR b r (hkB b h1) (hkR r h2)
          new := fun g hg => hr.new g (hWB g hg)
          r0 := hr.r0
          keyB := w3
          keyR := w4
          kept := hr.kept }
      · cases h
    · cases h
  · cases h
end fit

theorem killS_sound {R : Nat → Prop} {w : World} {η : List U} {I : In} {σ : PS} : ∀ (keep : List Bool) {ss : List SV} {vs : List Value}, All2 (SVr R w η I σ) ss vs → All2 (SVr R w η I σ) (killS keep ss) vs
  | [], [], [], _ => trivial
  | [], s :: ss, v :: vs, h => ⟨trivial, killS_sound [] h.2⟩
  | true :: ks, [], [], _ => trivial
  | false :: ks, [], [], _ => trivial
  | true :: ks, s :: ss, v :: vs, h => ⟨h.1, killS_sound ks h.2⟩
  | false :: ks, s :: ss, v :: vs, h => ⟨trivial, killS_sound ks h.2⟩
  | _, [], _ :: _, h | _, _ :: _, [], h => h.elim
theorem Rel.kill {w0 M fx η σ a w} (keep : List Bool) (h : Rel w0 M fx η σ a w) : Rel w0 M fx η (σ.kill keep) a w := by
  obtain ⟨I, h, hfx⟩ := h
  have ht : Tr (Ok I σ w) (Ok I (σ.kill keep) w) w w η I I σ (σ.kill keep) := ⟨fun _ h => h, fun _ _ => rfl, fun _ h => ⟨h, rfl⟩, fun r q hq => ⟨q, hq, rfl, rfl, rfl⟩⟩
  refine ⟨I, { h with slots := (killS_sound keep h.slots).mono fun s v hs => SVr.tr ht hs, boxes := fun b ls hl => ?_ }, hfx⟩
  obtain ⟨cur, e, h1, h2⟩ := h.boxes b ls hl
  exact ⟨cur, e, h1, h2.mono fun s v hs => LVr.tr ht hs⟩
end Go.Proofs.YtibbceoibcnpcaaGreat.Eng
