/- The engine, part T: a function. No condition. -/
import Derived.Test.YtibbceoibcnpcaaGreatEngS
namespace Go.Proofs.YtibbceoibcnpcaaGreat.Eng
open Go

/-- the block that a parameter's pointer leads to -/
def parB : List PK → List Nat → Nat → Nat → Nat
  | .val _ _ :: ps, bs, i, j => parB ps bs (i + 1) j
  | .fn _ _ :: ps, bs, i, j => parB ps bs (i + 1) j
  | .ro _ :: ps, bs, i, j => parB ps bs (i + 1) j
  | .box _ :: ps, g :: bs, i, j => if j = i then g else parB ps bs (i + 1) j
  | _, _, _, _ => 0

theorem ownsOf_app : ∀ (a b : List LV), ownsOf (a ++ b) = ownsOf a ++ ownsOf b
  | [], b => rfl
  | .u _ _ :: a, b => by simp only [List.cons_append, ownsOf]; exact ownsOf_app a b
  | .own r :: a, b => by simp only [List.cons_append, ownsOf]; rw [ownsOf_app a b]
  | .nil :: a, b => by simp only [List.cons_append, ownsOf]; exact ownsOf_app a b
theorem mem_ownsOf : ∀ {l : List LV} {i r : Nat}, l[i]? = some (.own r) → r ∈ ownsOf l
  | .u _ _ :: l, 0, r, h | .nil :: l, 0, r, h => by simp at h
  | .own s :: l, 0, r, h => by simp at h; subst h; simp [ownsOf]
  | .u _ _ :: l, i + 1, r, h | .nil :: l, i + 1, r, h => by simp only [ownsOf]; exact mem_ownsOf (i := i) (by simpa using h)
  | .own s :: l, i + 1, r, h => by simp only [ownsOf]; exact List.mem_cons_of_mem _ (mem_ownsOf (i := i) (by simpa using h))
theorem nodupN_nodup : ∀ {l : List Nat}, nodupN l = true → l.Nodup
  | [], _ => List.nodup_nil
  | a :: l, h => by
    simp only [nodupN, Bool.and_eq_true, Bool.not_eq_true', List.any_eq_false] at h
    refine List.nodup_cons.2 ⟨fun hm => ?_, nodupN_nodup h.2⟩
    have := h.1 a hm; simp at this
theorem own_index : ∀ {l : List LV} {i j r : Nat}, (ownsOf l).Nodup → l[i]? = some (.own r) → l[j]? = some (.own r) → i = j
  | _ :: _, 0, 0, _, _, _, _ => rfl
  | .own s :: l, 0, j + 1, r, hn, h1, h2 => by
    simp at h1; subst h1
    simp only [ownsOf, List.nodup_cons] at hn
    exact absurd (mem_ownsOf (i := j) (by simpa using h2)) hn.1
  | .own s :: l, i + 1, 0, r, hn, h1, h2 => by
    simp at h2; subst h2
    simp only [ownsOf, List.nodup_cons] at hn
    exact absurd (mem_ownsOf (i := i) (by simpa using h1)) hn.1
  | .own s :: l, i + 1, j + 1, r, hn, h1, h2 => by
    simp only [ownsOf, List.nodup_cons] at hn
    rw [own_index (i := i) (j := j) hn.2 (by simpa using h1) (by simpa using h2)]
  | .u _ _ :: l, i + 1, j + 1, r, hn, h1, h2 | .nil :: l, i + 1, j + 1, r, hn, h1, h2 => by
    simp only [ownsOf] at hn
    rw [own_index (i := i) (j := j) hn (by simpa using h1) (by simpa using h2)]
  | .u _ _ :: _, 0, _ + 1, _, _, h1, _ | .nil :: _, 0, _ + 1, _, _, h1, _ => by simp at h1
  | .u _ _ :: _, _ + 1, 0, _, _, _, h2 | .nil :: _, _ + 1, 0, _, _, _, h2 => by simp at h2

section
variable {P : Program} {T : Tab} {w0 : World} {M : List Nat} {fx : Fx} {I : In} {η : List U} {σ : PS} {a : Act} {w w' : World}

-- the entry
theorem parSV_box : ∀ {ps : List PK} {i v : Nat} {R : Nat → Prop} {vs : List Value} {us : List U} {bs : List Nat}, ArgsRel R w ps vs us bs →
    (∀ j ls, lookB (parSV ps i v).2 j = some ls → i ≤ j ∧ parB ps bs i j ∈ bs) ∧ nodupB (parSV ps i v).2 = true ∧
    (bs.Nodup → ∀ j j', (lookB (parSV ps i v).2 j).isSome = true → (lookB (parSV ps i v).2 j').isSome = true → parB ps bs i j = parB ps bs i j' → j = j')
  | [], i, v, R, [], [], [], _ => ⟨fun j ls h => by simp [parSV, lookB] at h, rfl, fun _ j j' h => by simp [parSV, lookB] at h⟩
  | .val agg ks :: ps, i, v, R, x :: vs, us, bs, h => by
    obtain ⟨cs, u1, u2, _, _, _, h4⟩ := h
    obtain ⟨r1, r2, r3⟩ := parSV_box (i := i + 1) (v := v + ks.length) h4
    simp only [parSV, parB]
    exact ⟨fun j ls hj => ⟨by have := (r1 j ls hj).1; omega, (r1 j ls hj).2⟩, r2, r3⟩
  | .ro ks :: ps, i, v, R, x :: vs, us, bs, h => by
    obtain ⟨a, cs, u1, u2, _, _, _, _, _, _, h4⟩ := h
    obtain ⟨r1, r2, r3⟩ := parSV_box (i := i + 1) (v := v + ks.length) h4
    simp only [parSV, parB]
    exact ⟨fun j ls hj => ⟨by have := (r1 j ls hj).1; omega, (r1 j ls hj).2⟩, r2, r3⟩
  | .fn f n :: ps, i, v, R, x :: vs, us, bs, h => by
    obtain ⟨caps, _, _, h4⟩ := h
    obtain ⟨r1, r2, r3⟩ := parSV_box (i := i + 1) (v := v) h4
    simp only [parSV, parB]
    exact ⟨fun j ls hj => ⟨by have := (r1 j ls hj).1; omega, (r1 j ls hj).2⟩, r2, r3⟩
  | .box ks :: ps, i, v, R, x :: vs, us, g :: bs, h => by
    obtain ⟨cur, e, u1, u2, _, _, _, _, h4⟩ := h
    obtain ⟨r1, r2, r3⟩ := parSV_box (i := i + 1) (v := v + ks.length) h4
    simp only [parSV, parB]
    refine ⟨fun j ls hj => ?_, ?_, fun hn j j' hj hj' he => ?_⟩
    · rw [lookB_cons] at hj
      by_cases hji : j = i
      · subst hji; simp
      · rw [if_neg hji] at hj
        obtain ⟨a1, a2⟩ := r1 j ls hj
        exact ⟨by omega, by rw [if_neg hji]; exact List.mem_cons_of_mem _ a2⟩
    · simp only [nodupB, Bool.and_eq_true, Option.isNone_iff_eq_none]
      refine ⟨?_, r2⟩
      cases hl : lookB (parSV ps (i + 1) (v + ks.length)).2 i with
      | none => rfl
      | some ls => have := (r1 i ls hl).1; omega
    · rw [List.nodup_cons] at hn
      rw [lookB_cons] at hj hj'
      by_cases h1 : j = i <;> by_cases h2 : j' = i
      · rw [h1, h2]
      · exfalso
        rw [if_neg h2] at hj' he; rw [if_pos h1] at he
        obtain ⟨ls, hl⟩ := Option.isSome_iff_exists.1 hj'
        have := (r1 j' ls hl).2; rw [← he] at this; exact hn.1 this
      · exfalso
        rw [if_neg h1] at hj he; rw [if_pos h2] at he
        obtain ⟨ls, hl⟩ := Option.isSome_iff_exists.1 hj
        have := (r1 j ls hl).2; rw [he] at this; exact hn.1 this
      · rw [if_neg h1] at hj he; rw [if_neg h2] at hj' he
        exact r3 hn.2 j j' hj hj' he
  | .fn _ _ :: _, _, _, _, [], _, _, h | .ro _ :: _, _, _, _, [], _, _, h | [], _, _, _, _ :: _, _, _, h | [], _, _, _, [], _ :: _, _, h | [], _, _, _, [], [], _ :: _, h | .val _ _ :: _, _, _, _, [], _, _, h | .box _ :: _, _, _, _, [], _, _, h | .box _ :: _, _, _, _, _ :: _, _, [], h => h.elim

theorem zipVar_rel {R : Nat → Prop} {k0 : Nat} {ks : List K} {cs : List Value} {u1 : List U} (h : RdL R w ks cs u1) (hv : ∀ (j : Nat) u, u1[j]? = some u → η.getD (k0 + j) default = u) :
    All2 (LVr R w η I σ) (ks.zipIdx.map fun p => LV.u p.1 (.var (k0 + p.2))) cs :=
  boxLeaf_rel (k0 := k0) (i := 0) h (fun j u hj => by rw [Nat.zero_add]; exact hv j u hj)

theorem parSV_rel {R : Nat → Prop} : ∀ {ps : List PK} {i v : Nat} {vs : List Value} {us : List U} {bs : List Nat}, ArgsRel R w ps vs us bs → (∀ (j : Nat) u, us[j]? = some u → η.getD (v + j) default = u) →
    (∀ j ls, lookB (parSV ps i v).2 j = some ls → I.ρ j = parB ps bs i j ∧ (lookB σ.boxes j).isSome = true) →
    All2 (SVr R w η I σ) (parSV ps i v).1 vs ∧ ∀ j ls, lookB (parSV ps i v).2 j = some ls → ∃ cur e, w.heap[I.ρ j]? = some (.cells cur e (0, 0)) ∧ All2 (LVr R w η I σ) ls cur.toList
  | [], i, v, [], [], [], _, _, _ => ⟨trivial, fun j ls h => by simp [parSV, lookB] at h⟩
  | .val agg ks :: ps, i, v, x :: vs, us, bs, h, hv, hρ => by
    obtain ⟨cs, u1, u2, rfl, hx, h3, h4⟩ := h
    have hl := h3.len.2
    simp only [parSV] at hρ ⊢
    obtain ⟨r1, r2⟩ := parSV_rel (i := i + 1) (v := v + ks.length) h4 (fun j u hj => by
      have := hv (ks.length + j) u (by rw [List.getElem?_append_right (by omega), hl, Nat.add_sub_cancel_left]; exact hj)
      rwa [← Nat.add_assoc] at this) (fun j ls hj => by have := hρ j ls hj; simpa only [parB] using this)
    have hz := zipVar_rel (I := I) (σ := σ) (k0 := v) h3 (fun j u hj => hv j u (by rw [List.getElem?_append_left (by have := (List.getElem?_eq_some_iff.1 hj).1; omega)]; exact hj))
    refine ⟨⟨?_, r1⟩, r2⟩
    cases agg with
    | true => simp only [if_true] at hx; exact ⟨cs.toArray, hx, hz⟩
    | false =>
      simp only [Bool.false_eq_true, if_false] at hx
      subst hx
      generalize (ks.zipIdx.map fun p => LV.u p.1 (.var (v + p.2))) = ls at hz
      match ls, hz with
      | [l], hz => exact hz.1
  | .ro ks :: ps, i, v, x :: vs, us, bs, h, hv, hρ => by
    obtain ⟨ad, cs, u1, u2, rfl, hx, hs, hb, hc, h3, h4⟩ := h
    have hl := h3.len.2
    simp only [parSV] at hρ ⊢
    obtain ⟨r1, r2⟩ := parSV_rel (i := i + 1) (v := v + ks.length) h4 (fun j u hj => by
      have := hv (ks.length + j) u (by rw [List.getElem?_append_right (by omega), hl, Nat.add_sub_cancel_left]; exact hj)
      rwa [← Nat.add_assoc] at this) (fun j ls hj => by have := hρ j ls hj; simpa only [parB] using this)
    have hz := zipVar_rel (I := I) (σ := σ) (k0 := v) h3 (fun j u hj => hv j u (by rw [List.getElem?_append_left (by have := (List.getElem?_eq_some_iff.1 hj).1; omega)]; exact hj))
    refine ⟨⟨⟨ad, hx, hs, hb, fun j l hj => ?_⟩, r1⟩, r2⟩
    obtain ⟨y, hy, hyr⟩ := hz.get hj
    exact ⟨y, hc j y hy, hyr⟩
  | .fn f n :: ps, i, v, x :: vs, us, bs, h, hv, hρ => by
    obtain ⟨caps, hx, hn, h4⟩ := h
    simp only [parSV] at hρ ⊢
    obtain ⟨r1, r2⟩ := parSV_rel (i := i + 1) (v := v) h4 hv (fun j ls hj => by have := hρ j ls hj; simpa only [parB] using this)
    have ht := r1.take n
    have hd := r1.drop n
    rw [← hn, List.take_left'] at ht
    rw [← hn, List.drop_left'] at hd
    rw [hn] at ht hd
    refine ⟨⟨?_, hd⟩, r2⟩
    split
    · rename_i cs hcs
      obtain ⟨h5, h6⟩ := capIds_rel hcs ht
      exact ⟨by rw [hx, h5], h6⟩
    · trivial
    · rfl
    · rfl
  | .box ks :: ps, i, v, x :: vs, us, g :: bs, h, hv, hρ => by
    obtain ⟨cur, e, u1, u2, rfl, hx, hg, h3, h4⟩ := h
    have hl := h3.len.2
    have hbox := parSV_box (i := i + 1) (v := v + ks.length) h4
    simp only [parSV] at hρ ⊢
    obtain ⟨r1, r2⟩ := parSV_rel (i := i + 1) (v := v + ks.length) h4 (fun j u hj => by
      have := hv (ks.length + j) u (by rw [List.getElem?_append_right (by omega), hl, Nat.add_sub_cancel_left]; exact hj)
      rwa [← Nat.add_assoc] at this) (fun j ls hj => by
        have hne : j ≠ i := by have := (hbox.1 j ls hj).1; omega
        have := hρ j ls (by rw [lookB_cons, if_neg hne]; exact hj)
        simpa only [parB, if_neg hne] using this)
    have hz := zipVar_rel (I := I) (σ := σ) (k0 := v) h3 (fun j u hj => hv j u (by rw [List.getElem?_append_left (by have := (List.getElem?_eq_some_iff.1 hj).1; omega)]; exact hj))
    have hi := hρ i _ (by rw [lookB_cons, if_pos rfl])
    simp only [parB, if_true] at hi
    refine ⟨⟨⟨by rw [hi.1]; exact hx, hi.2⟩, r1⟩, fun j ls hj => ?_⟩
    rw [lookB_cons] at hj
    by_cases hji : j = i
    · subst hji
      rw [if_pos rfl, Option.some.injEq] at hj; subst hj
      exact ⟨cur, e, by rw [hi.1]; exact hg, hz⟩
    · rw [if_neg hji] at hj
      exact r2 j ls hj
  | .fn _ _ :: _, _, _, [], _, _, h, _, _ | .ro _ :: _, _, _, [], _, _, h, _, _ | [], _, _, _ :: _, _, _, h, _, _ | [], _, _, [], _ :: _, _, h, _, _ | [], _, _, [], [], _ :: _, h, _, _ | .val _ _ :: _, _, _, [], _, _, h, _, _ | .box _ :: _, _, _, [], _, _, h, _, _ | .box _ :: _, _, _, _ :: _, _, [], h, _, _ => h.elim

theorem dead_rel {R : Nat → Prop} : ∀ (n : Nat) (vs : List Value), vs.length = n → All2 (SVr R w η I σ) (List.replicate n .dead) vs
  | 0, [], _ => trivial
  | n + 1, v :: vs, h => ⟨trivial, dead_rel n vs (by simpa using h)⟩

theorem argsLen {R : Nat → Prop} : ∀ {ps : List PK} {vs : List Value} {us : List U} {bs : List Nat}, ArgsRel R w ps vs us bs → us.length = Sig.nin ps ∧ (∀ i v, (parSV ps i v).1.length = vs.length) ∧ ∀ g ∈ bs, g < w.heap.size
  | [], [], [], [], _ => ⟨rfl, fun _ _ => rfl, by simp⟩
  | .val agg ks :: ps, x :: vs, us, bs, h => by
    obtain ⟨cs, u1, u2, rfl, hx, h3, h4⟩ := h
    obtain ⟨r1, r2, r3⟩ := argsLen h4
    exact ⟨by simp [Sig.nin, h3.len.2, r1], fun i v => by simp [parSV, r2], r3⟩
  | .ro ks :: ps, x :: vs, us, bs, h => by
    obtain ⟨a, cs, u1, u2, rfl, _, _, _, _, h3, h4⟩ := h
    obtain ⟨r1, r2, r3⟩ := argsLen h4
    exact ⟨by simp [Sig.nin, h3.len.2, r1], fun i v => by simp [parSV, r2], r3⟩
  | .fn f n :: ps, x :: vs, us, bs, h => by
    obtain ⟨caps, hx, hn, h4⟩ := h
    obtain ⟨r1, r2, r3⟩ := argsLen h4
    refine ⟨by simp [Sig.nin, r1], fun i v => ?_, r3⟩
    have := r2 (i + 1) v
    rw [List.length_append, hn] at this
    simp only [parSV, List.length_cons, List.length_drop]; omega
  | .box ks :: ps, x :: vs, us, g :: bs, h => by
    obtain ⟨cur, e, u1, u2, rfl, hx, hg, h3, h4⟩ := h
    obtain ⟨r1, r2, r3⟩ := argsLen h4
    refine ⟨by simp [Sig.nin, h3.len.2, r1], fun i v => by simp [parSV, r2], fun b hb => ?_⟩
    rcases List.mem_cons.1 hb with rfl | hb
    · exact (Array.getElem?_eq_some_iff.1 hg).1
    · exact r3 b hb
  | .fn _ _ :: _, [], _, _, h | .ro _ :: _, [], _, _, h | [], _ :: _, _, _, h | [], [], _ :: _, _, h | [], [], [], _ :: _, h | .val _ _ :: _, [], _, _, h | .box _ :: _, [], _, _, h | .box _ :: _, _ :: _, _, [], h => h.elim


/-- the state at a function's entry -/
theorem entry_rel {R : Nat → Prop} {ps : List PK} {vs : List Value} {us : List U} {bs : List Nat} (ha : ArgsRel R w ps vs us bs) (hn : bs.Nodup) (hR : ∀ b, R b → b < w.heap.size ∧ b ∉ bs) {k : Nat} :
    Rel w bs ⟨ps.length, parB ps bs 0, fun b => R b ∨ w.heap.size ≤ b ∨ b ∈ bs⟩ us ⟨(parSV ps 0 0).1 ++ List.replicate k .dead, (parSV ps 0 0).2, []⟩ { tmps := vs.toArray ++ Array.replicate k undef, defers := [] } w := by
  obtain ⟨b1, b2, b3⟩ := parSV_box (i := 0) (v := 0) ha
  generalize hI : ({ ρ := parB ps bs 0, vr := fun _ => undef, R0 := fun b => R b ∨ w.heap.size ≤ b ∨ b ∈ bs } : In) = I
  generalize hσ : (⟨(parSV ps 0 0).1 ++ List.replicate k .dead, (parSV ps 0 0).2, []⟩ : PS) = σ
  have eρ : I.ρ = parB ps bs 0 := by rw [← hI]
  have eb : σ.boxes = (parSV ps 0 0).2 := by rw [← hσ]
  have er : σ.rows = [] := by rw [← hσ]
  have hWB : ∀ g, WB I σ g → g ∈ bs := by
    rintro g (⟨b, hb, e⟩ | ⟨r, hr, _⟩)
    · rw [eb] at hb
      obtain ⟨ls, hl⟩ := Option.isSome_iff_exists.1 hb
      rw [← e, eρ]; exact (b1 b ls hl).2
    · rw [er] at hr; simp [lookR] at hr
  have hok : ∀ b, R b → Ok I σ w b := fun b hb => ⟨⟨(hR b hb).1, by rw [← hI]; exact .inl hb⟩, fun x => (hR b hb).2 (hWB b x)⟩
  obtain ⟨s1, s2⟩ := parSV_rel (η := us) (I := I) (σ := σ) (i := 0) (v := 0) ha (fun j u hj => by rw [Nat.zero_add, List.getD_eq_getElem?_getD, hj]; rfl) (fun j ls hj => ⟨by rw [eρ], by rw [eb, hj]; rfl⟩)
  have ht : Tr R (Ok I σ w) w w us I I σ σ := ⟨hok, fun _ _ => rfl, fun b h => ⟨h, rfl⟩, fun r q hq => ⟨q, hq, rfl, rfl, rfl⟩⟩
  refine ⟨I, ?_, ⟨fun b _ => by rw [eρ], by rw [← hI]⟩⟩
  exact {
    defers := rfl
    slots := by
      rw [← hσ]
      simp only [Array.toList_append, Array.toList_replicate]
      rw [hσ]
      exact (s1.mono fun s v hv => SVr.tr ht hv).append (dead_rel k _ (by simp))
    boxes := fun b ls hb => by
      rw [eb] at hb
      obtain ⟨cur, e, h1, h2⟩ := s2 b ls hb
      exact ⟨cur, e, h1, h2.mono fun l v hv => LVr.tr ht hv⟩
    rows := fun r q hq => by rw [er] at hq; simp [lookR] at hq
    injB := fun b b' h1 h2 he => by rw [eb] at h1 h2; rw [eρ] at he; exact b3 hn b b' h1 h2 he
    injR := fun r r' g h1 => by rw [er] at h1; simp [lookR] at h1
    injBR := fun b r _ h1 => by rw [er] at h1; simp [lookR] at h1
    new := fun g hg => .inr (hWB g hg)
    r0 := fun g hg => by rw [← hI]; exact .inr hg
    keyB := by rw [eb]; exact b2
    keyR := by rw [er]; rfl
    kept := Kept.refl _ _ }
end
end Go.Proofs.YtibbceoibcnpcaaGreat.Eng
