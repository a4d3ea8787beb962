/- The engine, part I: forgetting boxes and rows; a row that becomes read-only data. No condition. -/
import Derived.Test.YtibbceoibcnpcaaGreatEngH
namespace Go.Proofs.YtibbceoibcnpcaaGreat.Eng
open Go

theorem beq_ne {c b : Nat} (h : c ≠ b) : Nat.beq c b = false := by
  cases hh : Nat.beq c b
  · rfl
  · exact absurd (Nat.eq_of_beq_eq_true hh) h
-- look-ups
theorem lookB_cons (c : Nat) (l : List LV) (r : List (Nat × List LV)) (b : Nat) : lookB ((c, l) :: r) b = if b = c then some l else lookB r b := by
  simp only [lookB]
  by_cases h : c = b
  · subst h; simp
  · rw [beq_ne h]; simp [Ne.symm h]
theorem lookR_cons (q : Row) (r : List Row) (b : Nat) : lookR (q :: r) b = if b = q.id then some q else lookR r b := by
  simp only [lookR]
  by_cases h : q.id = b
  · subst h; simp
  · rw [beq_ne h]; simp [Ne.symm h]
theorem lookB_delB : ∀ {bs : List (Nat × List LV)} (d b : Nat), nodupB bs = true → lookB (delB bs d) b = if b = d then none else lookB bs b
  | [], d, b, _ => by simp [delB, lookB]
  | (c, l) :: r, d, b, h => by
    simp only [nodupB, Bool.and_eq_true, Option.isNone_iff_eq_none] at h
    simp only [delB]
    by_cases hc : c = d
    · subst hc
      rw [beq_self, if_pos rfl, lookB_cons]
      by_cases hb : b = c
      · subst hb; simp [h.1]
      · simp [hb]
    · rw [beq_ne hc, if_neg (by simp), lookB_cons, lookB_cons, lookB_delB d b h.2]
      by_cases hb : b = c
      · subst hb; simp [hc]
      · simp [hb]
theorem lookR_delR : ∀ {bs : List Row} (d b : Nat), nodupR bs = true → lookR (delR bs d) b = if b = d then none else lookR bs b
  | [], d, b, _ => by simp [delR, lookR]
  | q :: r, d, b, h => by
    simp only [nodupR, Bool.and_eq_true, Option.isNone_iff_eq_none] at h
    simp only [delR]
    by_cases hc : q.id = d
    · subst hc
      rw [beq_self, if_pos rfl, lookR_cons]
      by_cases hb : b = q.id
      · subst hb; simp [h.1]
      · simp [hb]
    · rw [beq_ne hc, if_neg (by simp), lookR_cons, lookR_cons, lookR_delR d b h.2]
      by_cases hb : b = q.id
      · subst hb; simp [hc]
      · simp [hb]
theorem nodupB_delB : ∀ {bs : List (Nat × List LV)} (d : Nat), nodupB bs = true → nodupB (delB bs d) = true
  | [], _, h => h
  | (c, l) :: r, d, h => by
    have h' := h
    simp only [nodupB, Bool.and_eq_true, Option.isNone_iff_eq_none] at h
    simp only [delB]
    split
    · exact h.2
    · simp only [nodupB, Bool.and_eq_true, Option.isNone_iff_eq_none]
      refine ⟨?_, nodupB_delB d h.2⟩
      rw [lookB_delB d c h.2, h.1]; simp
theorem nodupR_delR : ∀ {bs : List Row} (d : Nat), nodupR bs = true → nodupR (delR bs d) = true
  | [], _, h => h
  | q :: r, d, h => by
    simp only [nodupR, Bool.and_eq_true, Option.isNone_iff_eq_none] at h
    simp only [delR]
    split
    · exact h.2
    · simp only [nodupR, Bool.and_eq_true, Option.isNone_iff_eq_none]
      refine ⟨?_, nodupR_delR d h.2⟩
      rw [lookR_delR d q.id h.2, h.1]; simp
theorem lookB_setB : ∀ {bs : List (Nat × List LV)} (d : Nat) (l : List LV) (b : Nat), lookB (setB bs d l) b = if b = d ∧ (lookB bs d).isSome = true then some l else lookB bs b
  | [], d, l, b => by simp [setB, lookB]
  | (c, l0) :: r, d, l, b => by
    simp only [setB]
    by_cases hc : c = d
    · subst hc
      rw [beq_self, if_pos rfl, lookB_cons, lookB_cons, lookB_cons]
      by_cases hb : b = c <;> simp [hb]
    · rw [beq_ne hc, if_neg (by simp), lookB_cons, lookB_cons, lookB_cons, lookB_setB d l b]
      by_cases hb : b = c
      · subst hb; simp [hc]
      · simp [hb, Ne.symm hc]
theorem nodupB_setB : ∀ {bs : List (Nat × List LV)} (d : Nat) (l : List LV), nodupB bs = true → nodupB (setB bs d l) = true
  | [], _, _, h => h
  | (c, l0) :: r, d, l, h => by
    simp only [nodupB, Bool.and_eq_true, Option.isNone_iff_eq_none] at h
    simp only [setB]
    split
    · simp only [nodupB, Bool.and_eq_true, Option.isNone_iff_eq_none]; exact h
    · rename_i hc
      have hc : ¬ c = d := fun e => hc (by rw [e]; exact beq_self _)
      simp only [nodupB, Bool.and_eq_true, Option.isNone_iff_eq_none]
      refine ⟨?_, nodupB_setB d l h.2⟩
      rw [lookB_setB]; simp [hc, h.1]
theorem lookR_setR : ∀ {bs : List Row} (d : Nat) (c : E) (b : Nat), lookR (setR bs d c) b = if b = d then (lookR bs d).map (fun q => { q with c := c }) else lookR bs b
  | [], d, l, b => by simp [setR, lookR]
  | q :: r, d, c, b => by
    simp only [setR]
    by_cases hc : q.id = d
    · subst hc
      rw [beq_self, if_pos rfl, lookR_cons, lookR_cons, lookR_cons]
      by_cases hb : b = q.id <;> simp [hb]
    · rw [beq_ne hc, if_neg (by simp), lookR_cons, lookR_cons, lookR_cons, lookR_setR d c b]
      by_cases hb : b = q.id
      · subst hb; simp [hc]
      · simp [hb, Ne.symm hc]
theorem nodupR_setR : ∀ {bs : List Row} (d : Nat) (c : E), nodupR bs = true → nodupR (setR bs d c) = true
  | [], _, _, h => h
  | q :: r, d, c, h => by
    simp only [nodupR, Bool.and_eq_true, Option.isNone_iff_eq_none] at h
    simp only [setR]
    split
    · simp only [nodupR, Bool.and_eq_true, Option.isNone_iff_eq_none]; exact h
    · rename_i hc
      have hc : ¬ q.id = d := fun e => hc (by rw [e]; exact beq_self _)
      simp only [nodupR, Bool.and_eq_true, Option.isNone_iff_eq_none]
      refine ⟨?_, nodupR_setR d c h.2⟩
      rw [lookR_setR]; simp [hc, h.1]

-- from one state to another, but for some boxes and rows
structure Tr2 (Bk Rk : Nat → Prop) (R R' : Nat → Prop) (w w' : World) (η : List U) (I I' : In) (σ σ' : PS) : Prop where
  ok : ∀ b, R b → R' b
  heap : ∀ b, R b → w'.heap[b]? = w.heap[b]?
  box : ∀ b, Bk b → (lookB σ.boxes b).isSome = true → (lookB σ'.boxes b).isSome = true ∧ I'.ρ b = I.ρ b
  row : ∀ r q, Rk r → lookR σ.rows r = some q → ∃ q', lookR σ'.rows r = some q' ∧ I'.vr r = I.vr r ∧ q'.ks = q.ks ∧ (q'.c.den η).L.length = (q.c.den η).L.length
def LV.refs (Rk : Nat → Prop) : LV → Prop | .own r => Rk r | _ => True
def TV.refs (Rk : Nat → Prop) (t : TV) : Prop := ∀ l ∈ t.ls, l.refs Rk
def SV.refs (Bk Rk : Nat → Prop) : SV → Prop
  | .val t => t.refs Rk | .tup ts => ∀ t ∈ ts, TV.refs Rk t | .ptr b _ => Bk b | .fn _ cs => ∀ b ∈ cs, Bk b | .rptr r _ _ => Rk r | .eptr ls => ∀ l ∈ ls, LV.refs Rk l | .dead => True
section
variable {Bk Rk R R' : Nat → Prop} {w w' : World} {η : List U} {I I' : In} {σ σ' : PS}
theorem LVr.tr2 (h : Tr2 Bk Rk R R' w w' η I I' σ σ') : ∀ {l : LV} {v : Value}, l.refs Rk → LVr R w η I σ l v → LVr R' w' η I' σ' l v
  | .u k e, v, _, hv => Rd.mono hv h.ok h.heap
  | .own r, v, hk, hv => by
    obtain ⟨h1, h2⟩ := hv
    obtain ⟨q, hq⟩ := Option.isSome_iff_exists.1 h2
    obtain ⟨q', hq', hvr, _⟩ := h.row r q hk hq
    exact ⟨by rw [hvr]; exact h1, by rw [hq']; rfl⟩
  | .nil, v, _, hv => hv
theorem TVr.tr2 (h : Tr2 Bk Rk R R' w w' η I I' σ σ') : ∀ {t : TV} {v : Value}, t.refs Rk → TVr R w η I σ t v → TVr R' w' η I' σ' t v
  | .leaf l, _, hk, hv => LVr.tr2 h (hk l (by simp [TV.ls])) hv
  | .agg ls, _, hk, hv => let ⟨cs, h1, h2⟩ := hv; ⟨cs, h1, h2.mem fun l _ hl => LVr.tr2 h (hk l hl)⟩
theorem SVr.tr2 (h : Tr2 Bk Rk R R' w w' η I I' σ σ') : ∀ {t : SV} {v : Value}, t.refs Bk Rk → SVr R w η I σ t v → SVr R' w' η I' σ' t v
  | .dead, _, _, _ => trivial
  | .val _, _, hk, hv => TVr.tr2 h hk hv
  | .tup _, _, hk, hv => let ⟨cs, h1, h2⟩ := hv; ⟨cs, h1, h2.mem fun t _ ht => TVr.tr2 h (hk t ht)⟩
  | .ptr b off, v, hk, hv => by
    obtain ⟨h1, h2⟩ := hv
    obtain ⟨h3, h4⟩ := h.box b hk h2
    exact ⟨by rw [h4]; exact h1, h3⟩
  | .fn f cs, v, hk, hv => by
    obtain ⟨h1, h2⟩ := hv
    have e : (cs.map fun b => Value.pointer (some ⟨I'.ρ b, 0, none⟩)) = cs.map fun b => Value.pointer (some ⟨I.ρ b, 0, none⟩) := List.map_congr_left fun b hb => by rw [(h.box b (hk b hb) (h2 b hb)).2]
    refine ⟨?_, fun b hb => (h.box b (hk b hb) (h2 b hb)).1⟩
    rw [e]; exact h1
  | .eptr ls, v, hk, hv => by
    obtain ⟨a, h1, h2, h3, h4⟩ := hv
    refine ⟨a, h1, h2, h.ok _ h3, fun j l hl => ?_⟩
    obtain ⟨x, hx, hr⟩ := h4 j l hl
    exact ⟨x, by rw [World.cell?_of_block (w := w) (a := ⟨a.block, a.off + j, none⟩) (h.heap _ h3)]; exact hx, LVr.tr2 h (hk l (List.mem_of_getElem? hl)) hr⟩
  | .rptr r i off, v, hk, hv => by
    obtain ⟨q, g, cap, h1, h2, h3, h4, h5⟩ := hv
    obtain ⟨q', hq', hvr, hks, hl⟩ := h.row r q hk h1
    exact ⟨q', g, cap, hq', by rw [hvr, hl]; exact h2, by rw [hks]; exact h3, h4, by rw [hl]; exact h5⟩
end
theorem LV.refs_true (l : LV) : l.refs (fun _ => True) := by cases l <;> trivial
theorem TV.refs_true (t : TV) : t.refs (fun _ => True) := fun l _ => LV.refs_true l

section
variable {w0 : World} {M : List Nat} {I : In} {η : List U} {σ : PS} {a : Act} {w : World}

theorem clB_rel (d : Nat) (hr : Rel' w0 M I η σ a w) : Rel' w0 M I η (σ.clB d) a w := by
  have hl : ∀ b, lookB (σ.clB d).boxes b = if b = d then none else lookB σ.boxes b := fun b => lookB_delB d b hr.keyB
  have hs : ∀ b, (lookB (σ.clB d).boxes b).isSome = true → (lookB σ.boxes b).isSome = true ∧ b ≠ d := fun b hb => by
    rw [hl] at hb; by_cases h : b = d
    · simp [h] at hb
    · simp [h] at hb; exact ⟨hb, h⟩
  have hWB : ∀ g, WB I (σ.clB d) g → WB I σ g := fun g hg => hg.imp (fun ⟨b, hb, e⟩ => ⟨b, (hs b hb).1, e⟩) id
  have ht : Tr2 (fun b => b ≠ d) (fun _ => True) (Ok I σ w) (Ok I (σ.clB d) w) w w η I I σ (σ.clB d) :=
    ⟨fun b hb => ⟨hb.1, fun x => hb.2 (hWB b x)⟩, fun _ _ => rfl, fun b hb h => ⟨by rw [hl, if_neg hb]; exact h, rfl⟩, fun r q _ hq => ⟨q, hq, rfl, rfl, rfl⟩⟩
  exact {
    defers := hr.defers
    slots := All2.map (SV.kb d) (hr.slots.mono fun s v hv => by
      unfold SV.kb
      split
      · rename_i hn
        refine SVr.tr2 ht ?_ hv
        cases s <;> simp only [SV.refs]
        · exact TV.refs_true _
        · exact fun t _ => TV.refs_true t
        · rename_i b off; simp only [SV.noBox, Bool.not_eq_true'] at hn; intro e; subst e; simp at hn
        · exact fun l _ => LV.refs_true l
        · rename_i f cs; simp only [SV.noBox, List.all_eq_true, Bool.not_eq_true'] at hn; intro b hb e; subst e; have := hn b hb; simp at this
      · trivial)
    boxes := fun b ls hb => by
      rw [hl] at hb
      by_cases h : b = d
      · simp [h] at hb
      · simp [h] at hb
        obtain ⟨cur, e, h1, h2⟩ := hr.boxes b ls hb
        exact ⟨cur, e, h1, h2.mono fun l v hv => LVr.tr2 ht (LV.refs_true l) hv⟩
    rows := fun r q hq => by
      obtain ⟨us, h1, h2⟩ := hr.rows r q hq
      exact ⟨us, h1, h2.tr ht.ok ht.heap fun _ _ => rfl⟩
    injB := fun b b' h1 h2 => hr.injB b b' (hs b h1).1 (hs b' h2).1
    injR := hr.injR
    injBR := fun b r h1 h2 => hr.injBR b r (hs b h1).1 h2
    new := fun g hg => hr.new g (hWB g hg)
    r0 := hr.r0
    keyB := nodupB_delB d hr.keyB
    keyR := hr.keyR
    kept := hr.kept }

theorem hasR_refs {r : Nat} {l : LV} (h : l.hasR r = false) : l.refs (fun s => s ≠ r) := by
  cases l with
  | own s => intro e; subst e; simp [LV.hasR] at h
  | _ => trivial
theorem kr_refs {r : Nat} {v : SV} (h : v.hasR r = false) : v.refs (fun _ => True) (fun s => s ≠ r) := by
  cases v with
  | dead => trivial
  | val t => intro l hl; simp only [SV.hasR, TV.hasR, List.any_eq_false] at h; exact hasR_refs (by simpa using h l hl)
  | tup ts => intro t ht l hl; simp only [SV.hasR, TV.hasR, List.any_eq_false, Bool.not_eq_true] at h; exact hasR_refs (by simpa using h t ht l hl)
  | ptr b off => trivial
  | eptr ls => intro l hl; simp only [SV.hasR, List.any_eq_false] at h; exact hasR_refs (by simpa using h l hl)
  | rptr s i off => intro e; subst e; simp [SV.hasR] at h
  | fn f cs => intro b _; trivial

/-- a row becomes read-only data -/
theorem dg_rel (r : Nat) (hr : Rel' w0 M I η σ a w) : Rel' w0 M I η (σ.dg r) a w := by
  unfold PS.dg
  split
  · exact hr
  · rename_i q hq
    generalize hσ' : ({ slots := σ.slots.map (SV.dg r (.lst q.e q.ks) q.c), boxes := σ.boxes.map fun p => (p.1, p.2.map (LV.dg r (.lst q.e q.ks) q.c)), rows := delR σ.rows r } : PS) = σ'
    have hB : σ'.boxes = σ.boxes.map fun p => (p.1, p.2.map (LV.dg r (.lst q.e q.ks) q.c)) := by rw [← hσ']
    have hRw : σ'.rows = delR σ.rows r := by rw [← hσ']
    have hS : σ'.slots = σ.slots.map (SV.dg r (.lst q.e q.ks) q.c) := by rw [← hσ']
    have hlB : ∀ (bs : List (Nat × List LV)) b, lookB (bs.map fun p => (p.1, p.2.map (LV.dg r (.lst q.e q.ks) q.c))) b = (lookB bs b).map (List.map (LV.dg r (.lst q.e q.ks) q.c)) := by
      intro bs b
      induction bs with
      | nil => rfl
      | cons p bs ih =>
        obtain ⟨c, l⟩ := p
        simp only [List.map_cons]
        rw [lookB_cons, lookB_cons, ih]
        by_cases hb : b = c <;> simp [hb]
    have hnB : ∀ (bs : List (Nat × List LV)), nodupB bs = true → nodupB (bs.map fun p => (p.1, p.2.map (LV.dg r (.lst q.e q.ks) q.c))) = true := by
      intro bs
      induction bs with
      | nil => intro h; exact h
      | cons p bs ih =>
        obtain ⟨c, l⟩ := p
        intro h
        simp only [nodupB, Bool.and_eq_true, Option.isNone_iff_eq_none, List.map_cons] at h ⊢
        exact ⟨by rw [hlB, h.1]; rfl, ih h.2⟩
    have hl : ∀ b, lookR σ'.rows b = if b = r then none else lookR σ.rows b := fun b => by rw [hRw]; exact lookR_delR r b hr.keyR
    have hbs : ∀ b, (lookB σ'.boxes b).isSome = (lookB σ.boxes b).isSome := fun b => by rw [hB, hlB]; simp
    have hs : ∀ b, (lookR σ'.rows b).isSome = true → (lookR σ.rows b).isSome = true ∧ b ≠ r := fun b hb => by
      rw [hl] at hb; by_cases h : b = r
      · simp [h] at hb
      · simp [h] at hb; exact ⟨hb, h⟩
    have hWB : ∀ g, WB I σ' g → WB I σ g := fun g hg => hg.imp (fun ⟨b, hb, e⟩ => ⟨b, by rw [← hbs]; exact hb, e⟩) (fun ⟨b, hb, e⟩ => ⟨b, (hs b hb).1, e⟩)
    have ht : Tr2 (fun _ => True) (fun s => s ≠ r) (Ok I σ w) (Ok I σ' w) w w η I I σ σ' :=
      ⟨fun b hb => ⟨hb.1, fun x => hb.2 (hWB b x)⟩, fun _ _ => rfl, fun b _ h => ⟨by rw [hbs]; exact h, rfl⟩, fun s p hs hp => ⟨p, by rw [hl, if_neg hs]; exact hp, rfl, rfl, rfl⟩⟩
    obtain ⟨us, hc, hown⟩ := hr.rows r q hq
    -- the row itself, read as data
    have hrd : Rd (Ok I σ' w) w (.lst q.e q.ks) (I.vr r) (q.c.den η) := by
      rw [hc]
      obtain ⟨xs, h1, h2, h3⟩ := hown
      rcases h1.2 with ⟨hnil, hlen⟩ | ⟨g, cap, cur, hv, _, hg, hle, hml, hsz, htk⟩
      · rw [hnil]
        have : us = [] := by cases us; rfl; simp at hlen
        rw [this]; exact Rd.nil _ _
      · rw [hv]
        have hgok : Ok I σ' w g := by
          refine ⟨⟨hr.lt (.inr ⟨r, by rw [hq]; rfl, by rw [hv]; rfl⟩), hr.r0 g (hr.new g (.inr ⟨r, by rw [hq]; rfl, by rw [hv]; rfl⟩))⟩, ?_⟩
          rintro (⟨b, hb, e⟩ | ⟨s, hsm, e⟩)
          · rw [hbs] at hb
            exact hr.injBR b r hb (by rw [hq]; rfl) (by rw [hv, e]; rfl)
          · exact (hs s hsm).2 (hr.injR s r g (hs s hsm).1 (by rw [hq]; rfl) e (by rw [hv]; rfl))
        have hcell : ∀ i j, i < us.length → j < q.ks.length → ∃ x, w.cell? ⟨g, 0 + (i * q.ks.length + j), none⟩ = some x ∧ Rd (Ok I σ' w) w (q.ks.getD j default) x ((us.getD i []).getD j default) := by
          intro i j hi hj
          obtain ⟨x, hx, hxr⟩ := h3 i j hi hj
          refine ⟨x, ?_, hxr.mono ht.ok ht.heap⟩
          have := h1.cells (g := g) (by rw [hv]; rfl) _ x hx
          rwa [add_eq rfl] at this
        refine Rd.row q.e q.ks ⟨g, 0, none⟩ us.length cap us (fun i j => (w.cell? ⟨g, 0 + (i * q.ks.length + j), none⟩).getD default) (.inl rfl) rfl hle hml h2 (fun i j _ _ => hgok) (fun i j hi hj => ?_) (fun i j hi hj => ?_)
        · obtain ⟨x, hx, _⟩ := hcell i j hi hj; simp only [hx, Option.getD_some]
        · obtain ⟨x, hx, hxr⟩ := hcell i j hi hj; simp only [hx, Option.getD_some]; exact hxr
    have hLV : ∀ (l : LV) (v : Value), LVr (Ok I σ w) w η I σ l v → LVr (Ok I σ' w) w η I σ' (l.dg r (.lst q.e q.ks) q.c) v := by
      intro l v hv
      cases l with
      | u k e => exact LVr.tr2 ht trivial hv
      | nil => exact hv
      | own s =>
        simp only [LV.dg]
        by_cases h : s = r
        · subst h
          rw [beq_self, if_pos rfl]
          simp only [LVr]
          rw [hv.1]; exact hrd
        · rw [beq_ne h, if_neg (by simp)]
          exact LVr.tr2 (l := .own s) ht h hv
    have hTV : ∀ (t : TV) (v : Value), TVr (Ok I σ w) w η I σ t v → TVr (Ok I σ' w) w η I σ' (t.dg r (.lst q.e q.ks) q.c) v := by
      intro t v hv
      cases t with
      | leaf l => exact hLV l v hv
      | agg ls => obtain ⟨cs, h1, h2⟩ := hv; exact ⟨cs, h1, All2.map _ (h2.mono hLV)⟩
    have hself : LVr (Ok I σ w) w η I σ (.own r) (I.vr r) := ⟨rfl, by rw [hq]; rfl⟩
    exact {
      defers := hr.defers
      slots := by
        rw [hS]
        refine All2.map _ (hr.slots.mono fun s v hv => ?_)
        cases s with
        | dead => trivial
        | val t => exact hTV t v hv
        | tup ts => obtain ⟨vs, h1, h2⟩ := hv; exact ⟨vs, h1, All2.map _ (h2.mono hTV)⟩
        | ptr b off => exact SVr.tr2 (t := .ptr b off) ht trivial hv
        | fn f cs => exact SVr.tr2 (t := .fn f cs) ht (fun _ _ => trivial) hv
        | eptr ls =>
          obtain ⟨ad, h1, h2, h3, h4⟩ := hv
          refine ⟨ad, h1, h2, ht.ok _ h3, fun j l hl => ?_⟩
          rw [List.getElem?_map, Option.map_eq_some_iff] at hl
          obtain ⟨l0, hl0, rfl⟩ := hl
          obtain ⟨x, hx, hxr⟩ := h4 j l0 hl0
          exact ⟨x, hx, hLV l0 x hxr⟩
        | rptr s i off =>
          simp only [SV.dg]
          by_cases h : s = r
          · subst h; rw [beq_self, if_pos rfl]; trivial
          · rw [beq_ne h, if_neg (by simp)]
            exact SVr.tr2 (t := .rptr s i off) ht h hv
      boxes := fun b ls hb => by
        rw [hB, hlB, Option.map_eq_some_iff] at hb
        obtain ⟨l0, hl0, rfl⟩ := hb
        obtain ⟨cur, e, h1, h2⟩ := hr.boxes b l0 hl0
        exact ⟨cur, e, h1, All2.map _ (h2.mono hLV)⟩
      rows := fun s p hp => by
        have hsr : s ≠ r := by intro e; subst e; rw [hl, if_pos rfl] at hp; cases hp
        rw [hl, if_neg hsr] at hp
        obtain ⟨us', h1, h2⟩ := hr.rows s p hp
        exact ⟨us', h1, h2.tr ht.ok ht.heap fun _ _ => rfl⟩
      injB := fun b b' h1 h2 => hr.injB b b' (by rw [← hbs]; exact h1) (by rw [← hbs]; exact h2)
      injR := fun s s' g h1 h2 => hr.injR s s' g (hs s h1).1 (hs s' h2).1
      injBR := fun b s h1 h2 => hr.injBR b s (by rw [← hbs]; exact h1) (hs s h2).1
      new := fun g hg => hr.new g (hWB g hg)
      r0 := hr.r0
      keyB := by rw [hB]; exact hnB _ hr.keyB
      keyR := by rw [hRw]; exact nodupR_delR r hr.keyR
      kept := hr.kept }

theorem dgs_rel : ∀ (l : List Nat) {σ : PS}, Rel' w0 M I η σ a w → Rel' w0 M I η (σ.dgs l) a w
  | [], _, hr => hr
  | r :: l, σ, hr => by
    show Rel' w0 M I η (l.foldl PS.dg (σ.dg r)) a w
    exact dgs_rel l (dg_rel r hr)

/-- every reference to a row goes -/
theorem clR_rel {r : Nat} {σ' : PS} (h : σ.clR r = some σ') (hr : Rel' w0 M I η σ a w) : Rel' w0 M I η σ' a w ∧ σ'.rows = σ.rows ∧ σ'.boxes = σ.boxes ∧
    (∀ v ∈ σ'.slots, v.refs (fun _ => True) (fun s => s ≠ r)) ∧ ∀ b ls, lookB σ.boxes b = some ls → ∀ l ∈ ls, LV.refs (fun s => s ≠ r) l := by
  unfold PS.clR at h
  split at h
  · cases h
  · rename_i hb; cases h
    have ht : Tr (Ok I σ w) (Ok I { σ with slots := σ.slots.map (SV.kr r) } w) w w η I I σ { σ with slots := σ.slots.map (SV.kr r) } := ⟨fun _ h => h, fun _ _ => rfl, fun _ h => ⟨h, rfl⟩, fun r q hq => ⟨q, hq, rfl, rfl, rfl⟩⟩
    refine ⟨{ hr with slots := All2.map _ (hr.slots.mono fun s v hv => ?_), boxes := fun b ls hl => ?_ }, rfl, rfl, fun v hv => ?_, fun b ls hl l hll => ?_⟩
    · unfold SV.kr; split
      · trivial
      · exact SVr.tr ht hv
    · obtain ⟨cur, e, h1, h2⟩ := hr.boxes b ls hl
      exact ⟨cur, e, h1, h2.mono fun l v hv => LVr.tr ht hv⟩
    · rw [List.mem_map] at hv
      obtain ⟨s, _, rfl⟩ := hv
      unfold SV.kr; split
      · trivial
      · rename_i hn; exact kr_refs (by simpa using hn)
    · simp only [List.any_eq_true, not_exists, not_and, Bool.not_eq_true] at hb
      have h1 := hb (b, ls) (lookB_mem hl) l hll
      exact hasR_refs h1
end
end Go.Proofs.YtibbceoibcnpcaaGreat.Eng
