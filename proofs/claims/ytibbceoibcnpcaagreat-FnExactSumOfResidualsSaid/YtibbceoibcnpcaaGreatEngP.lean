/- The engine, part P: a call. No condition. -/
import Derived.Test.YtibbceoibcnpcaaGreatEngO
namespace Go.Proofs.YtibbceoibcnpcaaGreat.Eng
open Go

section
variable {P : Program} {T : Tab} {w0 : World} {M : List Nat} {fx : Fx} {I I' : In} {η η' : List U} {σ σ' : PS} {a : Act} {w w' : World}

theorem Rd.scalar {R R' : Nat → Prop} {k : K} {v : Value} {u : U} (h : Rd R w k v u) (hk : scalarK k = true) : Rd R' w' k v u := by
  cases h with
  | int => exact .int _ _
  | bool => exact .bool _
  | str => exact .str _
  | nil => simp [scalarK] at hk
  | row => simp [scalarK] at hk
theorem RdL.scalar {R R' : Nat → Prop} : ∀ {ks : List K} {vs : List Value} {us : List U}, RdL R w ks vs us → ks.all scalarK = true → RdL R' w ks vs us
  | [], [], [], _, _ => trivial
  | _ :: _, _ :: _, _ :: _, h, hk => by
    simp only [List.all_cons, Bool.and_eq_true] at hk
    exact ⟨h.1.scalar hk.1, RdL.scalar h.2 hk.2⟩
  | [], [], _ :: _, h, _ | [], _ :: _, _, h, _ | _ :: _, [], _, h, _ | _ :: _, _ :: _, [], h, _ => h.elim
theorem LfRes.shallow {R R' : Nat → Prop} {base : Nat} {k : K} {v : Value} {u : U} (h : LfRes R w base k v u) (hk : shallowK k = true) : LfRes R' w base k v u := by
  cases k with
  | lst e ks =>
    obtain ⟨us, h1, ⟨xs, h2, h3, h4⟩, h5⟩ := h
    refine ⟨us, h1, ⟨xs, h2, h3, fun i j hi hj => ?_⟩, h5⟩
    obtain ⟨x, hx, hr⟩ := h4 i j hi hj
    refine ⟨x, hx, hr.scalar ?_⟩
    simp only [shallowK, List.all_eq_true] at hk
    have : ks[j]? = some (ks.getD j default) := by simp [hj]
    exact hk _ (List.mem_of_getElem? this)
  | int k => exact Rd.scalar (k := .int k) h rfl
  | bool => exact Rd.scalar (k := .bool) h rfl
  | str => exact Rd.scalar (k := .str) h rfl
theorem ResL.shallow {R R' : Nat → Prop} {base : Nat} : ∀ {ks : List K} {vs : List Value} {us : List U}, ResL R w base ks vs us → ks.all shallowK = true → ResL R' w base ks vs us
  | [], [], [], _, _ => trivial
  | _ :: _, _ :: _, _ :: _, h, hk => by
    simp only [List.all_cons, Bool.and_eq_true] at hk
    exact ⟨h.1.shallow hk.1, ResL.shallow h.2 hk.2⟩
  | [], [], _ :: _, h, _ | [], _ :: _, _, h, _ | _ :: _, [], _, h, _ | _ :: _, _ :: _, [], h, _ => h.elim
theorem BoxesRel.scalar {R R' : Nat → Prop} : ∀ {ps : List PK} {bs : List Nat} {us : List U}, BoxesRel R w ps bs us → (boxKs ps).all scalarK = true → BoxesRel R' w ps bs us
  | [], [], [], _, _ => trivial
  | .val _ _ :: ps, bs, us, h, hk => BoxesRel.scalar (ps := ps) h hk
  | .fn _ _ :: ps, bs, us, h, hk => BoxesRel.scalar (ps := ps) h hk
  | .ro _ :: ps, bs, us, h, hk => BoxesRel.scalar (ps := ps) h hk
  | .box ks :: ps, g :: bs, us, h, hk => by
    simp only [boxKs, List.all_append, Bool.and_eq_true] at hk
    obtain ⟨cur, e, u1, u2, h1, h2, h3, h4⟩ := h
    exact ⟨cur, e, u1, u2, h1, h2, h3.scalar hk.1, BoxesRel.scalar h4 hk.2⟩
  | [], _ :: _, _, h, _ | [], [], _ :: _, h, _ | .box _ :: _, [], _, h, _ => h.elim

/-- an own row, read -/
theorem Own.rd {R : Nat → Prop} {e : Nat} {ks : List K} {v : Value} {us : List (List U)} (h : Own R w e ks v us) (hR : ∀ g, v.ownBlock = some g → R g) : Rd R w (.lst e ks) v (.lst us) := by
  obtain ⟨xs, h1, h2, h3⟩ := h
  rcases h1.2 with ⟨hnil, hlen⟩ | ⟨g, cap, cur, hv, _, hg, hle, hml, hsz, htk⟩
  · have : us = [] := List.eq_nil_of_length_eq_zero hlen
    rw [hnil, this]; exact Rd.nil _ _
  · have hcell : ∀ i j, i < us.length → j < ks.length → ∃ x, w.cell? ⟨g, 0 + (i * ks.length + j), none⟩ = some x ∧ Rd R w (ks.getD j default) x ((us.getD i []).getD j default) := by
      intro i j hi hj
      obtain ⟨x, hx, hxr⟩ := h3 i j hi hj
      refine ⟨x, ?_, hxr⟩
      have := h1.cells (g := g) (by rw [hv]; rfl) _ x hx
      rwa [add_eq rfl] at this
    rw [hv]
    refine Rd.row e ks ⟨g, 0, none⟩ us.length cap us (fun i j => (w.cell? ⟨g, 0 + (i * ks.length + j), none⟩).getD default) (.inl rfl) rfl hle hml h2 (fun i j _ _ => hR g (by rw [hv]; rfl)) (fun i j hi hj => ?_) (fun i j hi hj => ?_)
    · obtain ⟨x, hx, _⟩ := hcell i j hi hj; simp only [hx, Option.getD_some]
    · obtain ⟨x, hx, hxr⟩ := hcell i j hi hj; simp only [hx, Option.getD_some]; exact hxr

theorem zipE_rd {R Rk : Nat → Prop} {f : K → LV → Option E} (hf : ∀ k l e v, f k l = some e → LVr R w η I σ l v → Rd Rk w k v (e.den η)) : ∀ {ks : List K} {ls : List LV} {es : List E} {vs : List Value}, zipE f ks ls = some es → All2 (LVr R w η I σ) ls vs → RdL Rk w ks vs (es.map (E.den η))
  | [], [], es, [], h, _ => by simp only [zipE, Option.some.injEq] at h; subst h; trivial
  | k :: ks, l :: ls, es, v :: vs, h, hl => by
    simp only [zipE] at h
    split at h
    · rename_i e es' h1 h2
      simp only [Option.some.injEq] at h; subst h
      exact ⟨hf k l e v h1 hl.1, zipE_rd hf h2 hl.2⟩
    · cases h
  | [], _ :: _, _, _, h, _ | _ :: _, [], _, _, h, _ => by simp [zipE] at h
  | _, [], _, _ :: _, _, hl | _, _ :: _, _, [], _, hl => hl.elim

theorem toU_rd {R : Nat → Prop} (k : K) (l : LV) (e : E) (v : Value) (h : LV.toU k l = some e) (hl : LVr R w η I σ l v) : Rd R w k v (e.den η) := by
  unfold LV.toU at h
  split at h
  · split at h
    · rename_i hk; cases h; rw [K.eq_of_beq _ _ hk]; exact hl
    · cases h
  · cases h
  · have hl : v = .slice none 0 0 := hl
    cases k <;> simp only [Option.some.injEq, reduceCtorEq] at h
    subst h; rw [hl]; exact Rd.nil _ _

theorem toE_rd {Rk : Nat → Prop} (hr : Rel' w0 M I η σ a w) (hR : ∀ b, Ok I σ w b → Rk b) (hRr : ∀ r g, (lookR σ.rows r).isSome = true → (I.vr r).ownBlock = some g → Rk g) (k : K) (l : LV) (e : E) (v : Value) (h : LV.toE σ.rows k l = some e)
    (hl : LVr (Ok I σ w) w η I σ l v) : Rd Rk w k v (e.den η) := by
  unfold LV.toE at h
  split at h
  · split at h
    · rename_i hk; cases h; rw [K.eq_of_beq _ _ hk]; exact Rd.mono hl hR fun _ _ => rfl
    · cases h
  · rename_i r
    split at h
    · rename_i q hq
      split at h
      · rename_i hk; cases h
        rw [K.eq_of_beq _ _ hk]
        obtain ⟨us, h1, h2⟩ := hr.rows r q hq
        rw [hl.1, h1]
        obtain ⟨xs, y1, y2, y3⟩ := h2
        have h2' : Own Rk w q.e q.ks (I.vr r) us := ⟨xs, y1, y2, fun i j hi hj => let ⟨x, hx, hrd⟩ := y3 i j hi hj; ⟨x, hx, hrd.mono hR fun _ _ => rfl⟩⟩
        exact h2'.rd fun g hg => hRr r g (by rw [hq]; rfl) hg
      · cases h
    · cases h
  · have hl : v = .slice none 0 0 := hl
    cases k <;> simp only [Option.some.injEq, reduceCtorEq] at h
    subst h; rw [hl]; exact Rd.nil _ _

theorem argE_val {ro : Bool} {f : K → LV → Option E} : ∀ {ps : List PK} {xs : List SV} {es : List E} {ids : List Nat}, argE ro f σ ps xs = some (es, ids) → ps.all PK.isVal = true → ids = []
  | [], [], es, ids, h, _ => by simp only [argE, Option.some.injEq, Prod.mk.injEq] at h; exact h.2.symm
  | .val agg ks :: ps, x :: xs, es, ids, h, hv => by
    simp only [List.all_cons, Bool.and_eq_true] at hv
    simp only [argE] at h
    split at h
    · rename_i tv es' ids' hrec
      have := argE_val hrec hv.2
      split at h
      · split at h
        · simp only [Option.some.injEq, Prod.mk.injEq] at h; rw [← h.2]; exact this
        · cases h
      · split at h
        · simp only [Option.some.injEq, Prod.mk.injEq] at h; rw [← h.2]; exact this
        · cases h
      · cases h
    · cases h
  | .fn g n :: ps, x :: xs, es, ids, h, hv => by
    simp only [List.all_cons, Bool.and_eq_true] at hv
    simp only [argE] at h
    split at h
    · split at h
      · exact argE_val h hv.2
      · cases h
    · cases h
  | .ro ks :: ps, x :: xs, es, ids, h, hv => by
    simp only [List.all_cons, Bool.and_eq_true] at hv
    simp only [argE] at h
    split at h
    · rename_i b es' ids' hrec
      have := argE_val hrec hv.2
      split at h
      · split at h
        · split at h
          · simp only [Option.some.injEq, Prod.mk.injEq] at h; rw [← h.2]; exact this
          · cases h
        · cases h
      · cases h
    · cases h
  | .box ks :: ps, _, _, _, _, hv => by simp [PK.isVal] at hv
  | [], _ :: _, _, _, h, _ | .val _ _ :: _, [], _, _, h, _ | .fn _ _ :: _, [], _, _, h, _ | .ro _ :: _, [], _, _, h, _ => by simp [argE] at h
theorem argE_rel {ro : Bool} {Rk : Nat → Prop} {f : K → LV → Option E} (hr : Rel' w0 M I η σ a w) (hR : ∀ b, Ok I σ w b → Rk b) (hf : ∀ k l e v, f k l = some e → LVr (Ok I σ w) w η I σ l v → Rd Rk w k v (e.den η)) (hro : ro = true → ∀ b, (lookB σ.boxes b).isSome = true → Rk (I.ρ b)) :
    ∀ {ps : List PK} {xs : List SV} {vs : List Value} {es : List E} {ids : List Nat}, All2 (SVr (Ok I σ w) w η I σ) xs vs → argE ro f σ ps xs = some (es, ids) →
    ArgsRel Rk w ps vs (es.map (E.den η)) (ids.map I.ρ) ∧ ids.Nodup ∧ ∀ b ∈ ids, (lookB σ.boxes b).isSome = true
  | [], [], [], es, ids, _, h => by
    simp only [argE, Option.some.injEq, Prod.mk.injEq] at h; obtain ⟨rfl, rfl⟩ := h
    exact ⟨trivial, List.nodup_nil, by simp⟩
  | .fn g n :: ps, x :: xs, v :: vs, es, ids, ⟨hv, hvs⟩, h => by
    simp only [argE] at h
    split at h
    · rename_i k cs
      split at h
      · rename_i hc
        rw [Bool.and_eq_true] at hc
        have hg := Nat.eq_of_beq_eq_true hc.1; subst hg
        have hn := Nat.eq_of_beq_eq_true hc.2
        obtain ⟨hv1, hv2⟩ := hv
        have hcs : All2 (SVr (Ok I σ w) w η I σ) (cs.map fun b => SV.ptr b 0) (cs.map fun b => Value.pointer (some ⟨I.ρ b, 0, none⟩)) := by
          clear hc hn hv1 h
          induction cs with
          | nil => trivial
          | cons b cs ih => exact ⟨⟨rfl, hv2 b List.mem_cons_self⟩, ih fun c hc => hv2 c (List.mem_cons_of_mem _ hc)⟩
        obtain ⟨h1, h2, h3⟩ := argE_rel hr hR hf hro (hcs.append hvs) h
        exact ⟨⟨_, hv1, by simpa using hn, h1⟩, h2, h3⟩
      · cases h
    · cases h
  | .val agg ks :: ps, x :: xs, v :: vs, es, ids, ⟨hv, hvs⟩, h => by
    simp only [argE] at h
    split at h
    · rename_i tv es' ids' hrec
      obtain ⟨h1, h2, h3⟩ := argE_rel hr hR hf hro hvs hrec
      split at h
      · rename_i l
        split at h
        · rename_i e he
          simp only [Option.some.injEq, Prod.mk.injEq] at h; obtain ⟨rfl, rfl⟩ := h
          refine ⟨⟨[v], e.map (E.den η), es'.map (E.den η), by simp, rfl, zipE_rd hf he ⟨hv, trivial⟩, h1⟩, h2, h3⟩
        · cases h
      · rename_i ls
        split at h
        · rename_i e he
          simp only [Option.some.injEq, Prod.mk.injEq] at h; obtain ⟨rfl, rfl⟩ := h
          obtain ⟨cs, hcs, hl⟩ := hv
          refine ⟨⟨cs.toList, e.map (E.den η), es'.map (E.den η), by simp, by simpa using hcs, zipE_rd hf he hl, h1⟩, h2, h3⟩
        · cases h
      · cases h
    · cases h
  | .ro ks :: ps, x :: xs, v :: vs, es, ids, ⟨hv, hvs⟩, h => by
    simp only [argE] at h
    split at h
    · rename_i b es' ids' hrec
      obtain ⟨h1, h2, h3⟩ := argE_rel hr hR hf hro hvs hrec
      split at h
      · rename_i hro'
        split at h
        · rename_i ls hls
          split at h
          · rename_i e he
            simp only [Option.some.injEq, Prod.mk.injEq] at h; obtain ⟨rfl, rfl⟩ := h
            obtain ⟨cur, ty, hc1, hc2⟩ := hr.boxes b ls hls
            refine ⟨⟨⟨I.ρ b, 0, none⟩, cur.toList, e.map (E.den η), es'.map (E.den η), by simp, hv.1, rfl, hro hro' b hv.2, fun j x hx => ?_, zipE_rd (fun k l e v h hl => (toU_rd k l e v h hl).mono hR fun _ _ => rfl) he hc2, h1⟩, h2, h3⟩
            have hx' : cur[j]? = some x := by simpa using hx
            simp [World.cell?, hc1, hx']
          · cases h
        · cases h
      · cases h
    · cases h
  | .box ks :: ps, x :: xs, v :: vs, es, ids, ⟨hv, hvs⟩, h => by
    simp only [argE] at h
    split at h
    · rename_i b es' ids' hrec
      obtain ⟨h1, h2, h3⟩ := argE_rel hr hR hf hro hvs hrec
      split at h
      · rename_i ls hls
        split at h
        · rename_i e he
          split at h
          · rename_i hnd
            simp only [Option.some.injEq, Prod.mk.injEq] at h; obtain ⟨rfl, rfl⟩ := h
            obtain ⟨cur, ty, hc1, hc2⟩ := hr.boxes b ls hls
            refine ⟨⟨cur, ty, e.map (E.den η), es'.map (E.den η), by simp, hv.1, hc1, zipE_rd (fun k l e v h hl => (toU_rd k l e v h hl).mono hR fun _ _ => rfl) he hc2, h1⟩, ?_, ?_⟩
            · refine List.nodup_cons.2 ⟨fun hm => ?_, h2⟩
              simp only [List.all_eq_true, Bool.not_eq_true'] at hnd
              have := hnd b hm; simp at this
            · intro c hc
              rcases List.mem_cons.1 hc with rfl | hc
              · rw [hls]; rfl
              · exact h3 c hc
          · cases h
        · cases h
      · cases h
    · cases h
  | [], _ :: _, _, _, _, _, h | .val _ _ :: _, [], _, _, _, _, h | .box _ :: _, [], _, _, _, _, h | .fn _ _ :: _, [], _, _, _, _, h | .ro _ :: _, [], _, _, _, _, h => by simp [argE] at h
  | _, [], _ :: _, _, _, h, _ | _, _ :: _, [], _, _, h, _ => h.elim

theorem den_var {η' : List U} {m : Nat} {us : List U} {k : Nat} (h : ∀ (j : Nat) u, us[j]? = some u → η'.getD (m + j) default = u) (hk : k < us.length) : (E.var (m + k)).den η' = us.getD k default := by
  have : us[k]? = some us[k] := by simp
  simp only [E.den]
  rw [h k _ this]; simp [hk]

theorem resLs_rel {R' : Nat → Prop} {base d m : Nat} : ∀ {ks : List K} {i : Nat} {cs : List Value} {us : List U}, ResL R' w' base ks cs us → (∀ (j : Nat) u, us[j]? = some u → η'.getD (m + (i + j)) default = u) →
    (∀ q ∈ (resLs d m ks i).2, (lookR σ'.rows q.id).isSome = true) → (∀ (j : Nat) x, cs[j]? = some x → (∃ q ∈ (resLs d m ks i).2, q.id = d + 1000 * (i + j)) → I'.vr (d + 1000 * (i + j)) = x) →
    All2 (LVr R' w' η' I' σ') (resLs d m ks i).1 cs ∧ ∀ q ∈ (resLs d m ks i).2, ∃ (j : Nat) (x : Value) (us' : List (List U)), cs[j]? = some x ∧ q.id = d + 1000 * (i + j) ∧ q.c.den η' = .lst us' ∧ Own R' w' q.e q.ks x us' ∧ ∀ g, x.ownBlock = some g → base ≤ g
  | [], i, [], [], _, _, _, _ => ⟨trivial, fun q hq => by simp [resLs] at hq⟩
  | k :: ks, i, v :: cs, u :: us, h, hv, hl, hI => by
    have hv' : ∀ (j : Nat) u, us[j]? = some u → η'.getD (m + (i + 1 + j)) default = u := fun j u hj => by
      have := hv (j + 1) u (by simpa using hj); rwa [show i + (j + 1) = i + 1 + j by omega] at this
    have hu : (E.var (m + i)).den η' = u := by have := hv 0 u (by simp); simpa [E.den] using this
    have rest := fun (hl2 : ∀ q ∈ (resLs d m ks (i + 1)).2, (lookR σ'.rows q.id).isSome = true) (hI2 : ∀ (j : Nat) x, cs[j]? = some x → (∃ q ∈ (resLs d m ks (i + 1)).2, q.id = d + 1000 * (i + 1 + j)) → I'.vr (d + 1000 * (i + 1 + j)) = x) =>
      resLs_rel (R' := R') (d := d) h.2 hv' hl2 hI2
    have conv : ∀ q : Row, (∃ (j : Nat) (x : Value) (us' : List (List U)), cs[j]? = some x ∧ q.id = d + 1000 * (i + 1 + j) ∧ q.c.den η' = .lst us' ∧ Own R' w' q.e q.ks x us' ∧ ∀ g, x.ownBlock = some g → base ≤ g) →
        ∃ (j : Nat) (x : Value) (us' : List (List U)), (v :: cs)[j]? = some x ∧ q.id = d + 1000 * (i + j) ∧ q.c.den η' = .lst us' ∧ Own R' w' q.e q.ks x us' ∧ ∀ g, x.ownBlock = some g → base ≤ g := by
      rintro q ⟨j, x, us', h1, h2, h3⟩
      exact ⟨j + 1, x, us', by simpa using h1, by rw [h2]; omega, h3⟩
    cases k with
    | lst e ks' =>
      simp only [resLs] at hl hI ⊢
      obtain ⟨us', e1, e2, e3⟩ := h.1
      obtain ⟨r1, r2⟩ := rest (fun q hq => hl q (List.mem_cons_of_mem _ hq)) (fun j x hx ⟨q, hq, hid⟩ => by
        have := hI (j + 1) x (by simpa using hx) ⟨q, List.mem_cons_of_mem _ hq, by rw [hid]; omega⟩
        rwa [show i + (j + 1) = i + 1 + j by omega] at this)
      have hvr := hI 0 v (by simp) ⟨_, List.mem_cons_self, rfl⟩
      refine ⟨⟨⟨?_, hl _ List.mem_cons_self⟩, r1⟩, fun q hq => ?_⟩
      · rw [← hvr]; rfl
      · rcases List.mem_cons.1 hq with rfl | hq
        · exact ⟨0, v, us', by simp, rfl, by rw [← e1]; exact hu, e2, e3⟩
        · exact conv q (r2 q hq)
    | int k =>
      simp only [resLs] at hl hI ⊢
      obtain ⟨r1, r2⟩ := rest hl (fun j x hx ⟨q, hq, hid⟩ => by
        have := hI (j + 1) x (by simpa using hx) ⟨q, hq, by rw [hid]; omega⟩
        rwa [show i + (j + 1) = i + 1 + j by omega] at this)
      exact ⟨⟨by simp only [LVr, hu]; exact h.1, r1⟩, fun q hq => conv q (r2 q hq)⟩
    | bool =>
      simp only [resLs] at hl hI ⊢
      obtain ⟨r1, r2⟩ := rest hl (fun j x hx ⟨q, hq, hid⟩ => by
        have := hI (j + 1) x (by simpa using hx) ⟨q, hq, by rw [hid]; omega⟩
        rwa [show i + (j + 1) = i + 1 + j by omega] at this)
      exact ⟨⟨by simp only [LVr, hu]; exact h.1, r1⟩, fun q hq => conv q (r2 q hq)⟩
    | str =>
      simp only [resLs] at hl hI ⊢
      obtain ⟨r1, r2⟩ := rest hl (fun j x hx ⟨q, hq, hid⟩ => by
        have := hI (j + 1) x (by simpa using hx) ⟨q, hq, by rw [hid]; omega⟩
        rwa [show i + (j + 1) = i + 1 + j by omega] at this)
      exact ⟨⟨by simp only [LVr, hu]; exact h.1, r1⟩, fun q hq => conv q (r2 q hq)⟩
  | [], _, [], _ :: _, h, _, _, _ | [], _, _ :: _, _, h, _, _, _ | _ :: _, _, [], _, h, _, _, _ | _ :: _, _, _ :: _, [], h, _, _, _ => h.elim

theorem ResL.split {R' : Nat → Prop} {base : Nat} : ∀ {k1 k2 : List K} {c1 c2 : List Value} {us : List U}, c1.length = k1.length → ResL R' w' base (k1 ++ k2) (c1 ++ c2) us → ∃ u1 u2, us = u1 ++ u2 ∧ u1.length = k1.length ∧ ResL R' w' base k1 c1 u1 ∧ ResL R' w' base k2 c2 u2
  | [], k2, [], c2, us, _, h => ⟨[], us, rfl, rfl, trivial, h⟩
  | k :: k1, k2, c :: c1, c2, u :: us, hl, h => by
    obtain ⟨u1, u2, rfl, h1, h2, h3⟩ := ResL.split (k1 := k1) (c1 := c1) (by simpa using hl) h.2
    exact ⟨u :: u1, u2, rfl, by simp [h1], ⟨h.1, h2⟩, h3⟩
  | [], _, _ :: _, _, _, hl, _ | _ :: _, _, [], _, _, hl, _ => by simp at hl
  | _ :: _, _, _ :: _, _, [], _, h => h.elim

theorem mkTV_tv {R' : Nat → Prop} {agg : Bool} {ls : List LV} {t : TV} {c1 : List Value} {v : Value} (h : mkTV agg ls = some t) (hl : All2 (LVr R' w' η' I' σ') ls c1) (hv : if agg then v = .agg c1.toArray else c1 = [v]) : TVr R' w' η' I' σ' t v := by
  rcases mkTV_sound h hl with ⟨ha, ht⟩ | ⟨ha, x, hx, ht⟩
  · rw [ha] at hv; simp only [if_true] at hv; rw [hv]; exact ht
  · rw [ha] at hv; simp only [Bool.false_eq_true, if_false] at hv; rw [hv] at hx; cases hx; exact ht

theorem resTs_rel {R' : Nat → Prop} {base d m : Nat} : ∀ {res : List (Bool × List K)} {i : Nat} {vs cs : List Value} {us : List U} {ts : List TV} {nr : List Row}, resTs d m res i = some (ts, nr) → Chunks res vs cs → ResL R' w' base (flatK res) cs us →
    (∀ (j : Nat) u, us[j]? = some u → η'.getD (m + (i + j)) default = u) → (∀ q ∈ nr, (lookR σ'.rows q.id).isSome = true) →
    (∀ (j : Nat) x, cs[j]? = some x → (∃ q ∈ nr, q.id = d + 1000 * (i + j)) → I'.vr (d + 1000 * (i + j)) = x) →
    All2 (TVr R' w' η' I' σ') ts vs ∧ ∀ q ∈ nr, ∃ (j : Nat) (x : Value) (us' : List (List U)), cs[j]? = some x ∧ q.id = d + 1000 * (i + j) ∧ q.c.den η' = .lst us' ∧ Own R' w' q.e q.ks x us' ∧ ∀ g, x.ownBlock = some g → base ≤ g
  | [], i, [], [], [], ts, nr, h, _, _, _, _, _ => by
    simp only [resTs, Option.some.injEq, Prod.mk.injEq] at h; obtain ⟨rfl, rfl⟩ := h
    exact ⟨trivial, by simp⟩
  | (agg, ks) :: res, i, v :: vs, cs, us, ts, nr, h, hc, hres, hv, hl, hI => by
    simp only [resTs] at h
    split at h
    · rename_i t ts' nr' ht hrec
      simp only [Option.some.injEq, Prod.mk.injEq] at h; obtain ⟨rfl, rfl⟩ := h
      obtain ⟨c1, c2, rfl, hlen, hv1, hc2⟩ := hc
      have hres' : ResL R' w' base (ks ++ flatK res) (c1 ++ c2) us := hres
      obtain ⟨u1, u2, rfl, hul, h1, h2⟩ := hres'.split hlen
      obtain ⟨a1, a2⟩ := resLs_rel (R' := R') (I' := I') (σ' := σ') (η' := η') (m := m) (i := i) (d := d) h1 (fun j u hj => hv j u (by rw [List.getElem?_append_left (by have := (List.getElem?_eq_some_iff.1 hj).1; omega)]; exact hj))
        (fun q hq => hl q (List.mem_append_left _ hq)) (fun j x hx ⟨q, hq, hid⟩ => hI j x (by rw [List.getElem?_append_left (by have := (List.getElem?_eq_some_iff.1 hx).1; omega)]; exact hx) ⟨q, List.mem_append_left _ hq, hid⟩)
      obtain ⟨b1, b2⟩ := resTs_rel (R' := R') (m := m) (i := i + ks.length) (d := d) hrec hc2 h2 (fun j u hj => by
          have := hv (ks.length + j) u (by rw [List.getElem?_append_right (by omega), hul, Nat.add_sub_cancel_left]; exact hj)
          rwa [show i + (ks.length + j) = i + ks.length + j by omega] at this)
        (fun q hq => hl q (List.mem_append_right _ hq)) (fun j x hx ⟨q, hq, hid⟩ => by
          have := hI (ks.length + j) x (by rw [List.getElem?_append_right (by omega), hlen, Nat.add_sub_cancel_left]; exact hx) ⟨q, List.mem_append_right _ hq, by rw [hid]; omega⟩
          rwa [show i + (ks.length + j) = i + ks.length + j by omega] at this)
      refine ⟨⟨mkTV_tv ht a1 hv1, b1⟩, fun q hq => ?_⟩
      rcases List.mem_append.1 hq with hq | hq
      · obtain ⟨j, x, us', e1, e2, e3⟩ := a2 q hq
        exact ⟨j, x, us', by rw [List.getElem?_append_left (by have := (List.getElem?_eq_some_iff.1 e1).1; omega)]; exact e1, e2, e3⟩
      · obtain ⟨j, x, us', e1, e2, e3⟩ := b2 q hq
        exact ⟨ks.length + j, x, us', by rw [List.getElem?_append_right (by omega), hlen, Nat.add_sub_cancel_left]; exact e1, by rw [e2]; omega, e3⟩
    · cases h
  | [], _, _ :: _, _, _, _, _, _, hc, _, _, _, _ | [], _, [], _ :: _, _, _, _, _, hc, _, _, _, _ | _ :: _, _, [], _, _, _, _, _, hc, _, _, _, _ => hc.elim
  | [], _, [], [], _ :: _, _, _, _, _, hr, _, _, _ => hr.elim

theorem tup_rel {R' : Nat → Prop} {ts : List TV} {vs : List Value} (h : All2 (TVr R' w' η' I' σ') ts vs) : SVr R' w' η' I' σ' (tupOf ts) (tupV vs) := by
  match ts, vs, h with
  | [], [], _ => exact ⟨#[], rfl, trivial⟩
  | [t], [v], h => exact h.1
  | t :: t' :: ts, v :: v' :: vs, h => exact ⟨(v :: v' :: vs).toArray, rfl, h⟩

theorem boxLeaf_rel {R' : Nat → Prop} {k0 : Nat} : ∀ {ks : List K} {vs : List Value} {us : List U} {i : Nat}, RdL R' w' ks vs us → (∀ (j : Nat) u, us[j]? = some u → η'.getD (k0 + (i + j)) default = u) →
    All2 (LVr R' w' η' I' σ') ((ks.zipIdx i).map fun p => LV.u p.1 (.var (k0 + p.2))) vs
  | [], [], [], _, _, _ => trivial
  | k :: ks, v :: vs, u :: us, i, h, hv => by
    simp only [List.zipIdx_cons, List.map_cons]
    refine ⟨?_, boxLeaf_rel h.2 fun j u hj => ?_⟩
    · have := hv 0 u (by simp)
      simp only [LVr, E.den]
      rw [show k0 + i = k0 + (i + 0) by omega, this]; exact h.1
    · have := hv (j + 1) u (by simpa using hj); rwa [show i + (j + 1) = i + 1 + j by omega] at this
  | [], [], _ :: _, _, h, _ | [], _ :: _, _, _, h, _ | _ :: _, [], _, _, h, _ | _ :: _, _ :: _, [], _, h, _ => h.elim

theorem boxOut_rel {R' : Nat → Prop} {m : Nat} : ∀ {ps : List PK} {bs : List (Nat × List LV)} {ids : List Nat} {us : List U} {i : Nat}, BoxesRel R' w' ps (ids.map I.ρ) us → ids.Nodup → (∀ b ∈ ids, (lookB bs b).isSome = true) →
    (∀ (j : Nat) u, us[j]? = some u → η'.getD (m + (i + j)) default = u) → nodupB bs = true →
    (∀ b, (lookB (boxOut bs m ps ids i) b).isSome = (lookB bs b).isSome) ∧ nodupB (boxOut bs m ps ids i) = true ∧
    ∀ b ls, lookB (boxOut bs m ps ids i) b = some ls → (b ∉ ids ∧ lookB bs b = some ls) ∨ ∃ cur e, w'.heap[I.ρ b]? = some (.cells cur e (0, 0)) ∧ All2 (LVr R' w' η' I' σ') ls cur.toList
  | [], bs, [], us, i, _, _, _, _, hn => ⟨fun b => rfl, hn, fun b ls h => .inl ⟨by simp, h⟩⟩
  | .val _ _ :: ps, bs, ids, us, i, h, hd, hb, hv, hn => by
    simp only [boxOut]
    exact boxOut_rel (ps := ps) h hd hb hv hn
  | .fn _ _ :: ps, bs, ids, us, i, h, hd, hb, hv, hn => by
    simp only [boxOut]
    exact boxOut_rel (ps := ps) h hd hb hv hn
  | .ro _ :: ps, bs, ids, us, i, h, hd, hb, hv, hn => by
    simp only [boxOut]
    exact boxOut_rel (ps := ps) h hd hb hv hn
  | .box ks :: ps, bs, c :: ids, us, i, h, hd, hb, hv, hn => by
    simp only [boxOut]
    obtain ⟨cur, e, u1, u2, rfl, h1, h2, h3⟩ := h
    have hul := h2.len.2
    rw [List.nodup_cons] at hd
    have hcs := hb c List.mem_cons_self
    have hlk : ∀ (ls : List LV) b, lookB (setB bs c ls) b = if b = c then some ls else lookB bs b := fun ls b => by rw [lookB_setB, hcs]; simp
    have hks : ∀ (ls : List LV) b, (lookB (setB bs c ls) b).isSome = (lookB bs b).isSome := fun ls b => by
      rw [hlk]; by_cases hbc : b = c
      · subst hbc; rw [if_pos rfl, hcs]; rfl
      · rw [if_neg hbc]
    obtain ⟨r1, r2, r3⟩ := boxOut_rel (m := m) (i := i + ks.length) (bs := setB bs c (ks.zipIdx.map fun p => LV.u p.1 (.var (m + (i + p.2))))) h3 hd.2 (fun b hb' => by rw [hks]; exact hb b (List.mem_cons_of_mem _ hb')) (fun j u hj => by
      have := hv (ks.length + j) u (by rw [List.getElem?_append_right (by omega), hul, Nat.add_sub_cancel_left]; exact hj)
      rwa [show i + (ks.length + j) = i + ks.length + j by omega] at this) (nodupB_setB _ _ hn)
    refine ⟨fun b => by rw [r1, hks], r2, fun b ls hbl => ?_⟩
    rcases r3 b ls hbl with ⟨h4, h5⟩ | h4
    · rw [hlk] at h5
      by_cases hbc : b = c
      · subst hbc
        rw [if_pos rfl, Option.some.injEq] at h5; subst h5
        right
        refine ⟨cur, e, h1, ?_⟩
        have := boxLeaf_rel (k0 := m + i) (i := 0) (I' := I') (σ' := σ') (η' := η') h2 (fun j u hj => by
          have := hv j u (by rw [List.getElem?_append_left (by have := (List.getElem?_eq_some_iff.1 hj).1; omega)]; exact hj)
          rwa [show m + (i + j) = m + i + (0 + j) by omega] at this)
        simpa only [Nat.add_assoc] using this
      · rw [if_neg hbc] at h5
        exact .inl ⟨by simp [hbc, h4], h5⟩
    · exact .inr h4
  | [], _, _ :: _, _, _, h, _, _, _, _ => h.elim
  | .box _ :: _, _, [], _, _, h, _, _, _, _ => h.elim
end
end Go.Proofs.YtibbceoibcnpcaaGreat.Eng
