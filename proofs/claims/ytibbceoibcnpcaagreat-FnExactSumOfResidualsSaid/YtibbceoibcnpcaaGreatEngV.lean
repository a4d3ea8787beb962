/- The engine, part V: a function keeps its promise. No condition. -/
import Derived.Test.YtibbceoibcnpcaaGreatEngT
namespace Go.Proofs.YtibbceoibcnpcaaGreat.Eng
open Go

section
variable {P : Program} {T : Tab} {w0 : World} {M : List Nat} {fx : Fx} {I : In} {η : List U} {σ : PS} {a : Act} {w w' : World}

def resSem (tmps : Array Value) : ResultVar → Sem Value
  | .tmp t => pure (tmps.getD t undef)
  | .cell a t => do loadVar t (← asAddr (tmps.getD a undef))

theorem retTV_run (hT : TabOK P T) (hr : Rel' w0 M I η σ a w) {r : ResultVar} {tv : TV} (h : retTV T σ r = some tv) : ∃ x, (resSem a.tmps r).run P w = .ok x w ∧ TVr (Ok I σ w) w η I σ tv x := by
  unfold retTV at h
  split at h
  · rename_i t
    split at h
    · rename_i tv' hs
      simp only [Option.some.injEq] at h; subst h
      have := slot_rel hr.slots t
      rw [show σ.slots.getD t .dead = .val tv' from hs] at this
      exact ⟨_, rfl, this⟩
    · cases h
  · rename_i t ty
    split at h
    · rename_i ti b hti hs
      split at h
      · rename_i ls hls
        split at h
        · rename_i hsz
          have hsz := Nat.eq_of_beq_eq_true hsz
          have hv := slot_rel hr.slots t
          rw [show σ.slots.getD t .dead = .ptr b 0 from hs] at hv
          obtain ⟨hv, _⟩ := hv
          obtain ⟨cur, e, h1, h2⟩ := hr.boxes b ls hls
          have hcell : ∀ (j : Nat) l, ls[j]? = some l → ∃ y, w.cell? ⟨I.ρ b, 0 + j, none⟩ = some y ∧ LVr (Ok I σ w) w η I σ l y := fun j l hl => by
            obtain ⟨y, hy, hyr⟩ := h2.get hl
            refine ⟨y, ?_, hyr⟩
            have hy' : cur[j]? = some y := by simpa using hy
            simp [World.cell?, h1, hy']
          obtain ⟨x, hx1, hx2⟩ := loadVar_run (P := P) (hT _ _ hti) (ad := ⟨I.ρ b, 0, none⟩) rfl (by omega) (ls := ls) (tv := tv) (by rw [← hsz, List.take_length]; exact h) hcell
          refine ⟨x, ?_, hx2⟩
          simp [resSem, hv, asAddr, hx1 w (fun _ _ => rfl)]
        · cases h
      · cases h
    · cases h

theorem zipE_app {f : K → LV → Option E} : ∀ {k1 k2 : List K} {l1 l2 : List LV} {e1 e2 : List E}, zipE f k1 l1 = some e1 → zipE f k2 l2 = some e2 → zipE f (k1 ++ k2) (l1 ++ l2) = some (e1 ++ e2)
  | [], k2, [], l2, e1, e2, h1, h2 => by simp only [zipE, Option.some.injEq] at h1; subst h1; exact h2
  | k :: k1, k2, l :: l1, l2, e1, e2, h1, h2 => by
    simp only [zipE] at h1
    split at h1
    · rename_i e es he hes
      simp only [Option.some.injEq] at h1; subst h1
      simp only [List.cons_append, zipE, he, zipE_app hes h2]
    · cases h1
  | [], _, _ :: _, _, _, _, h1, _ | _ :: _, _, [], _, _, _, h1, _ => by simp [zipE] at h1

theorem zipE_len {f : K → LV → Option E} : ∀ {ks : List K} {ls : List LV} {es : List E}, zipE f ks ls = some es → ks.length = ls.length
  | [], [], _, _ => rfl
  | k :: ks, l :: ls, es, h => by
    simp only [zipE] at h
    split at h
    · rename_i e es' _ h2; simp [zipE_len h2]
    · cases h
  | [], _ :: _, _, h | _ :: _, [], _, h => by simp [zipE] at h

/-- the values that a function hands back -/
theorem rets_run (hT : TabOK P T) (hr : Rel' w0 M I η σ a w) : ∀ {rs : List ResultVar} {res : List (Bool × List K)} {es : List E} {os : List Nat}, rets T σ rs res = some (es, os) →
    ∃ vs cs lvs, (rs.mapM (resSem a.tmps)).run P w = .ok vs w ∧ Chunks res vs cs ∧ All2 (LVr (Ok I σ w) w η I σ) lvs cs ∧ os = ownsOf lvs ∧ zipE (retE σ.rows) (flatK res) lvs = some es
  | [], [], es, os, h => by
    simp only [rets, Option.some.injEq, Prod.mk.injEq] at h; obtain ⟨rfl, rfl⟩ := h
    exact ⟨[], [], [], by simp, trivial, trivial, rfl, rfl⟩
  | r :: rs, (agg, ks) :: res, es, os, h => by
    simp only [rets] at h
    split at h
    · rename_i tv es' os' htv hrec
      obtain ⟨vs, cs, lvs, h1, h2, h3, h4, h5⟩ := rets_run hT hr hrec
      obtain ⟨x, hx1, hx2⟩ := retTV_run hT hr htv
      split at h
      · rename_i l
        simp only [Option.map_eq_some_iff, Prod.mk.injEq] at h
        obtain ⟨e, he, rfl, rfl⟩ := h
        refine ⟨x :: vs, [x] ++ cs, [l] ++ lvs, ?_, ⟨[x], cs, rfl, ?_, rfl, h2⟩, All2.append ⟨hx2, trivial⟩ h3, by rw [ownsOf_app, h4], zipE_app he h5⟩
        · simp [List.mapM_cons, hx1, h1]
        · have := zipE_len he; rw [this]; rfl
      · rename_i ls
        simp only [Option.map_eq_some_iff, Prod.mk.injEq] at h
        obtain ⟨e, he, rfl, rfl⟩ := h
        obtain ⟨cc, rfl, hl⟩ := hx2
        refine ⟨.agg cc :: vs, cc.toList ++ cs, ls ++ lvs, ?_, ⟨cc.toList, cs, rfl, ?_, by simp, h2⟩, All2.append hl h3, by rw [ownsOf_app, h4], zipE_app he h5⟩
        · simp [List.mapM_cons, hx1, h1]
        · have := zipE_len he; rw [this]; exact hl.length.symm
      · cases h
    · cases h
  | [], _ :: _, _, _, h | _ :: _, [], _, _, h => by simp [rets] at h

theorem retE_u {rows : List Row} {k k' : K} {e c : E} (h : retE rows k (.u k' e) = some c) : k = k' ∧ e = c ∧ scalarK k = true := by
  cases k <;> simp only [retE] at h <;> first | cases h | skip
  all_goals
    split at h
    · rename_i hk; cases h
      exact ⟨K.eq_of_beq _ _ hk, rfl, rfl⟩
    · cases h
theorem retE_own {rows : List Row} {k : K} {r : Nat} {c : E} (h : retE rows k (.own r) = some c) : ∃ q, lookR rows r = some q ∧ k = .lst q.e q.ks ∧ q.c = c := by
  have h' : (match lookR rows r with | some q => if K.beq k (.lst q.e q.ks) then some q.c else none | none => none) = some c := by cases k <;> exact h
  split at h'
  · rename_i q hq
    split at h'
    · rename_i hk; cases h'; exact ⟨q, hq, K.eq_of_beq _ _ hk, rfl⟩
    · cases h'
  · cases h'

theorem ret_res (hr : Rel' w0 M I η σ a w) {base : Nat} (hfresh : ∀ r g, (lookR σ.rows r).isSome = true → (I.vr r).ownBlock = some g → base ≤ g) :
    ∀ {ks : List K} {lvs : List LV} {cs : List Value} {es : List E}, zipE (retE σ.rows) ks lvs = some es → All2 (LVr (Ok I σ w) w η I σ) lvs cs → ResL (Ok I σ w) w base ks cs (es.map (E.den η))
  | [], [], [], es, h, _ => by simp only [zipE, Option.some.injEq] at h; subst h; trivial
  | k :: ks, l :: lvs, c :: cs, es, h, hl => by
    simp only [zipE] at h
    split at h
    · rename_i e es' h1 h2
      simp only [Option.some.injEq] at h; subst h
      refine ⟨?_, ret_res hr hfresh h2 hl.2⟩
      cases l with
      | u k' e' =>
        obtain ⟨rfl, rfl, hs⟩ := retE_u h1
        exact LfRes.of_rd hl.1 hs
      | own r =>
        obtain ⟨q, hq, rfl, rfl⟩ := retE_own h1
        obtain ⟨us, h3, h4⟩ := hr.rows r q hq
        have hc : c = I.vr r := hl.1.1
        exact ⟨us, h3, by rw [hc]; exact h4, fun g hg => hfresh r g (by rw [hq]; rfl) (by rw [← hc]; exact hg)⟩
      | nil =>
        have hc : c = .slice none 0 0 := hl.1
        cases k with
        | lst e' ks' =>
          simp only [retE, Option.some.injEq] at h1; subst h1
          exact ⟨[], rfl, by rw [hc]; exact ⟨[], World.ownsRow_nil w 0 e' ks'.length, by simp, by simp⟩, fun g hg => by rw [hc] at hg; simp [Value.ownBlock] at hg⟩
        | int k => simp [retE] at h1
        | bool => simp [retE] at h1
        | str => simp [retE] at h1
    · cases h
  | [], _ :: _, _, _, h, _ | _ :: _, [], _, _, h, _ => by simp [zipE] at h
  | _, [], _ :: _, _, _, hl | _, _ :: _, [], _, _, hl => hl.elim

theorem zipE_get {f : K → LV → Option E} : ∀ {ks : List K} {ls : List LV} {es : List E} {i : Nat} {l : LV}, zipE f ks ls = some es → ls[i]? = some l → ∃ k c, f k l = some c
  | k :: ks, l0 :: ls, es, i, l, h, hi => by
    simp only [zipE] at h
    split at h
    · rename_i e es' h1 h2
      cases i with
      | zero => simp at hi; subst hi; exact ⟨k, e, h1⟩
      | succ i => exact zipE_get (i := i) h2 (by simpa using hi)
    · cases h
  | [], [], _, _, _, _, hi => by simp at hi
  | [], _ :: _, _, _, _, h, _ | _ :: _, [], _, _, _, h, _ => by simp [zipE] at h

/-- where a result's own block comes from -/
theorem ret_own (hr : Rel' w0 M I η σ a w) {ks : List K} {lvs : List LV} {cs : List Value} {es : List E} (h : zipE (retE σ.rows) ks lvs = some es) (hl : All2 (LVr (Ok I σ w) w η I σ) lvs cs) {i : Nat} {x : Value} {g : Nat} (hx : cs[i]? = some x) (hg : x.ownBlock = some g) :
    ∃ r, lvs[i]? = some (.own r) ∧ (lookR σ.rows r).isSome = true ∧ (I.vr r).ownBlock = some g := by
  have hi := (List.getElem?_eq_some_iff.1 hx).1
  have hlen := hl.length
  have hli : lvs[i]? = some lvs[i] := by simp
  obtain ⟨y, hy, hyr⟩ := hl.get hli
  rw [hx] at hy; cases hy
  obtain ⟨k, c, hkc⟩ := zipE_get h hli
  generalize lvs[i] = l at hli hyr hkc
  cases l with
  | u k' e' =>
    obtain ⟨rfl, rfl, hs⟩ := retE_u hkc
    have := Rd.val hyr hs
    rw [this] at hg
    cases k <;> simp [U.val, Value.ownBlock, scalarK, undef] at hg hs
  | own r => exact ⟨r, hli, hyr.2, by rw [← hyr.1]; exact hg⟩
  | nil =>
    have : x = .slice none 0 0 := hyr
    rw [this] at hg; simp [Value.ownBlock] at hg

theorem boxE_rel (hr : Rel' w0 M I η σ a w) : ∀ {ps : List PK} {i : Nat} {bs : List Nat} {es : List E} {R : Nat → Prop} {vs : List Value} {us : List U} {w1 : World}, boxE σ ps i = some es → ArgsRel R w1 ps vs us bs → (∀ j, i ≤ j → j < i + ps.length → I.ρ j = parB ps bs i j) →
    BoxesRel (Ok I σ w) w ps bs (es.map (E.den η)) ∧ ∀ g ∈ bs, ∃ j, (lookB σ.boxes j).isSome = true ∧ I.ρ j = g
  | [], i, [], es, R, [], [], w1, h, _, _ => by simp only [boxE, Option.some.injEq] at h; subst h; exact ⟨trivial, by simp⟩
  | .val agg ks :: ps, i, bs, es, R, v :: vs, us, w1, h, ha, hρ => by
    obtain ⟨cs, u1, u2, _, _, _, h4⟩ := ha
    simp only [boxE] at h
    simp only [List.length_cons, parB] at hρ
    exact boxE_rel hr (ps := ps) (i := i + 1) h h4 (fun j h1 h2 => hρ j (by omega) (by omega))
  | .ro ks :: ps, i, bs, es, R, v :: vs, us, w1, h, ha, hρ => by
    obtain ⟨a, cs, u1, u2, _, _, _, _, _, _, h4⟩ := ha
    simp only [boxE] at h
    simp only [List.length_cons, parB] at hρ
    exact boxE_rel hr (ps := ps) (i := i + 1) h h4 (fun j h1 h2 => hρ j (by omega) (by omega))
  | .fn f n :: ps, i, bs, es, R, v :: vs, us, w1, h, ha, hρ => by
    obtain ⟨caps, _, _, h4⟩ := ha
    simp only [boxE] at h
    simp only [List.length_cons, parB] at hρ
    exact boxE_rel hr (ps := ps) (i := i + 1) h h4 (fun j h1 h2 => hρ j (by omega) (by omega))
  | .box ks :: ps, i, g :: bs, es, R, v :: vs, us, w1, h, ha, hρ => by
    obtain ⟨cur1, e1, u1, u2, _, _, _, _, h4⟩ := ha
    simp only [boxE] at h
    split at h
    · rename_i ls es' hls hrec
      simp only [Option.map_eq_some_iff] at h
      obtain ⟨e, he, rfl⟩ := h
      simp only [List.length_cons, parB] at hρ
      have hi := hρ i (Nat.le_refl _) (by omega)
      rw [if_pos rfl] at hi
      obtain ⟨r1, r2⟩ := boxE_rel hr (ps := ps) (i := i + 1) hrec h4 (fun j h1 h2 => by
        have := hρ j (by omega) (by omega); rwa [if_neg (by omega)] at this)
      obtain ⟨cur, ty, hc1, hc2⟩ := hr.boxes i ls hls
      rw [hi] at hc1
      refine ⟨⟨cur, ty, e.map (E.den η), es'.map (E.den η), by simp, hc1, zipE_rd (fun k l e v h hl => toU_rd k l e v h hl) he hc2, r1⟩, fun b hb => ?_⟩
      rcases List.mem_cons.1 hb with rfl | hb
      · exact ⟨i, by rw [hls]; rfl, hi⟩
      · exact r2 b hb
    · cases h
  | [], _, _ :: _, _, _, _, _, _, _, ha, _ => by cases ‹List Value› <;> cases ‹List U› <;> exact ha.elim
  | [], _, [], _, _, _ :: _, _, _, _, ha, _ | [], _, [], _, _, [], _ :: _, _, _, ha, _ | .val _ _ :: _, _, _, _, _, [], _, _, _, ha, _ | .fn _ _ :: _, _, _, _, _, [], _, _, _, ha, _ | .ro _ :: _, _, _, _, _, [], _, _, _, ha, _ | .box _ :: _, _, _, _, _, [], _, _, _, ha, _ | .box _ :: _, _, [], _, _, _ :: _, _, _, _, ha, _ => ha.elim

theorem results_run {fn : Func} {vs : List Value} (h : (fn.results.toList.mapM (resSem a.tmps)).run P w = .ok vs w) : (results fn a.tmps).run P w = .ok (tupV vs) w := by
  have e : results fn a.tmps = (fn.results.mapM (resSem a.tmps) >>= fun vs => pure (if h : vs.size = 1 then vs[0] else .tuple vs)) := rfl
  rw [e, Array.mapM_eq_mapM_toList]
  simp only [Sem.run_bind, Sem.run_map, h, Result.andThen_ok, Sem.run_pure]
  match vs with
  | [] => rfl
  | [x] => rfl
  | x :: y :: l => rfl

theorem callFunc_run {f : Nat} {fn : Func} {c : Code} (hf : P.funcs[f]? = some fn) (hb : fn.body = some c) (hn : (fn.name == "runtime.NumGoroutine") = false) (args : Array Value) (w : World) : (callFunc f args).run P w = .ok (.enter f args) w := by
  have hn' : ¬ fn.name = "runtime.NumGoroutine" := by simpa using hn
  simp [callFunc, hf, hb, hn']

/-- A FUNCTION KEEPS ITS PROMISE: the engine's program says what it hands back. -/
theorem fn_ok {sigs : Sigs} {G : FEnv} (hT : TabOK P T) (hG : EnvOK P sigs G) (hmix : P.follows .mixedOrders = true) {f : Nat} {fn : Func} {sg : Sig} {prog : Prog} {g : List U → Option (List U)}
    (hf : P.funcs[f]? = some fn) (hn : (fn.name == "runtime.NumGoroutine") = false) (hp : progOf T sigs fn sg = some prog)
    (hg : ∀ us rs, us.length = Sig.nin sg.params → g us = some rs → wpP G prog 0 us fun l η => ∃ es, l = .res es ∧ es.map (E.den η) = rs) : FnOK P f sg g := by
  unfold progOf at hp
  split at hp
  · cases hp
  rename_i c hb
  refine ⟨callFunc_run hf hb hn, fun w vs us rs R bs ha hnd hR hgu => ?_⟩
  simp only at hp
  split at hp
  · rename_i hsz
    have hsz := Nat.eq_of_beq_eq_true hsz
    split at hp
    · rename_i p0 hp0
      obtain ⟨hl1, hl2, hl3⟩ := argsLen ha
      have hw := hg us rs hl1 hgu
      have hw := wpP_bindL p0 prog 0 us _ hp hw (.inl rfl)
      refine calls_of_wp hf hb ?_
      have hent := entry_rel (k := fn.ntmps - (parSV sg.params 0 0).1.length) ha hnd hR
      have hact : ({ tmps := vs.toArray ++ Array.replicate (fn.ntmps - (parSV sg.params 0 0).1.length) undef, defers := [] } : Act) = { tmps := vs.toArray ++ Array.replicate (fn.ntmps - vs.toArray.size) undef, defers := [] } := by
        rw [hl2]; simp
      rw [hact] at hent
      refine exec_sound (C := ⟨T, sigs, keepOf fn c, sg.params.length⟩) (fun id ops draw σ n p hsc h => region_sound hT hG (by simp) hmix id ops draw σ n p hsc h) c _ _ p0 hp0 us _ w _ _ hl1 hent hw ⟨?_, fun l es η hk => hk, fun es η hk => hk⟩
      intro x m σ η hk a1 w1 hrel
      obtain ⟨q, hq, hwq⟩ := hk
      -- what was handed back
      have key : ∀ es, finish T sg fn.results.toList σ = some es → es.map (E.den η) = rs → a1.defers = [] ∧ ∃ v, (results fn a1.tmps).run P w1 = .ok v w1 ∧ ∃ v' cs u1 u2 vs R', Ending.returned v = .returned v' ∧ Back R w w1 sg bs v' rs cs u1 u2 vs R' := by
        intro es hes hrs
        obtain ⟨I, hr, hfx1, hfx2⟩ := hrel
        unfold finish at hes
        split at hes
        · rename_i es1 os es2 hrets hbox
          split at hes
          · rename_i hnd2
            simp only [Option.some.injEq] at hes; subst hes
            obtain ⟨vs', cs, lvs, h1, h2, h3, h4, h5⟩ := rets_run hT hr hrets
            obtain ⟨b1, b2⟩ := boxE_rel hr hbox ha (fun j _ h2 => hfx1 j (by simpa using h2))
            have hnd2 : (ownsOf lvs).Nodup := by rw [← h4]; exact nodupN_nodup hnd2
            have hfresh : ∀ r g, (lookR σ.rows r).isSome = true → (I.vr r).ownBlock = some g → w.heap.size ≤ g := fun r g h6 h7 => by
              rcases hr.new g (.inr ⟨r, h6, h7⟩) with h | h
              · exact h
              · obtain ⟨j, hj, e⟩ := b2 g h
                exact absurd (by rw [h7, e]) (hr.injBR j r hj h6)
            refine ⟨hr.defers, tupV vs', results_run h1, tupV vs', cs, es1.map (E.den η), es2.map (E.den η), vs', Ok I σ w1, rfl, ?_⟩
            exact {
              kept := hr.kept
              rs := by rw [← hrs]; simp
              v := rfl
              chunks := h2
              res := ret_res hr hfresh h5 h3
              apart := fun i j x y g hx hy hgx hgy => by
                obtain ⟨r, e1, e2, e3⟩ := ret_own hr h5 h3 hx hgx
                obtain ⟨r', e1', e2', e3'⟩ := ret_own hr h5 h3 hy hgy
                have := hr.injR r r' g e2 e2' e3 e3'
                subst this
                exact own_index hnd2 e1 e1'
              old := fun b hb => by
                refine ⟨?_, hb.1.1, fun x hx he => ?_⟩
                · have := hb.1.2
                  rw [hfx2] at this
                  rcases this with h | h | h
                  · exact .inl h
                  · exact .inr h
                  · obtain ⟨j, hj, e⟩ := b2 b h
                    exact absurd (.inl ⟨j, hj, e⟩) hb.2
                · obtain ⟨i, hi⟩ := List.mem_iff_getElem?.1 hx
                  obtain ⟨r, e1, e2, e3⟩ := ret_own hr h5 h3 hi he
                  exact hb.2 (.inr ⟨r, e2, e3⟩)
              boxes := b1 }
          · cases hes
        · cases hes
      cases x with
      | norm =>
        simp only [finG, Option.map_eq_some_iff] at hq
        obtain ⟨es, hes, rfl⟩ := hq
        obtain ⟨es', he, hrs⟩ := hwq
        cases he
        exact key es hes hrs
      | ret =>
        simp only [finG, Option.map_eq_some_iff] at hq
        obtain ⟨es, hes, rfl⟩ := hq
        obtain ⟨es', he, hrs⟩ := hwq
        cases he
        exact key es hes hrs
      | exit id => simp [finG] at hq
    · cases hp
  · cases hp
end
end Go.Proofs.YtibbceoibcnpcaaGreat.Eng
