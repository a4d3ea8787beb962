/- The engine, part Q: one operation is sound. No condition. -/
import Derived.Test.YtibbceoibcnpcaaGreatEngP
namespace Go.Proofs.YtibbceoibcnpcaaGreat.Eng
open Go

section
variable {P : Program} {T : Tab} {w0 : World} {M : List Nat} {fx : Fx} {I : In} {η : List U} {σ : PS} {a : Act} {w : World}

theorem call_core {f : Nat} {sg : Sig} {g : List U → Option (List U)} (hf : FnOK P f sg g) (hr : Rel' w0 M I η σ a w) (hfx : fx.ok I) {m d : Nat} {xs : List SV} {xv : List Value} {es : List E} {ids : List Nat} {fl : Bool}
    (hfl : fl = flatOk sg) (hxs : All2 (SVr (Ok I σ w) w η I σ) xs xv) (harg : argE (fl && sg.params.all PK.isVal) (if fl then LV.toE σ.rows else LV.toU) σ sg.params xs = some (es, ids)) {ts : List TV} {nr : List Row} (hts : resTs d m sg.res 0 = some (ts, nr)) (hfr : freshR σ nr = true) (hnr : nodupR nr = true) {rs : List U}
    (hg : g (es.map (E.den η)) = some rs) (hout : ∀ (j : Nat) u, rs[j]? = some u → η.getD (m + j) default = u) :
    Calls P f xv.toArray w fun e w' => ∃ v I', e = .returned v ∧ Rel' w0 M I' η { σ with boxes := boxOut σ.boxes m sg.params ids (flatK sg.res).length, rows := nr ++ σ.rows } a w' ∧
      SVr (Ok I' { σ with boxes := boxOut σ.boxes m sg.params ids (flatK sg.res).length, rows := nr ++ σ.rows } w') w' η I' { σ with boxes := boxOut σ.boxes m sg.params ids (flatK sg.res).length, rows := nr ++ σ.rows } (tupOf ts) v ∧ fx.ok I' := by
  -- what the callee may read
  obtain ⟨Rk, hRk, hRk2, hRkb, hf', hro⟩ : ∃ Rk : Nat → Prop, (∀ b, Ok I σ w b → Rk b) ∧ (fl = false → ∀ b, Rk b → Ok I σ w b) ∧ (∀ b, Rk b → b < w.heap.size ∧ (sg.params.all PK.isVal = true ∨ ∀ c, (lookB σ.boxes c).isSome = true → I.ρ c ≠ b)) ∧
      (∀ k l e v, (if fl then LV.toE σ.rows else LV.toU) k l = some e → LVr (Ok I σ w) w η I σ l v → Rd Rk w k v (e.den η)) ∧ ((fl && sg.params.all PK.isVal) = true → ∀ b, (lookB σ.boxes b).isSome = true → Rk (I.ρ b)) := by
    cases fl with
    | false =>
      refine ⟨Ok I σ w, fun b h => h, fun _ b h => h, fun b h => ⟨h.1.1, .inr fun c hc e => h.2 (.inl ⟨c, hc, e⟩)⟩, fun k l e v h hl => toU_rd k l e v (by simpa using h) hl, fun h => by simp at h⟩
    | true =>
      by_cases hval : sg.params.all PK.isVal = true
      · refine ⟨fun b => (Ok I σ w b ∨ ∃ r, (lookR σ.rows r).isSome = true ∧ (I.vr r).ownBlock = some b) ∨ ∃ c, (lookB σ.boxes c).isSome = true ∧ I.ρ c = b, fun b h => .inl (.inl h), fun h => (by cases h), ?_, fun k l e v h hl => toE_rd hr (fun b h => .inl (.inl h)) (fun r g h1 h2 => .inl (.inr ⟨r, h1, h2⟩)) k l e v (by simpa using h) hl, fun _ b hb => .inr ⟨b, hb, rfl⟩⟩
        rintro b ((h | ⟨r, h1, h2⟩) | ⟨c, hc, e⟩)
        · exact ⟨h.1.1, .inl hval⟩
        · exact ⟨hr.lt (.inr ⟨r, h1, h2⟩), .inl hval⟩
        · exact ⟨hr.lt (.inl ⟨c, hc, e⟩), .inl hval⟩
      · refine ⟨fun b => Ok I σ w b ∨ ∃ r, (lookR σ.rows r).isSome = true ∧ (I.vr r).ownBlock = some b, fun b h => .inl h, fun h => (by cases h), ?_, fun k l e v h hl => toE_rd hr (fun b h => .inl h) (fun r g h1 h2 => .inr ⟨r, h1, h2⟩) k l e v (by simpa using h) hl, fun h => by simp [hval] at h⟩
        rintro b (h | ⟨r, h1, h2⟩)
        · exact ⟨h.1.1, .inr fun c hc e => h.2 (.inl ⟨c, hc, e⟩)⟩
        · exact ⟨hr.lt (.inr ⟨r, h1, h2⟩), .inr fun c hc e => hr.injBR c r hc h1 (by rw [h2, e])⟩
  obtain ⟨ha, hnd, hids⟩ := argE_rel hr hRk hf' hro hxs harg
  have hbs : (ids.map I.ρ).Nodup := by
    have : ∀ (l : List Nat), l.Nodup → (∀ b ∈ l, (lookB σ.boxes b).isSome = true) → (l.map I.ρ).Nodup := by
      intro l
      induction l with
      | nil => intro _ _; simp
      | cons b l ih =>
        intro h1 h2
        rw [List.nodup_cons] at h1
        rw [List.map_cons, List.nodup_cons]
        refine ⟨fun hm => ?_, ih h1.2 fun c hc => h2 c (List.mem_cons_of_mem _ hc)⟩
        obtain ⟨c, hc, e⟩ := List.mem_map.1 hm
        have := hr.injB c b (h2 c (List.mem_cons_of_mem _ hc)) (h2 b List.mem_cons_self) e
        subst this; exact h1.1 hc
    exact this ids hnd hids
  refine (hf.run w xv _ rs Rk (ids.map I.ρ) ha hbs (fun b hb => ⟨(hRkb b hb).1, fun hm => ?_⟩) hg).mono ?_
  · rcases (hRkb b hb).2 with hval | hne
    · rw [argE_val harg hval] at hm; simp at hm
    · obtain ⟨c, hc, e⟩ := List.mem_map.1 hm
      exact hne c (hids c hc) e
  · rintro e w' ⟨v, cs, u1, u2, vs, R', rfl, hb⟩
    obtain ⟨hk, hrs, hv, hch, hres, hap, hold, hbx⟩ := hb
    subst hrs; subst hv
    -- what may be read behind it
    obtain ⟨Rn, hRn, hRn2, hres', hbx'⟩ : ∃ Rn : Nat → Prop, (∀ b, Rn b → (Ok I σ w b ∨ w.heap.size ≤ b) ∧ b < w'.heap.size) ∧ (∀ b, Rn b → ∀ x ∈ cs, x.ownBlock ≠ some b) ∧ ResL Rn w' w.heap.size (flatK sg.res) cs u1 ∧ BoxesRel Rn w' sg.params (ids.map I.ρ) u2 := by
      cases fl with
      | false =>
        refine ⟨R', fun b h => ⟨(hold b h).1.imp (hRk2 rfl b) id, (hold b h).2.1⟩, fun b h => (hold b h).2.2, hres, hbx⟩
      | true =>
        have hfl' := hfl.symm
        simp only [flatOk, Bool.and_eq_true] at hfl'
        exact ⟨fun _ => False, fun b h => h.elim, fun b h => h.elim, hres.shallow hfl'.1, hbx.scalar hfl'.2⟩
    have hu1 : u1.length = (flatK sg.res).length := by
      have : ∀ {ks : List K} {cs : List Value} {us : List U}, ResL Rn w' w.heap.size ks cs us → us.length = ks.length := by
        intro ks
        induction ks with
        | nil => intro cs us h; cases cs <;> cases us <;> first | rfl | exact h.elim
        | cons k ks ih => intro cs us h; cases cs <;> cases us <;> first | exact h.elim | (simp [ih h.2])
      exact this hres'
    simp only [freshR, List.all_eq_true, Option.isNone_iff_eq_none] at hfr
    generalize hvr : (fun r => if nr.any (fun q => Nat.beq q.id r) then cs.getD ((r - d) / 1000) undef else I.vr r) = vr'
    have hvrN : ∀ r, (lookR σ.rows r).isSome = true → vr' r = I.vr r := fun r h => by
      rw [← hvr]
      have : ¬ nr.any (fun q => Nat.beq q.id r) = true := fun h' => by
        obtain ⟨q, hq, he⟩ := List.any_eq_true.1 h'
        have := Nat.eq_of_beq_eq_true he; subst this
        rw [hfr q hq] at h; cases h
      simp only [this]; rfl
    generalize hI' : ({ I with vr := vr' } : In) = I'
    generalize hσ' : ({ σ with boxes := boxOut σ.boxes m sg.params ids (flatK sg.res).length, rows := nr ++ σ.rows } : PS) = σ'
    have hlk : ∀ q ∈ nr, (lookR σ'.rows q.id).isSome = true := fun q hq => by
      rw [← hσ']
      show (lookR (nr ++ σ.rows) q.id).isSome = true
      rw [lookR_app, lookR_of_mem hnr hq]; rfl
    have hvrI : ∀ (j : Nat) x, cs[j]? = some x → (∃ q ∈ nr, q.id = d + 1000 * (0 + j)) → I'.vr (d + 1000 * (0 + j)) = x := fun j x hx ⟨q, hq, hid⟩ => by
      rw [← hI', ← hvr]
      have : nr.any (fun q => Nat.beq q.id (d + 1000 * (0 + j))) = true := List.any_eq_true.2 ⟨q, hq, by rw [hid]; exact beq_self _⟩
      simp only [this, if_true]
      have : (d + 1000 * (0 + j) - d) / 1000 = j := by omega
      rw [this]; simp [hx]
    have hvu1 : ∀ (j : Nat) u, u1[j]? = some u → η.getD (m + (0 + j)) default = u := fun j u hj => by
      have := (List.getElem?_eq_some_iff.1 hj).1
      rw [Nat.zero_add]
      exact hout j u (by rw [List.getElem?_append_left (by omega)]; exact hj)
    have hvu2 : ∀ (j : Nat) u, u2[j]? = some u → η.getD (m + ((flatK sg.res).length + j)) default = u := fun j u hj =>
      hout _ u (by rw [List.getElem?_append_right (by omega), ← hu1, Nat.add_sub_cancel_left]; exact hj)
    obtain ⟨t1, t2⟩ := resTs_rel (R' := Rn) (I' := I') (σ' := σ') (w' := w') (η' := η) hts hch hres' hvu1 hlk hvrI
    obtain ⟨b1, b2, b3⟩ := boxOut_rel (I := I) (R' := Rn) (I' := I') (σ' := σ') (w' := w') (η' := η) hbx' hnd hids hvu2 hr.keyB
    have hq : ∀ q ∈ nr, ∃ (j : Nat) (x : Value) (us' : List (List U)), cs[j]? = some x ∧ q.id = d + 1000 * (0 + j) ∧ vr' q.id = x ∧ q.c.den η = .lst us' ∧ Own Rn w' q.e q.ks x us' ∧ ∀ g, x.ownBlock = some g → w.heap.size ≤ g := fun q hq => by
      obtain ⟨j, x, us', e1, e2, e3⟩ := t2 q hq
      refine ⟨j, x, us', e1, e2, ?_, e3⟩
      have := hvrI j x e1 ⟨q, hq, e2⟩
      rw [← hI', ← e2] at this; exact this
    have hstep := step_rel (vr' := vr') (nb := boxOut σ.boxes m sg.params ids (flatK sg.res).length) (nr := nr) (R' := Rn) hr hk (fun g hg => by
        obtain ⟨c, hc, e⟩ := List.mem_map.1 hg; exact ⟨c, hids c hc, e⟩) b1 b2 hnr hfr hvrN hRn
      (fun b hb q hqm he => by
        obtain ⟨j, x, us', e1, _, e3, _⟩ := hq q hqm
        rw [e3] at he; exact hRn2 b hb x (List.mem_of_getElem? e1) he)
      (fun q hqm g hg => by
        obtain ⟨j, x, us', e1, _, e3, _, _, e6⟩ := hq q hqm
        rw [e3] at hg; exact e6 g hg)
      (fun q hqm q' hqm' g h1 h2 => by
        obtain ⟨j, x, _, e1, e2, e3, _⟩ := hq q hqm
        obtain ⟨j', x', _, e1', e2', e3', _⟩ := hq q' hqm'
        rw [e3] at h1; rw [e3'] at h2
        have := hap j j' x x' g e1 e1' h1 h2
        rw [e2, e2', this])
      (fun b ls hb => by
        rcases b3 b ls hb with ⟨h1, h2⟩ | h1
        · refine .inl ⟨fun hm => ?_, h2⟩
          obtain ⟨c, hc, e⟩ := List.mem_map.1 hm
          have := hr.injB c b (hids c hc) (by rw [h2]; rfl) e
          subst this; exact h1 hc
        · rw [hI', hσ']; exact .inr h1)
      (fun q hqm => by
        obtain ⟨j, x, us', _, _, e3, e4, e5, _⟩ := hq q hqm
        exact ⟨us', e4, by rw [e3]; exact e5⟩)
    rw [hI', hσ'] at hstep
    refine ⟨_, I', rfl, hstep.1, ?_, ?_⟩
    · have htr : Tr Rn (Ok I' σ' w') w' w' η I' I' σ' σ' := ⟨hstep.2, fun _ _ => rfl, fun b h => ⟨h, rfl⟩, fun r q hq => ⟨q, hq, rfl, rfl, rfl⟩⟩
      exact SVr.tr htr (tup_rel t1)
    · rw [← hI']; exact hfx

/-- what is asked of an operation's calls -/
def ClOk (G : FEnv) (η : List U) (cl : Option (Nat × List E × Nat)) (rs : List U) : Prop := match cl with
  | none => rs = []
  | some (f, es, k) => G f (es.map (E.den η)) = some rs ∧ rs.length = k
/-- .. where the environment holds what they hand back -/
def ClAt (G : FEnv) (η : List U) (m : Nat) (cl : Option (Nat × List E × Nat)) : Prop := match cl with
  | none => True
  | some (f, es, k) => ∃ rs, G f (es.map (E.den η)) = some rs ∧ rs.length = k ∧ ∀ (j : Nat) u, rs[j]? = some u → η.getD (m + j) default = u
def EnvOK (P : Program) (sigs : Sigs) (G : FEnv) : Prop := ∀ f sg, sigs.get f = some sg → FnOK P (f % 1000000) sg (G f)

theorem did_wp {o : Oper} {σ' : PS} {v : SV} (h : Did P w0 M fx η a w o σ' v) {K : Act → World → Prop} {Q : Exit → Act → World → Prop} (hK : ∀ x w', Rel w0 M fx η (σ'.put o.dst v) (a.put o.dst x) w' → K (a.put o.dst x) w') : o.wp P a w K Q := by
  obtain ⟨nx, x, w', I', h1, h2, h3, h4, h5⟩ := h
  unfold Oper.wp
  rw [h1]
  have := hK x w' ⟨I', put_rel o.dst h3 h4, h5⟩
  rcases h2 with rfl | ⟨rfl, rfl⟩ <;> exact this

theorem gives_did {o : Oper} {v : SV} {x : Value} (h : Gives P o.op a w x) (hr : Rel' w0 M I η σ a w) (hv : SVr (Ok I σ w) w η I σ v x) (hfx : fx.ok I) : Did P w0 M fx η a w o σ v :=
  ⟨_, x, w, I, h o rfl w (fun _ _ _ _ _ => rfl), .inl rfl, hr, hv, hfx⟩

theorem call_exec {o : Oper} {f : Nat} {x : Operand} {as : Array Operand} {ats : Array Nat} {sg : Sig} {g : List U → Option (List U)} {caps : List Value} (hf : FnOK P f sg g) (ho : o.op = .call { callee := .value x, args := as, argTypes := ats })
    (hx : a.eval x = .func (.func f) #[] caps.toArray) :
    (execOp a.eval o).run P w = .ok (.enter f (as.toList.map a.eval ++ caps).toArray) w := by
  have := hf.enter (as.toList.map a.eval ++ caps).toArray w
  have e : (as.toList.map a.eval ++ caps).toArray = as.map a.eval ++ caps.toArray := Array.ext' (by simp)
  rw [e] at this ⊢
  simp [execOp, ho, resolve, Deferred.ofValue, hx, invoke, this]
theorem pickV_mod {f v : Nat} {vs : List SV} : ∀ {T : Sigs}, pickV f vs T = some v → v % 1000000 = f
  | (u, sg) :: r, h => by
    simp only [pickV] at h
    split at h
    · rename_i hc
      rw [Bool.and_eq_true] at hc
      cases h; exact Nat.eq_of_beq_eq_true hc.1
    · exact pickV_mod h
theorem calleeOf_some {sigs : Sigs} {x : Operand} {as : List Operand} {f : Nat} {cs : List Nat} (h : calleeOf sigs σ x as = some (f, cs)) : ∃ f0, opv σ x = .fn f0 cs ∧ f % 1000000 = f0 := by
  unfold calleeOf at h
  split at h
  · rename_i g cs' hg
    simp only [Option.map_eq_some_iff, Prod.mk.injEq] at h
    obtain ⟨v, hv, rfl, rfl⟩ := h
    exact ⟨g, hg, pickV_mod hv⟩
  · cases h
theorem slot_dg {r t f : Nat} {cs : List Nat} (h : σ.slot t = .fn f cs) : (σ.dg r).slot t = .fn f cs := by
  unfold PS.dg
  split
  · exact h
  · unfold PS.slot at h ⊢
    rw [List.getD_eq_getElem?_getD] at h ⊢
    rw [List.getElem?_map]
    cases hs : σ.slots[t]? with
    | none => rw [hs] at h; cases h
    | some s => rw [hs] at h; simp only [Option.getD_some] at h; subst h; rfl
theorem opv_dg {r f : Nat} {cs : List Nat} {x : Operand} (h : opv σ x = .fn f cs) : opv (σ.dg r) x = .fn f cs := by
  cases x <;> simp only [opv] at h ⊢ <;> first | exact slot_dg h | exact h
theorem opv_dgs {f : Nat} {cs : List Nat} {x : Operand} : ∀ {l : List Nat} {σ : PS}, opv σ x = .fn f cs → opv (σ.dgs l) x = .fn f cs
  | [], _, h => h
  | r :: l, σ, h => opv_dgs (l := l) (σ := σ.dg r) (opv_dg h)
theorem fnv_rel {f : Nat} {cs : List Nat} {x : Operand} (hr : Rel' w0 M I η σ a w) (h : opv σ x = .fn f cs) (xs : List Operand) :
    a.eval x = .func (.func f) #[] (cs.map fun b => Value.pointer (some ⟨I.ρ b, 0, none⟩)).toArray ∧
    All2 (SVr (Ok I σ w) w η I σ) (xs.map (opv σ) ++ cs.map fun b => SV.ptr b 0) (xs.map a.eval ++ cs.map fun b => Value.pointer (some ⟨I.ρ b, 0, none⟩)) := by
  have hv := opv_rel hr x
  rw [h] at hv
  refine ⟨hv.1, (ops_rel hr xs).append ?_⟩
  have h2 := hv.2
  clear h hv
  induction cs with
  | nil => trivial
  | cons b cs ih => exact ⟨⟨rfl, h2 b List.mem_cons_self⟩, ih fun c hc => h2 c (List.mem_cons_of_mem _ hc)⟩

theorem stepOp_sound {C : Ctx} {G : FEnv} (hT : TabOK P C.T) (hG : EnvOK P C.sigs G) (hnp : fx.N ≤ C.np) {o : Oper} {m : Nat} {t : Option Bool} {r : Res} (h : stepOp C o m t σ = some r) (hr : Rel' w0 M I η σ a w) (hfx : fx.ok I)
    (hfs : Facts η r.fs) (hcl : ClAt G η m r.cl) {K : Act → World → Prop} {Q : Exit → Act → World → Prop} (hK : ∀ x w', Rel w0 M fx η (r.σ.put o.dst r.v) (a.put o.dst x) w' → K (a.put o.dst x) w') : o.wp P a w K Q := by
  -- all but calls: no outputs
  have hK0 : ∀ {v σ'}, r.v = v → r.σ = σ' → Did P w0 M fx η a w o σ' v → o.wp P a w K Q := fun e2 e3 hd =>
    did_wp hd fun x w' hrel => hK x w' (by rw [e2, e3]; exact hrel)
  unfold stepOp at h
  split at h
  · -- alloc
    rename_i ty ho
    split at h
    · rename_i d ti hd hti
      split at h
      · cases h
      · rename_i hnd
        have hnd : C.np ≤ d := by simpa using hnd
        simp only [Option.some.injEq] at h; subst h
        exact hK0 rfl rfl (alloc_did hT ho hti hr (by omega) hfx)
    · cases h
  · -- box
    rename_i ty x ho
    split at h
    · rename_i d tv hd hx
      split at h
      · cases h
      · rename_i hnd
        have hnd : C.np ≤ d := by simpa using hnd
        simp only [Option.some.injEq] at h; subst h
        exact hK0 rfl rfl (box_did ho hx hr (by omega) hfx)
    · cases h
  · -- store
    rename_i ty p x ho
    split at h
    · rename_i ti tv hti hx
      split at h
      · rename_i hsz
        have hsz := Nat.eq_of_beq_eq_true hsz
        split at h
        · rename_i b off hp
          split at h
          · rename_i ls hls
            split at h
            · rename_i hle
              have hle : off + tv.ls.length ≤ ls.length := by simpa using hle
              simp only [Option.some.injEq] at h; subst h
              exact hK0 rfl rfl (storeBox_did hT ho hti hx hsz hp hls hle hr hfx)
            · cases h
          · cases h
        · simp only at h
          split at h
          · rename_i r' i off tv' hp hx'
            split at h
            · rename_i q hq
              split at h
              · rename_i es hes
                split at h
                · rename_i hc
                  rw [Bool.and_eq_true] at hc
                  have hle : off + tv'.ls.length ≤ q.ks.length := by simpa using hc.1
                  simp only [Option.some.injEq] at h; subst h
                  exact hK0 rfl rfl (storeRow_did hT ho hti hx' (Nat.eq_of_beq_eq_true hc.2) hp hq hes hle (dgs_rel _ hr) hfx)
                · cases h
              · cases h
            · cases h
          · cases h
        · cases h
      · cases h
    · cases h
  · -- buildSlice
    rename_i ty len parts ho
    split at h
    · rename_i d e _ _ _ _ hd hty
      split at h
      · rename_i ti hti
        simp only at h
        split at h
        · rename_i rsE hrs
          split at h
          · rename_i hc
            simp only [Bool.and_eq_true, Nat.ble_eq] at hc
            simp only [Option.some.injEq] at h; subst h
            have hr1 := dgs_rel (ownsIn σ (parts.toList.map (·.2))) hr
            exact hK0 rfl rfl (buildSlice_did hT ho hty rfl hti (dg_rel d hr1) (dg_none d hr1) hrs hc.1 hc.2 hfx)
          · cases h
        · cases h
      · cases h
    · cases h
  · -- makeSlice
    rename_i ty l c ho
    split at h
    · rename_i d e _ _ _ _ _ x1 _ x2 hd hty hl hc
      split at h
      · rename_i ti hti
        simp only at h
        split at h
        · rename_i hab
          have hab := of_decide_eq_true hab; subst hab
          simp only [Option.some.injEq] at h; subst h
          exact hK0 rfl rfl (makeFull_did hT ho hty rfl hti (intOf_val hr hl) (intOf_val hr hc) (fact_le (hfs (.cmp .leq (.int 0) x1, true) (by simp))) (by simpa [E.den] using fact_le (hfs (.cmp .leq x1 (.int ((lim / ti.bytes : Nat) : Int)), true) (by simp))) (dg_rel d hr) (dg_none d hr) hfx)
        · split at h
          · rename_i hab
            have hab := of_decide_eq_true hab; subst hab
            simp only [Option.some.injEq] at h; subst h
            exact hK0 rfl rfl (makeCap_did hT ho hty rfl hti (intOf_val hr hl) (intOf_val hr hc) (fact_le (hfs (.cmp .leq (.int 0) x2, true) (by simp))) (by simpa [E.den] using fact_le (hfs (.cmp .leq x2 (.int ((lim / ti.bytes : Nat) : Int)), true) (by simp))) (dg_rel d hr) (dg_none d hr) hfx)
          · cases h
      · cases h
    · cases h
  · -- slice
    rename_i ty x lo hi ho
    split at h
    · rename_i e1 _ _ _ _ hty
      simp only at h
      split at h
      · rename_i e ks c ti hx hti
        split at h
        · cases h
        · rename_i hsz
          have hsz : ti.size = ks.length := Nat.eq_of_beq_eq_true (by simpa using hsz)
          split at h
          · rename_i x1 x2 hlo hhi
            simp only [Option.some.injEq] at h; subst h
            exact hK0 rfl rfl (slice_did hT ho hty rfl hti hsz hx hlo hhi (fact_le (hfs (.cmp .leq (.int 0) x1, true) (by simp))) (fact_le (hfs (.cmp .leq x1 x2, true) (by simp))) (by simpa [E.den] using fact_le (hfs (.cmp .leq x2 (.len c), true) (by simp))) (dgs_rel _ hr) hfx)
          · cases h
      · cases h
    · cases h
  · -- append
    rename_i as ats ho
    split at h
    · rename_i d s x ty ty' hd has hats
      have has := arr_of_toList has; have hats := arr_of_toList hats
      subst has; subst hats
      split at h
      · rename_i htt
        have htt := Nat.eq_of_beq_eq_true htt; subst htt
        split at h
        · rename_i e _ _ _ _ hty
          split at h
          · rename_i ti hti
            split at h
            · cases h
            · rename_i h1
              have h1 : 1 ≤ ti.size := by simpa using h1
              split at h
              · rename_i lx hx
                split at h
                · rename_i c2 r' hc2 hs
                  split at h
                  · cases h
                  · split at h
                    · rename_i q σ1 hq hcl1
                      split at h
                      · rename_i hkq
                        simp only [Option.some.injEq] at h; subst h
                        exact hK0 rfl rfl (appendOwn_did hT ho hty rfl hti h1 hx hc2 hs hq hkq hcl1 (by simpa [E.den] using fact_le (hfs (.cmp .leq (.len (.cat q.c c2)) (.int ((lim / ti.bytes : Nat) : Int)), true) (by simp))) hr hfx)
                      · cases h
                    · cases h
                · simp only at h
                  split at h
                  · rename_i lx' hs' hx'
                    split at h
                    · rename_i c2' hc2'
                      simp only [Option.some.injEq] at h; subst h
                      exact hK0 rfl rfl (appendNil_did hT ho hty rfl hti h1 hx' hc2' hs' (dg_none d hr) (by simpa [E.den] using fact_le (hfs (.cmp .leq (.len c2') (.int ((lim / ti.bytes : Nat) : Int)), true) (by simp))) (dg_rel d hr) hfx)
                    · cases h
                  · cases h
                · cases h
              · cases h
          · cases h
        · cases h
      · cases h
    · cases h
  · -- call
    rename_i x as ats ho
    split at h
    rotate_left
    · cases h
    rename_i f cs hcal
    obtain ⟨f0, hfn0, hpk⟩ := calleeOf_some hcal
    split at h
    · rename_i sg hsg
      have hf := hG f sg hsg
      rw [hpk] at hf
      simp only at h
      have hfn1 : opv (if flatOk sg then σ else σ.dgs (ownsIn σ as.toList)) x = .fn f0 cs := by
        split
        · exact hfn0
        · exact opv_dgs hfn0
      have hr1 : Rel' w0 M I η (if flatOk sg then σ else σ.dgs (ownsIn σ as.toList)) a w := by
        split
        · exact hr
        · exact dgs_rel _ hr
      generalize (if flatOk sg then σ else σ.dgs (ownsIn σ as.toList)) = σ1 at h hr1 hfn1
      obtain ⟨hx, hxs⟩ := fnv_rel hr1 hfn1 as.toList
      split at h
      · rename_i es ids harg
        have harg : argE (flatOk sg && sg.params.all PK.isVal) (if flatOk sg then LV.toE σ1.rows else LV.toU) σ1 sg.params (as.toList.map (opv σ1) ++ cs.map fun b => SV.ptr b 0) = some (es, ids) := harg
        split at h
        · rename_i d hd
          split at h
          · rename_i ts nr hts
            split at h
            · rename_i hfn
              rw [Bool.and_eq_true] at hfn
              simp only [Option.some.injEq] at h; subst h
              obtain ⟨rs, hg, _, hout⟩ := hcl
              have hc := call_core hf hr1 hfx rfl hxs harg hts hfn.1 hfn.2 hg hout
              unfold Oper.wp
              rw [call_exec hf ho hx, Oper.upon_enter]
              refine hc.mono ?_
              rintro e w' ⟨v, I', rfl, h1, h2, h3⟩
              exact hK v w' ⟨I', put_rel o.dst h1 h2, h3⟩
            · cases h
          · cases h
        · rename_i hd
          split at h
          · rename_i hres
            simp only [Option.some.injEq] at h; subst h
            obtain ⟨rs, hg, _, hout⟩ := hcl
            have hc := call_core (m := m) (d := 0) (ts := []) (nr := []) hf hr1 hfx rfl hxs harg (by rw [hres]; rfl) rfl rfl hg hout
            unfold Oper.wp
            rw [call_exec hf ho hx, Oper.upon_enter]
            refine hc.mono ?_
            rintro e w' ⟨v, I', rfl, h1, h2, h3⟩
            have hfk : (flatK sg.res).length = 0 := by rw [hres]; rfl
            rw [hfk] at h1 h2
            refine hK v w' ⟨I', ?_, h3⟩
            have : Rel' w0 M I' η { σ1 with boxes := boxOut σ1.boxes m sg.params ids 0 } a w' := h1
            exact put_rel (v := .dead) o.dst this trivial
          · cases h
      · cases h
    · cases h
  · -- values
    split at h
    · rename_i v fs hv
      simp only [Option.some.injEq] at h; subst h
      obtain ⟨x, h1, h2⟩ := valOp_sound hT hv hfs hr
      exact hK0 rfl rfl (gives_did h1 hr h2 hfx)
    · cases h
end
end Go.Proofs.YtibbceoibcnpcaaGreat.Eng
