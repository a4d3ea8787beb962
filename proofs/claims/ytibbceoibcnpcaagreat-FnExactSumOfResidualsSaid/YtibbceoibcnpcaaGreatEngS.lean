/- The engine, part S: a region that draws its order, whose operations only read. No condition. -/
import Derived.Test.YtibbceoibcnpcaaGreatEngR
namespace Go.Proofs.YtibbceoibcnpcaaGreat.Eng
open Go

def U.val : K → U → Value
  | .int k, u => .int k u.I | .bool, u => .bool u.B | .str, u => .string u.S | .lst _ _, _ => undef
def zipVal : List K → List U → List Value
  | k :: ks, u :: us => U.val k u :: zipVal ks us
  | _, _ => []
def valsOf : List (Bool × List K) → List U → List Value
  | [], _ => []
  | (agg, ks) :: r, us => (if agg then .agg (zipVal ks us).toArray else (zipVal ks us).headD undef) :: valsOf r (us.drop ks.length)

section
variable {P : Program} {T : Tab} {w0 : World} {M : List Nat} {fx : Fx} {I : In} {η : List U} {σ : PS} {a : Act} {w w' w1 : World}

theorem Rd.val {R : Nat → Prop} {k : K} {v : Value} {u : U} (h : Rd R w k v u) (hk : scalarK k = true) : v = U.val k u := by
  cases h <;> first | rfl | simp [scalarK] at hk
theorem LfRes.rd {R : Nat → Prop} {base : Nat} {k : K} {v : Value} {u : U} (h : LfRes R w base k v u) (hk : scalarK k = true) : Rd R w k v u := by
  cases k <;> first | exact h | simp [scalarK] at hk
theorem LfRes.of_rd {R : Nat → Prop} {base : Nat} {k : K} {v : Value} {u : U} (h : Rd R w k v u) (hk : scalarK k = true) : LfRes R w base k v u := by
  cases k <;> first | exact h | simp [scalarK] at hk
theorem ResL.any {R R' : Nat → Prop} {base base' : Nat} : ∀ {ks : List K} {vs : List Value} {us : List U}, ResL R w base ks vs us → ks.all scalarK = true → ResL R' w' base' ks vs us
  | [], [], [], _, _ => trivial
  | k :: ks, v :: vs, u :: us, h, hk => by
    simp only [List.all_cons, Bool.and_eq_true] at hk
    exact ⟨LfRes.of_rd ((h.1.rd hk.1).scalar hk.1) hk.1, ResL.any h.2 hk.2⟩
  | [], [], _ :: _, h, _ | [], _ :: _, _, h, _ | _ :: _, [], _, h, _ | _ :: _, _ :: _, [], h, _ => h.elim
theorem ResL.vals {R : Nat → Prop} {base : Nat} : ∀ {ks : List K} {vs : List Value} {us us' : List U}, ResL R w base ks vs us → ks.all scalarK = true → vs = zipVal ks (us ++ us')
  | [], [], [], us', _, _ => by cases us' <;> rfl
  | k :: ks, v :: vs, u :: us, us', h, hk => by
    simp only [List.all_cons, Bool.and_eq_true] at hk
    simp only [List.cons_append, zipVal]
    rw [(h.1.rd hk.1).val hk.1, ← ResL.vals h.2 hk.2]
  | [], [], _ :: _, _, h, _ | [], _ :: _, _, _, h, _ | _ :: _, [], _, _, h, _ | _ :: _, _ :: _, [], _, h, _ => h.elim
theorem chunks_vals {R : Nat → Prop} {base : Nat} : ∀ {res : List (Bool × List K)} {vs cs : List Value} {us us' : List U}, Chunks res vs cs → ResL R w base (flatK res) cs us → (flatK res).all scalarK = true → vs = valsOf res (us ++ us')
  | [], [], [], us, us', _, _, _ => rfl
  | (agg, ks) :: res, v :: vs, cs, us, us', hc, hr, hk => by
    obtain ⟨c1, c2, rfl, hlen, hv, hc2⟩ := hc
    have hk' : (ks ++ flatK res).all scalarK = true := hk
    rw [List.all_append, Bool.and_eq_true] at hk'
    have hr' : ResL R w base (ks ++ flatK res) (c1 ++ c2) us := hr
    obtain ⟨u1, u2, rfl, hul, h1, h2⟩ := hr'.split hlen
    simp only [valsOf]
    have e1 := h1.vals (us' := u2 ++ us') hk'.1
    have e2 := chunks_vals (us' := us') hc2 h2 hk'.2
    rw [List.append_assoc, ← e1, List.drop_append_of_le_length (by omega), List.drop_of_length_le (by omega), List.nil_append, ← e2]
    congr 1
    cases agg with
    | true => simpa using hv
    | false => simp only [Bool.false_eq_true, if_false] at hv ⊢; rw [hv]; rfl
  | [], _ :: _, _, _, _, hc, _, _ | [], [], _ :: _, _, _, hc, _, _ | _ :: _, [], _, _, _, hc, _, _ => hc.elim

theorem ArgsRel.mono {R R' : Nat → Prop} (hR : ∀ b, R b → R' b) (hh : ∀ b, R b → w'.heap[b]? = w.heap[b]?) : ∀ {ps : List PK} {vs : List Value} {us : List U}, ArgsRel R w ps vs us [] → ArgsRel R' w' ps vs us []
  | [], [], [], _ => trivial
  | .val agg ks :: ps, v :: vs, us, h => by
    obtain ⟨cs, u1, u2, h1, h2, h3, h4⟩ := h
    exact ⟨cs, u1, u2, h1, h2, h3.mono hR hh, ArgsRel.mono hR hh h4⟩
  | .fn f n :: ps, v :: vs, us, h => by
    obtain ⟨caps, h1, h2, h3⟩ := h
    exact ⟨caps, h1, h2, ArgsRel.mono hR hh h3⟩
  | .ro ks :: ps, v :: vs, us, h => by
    obtain ⟨a, cs, u1, u2, h1, h2, h3, h4, h5, h6, h7⟩ := h
    exact ⟨a, cs, u1, u2, h1, h2, h3, hR _ h4, fun j x hx => by rw [World.cell?_of_block (w := w) (a := ⟨a.block, a.off + j, none⟩) (hh _ h4)]; exact h5 j x hx, h6.mono hR hh, ArgsRel.mono hR hh h7⟩
  | [], _ :: _, _, h | [], [], _ :: _, h | .val _ _ :: _, [], _, h | .box _ :: _, _ :: _, _, h | .box _ :: _, [], _, h | .fn _ _ :: _, [], _, h | .ro _ :: _, [], _, h => h.elim

theorem boxOut_nil {m : Nat} : ∀ (ps : List PK) (bs : List (Nat × List LV)) (i : Nat), boxOut bs m ps [] i = bs
  | [], bs, i => rfl
  | .val _ _ :: ps, bs, i => by simp only [boxOut]; exact boxOut_nil ps bs i
  | .fn _ _ :: ps, bs, i => by simp only [boxOut]; exact boxOut_nil ps bs i
  | .ro _ :: ps, bs, i => by simp only [boxOut]; exact boxOut_nil ps bs i
  | .box _ :: ps, bs, i => rfl
theorem boxKs_val : ∀ {ps : List PK}, ps.all PK.isVal = true → boxKs ps = []
  | [], _ => rfl
  | .val _ _ :: ps, h => by simp only [List.all_cons, Bool.and_eq_true] at h; simp only [boxKs]; exact boxKs_val h.2
  | .fn _ _ :: ps, h => by simp only [List.all_cons, Bool.and_eq_true] at h; simp only [boxKs]; exact boxKs_val h.2
  | .ro _ :: ps, h => by simp only [List.all_cons, Bool.and_eq_true] at h; simp only [boxKs]; exact boxKs_val h.2
  | .box _ :: ps, h => by simp [PK.isVal] at h
theorem resLs_scalar {d m : Nat} : ∀ {ks : List K} {i : Nat}, ks.all scalarK = true → (resLs d m ks i).2 = []
  | [], _, _ => rfl
  | k :: ks, i, h => by
    simp only [List.all_cons, Bool.and_eq_true] at h
    cases k <;> simp only [resLs] <;> first | exact resLs_scalar h.2 | simp [scalarK] at h
theorem resTs_scalar {d m : Nat} : ∀ {res : List (Bool × List K)} {i : Nat} {ts : List TV} {nr : List Row}, resTs d m res i = some (ts, nr) → (flatK res).all scalarK = true → nr = []
  | [], i, ts, nr, h, _ => by simp only [resTs, Option.some.injEq, Prod.mk.injEq] at h; exact h.2.symm
  | (agg, ks) :: res, i, ts, nr, h, hk => by
    have hk' : (ks ++ flatK res).all scalarK = true := hk
    rw [List.all_append, Bool.and_eq_true] at hk'
    simp only [resTs] at h
    split at h
    · rename_i t ts' nr' ht hrec
      simp only [Option.some.injEq, Prod.mk.injEq] at h
      rw [← h.2, resLs_scalar hk'.1, resTs_scalar hrec hk'.2]; rfl
    · cases h
theorem BoxesRel_val {R : Nat → Prop} : ∀ {ps : List PK} {us : List U}, BoxesRel R w ps [] us → us = []
  | [], [], _ => rfl
  | .val _ _ :: ps, us, h => BoxesRel_val (ps := ps) h
  | .fn _ _ :: ps, us, h => BoxesRel_val (ps := ps) h
  | .ro _ :: ps, us, h => BoxesRel_val (ps := ps) h
  | [], _ :: _, h => h.elim
  | .box _ :: _, _, h => h.elim

theorem rel_kept (hr : Rel' w0 M I η σ a w) (hk : Kept [] w w') : Rel' w0 M I η σ a w' :=
  (step_rel (vr' := I.vr) (nb := σ.boxes) (nr := []) (bs := []) (R' := fun _ => False) hr hk (fun g hg => by simp at hg) (fun b => rfl) hr.keyB rfl (fun q hq => by simp at hq) (fun _ _ => rfl)
    (fun b h => h.elim) (fun b h => h.elim) (fun q hq => by simp at hq) (fun q hq => by simp at hq) (fun b ls h => .inl ⟨by simp, h⟩) (fun q hq => by simp at hq)).1
theorem Kept.same (h : Kept [] w w') : Same w w' := fun b hb => h.block b hb (by simp)
theorem Kept.trans {w'' : World} (h : Kept [] w w') (k : Kept [] w' w'') : Kept [] w w'' :=
  ⟨k.os.trans h.os, k.tape.trans h.tape, k.output.trans h.output, Nat.le_trans h.size k.size, fun b hb hm => by rw [k.block b (by have := h.size; omega) hm, h.block b hb hm]⟩

/-- a call in a quiet region -/
theorem quiet_call {f : Nat} {sg : Sig} {g : List U → Option (List U)} (hf : FnOK P f sg g) (hr : Rel' w0 M I η σ a w1) {m d : Nat} {xs : List SV} {xv : List Value} (hxs : All2 (SVr (Ok I σ w1) w1 η I σ) xs xv) {es : List E} {ids : List Nat}
    (hval : sg.params.all PK.isVal = true) (hres : (flatK sg.res).all scalarK = true) (harg : argE true (LV.toE σ.rows) σ sg.params xs = some (es, ids)) {ts : List TV} {nr : List Row} (hts : resTs d m sg.res 0 = some (ts, nr)) {rs : List U}
    (hg : g (es.map (E.den η)) = some rs) (hout : ∀ (j : Nat) u, rs[j]? = some u → η.getD (m + j) default = u) :
    ∃ x, (∀ w', Kept [] w1 w' → Calls P f xv.toArray w' fun e w'' => e = .returned x ∧ Kept [] w1 w'') ∧ SVr (Ok I σ w1) w1 η I σ (tupOf ts) x := by
  have hids := argE_val harg hval
  subst hids
  have hRkb : ∀ b, ((Ok I σ w1 b ∨ ∃ r, (lookR σ.rows r).isSome = true ∧ (I.vr r).ownBlock = some b) ∨ ∃ c, (lookB σ.boxes c).isSome = true ∧ I.ρ c = b) → b < w1.heap.size := by
    rintro b ((h | ⟨r, h1, h2⟩) | ⟨c, hc, e⟩)
    · exact h.1.1
    · exact hr.lt (.inr ⟨r, h1, h2⟩)
    · exact hr.lt (.inl ⟨c, hc, e⟩)
  obtain ⟨ha, _, _⟩ := argE_rel (Rk := fun b => (Ok I σ w1 b ∨ ∃ r, (lookR σ.rows r).isSome = true ∧ (I.vr r).ownBlock = some b) ∨ ∃ c, (lookB σ.boxes c).isSome = true ∧ I.ρ c = b) hr (fun b h => .inl (.inl h))
    (fun k l e v h hl => toE_rd hr (fun b h => .inl (.inl h)) (fun r g h1 h2 => .inl (.inr ⟨r, h1, h2⟩)) k l e v h hl) (fun _ b hb => .inr ⟨b, hb, rfl⟩) hxs harg
  have run : ∀ w', Kept [] w1 w' → Calls P f xv.toArray w' fun e w'' => ∃ v cs u1 u2 vs R', e = .returned v ∧ Back _ w' w'' sg [] v rs cs u1 u2 vs R' := fun w' hk =>
    hf.run w' xv _ rs _ [] (ha.mono (fun _ h => h) fun b hb => hk.same b (hRkb b hb)) List.nodup_nil (fun b hb => ⟨by have := hRkb b hb; have := hk.size; omega, by simp⟩) hg
  have val : ∀ {w' w'' : World} {R : Nat → Prop} {v : Value} {cs : List Value} {u1 u2 : List U} {vs : List Value} {R' : Nat → Prop}, Back R w' w'' sg [] v rs cs u1 u2 vs R' → v = tupV (valsOf sg.res rs) ∧ u2 = [] := fun hb => by
    have h2 := BoxesRel_val hb.boxes
    have := chunks_vals (us' := []) hb.chunks hb.res hres
    rw [List.append_nil] at this
    refine ⟨?_, h2⟩
    rw [hb.v, this, hb.rs, h2, List.append_nil]
  refine ⟨tupV (valsOf sg.res rs), fun w' hk => (run w' hk).mono ?_, ?_⟩
  · rintro e w'' ⟨v, cs, u1, u2, vs, R', rfl, hb⟩
    exact ⟨by rw [(val hb).1], hk.trans hb.kept⟩
  · obtain ⟨e, w'', fr, ⟨v, cs, u1, u2, vs, R', _, hb⟩, _⟩ := run w1 (Kept.refl _ _) []
    obtain ⟨hv, hu2⟩ := val hb
    have hrs := hb.rs
    rw [hu2, List.append_nil] at hrs
    have hnr := resTs_scalar hts hres
    subst hnr
    have hr' : ResL (Ok I σ w1) w1 0 (flatK sg.res) cs u1 := hb.res.any hres
    obtain ⟨t1, _⟩ := resTs_rel (R' := Ok I σ w1) (I' := I) (σ' := σ) (w' := w1) (η' := η) hts hb.chunks hr' (fun j u hj => by
      rw [Nat.zero_add]; exact hout j u (by rw [hrs]; exact hj)) (fun q hq => by simp at hq) (fun j x hx ⟨q, hq, _⟩ => by simp at hq)
    rw [← hv, hb.v]
    exact tup_rel t1

theorem sigs_mem {f : Nat} {sg : Sig} : ∀ {T : Sigs}, T.get f = some sg → (f, sg) ∈ T
  | (m, i) :: r, h => by
    simp only [Sigs.get] at h
    split at h
    · rename_i hm
      have hm := Nat.eq_of_beq_eq_true hm
      cases h; rw [hm]; exact List.mem_cons_self
    · exact List.mem_cons_of_mem _ (sigs_mem h)

theorem quiet_op {C : Ctx} {G : FEnv} (hT : TabOK P C.T) (hG : EnvOK P C.sigs G) {o : Oper} {m : Nat} {t : Option Bool} {r : Res} (h : stepOp C o m t σ = some r) (hq : quietOp C o = true) (hr : Rel' w0 M I η σ a w1) (hfx : fx.ok I)
    (hfs : Facts η r.fs) (hcl : ClAt G η m r.cl) :
    ∃ x, (∀ w', Kept [] w1 w' → o.quietAt P a (Kept [] w1) w' x) ∧ Rel w0 M fx η (r.σ.put o.dst r.v) (a.put o.dst x) w1 := by
  unfold stepOp at h
  split at h
  · rename_i ho; simp [quietOp, ho] at hq
  · rename_i ho; simp [quietOp, ho] at hq
  · rename_i ho; simp [quietOp, ho] at hq
  · rename_i ho; simp [quietOp, ho] at hq
  · rename_i ho; simp [quietOp, ho] at hq
  · rename_i ho; simp [quietOp, ho] at hq
  · rename_i ho; simp [quietOp, ho] at hq
  · rename_i xf as ats ho
    split at h
    rotate_left
    · cases h
    rename_i f cs hcal
    obtain ⟨f0, hfn0, hpk⟩ := calleeOf_some hcal
    split at h
    · rename_i sg hsg
      have hf := hG f sg hsg
      rw [hpk] at hf
      have hq : quietSig sg = true := by
        have hall : (C.sigs.all fun p => quietSig p.2) = true → quietSig sg = true := fun hq => by
          rw [List.all_eq_true] at hq
          exact hq (f, sg) (sigs_mem hsg)
        cases xf with
        | func f' =>
          simp only [opv, SV.fn.injEq] at hfn0
          obtain ⟨rfl, _⟩ := hfn0
          simp only [quietOp, ho, List.all_eq_true] at hq
          have := hq (f, sg) (sigs_mem hsg)
          simpa [hpk] using this
        | tmp t => simp only [quietOp, ho] at hq; exact hall hq
        | const v => simp only [quietOp, ho] at hq; exact hall hq
        | global t => simp only [quietOp, ho] at hq; exact hall hq
      obtain ⟨hx, hxs⟩ := fnv_rel hr hfn0 as.toList
      simp only [quietSig, Bool.and_eq_true] at hq
      obtain ⟨hval, hsc0⟩ := hq
      have hres : (flatK sg.res).all scalarK = true := by
        simp only [List.all_eq_true, flatK, List.mem_flatMap] at hsc0 ⊢
        rintro k ⟨p, hp, hk⟩
        exact hsc0 p hp k hk
      have hfl : flatOk sg = true := by
        unfold flatOk
        rw [boxKs_val hval, Bool.and_eq_true]
        refine ⟨?_, rfl⟩
        rw [List.all_eq_true] at hres ⊢
        intro k hk
        have := hres k hk
        cases k <;> first | rfl | simp [scalarK] at this
      simp only [hfl, hval, Bool.and_self, if_true] at h
      have hex : ∀ w', (execOp a.eval o).run P w' = .ok (.enter f0 (as.toList.map a.eval ++ cs.map fun b => Value.pointer (some ⟨I.ρ b, 0, none⟩)).toArray) w' := fun w' => call_exec hf ho hx
      split at h
      · rename_i es ids harg
        have hids := argE_val harg hval
        subst hids
        split at h
        · rename_i d hd
          split at h
          · rename_i ts nr hts
            split at h
            · simp only [Option.some.injEq] at h; subst h
              obtain ⟨rs, hg, _, hout⟩ := hcl
              obtain ⟨x, h1, h3⟩ := quiet_call hf hr hxs hval hres harg hts hg hout
              have hnr := resTs_scalar hts hres
              subst hnr
              refine ⟨x, fun w' hk => ?_, I, ?_, hfx⟩
              · unfold Oper.quietAt
                rw [hex]
                exact ⟨rfl, h1 w' hk⟩
              · simp only [boxOut_nil]
                exact put_rel o.dst hr h3
            · cases h
          · cases h
        · split at h
          · rename_i hrs
            simp only [Option.some.injEq] at h; subst h
            obtain ⟨rs, hg, _, hout⟩ := hcl
            obtain ⟨x, h1, h3⟩ := quiet_call (m := m) (d := 0) (ts := []) (nr := []) hf hr hxs hval hres harg (by rw [hrs]; rfl) hg hout
            refine ⟨x, fun w' hk => ?_, I, ?_, hfx⟩
            · unfold Oper.quietAt
              rw [hex]
              exact ⟨rfl, h1 w' hk⟩
            · simp only [boxOut_nil]
              exact put_rel (v := .dead) o.dst hr trivial
          · cases h
      · cases h
    · cases h
  · split at h
    · rename_i v fs hv
      simp only [Option.some.injEq] at h; subst h
      obtain ⟨x, h1, h2⟩ := valOp_sound hT hv hfs hr
      refine ⟨x, fun w' hk => ?_, I, put_rel o.dst hr h2, hfx⟩
      unfold Oper.quietAt
      rw [h1 o rfl w' (fun _ _ _ => hk.same)]
      exact ⟨rfl, rfl⟩
    · cases h

theorem runR_quiet {C : Ctx} {G : FEnv} (hT : TabOK P C.T) (hG : EnvOK P C.sigs G) (hnp : fx.N ≤ C.np) {ops : Array Oper} {fin : List Rec → PS → Bool} {K : Leaf → List U → Prop} {Q : Exit → Act → World → Prop} (hK : KSt w0 M fx K Q) :
    ∀ (rest tl : List Oper) (tr : List Rec) (asm : List Fact) (σ : PS) (n : Nat) (p : Prog) (η : List U) (a : Act), runR C ops fin (rest ++ tl) tr asm σ n = some p → rest.all (quietOp C) = true → η.length = n → Asm n η asm → Rel w0 M fx η σ a w1 → wpP G p 0 η K →
      wpQuiet P ops (Kept [] w1) (fun a' => ∀ w', Kept [] w1 w' → wpList P ops Q tl a' w') rest a
  | [], tl, tr, asm, σ, n, p, η, a, h, _, hn, ha, hr, hw => by
    refine wpQuiet_nil fun w' hk => ?_
    obtain ⟨I, hr, hfx⟩ := hr
    exact runR_list hT hG hnp hK tl tr asm σ n p η a w' h hn ha ⟨I, rel_kept hr hk, hfx⟩ hw
  | o :: rest, tl, tr, asm, σ, n, p, η, a, h, hq, hn, ha, hr, hw => by
    obtain ⟨I, hr, hfx⟩ := hr
    simp only [List.all_cons, Bool.and_eq_true] at hq
    refine wpQuiet_step fun K' hK' => ?_
    rcases runR_step h hn ha hw with ⟨asm', p', gf, tg, j, b, d, e, hg, hd, he, hne, _, _, ha', hp', hw'⟩ | ⟨asm', p', gf, t, r, rs, hg, _, _, hs, hf, hfsc, hcl, hcsc, hσsc, ha', hp', hw'⟩
    · have hy := yielded_of hr hd he
      have hwn : Region.wanted o (yielded ops a.tmps) = false := by
        unfold Region.wanted; rw [hg]; simp only [hy]; simpa using hne
      rw [if_neg (by simp [hwn])]
      exact hK' _ (runR_quiet hT hG hnp hK rest tl _ asm' _ n p' η _ hp' hq.2 hn ha' ⟨I, put_rel o.dst hr trivial, hfx⟩ hw')
    · have hwn : Region.wanted o (yielded ops a.tmps) = true := by
        unfold Region.wanted
        split
        · rfl
        · rename_i j b hgd
          obtain ⟨d, e, hd, he, hb⟩ := hg j b hgd
          simp only [yielded_of hr hd he, hb]; simp
      rw [if_pos hwn]
      have hlen := hcl.len
      obtain ⟨x, h1, h2⟩ := quiet_op (fx := fx) hT hG hs hq.1 (hr.out hn hσsc hcl) hfx (hf.app hn hfsc) (hcl.at hn hcsc)
      exact ⟨x, h1, hK' _ (runR_quiet hT hG hnp hK rest tl _ asm' _ (n + r.k) p' (η ++ rs) _ hp' hq.2 (by simp [hn, hlen]) ha' h2 hw')⟩

-- operations that only read, then others
section
variable {ops : Array Oper} {md : Region.Mode} {C : World → Prop}
/-- f operations of the first n, each in any order that may be, then L -/
def anyHd (P : Program) (md : Region.Mode) (ops : Array Oper) (C : World → Prop) (n : Nat) (L : Array Bool → Act → Prop) : Nat → Array Bool → Act → Prop
  | 0, S, a => L S a
  | f + 1, S, a => (∃ i, i ∈ Region.ready md ops S) ∧ ∀ i, i ∈ Region.ready md ops S → i < n ∧ qOp P ops C i (anyHd P md ops C n L f (S.setIfInBounds i true)) a
theorem anyHd_any {n g : Nat} {L : Array Bool → Act → Prop} {Q : Exit → Act → World → Prop} (hL : ∀ S a w, C w → L S a → wpAny P md ops Q g S a w) :
    ∀ (f : Nat) (S : Array Bool) (a : Act) (w : World), C w → anyHd P md ops C n L f S a → wpAny P md ops Q (f + g) S a w
  | 0, S, a, w, hw, h => by rw [Nat.zero_add]; exact hL S a w hw h
  | f + 1, S, a, w, hw, h => by
    rw [Nat.add_right_comm]
    refine ⟨fun h0 => ?_, fun i hi => wpOp_of_qOp hw (fun a' w' hw' h' => anyHd_any hL f _ a' w' hw' h') (h.2 i hi).2⟩
    obtain ⟨i, hi⟩ := h.1
    rw [h0] at hi; cases hi
theorem anyHd_first {n i : Nat} {o : Oper} {v : Value} {L : Array Bool → Act → Prop} (ho : ops[i]? = some o) (hsel : Region.noSelect ops = true) (hs : Region.sinkB md ops n = true) (hc : Region.chainB md ops n = true) (hn : n < ops.size) (hin : i < n)
    (hend : ∀ S a, L S a → ∀ j ∈ Region.ready md ops S, n ≤ j) :
    ∀ (f : Nat) (S : Array Bool) (a : Act), HeadInv md ops n S → (∀ j oj, ops[j]? = some oj → j ≠ i → S.getD j true = false → (∀ e ∈ oj.after, Region.binds md e = true → e.on ≠ i) → o.apart ops oj = true) →
      i ∈ Region.ready md ops S → YieldsIn P ops C o v a → anyHd P md ops C n L f (S.setIfInBounds i true) (a.put o.dst v) → anyHd P md ops C n L (f + 1) S a := by
  intro f
  induction f with
  | zero =>
    intro S a inv _ hr hy H
    refine ⟨⟨i, hr⟩, fun j hj => ?_⟩
    have hjn : j < n := by
      rcases Nat.lt_or_ge j n with h | h
      · exact h
      · exact absurd hj (tail_waits hs hc hn inv _ i rfl hin (mem_ready.1 hr).1 j h)
    refine ⟨hjn, ?_⟩
    by_cases hji : j = i
    · subst hji; exact hy.qOp ho H
    · exact absurd (hend _ _ H j (ready_mono hj hji)) (by omega)
  | succ f ih =>
    intro S a inv hfree hr hy H
    have hun := (mem_ready.1 hr).1
    refine ⟨⟨i, hr⟩, fun j hj => ?_⟩
    have hjn : j < n := by
      rcases Nat.lt_or_ge j n with h | h
      · exact h
      · exact absurd hj (tail_waits hs hc hn inv _ i rfl hin hun j h)
    refine ⟨hjn, ?_⟩
    by_cases hji : j = i
    · subst hji; exact hy.qOp ho H
    · obtain ⟨hju, oj, hoj, hall⟩ := mem_ready.1 hj
      have hap : o.apart ops oj = true := hfree j oj hoj hji hju fun e he hb heq => by
        have := hall e he hb
        rw [heq, getD_both hun] at this; cases this
      refine qOp_mono (fun a' h3 => ih (S.setIfInBounds j true) a' (inv.set hj hjn) (fun k ok hk hki hku hno => hfree k ok hk hki ?_ hno) (ready_mono hr (Ne.symm hji)) h3.1 ?_)
        (qOp_put hoj hap (fun cs b => Region.noSelect_spec hsel i o cs b ho) (fun cs b => Region.noSelect_spec hsel j oj cs b hoj) hy (H.2 j (ready_mono hj hji)).2)
      · by_cases hjk : j = k
        · subst hjk; exact hju
        · rwa [getD_set_ne true hjk] at hku
      · rw [Array.setIfInBounds_comm _ _ hji]; exact h3.2
theorem anyHd_lex {n g : Nat} {Lq : Act → Prop} (hsel : Region.noSelect ops = true) (hs : Region.sinkB md ops n = true) (hc : Region.chainB md ops n = true) (hn : n < ops.size) :
    ∀ (l : List Oper) (k : Nat) (S : Array Bool) (a : Act), (∀ j, j < l.length → l[j]? = ops[k + j]?) → k + l.length = n → HeadInv md ops n S → Region.lexHead md ops g l.length k S = true → wpQuiet P ops C Lq l a →
      anyHd P md ops C n (fun S' a' => Region.seqB md ops g n S' = true ∧ Lq a') l.length S a
  | [], k, S, a, _, hk, _, hB, h => by
    have hk : k = n := by simpa using hk
    subst hk
    exact ⟨by simpa only [List.length_nil, Region.lexHead] using hB, h⟩
  | o :: l, k, S, a, hl, hk, inv, hB, h => by
    have h0 : ops[k]? = some o := by simpa using (hl 0 (by simp)).symm
    simp only [List.length_cons, Region.lexHead, Bool.and_eq_true] at hB
    simp only [List.length_cons] at hk
    have hr : k ∈ Region.ready md ops S := by simpa using hB.1.1
    obtain ⟨v, hy, hK⟩ := yieldsIn_of_qOp (P := P) (C := C) (K := wpQuiet P ops C Lq l) h0 (by unfold qOp; simp only [h0]; exact h)
    refine anyHd_first h0 hsel hs hc hn (by omega) (fun S' a' hL => seqB_ready hL.1) l.length S a inv (Region.free_spec h0 hB.1.2) hr hy ?_
    exact anyHd_lex hsel hs hc hn l (k + 1) _ _ (fun j hj => by rw [Nat.add_right_comm, Nat.add_assoc]; have := hl (j + 1) (by simp only [List.length_cons]; omega); rwa [List.getElem?_cons_succ] at this) (by omega) (inv.set hr (by omega)) hB.2 hK
theorem wp_region_tail {id n : Nat} {Q : Exit → Act → World → Prop} {a : Act} {w : World} (hm : P.follows .mixedOrders = true) (hB : Region.lexTailB .any ops n = true) (hC : C { w with drawn := w.drawn + 1 })
    (h : wpQuiet P ops C (fun a' => ∀ w', C w' → wpList P ops Q (ops.toList.drop n) a' w') (ops.toList.take n) a) : (Code.region id ops true).wp P Q a w := by
  simp only [Region.lexTailB, Bool.and_eq_true, decide_eq_true_eq] at hB
  obtain ⟨⟨⟨⟨hsel, hn⟩, hs⟩, hc⟩, hlex⟩ := hB
  have htl : (ops.toList.take n).length = n := by simp; omega
  have hdl : (ops.toList.drop n).length = ops.size - n := by simp
  have inv : HeadInv .any ops n (Array.replicate ops.size false) :=
    ⟨by simp, fun j oj _ hl => (by rw [getD_replicate_false] at hl; cases hl), fun t _ ht => getD_in (by simpa using ht) (getD_replicate_false _ _)⟩
  have h1 := anyHd_lex (g := ops.size - n) hsel hs hc hn (ops.toList.take n) 0 _ a (fun j hj => by rw [htl] at hj; rw [List.getElem?_take_of_lt hj]; simp) (by rw [htl]; omega) inv (by rw [htl]; exact hlex) h
  refine wp_region_any hm ?_
  have h2 := anyHd_any (P := P) (Q := Q) (g := ops.size - n) (fun S a' w' hw' hL => by
    have := wpAny_of_seq (P := P) (Q' := Q) (ops.toList.drop n) n S a' w' (fun j => by simp) (by rw [hdl]; exact hL.1) (hL.2 w' hw')
    rwa [hdl] at this) _ _ a _ hC h1
  rwa [htl, show n + (ops.size - n) = ops.size by omega] at h2
end

-- every order
theorem LV.eq_of_beq : ∀ {a b : LV}, a.beq b = true → a = b
  | .u k e, .u k' e', h => by
    simp only [LV.beq, Bool.and_eq_true, decide_eq_true_eq] at h
    rw [K.eq_of_beq _ _ h.1, h.2]
  | .own r, .own r', h => by rw [Nat.eq_of_beq_eq_true h]
  | .nil, .nil, _ => rfl
  | .u _ _, .own _, h | .u _ _, .nil, h | .own _, .u _ _, h | .own _, .nil, h | .nil, .u _ _, h | .nil, .own _, h => by cases h
theorem eq_of_beqL' {α : Type} {f : α → α → Bool} (hf : ∀ {a b}, f a b = true → a = b) : ∀ {x y : List α}, beqL f x y = true → x = y
  | [], [], _ => rfl
  | a :: x, b :: y, h => by
    simp only [beqL, Bool.and_eq_true] at h
    rw [hf h.1, eq_of_beqL' hf h.2]
  | [], _ :: _, h | _ :: _, [], h => by cases h
theorem TV.eq_of_beq : ∀ {a b : TV}, a.beq b = true → a = b
  | .leaf a, .leaf b, h => by rw [LV.eq_of_beq h]
  | .agg a, .agg b, h => by rw [eq_of_beqL' LV.eq_of_beq h]
  | .leaf _, .agg _, h | .agg _, .leaf _, h => by cases h
theorem SV.eq_of_beq {a b : SV} (h : a.beq b = true) : a = b := by
  unfold SV.beq at h
  split at h
  · rfl
  · rw [TV.eq_of_beq h]
  · rw [eq_of_beqL' TV.eq_of_beq h]
  · rw [Bool.and_eq_true] at h; rw [Nat.eq_of_beq_eq_true h.1, Nat.eq_of_beq_eq_true h.2]
  · rw [eq_of_beqL' LV.eq_of_beq h]
  · simp only [Bool.and_eq_true, decide_eq_true_eq] at h; rw [Nat.eq_of_beq_eq_true h.1.1, h.1.2, Nat.eq_of_beq_eq_true h.2]
  · simp only [Bool.and_eq_true, decide_eq_true_eq] at h; rw [Nat.eq_of_beq_eq_true h.1, h.2]
  · cases h

/-- a state and another with the same slots and look-ups -/
theorem eqv_rel {σ σ0 : PS} (h : σ.eqv σ0 = true) (hr : Rel' w0 M I η σ a w) : Rel' w0 M I η σ0 a w := by
  simp only [PS.eqv, Bool.and_eq_true] at h
  obtain ⟨⟨⟨⟨⟨⟨h1, h2⟩, h3⟩, h4⟩, h5⟩, h6⟩, h7⟩ := h
  have hs : σ.slots = σ0.slots := eq_of_beqL' SV.eq_of_beq h1
  rw [List.all_eq_true] at h4 h5 h6 h7
  have hB : ∀ b, lookB σ0.boxes b = lookB σ.boxes b := fun b => by
    cases hb : lookB σ0.boxes b with
    | some ls =>
      have := h4 _ (lookB_mem hb)
      simp only at this
      split at this
      · rename_i l hl; rw [hl, eq_of_beqL' LV.eq_of_beq this]
      · cases this
    | none =>
      cases hl : lookB σ.boxes b with
      | none => rfl
      | some l => have := h5 _ (lookB_mem hl); simp only [hb] at this; cases this
  have hR : ∀ r, lookR σ0.rows r = lookR σ.rows r := fun r => by
    cases hb : lookR σ0.rows r with
    | some q =>
      obtain ⟨hq, hqi⟩ := lookR_mem hb
      have := h6 _ hq
      rw [hqi] at this
      split at this
      · rename_i p hp
        rw [hp]
        obtain ⟨_, hpi⟩ := lookR_mem hp
        simp only [Bool.and_eq_true, decide_eq_true_eq] at this
        have hk := K.eq_of_beq _ _ this.1
        cases p; cases q
        simp only [K.lst.injEq] at hk hqi hpi this ⊢
        rw [hk.1, hk.2, this.2, hqi, hpi]
      · cases this
    | none =>
      cases hl : lookR σ.rows r with
      | none => rfl
      | some p =>
        obtain ⟨hp, hpi⟩ := lookR_mem hl
        have := h7 _ hp; rw [hpi, hb] at this; cases this
  have hWB : ∀ g, WB I σ0 g ↔ WB I σ g := fun g => by simp only [WB, hB, hR]
  have ht : Tr (Ok I σ w) (Ok I σ0 w) w w η I I σ σ0 := ⟨fun b hb => ⟨hb.1, fun x => hb.2 ((hWB b).1 x)⟩, fun _ _ => rfl, fun b h => ⟨by rw [hB]; exact h, rfl⟩, fun r q hq => ⟨q, by rw [hR]; exact hq, rfl, rfl, rfl⟩⟩
  exact {
    defers := hr.defers
    slots := by rw [← hs]; exact hr.slots.mono fun s v hv => SVr.tr ht hv
    boxes := fun b ls hb => by
      rw [hB] at hb
      obtain ⟨cur, e, e1, e2⟩ := hr.boxes b ls hb
      exact ⟨cur, e, e1, e2.mono fun l v hv => LVr.tr ht hv⟩
    rows := fun r q hq => by
      rw [hR] at hq
      obtain ⟨us, e1, e2⟩ := hr.rows r q hq
      exact ⟨us, e1, e2.tr ht.ok ht.heap fun _ _ => rfl⟩
    injB := fun b b' => by rw [hB, hB]; exact hr.injB b b'
    injR := fun r r' g => by rw [hR, hR]; exact hr.injR r r' g
    injBR := fun b r => by rw [hB, hR]; exact hr.injBR b r
    new := fun g hg => hr.new g ((hWB g).1 hg)
    r0 := hr.r0
    keyB := h2
    keyR := h3
    kept := hr.kept }

/-- a record's guard, in a world -/
theorem recGuard_wanted {ops : Array Oper} {o : Oper} {rc : Rec} {G : FEnv} {n : Nat} (h : recGuard ops σ o rc = true) (hrc : RecOk G η n rc) (hr : Rel' w0 M I η σ a w) : Region.wanted o (yielded ops a.tmps) = rc.run := by
  unfold recGuard at h
  unfold Region.wanted
  split at h
  · rename_i hg; simp [hg, h]
  · rename_i j b hg
    simp only [hg]
    split at h
    · rename_i d hd
      split at h
      · rename_i e he
        have h := of_decide_eq_true h
        have hy := yielded_of hr hd he
        have := hrc.gf (e, if rc.run then b else !b) (by rw [h]; exact List.mem_cons_self)
        simp only [hy]
        simp only at this
        rw [this]
        cases rc.run <;> cases b <;> rfl
      · cases h
    · cases h

theorem recGo_sound {C : Ctx} {G : FEnv} (hT : TabOK P C.T) (hG : EnvOK P C.sigs G) (hnp : fx.N ≤ C.np) {ops : Array Oper} {recs : List Rec} {n i : Nat} {s : PS} (h : recGo C ops recs i σ = some s) (hrec : ∀ rc ∈ recs, RecOk G η n rc)
    (hr : Rel w0 M fx η σ a w) {K : Act → World → Prop} {Q : Exit → Act → World → Prop} (hK : ∀ a' w', Rel w0 M fx η s a' w' → K a' w') : wpOp P ops Q i K a w := by
  obtain ⟨I, hr, hfx⟩ := hr
  unfold recGo at h
  split at h
  · rename_i o rc ho hrc
    have hok := hrec rc (List.mem_of_getElem? hrc)
    split at h
    · rename_i hg
      have hw := recGuard_wanted hg hok hr
      unfold wpOp
      simp only [ho, hw]
      split at h
      · rename_i hrun
        split at h
        · rename_i r hs
          split at h
          · rename_i hc
            simp only [Bool.and_eq_true, decide_eq_true_eq] at hc
            cases h
            rw [if_pos hrun]
            left
            exact stepOp_sound hT hG hnp hs hr hfx (by rw [hc.1]; exact hok.fs) (by rw [hc.2]; exact hok.cl) fun x w' hrel => hK _ _ hrel
          · cases h
        · cases h
      · rename_i hrun
        cases h
        rw [if_neg hrun]
        exact hK _ _ ⟨I, put_rel o.dst hr trivial, hfx⟩
    · cases h
  · cases h

theorem pure_gives {C : Ctx} {G : FEnv} (hT : TabOK P C.T) {ops : Array Oper} {recs : List Rec} {n i : Nat} {o : Oper} {s : PS} (ho : ops[i]? = some o) (hp : pureOp o = true) (h : recGo C ops recs i σ = some s) (hrec : ∀ rc ∈ recs, RecOk G η n rc)
    (hr : Rel w0 M fx η σ a w) : ∃ v, Yields P ops o v a ∧ Rel w0 M fx η s (a.put o.dst v) w := by
  obtain ⟨I, hr, hfx⟩ := hr
  unfold recGo at h
  split at h
  · rename_i o' rc ho' hrc
    rw [ho] at ho'; cases ho'
    have hok := hrec rc (List.mem_of_getElem? hrc)
    split at h
    · rename_i hg
      have hw := recGuard_wanted hg hok hr
      split at h
      · rename_i hrun
        split at h
        · rename_i r hs
          split at h
          · rename_i hc
            simp only [Bool.and_eq_true, decide_eq_true_eq] at hc
            cases h
            have key : ∃ v fs, valOp C.T σ rc.t o.op = some (v, fs) ∧ r = ⟨v, σ, fs, none⟩ ∧ ∀ ty p, o.op ≠ .load ty p := by
              unfold stepOp at hs
              split at hs
              · rename_i h0; simp [pureOp, h0] at hp
              · rename_i h0; simp [pureOp, h0] at hp
              · rename_i h0; simp [pureOp, h0] at hp
              · rename_i h0; simp [pureOp, h0] at hp
              · rename_i h0; simp [pureOp, h0] at hp
              · rename_i h0; simp [pureOp, h0] at hp
              · rename_i h0; simp [pureOp, h0] at hp
              · rename_i h0; simp [pureOp, h0] at hp
              · split at hs
                · rename_i v fs hv
                  cases hs
                  exact ⟨v, fs, hv, rfl, fun ty p h0 => by simp [pureOp, h0] at hp⟩
                · cases hs
            obtain ⟨v, fs, hv, rfl, hl⟩ := key
            obtain ⟨x, h1, h2⟩ := valOp_sound hT hv (by have := hok.fs; rw [← hc.1] at this; exact this) hr
            exact ⟨x, .inl ⟨by rw [hw, hrun], fun w' => h1 o rfl w' fun ty p h0 => absurd h0 (hl ty p)⟩, I, put_rel o.dst hr h2, hfx⟩
          · cases h
        · cases h
      · rename_i hrun
        cases h
        exact ⟨undef, .inr ⟨by rw [hw]; simpa using hrun, rfl⟩, I, put_rel o.dst hr trivial, hfx⟩
    · cases h
  · cases h

/-- y stands for x in a list of states -/
def Stands (l : Lvl) (x : Array Bool × PS) : Prop := ∃ y ∈ l, y.1 = x.1 ∧ (x.2 = y.2 ∨ x.2.eqv y.2 = true)
theorem addLvl_stands {x : Array Bool × PS} : ∀ {acc l : Lvl}, addLvl x acc = some l → Stands l x ∧ ∀ z ∈ acc, z ∈ l
  | [], l, h => by
    simp only [addLvl, Option.some.injEq] at h; subst h
    exact ⟨⟨x, by simp, rfl, .inl rfl⟩, by simp⟩
  | y :: r, l, h => by
    simp only [addLvl] at h
    split at h
    · rename_i hl
      have hl := of_decide_eq_true hl
      split at h
      · rename_i he
        cases h
        exact ⟨⟨y, List.mem_cons_self, (Array.ext' hl).symm, .inr he⟩, fun z hz => hz⟩
      · cases h
    · simp only [Option.map_eq_some_iff] at h
      obtain ⟨l', hl', rfl⟩ := h
      obtain ⟨⟨z, hz, h1, h2⟩, h3⟩ := addLvl_stands hl'
      refine ⟨⟨z, List.mem_cons_of_mem _ hz, h1, h2⟩, fun u hu => ?_⟩
      rcases List.mem_cons.1 hu with rfl | hu
      · exact List.mem_cons_self
      · exact List.mem_cons_of_mem _ (h3 u hu)
theorem addAll_stands : ∀ {xs acc l : Lvl}, addAll xs acc = some l → (∀ x ∈ xs, Stands l x) ∧ ∀ z ∈ acc, z ∈ l
  | [], acc, l, h => by simp only [addAll, Option.some.injEq] at h; subst h; exact ⟨by simp, fun z hz => hz⟩
  | x :: r, acc, l, h => by
    simp only [addAll] at h
    split at h
    · rename_i a ha
      obtain ⟨⟨y, hy, h1, h2⟩, h3⟩ := addLvl_stands ha
      obtain ⟨h4, h5⟩ := addAll_stands h
      refine ⟨fun z hz => ?_, fun z hz => h5 z (h3 z hz)⟩
      rcases List.mem_cons.1 hz with rfl | hz
      · exact ⟨y, h5 y hy, h1, h2⟩
      · exact h4 z hz
    · cases h
theorem nextLvl_stands {C : Ctx} {ops : Array Oper} {recs : List Rec} : ∀ {xs acc l : Lvl}, nextLvl C ops recs xs acc = some l → (∀ x ∈ xs, ∃ ss, succs C ops recs x.1 x.2 = some ss ∧ ∀ y ∈ ss, Stands l y) ∧ ∀ z ∈ acc, z ∈ l
  | [], acc, l, h => by simp only [nextLvl, Option.some.injEq] at h; subst h; exact ⟨by simp, fun z hz => hz⟩
  | x :: r, acc, l, h => by
    simp only [nextLvl] at h
    split at h
    · rename_i ss hss
      split at h
      · rename_i a ha
        obtain ⟨h1, h2⟩ := addAll_stands ha
        obtain ⟨h3, h4⟩ := nextLvl_stands h
        refine ⟨fun z hz => ?_, fun z hz => h4 z (h2 z hz)⟩
        rcases List.mem_cons.1 hz with rfl | hz
        · refine ⟨ss, hss, fun y hy => ?_⟩
          obtain ⟨u, hu, e1, e2⟩ := h1 y hy
          exact ⟨u, h4 u hu, e1, e2⟩
        · exact h3 z hz
      · cases h
    · cases h

theorem mapM_mem {α β : Type} {f : α → Option β} : ∀ {l : List α} {m : List β}, l.mapM f = some m → ∀ i ∈ l, ∃ y ∈ m, f i = some y
  | [], _, _, i, hi => by simp at hi
  | a :: l, m, h, i, hi => by
    rw [List.mapM_cons] at h
    cases ha : f a with
    | none => rw [ha] at h; cases h
    | some b =>
      rw [ha] at h
      cases hl : l.mapM f with
      | none => simp only [Option.bind_eq_bind, Option.bind_some] at h; rw [hl] at h; cases h
      | some m' =>
        simp only [Option.bind_eq_bind, Option.bind_some] at h
        rw [hl] at h
        simp only [Option.bind_some, Option.pure_def, Option.some.injEq] at h
        subst h
        rcases List.mem_cons.1 hi with rfl | hi
        · exact ⟨b, List.mem_cons_self, ha⟩
        · obtain ⟨y, hy, e⟩ := mapM_mem hl i hi
          exact ⟨y, List.mem_cons_of_mem _ hy, e⟩

theorem bfs_sound {C : Ctx} {G : FEnv} (hT : TabOK P C.T) (hG : EnvOK P C.sigs G) (hnp : fx.N ≤ C.np) {ops : Array Oper} (hsel : Region.noSelect ops = true) {recs : List Rec} {n : Nat} (hrec : ∀ rc ∈ recs, RecOk G η n rc) {σend : PS} {Q : Exit → Act → World → Prop}
    (hQ : ∀ a w, Rel w0 M fx η σend a w → Q .normal a w) (hP : ∀ c a a' w, Q (.panic c) a w → Q (.panic c) a' w) :
    ∀ (fuel : Nat) (l : Lvl), bfs C ops recs σend fuel l = true → ∀ x ∈ l, ∀ a w, Rel w0 M fx η x.2 a w → wpAny P .any ops Q fuel x.1 a w
  | 0, l, h, x, hx, a, w, hr => by
    simp only [bfs, List.all_eq_true] at h
    have := h x hx
    rw [Bool.and_eq_true, List.isEmpty_iff] at this
    obtain ⟨I, hr, hfx⟩ := hr
    exact wpAny_done this.1 (hQ a w ⟨I, eqv_rel this.2 hr, hfx⟩) 0
  | fuel + 1, l, h, x, hx, a, w, hr => by
    simp only [bfs] at h
    split at h
    · rename_i l' hl'
      obtain ⟨ss, hss, hst⟩ := (nextLvl_stands hl').1 x hx
      have next : ∀ i s, (x.1.setIfInBounds i true, s) ∈ ss → ∀ a' w', Rel w0 M fx η s a' w' → wpAny P .any ops Q fuel (x.1.setIfInBounds i true) a' w' := fun i s hs a' w' hr' => by
        obtain ⟨y, hy, e1, e2⟩ := hst _ hs
        have hrel : Rel w0 M fx η y.2 a' w' := by
          rcases e2 with e2 | e2
          · rw [← e2]; exact hr'
          · obtain ⟨I', hr', hfx'⟩ := hr'
            exact ⟨I', eqv_rel e2 hr', hfx'⟩
        have := bfs_sound hT hG hnp hsel hrec hQ hP fuel l' h y hy a' w' hrel
        rw [e1] at this; exact this
      unfold succs at hss
      split at hss
      · cases hss
      · rename_i rs hrs hne
        split at hss
        · rename_i i hi
          have hpa := List.find?_some hi
          have him := List.mem_of_find?_eq_some hi
          obtain ⟨y, hy, e⟩ := mapM_mem hss i (by simp)
          simp only [Option.map_eq_some_iff] at e
          obtain ⟨s, hs, rfl⟩ := e
          simp only [pureAt, Bool.and_eq_true] at hpa
          obtain ⟨hp1, hp2⟩ := hpa
          split at hp1
          · rename_i o ho
            obtain ⟨v, hyv, hrel⟩ := pure_gives hT ho hp1 hs hrec hr
            exact wpAny_take ho hsel hp2 (by simpa using him) (fun c a w h => hP c _ _ w h) hyv (next i s hy _ w hrel)
          · cases hp1
        · refine wpAny_all rfl (fun h0 => hne h0) fun i hi => ?_
          obtain ⟨y, hy, e⟩ := mapM_mem hss i hi
          simp only [Option.map_eq_some_iff] at e
          obtain ⟨s, hs, rfl⟩ := e
          exact recGo_sound hT hG hnp hs hrec hr fun a' w' hr' => next i s hy a' w' hr'
    · cases h

theorem headN_all {C : Ctx} : ∀ (l : List Oper), (l.take (headN C l)).all (quietOp C) = true
  | [] => rfl
  | o :: r => by
    unfold headN
    split
    · rename_i h
      rw [List.take_succ_cons, List.all_cons, h, headN_all r]; rfl
    · rfl
/-- a region is sound -/
theorem region_sound {C : Ctx} {G : FEnv} (hT : TabOK P C.T) (hG : EnvOK P C.sigs G) (hnp : fx.N ≤ C.np) (hmix : P.follows .mixedOrders = true) (id : Nat) (ops : Array Oper) (draw : Bool) (σ : PS) (n : Nat) (p : Prog) (hsc : σ.sc n = true)
    (h : runR C ops (if draw && !quietR C ops && !tailR C ops then anyFin C ops σ else fun _ _ => true) ops.toList [] [] σ n = some p) : Sound P G w0 M fx (.region id ops draw) p σ n := by
  intro η a w K Q hn hr hw hK
  cases draw with
  | false => exact wp_region_list (runR_list hT hG hnp hK ops.toList [] [] σ n p η a w h hn (fun x hx => by simp at hx) hr hw)
  | true =>
    have hk1 : Kept [] w { w with drawn := w.drawn + 1 } := ⟨rfl, rfl, rfl, Nat.le_refl _, fun _ _ _ => rfl⟩
    by_cases hq : quietR C ops = true
    · unfold quietR at hq
      rw [Bool.and_eq_true] at hq
      obtain ⟨I, hr, hfx⟩ := hr
      have h' := h
      rw [← List.append_nil ops.toList] at h'
      exact wp_region_quiet (C := Kept [] { w with drawn := w.drawn + 1 }) hmix hq.2 (Kept.refl _ _)
        (runR_quiet hT hG hnp hK ops.toList [] [] [] σ n p η a h' hq.1 hn (fun x hx => by simp at hx) ⟨I, rel_kept hr hk1, hfx⟩ hw)
    · have hq : quietR C ops = false := by simpa using hq
      by_cases ht : tailR C ops = true
      · unfold tailR at ht
        obtain ⟨I, hr, hfx⟩ := hr
        have h' := h
        rw [← List.take_append_drop (headN C ops.toList) ops.toList] at h'
        exact wp_region_tail (C := Kept [] { w with drawn := w.drawn + 1 }) hmix ht (Kept.refl _ _)
          (runR_quiet hT hG hnp hK _ _ [] [] σ n p η a h' (headN_all _) hn (fun x hx => by simp at hx) ⟨I, rel_kept hr hk1, hfx⟩ hw)
      · have ht : tailR C ops = false := by simpa using ht
        simp only [hq, ht, Bool.not_false, Bool.and_true, if_true] at h
        obtain ⟨ζ, tr, σ', m, h1, h2, h3, h4⟩ := runR_path ops.toList [] [] σ n p η h hn (fun x hx => by simp at hx) (fun rc hrc => by simp at hrc) hw
        simp only [anyFin, Bool.and_eq_true] at h1
        refine wp_of (Q := fun e a w => match e with | .normal => Q .normal a w | _ => False) (wp_region_any hmix ?_) (fun e a w hq => by cases e <;> first | exact hq | exact hq.elim)
        obtain ⟨I, hr, hfx⟩ := hr
        refine bfs_sound (fx := fx) (η := η ++ ζ) (w0 := w0) (M := M) hT hG hnp h1.1 (fun rc hrc => h2 rc (by simpa using hrc)) (fun a' w' hr' => ?_) (fun c a a' w h => h) ops.size _ h1.2 _ List.mem_cons_self a _ ⟨I, (rel_kept hr hk1).app hn hsc, hfx⟩
        exact hK.st .norm m _ _ h4 a' w' (hr'.kill _)
end
end Go.Proofs.YtibbceoibcnpcaaGreat.Eng
