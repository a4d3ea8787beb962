/- The engine, part S: a region that draws its order, whose operations only read. No condition. -/
import Derived.Test.YtjjnllklhcjomaaEngR
namespace Go.Proofs.Ytjjnllklhcjomaa.Eng
open Go

def U.val : K → U → Value
  | .int k, u => .int k u.I | .bool, u => .bool u.B | .str, u => .string u.S | .lst _ _, _ => undef
def zipVal : List K → List U → List Value
  | k :: ks, u :: us => U.val k u :: zipVal ks us
  | _, _ => []
def valsOf : List (Bool × List K) → List U → List Value
  | [], _ => []
  | (agg, ks) :: r, us => (if agg then .agg (zipVal ks us).toArray else (zipVal ks us).headD undef) :: valsOf r (us.drop ks.length)

section
variable {P : Program} {T : Tab} {w0 : World} {M : List Nat} {fx : Fx} {I : In} {η : List U} {σ : PS} {a : Act} {w w' w1 : World}

theorem Rd.val {R : Nat → Prop} {k : K} {v : Value} {u : U} (h : Rd R w k v u) (hk : scalarK k = true) : v = U.val k u := by
  cases h <;> first | rfl | simp [scalarK] at hk
theorem LfRes.rd {R : Nat → Prop} {base : Nat} {k : K} {v : Value} {u : U} (h : LfRes R w base k v u) (hk : scalarK k = true) : Rd R w k v u := by
  cases k <;> first | exact h | simp [scalarK] at hk
theorem LfRes.of_rd {R : Nat → Prop} {base : Nat} {k : K} {v : Value} {u : U} (h : Rd R w k v u) (hk : scalarK k = true) : LfRes R w base k v u := by
  cases k <;> first | exact h | simp [scalarK] at hk
theorem ResL.any {R R' : Nat → Prop} {base base' : Nat} : ∀ {ks : List K} {vs : List Value} {us : List U}, ResL R w base ks vs us → ks.all scalarK = true → ResL R' w' base' ks vs us
  | [], [], [], _, _ => trivial
  | k :: ks, v :: vs, u :: us, h, hk => by
    simp only [List.all_cons, Bool.and_eq_true] at hk
    exact ⟨LfRes.of_rd ((h.1.rd hk.1).scalar hk.1) hk.1, ResL.any h.2 hk.2⟩
  | [], [], _ :: _, h, _ | [], _ :: _, _, h, _ | _ :: _, [], _, h, _ | _ :: _, _ :: _, [], h, _ => h.elim
theorem ResL.vals {R : Nat → Prop} {base : Nat} : ∀ {ks : List K} {vs : List Value} {us us' : List U}, ResL R w base ks vs us → ks.all scalarK = true → vs = zipVal ks (us ++ us')
  | [], [], [], us', _, _ => by cases us' <;> rfl
  | k :: ks, v :: vs, u :: us, us', h, hk => by
    simp only [List.all_cons, Bool.and_eq_true] at hk
    simp only [List.cons_append, zipVal]
    rw [(h.1.rd hk.1).val hk.1, ← ResL.vals h.2 hk.2]
  | [], [], _ :: _, _, h, _ | [], _ :: _, _, _, h, _ | _ :: _, [], _, _, h, _ | _ :: _, _ :: _, [], _, h, _ => h.elim
theorem chunks_vals {R : Nat → Prop} {base : Nat} : ∀ {res : List (Bool × List K)} {vs cs : List Value} {us us' : List U}, Chunks res vs cs → ResL R w base (flatK res) cs us → (flatK res).all scalarK = true → vs = valsOf res (us ++ us')
  | [], [], [], us, us', _, _, _ => rfl
  | (agg, ks) :: res, v :: vs, cs, us, us', hc, hr, hk => by
    obtain ⟨c1, c2, rfl, hlen, hv, hc2⟩ := hc
    have hk' : (ks ++ flatK res).all scalarK = true := hk
    rw [List.all_append, Bool.and_eq_true] at hk'
    have hr' : ResL R w base (ks ++ flatK res) (c1 ++ c2) us := hr
    obtain ⟨u1, u2, rfl, hul, h1, h2⟩ := hr'.split hlen
    simp only [valsOf]
    have e1 := h1.vals (us' := u2 ++ us') hk'.1
    have e2 := chunks_vals (us' := us') hc2 h2 hk'.2
    rw [List.append_assoc, ← e1, List.drop_append_of_le_length (by omega), List.drop_of_length_le (by omega), List.nil_append, ← e2]
    congr 1
    cases agg with
    | true => simpa using hv
    | false => simp only [Bool.false_eq_true, if_false] at hv ⊢; rw [hv]; rfl
  | [], _ :: _, _, _, _, hc, _, _ | [], [], _ :: _, _, _, hc, _, _ | _ :: _, [], _, _, _, hc, _, _ => hc.elim

theorem ArgsRel.mono {R R' : Nat → Prop} (hR : ∀ b, R b → R' b) (hh : ∀ b, R b → w'.heap[b]? = w.heap[b]?) : ∀ {ps : List PK} {vs : List Value} {us : List U}, ArgsRel R w ps vs us [] → ArgsRel R' w' ps vs us []
  | [], [], [], _ => trivial
  | .val agg ks :: ps, v :: vs, us, h => by
    obtain ⟨cs, u1, u2, h1, h2, h3, h4⟩ := h
    exact ⟨cs, u1, u2, h1, h2, h3.mono hR hh, ArgsRel.mono hR hh h4⟩
  | [], _ :: _, _, h | [], [], _ :: _, h | .val _ _ :: _, [], _, h | .box _ :: _, _ :: _, _, h | .box _ :: _, [], _, h => h.elim

theorem argE_val {f : K → LV → Option E} : ∀ {ps : List PK} {xs : List Operand} {es : List E} {ids : List Nat}, argE f σ ps xs = some (es, ids) → ps.all PK.isVal = true → ids = []
  | [], [], es, ids, h, _ => by simp only [argE, Option.some.injEq, Prod.mk.injEq] at h; exact h.2.symm
  | .val agg ks :: ps, x :: xs, es, ids, h, hv => by
    simp only [List.all_cons, Bool.and_eq_true] at hv
    simp only [argE] at h
    split at h
    · rename_i tv es' ids' hx hrec
      have := argE_val hrec hv.2
      split at h
      · split at h
        · simp only [Option.some.injEq, Prod.mk.injEq] at h; rw [← h.2]; exact this
        · cases h
      · split at h
        · simp only [Option.some.injEq, Prod.mk.injEq] at h; rw [← h.2]; exact this
        · cases h
      · cases h
    · cases h
  | .box ks :: ps, _, _, _, _, hv => by simp [PK.isVal] at hv
  | [], _ :: _, _, _, h, _ | .val _ _ :: _, [], _, _, h, _ => by simp [argE] at h
theorem boxOut_nil {m : Nat} : ∀ (ps : List PK) (bs : List (Nat × List LV)) (i : Nat), boxOut bs m ps [] i = bs
  | [], bs, i => rfl
  | .val _ _ :: ps, bs, i => by simp only [boxOut]; exact boxOut_nil ps bs i
  | .box _ :: ps, bs, i => rfl
theorem boxKs_val : ∀ {ps : List PK}, ps.all PK.isVal = true → boxKs ps = []
  | [], _ => rfl
  | .val _ _ :: ps, h => by simp only [List.all_cons, Bool.and_eq_true] at h; simp only [boxKs]; exact boxKs_val h.2
  | .box _ :: ps, h => by simp [PK.isVal] at h
theorem resLs_scalar {d m : Nat} : ∀ {ks : List K} {i : Nat}, ks.all scalarK = true → (resLs d m ks i).2 = []
  | [], _, _ => rfl
  | k :: ks, i, h => by
    simp only [List.all_cons, Bool.and_eq_true] at h
    cases k <;> simp only [resLs] <;> first | exact resLs_scalar h.2 | simp [scalarK] at h
theorem resTs_scalar {d m : Nat} : ∀ {res : List (Bool × List K)} {i : Nat} {ts : List TV} {nr : List Row}, resTs d m res i = some (ts, nr) → (flatK res).all scalarK = true → nr = []
  | [], i, ts, nr, h, _ => by simp only [resTs, Option.some.injEq, Prod.mk.injEq] at h; exact h.2.symm
  | (agg, ks) :: res, i, ts, nr, h, hk => by
    have hk' : (ks ++ flatK res).all scalarK = true := hk
    rw [List.all_append, Bool.and_eq_true] at hk'
    simp only [resTs] at h
    split at h
    · rename_i t ts' nr' ht hrec
      simp only [Option.some.injEq, Prod.mk.injEq] at h
      rw [← h.2, resLs_scalar hk'.1, resTs_scalar hrec hk'.2]; rfl
    · cases h
theorem BoxesRel_val {R : Nat → Prop} : ∀ {ps : List PK} {us : List U}, BoxesRel R w ps [] us → us = []
  | [], [], _ => rfl
  | .val _ _ :: ps, us, h => BoxesRel_val (ps := ps) h
  | [], _ :: _, h => h.elim
  | .box _ :: _, _, h => h.elim

theorem rel_kept (hr : Rel' w0 M I η σ a w) (hk : Kept [] w w') : Rel' w0 M I η σ a w' :=
  (step_rel (vr' := I.vr) (nb := σ.boxes) (nr := []) (bs := []) (R' := fun _ => False) hr hk (fun g hg => by simp at hg) (fun b => rfl) hr.keyB rfl (fun q hq => by simp at hq) (fun _ _ => rfl)
    (fun b h => h.elim) (fun b h => h.elim) (fun q hq => by simp at hq) (fun q hq => by simp at hq) (fun b ls h => .inl ⟨by simp, h⟩) (fun q hq => by simp at hq)).1
theorem Kept.same (h : Kept [] w w') : Same w w' := fun b hb => h.block b hb (by simp)
theorem Kept.trans {w'' : World} (h : Kept [] w w') (k : Kept [] w' w'') : Kept [] w w'' :=
  ⟨k.os.trans h.os, k.tape.trans h.tape, k.output.trans h.output, Nat.le_trans h.size k.size, fun b hb hm => by rw [k.block b (by have := h.size; omega) hm, h.block b hb hm]⟩

/-- a call in a quiet region -/
theorem quiet_call {f : Nat} {sg : Sig} {g : List U → Option (List U)} (hf : FnOK P f sg g) (hr : Rel' w0 M I η σ a w1) {m d : Nat} (hm : η.length = m) (hsc : σ.sc m = true) {xs : List Operand} {es : List E} {ids : List Nat}
    (hval : sg.params.all PK.isVal = true) (hres : (flatK sg.res).all scalarK = true) (harg : argE (LV.toE σ.rows) σ sg.params xs = some (es, ids)) {ts : List TV} {nr : List Row} (hts : resTs d m sg.res 0 = some (ts, nr)) {rs : List U}
    (hg : g (es.map (E.den η)) = some rs) :
    ∃ x, (∀ w', Kept [] w1 w' → Calls P f (xs.map a.eval).toArray w' fun e w'' => e = .returned x ∧ Kept [] w1 w'') ∧ Rel' w0 M I (η ++ rs) σ a w1 ∧ SVr (Ok I σ w1) w1 (η ++ rs) I σ (tupOf ts) x := by
  have hids := argE_val harg hval
  subst hids
  have hRkb : ∀ b, (Ok I σ w1 b ∨ ∃ r, (lookR σ.rows r).isSome = true ∧ (I.vr r).ownBlock = some b) → b < w1.heap.size := by
    rintro b (h | ⟨r, h1, h2⟩)
    · exact h.1.1
    · exact hr.lt (.inr ⟨r, h1, h2⟩)
  obtain ⟨ha, _, _⟩ := argE_rel (Rk := fun b => Ok I σ w1 b ∨ ∃ r, (lookR σ.rows r).isSome = true ∧ (I.vr r).ownBlock = some b) hr (fun b h => .inl h)
    (fun k l e v h hl => toE_rd hr (fun b h => .inl h) (fun r g h1 h2 => .inr ⟨r, h1, h2⟩) k l e v h hl) harg
  have run : ∀ w', Kept [] w1 w' → Calls P f (xs.map a.eval).toArray w' fun e w'' => ∃ v cs u1 u2 vs R', e = .returned v ∧ Back _ w' w'' sg [] v rs cs u1 u2 vs R' := fun w' hk =>
    hf.run w' (xs.map a.eval) _ rs _ [] (ha.mono (fun _ h => h) fun b hb => hk.same b (hRkb b hb)) List.nodup_nil (fun b hb => ⟨by have := hRkb b hb; have := hk.size; omega, by simp⟩) hg
  have val : ∀ {w' w'' : World} {R : Nat → Prop} {v : Value} {cs : List Value} {u1 u2 : List U} {vs : List Value} {R' : Nat → Prop}, Back R w' w'' sg [] v rs cs u1 u2 vs R' → v = tupV (valsOf sg.res rs) ∧ u2 = [] := fun hb => by
    have h2 := BoxesRel_val hb.boxes
    have := chunks_vals (us' := []) hb.chunks hb.res hres
    rw [List.append_nil] at this
    refine ⟨?_, h2⟩
    rw [hb.v, this, hb.rs, h2, List.append_nil]
  refine ⟨tupV (valsOf sg.res rs), fun w' hk => (run w' hk).mono ?_, hr.app hm hsc, ?_⟩
  · rintro e w'' ⟨v, cs, u1, u2, vs, R', rfl, hb⟩
    exact ⟨by rw [(val hb).1], hk.trans hb.kept⟩
  · obtain ⟨e, w'', fr, ⟨v, cs, u1, u2, vs, R', _, hb⟩, _⟩ := run w1 (Kept.refl _ _) []
    obtain ⟨hv, hu2⟩ := val hb
    have hrs := hb.rs
    rw [hu2, List.append_nil] at hrs
    have hnr := resTs_scalar hts hres
    subst hnr
    have hr' : ResL (Ok I σ w1) w1 0 (flatK sg.res) cs u1 := hb.res.any hres
    obtain ⟨t1, _⟩ := resTs_rel (R' := Ok I σ w1) (I' := I) (σ' := σ) (w' := w1) (η' := η ++ rs) hts hb.chunks hr' (fun j u hj => by
      have := (List.getElem?_eq_some_iff.1 hj).1
      rw [List.getD_eq_getElem?_getD, List.getElem?_append_right (by omega), show m + (0 + j) - η.length = j by omega, hrs, hj]; rfl) (fun q hq => by simp at hq) (fun j x hx ⟨q, hq, _⟩ => by simp at hq)
    rw [← hv, hb.v]
    exact tup_rel t1

theorem quiet_op {C : Ctx} {G : FEnv} (hT : TabOK P C.T) (hG : EnvOK P C.sigs G) {o : Oper} {m : Nat} {t : Option Bool} {r : Res} {rs : List U} (h : stepOp C o m t σ = some r) (hq : quietOp C o = true) (hr : Rel' w0 M I η σ a w1) (hfx : fx.ok I) (hm : η.length = m)
    (hfs : Facts η r.fs) (hcl : ClOk G η r.cl rs) :
    ∃ x, (∀ w', Kept [] w1 w' → o.quietAt P a (Kept [] w1) w' x) ∧ Rel w0 M fx (η ++ rs) (r.σ.put o.dst r.v) (a.put o.dst x) w1 := by
  unfold stepOp at h
  split at h
  · rename_i ho; simp [quietOp, ho] at hq
  · rename_i ho; simp [quietOp, ho] at hq
  · rename_i ho; simp [quietOp, ho] at hq
  · rename_i ho; simp [quietOp, ho] at hq
  · rename_i ho; simp [quietOp, ho] at hq
  · rename_i ho; simp [quietOp, ho] at hq
  · rename_i ho; simp [quietOp, ho] at hq
  · rename_i f as ats ho
    simp only [quietOp, ho] at hq
    split at h
    · rename_i sg hsg
      have hf := hG f sg hsg
      rw [hsg] at hq
      simp only [Bool.and_eq_true] at hq
      obtain ⟨hval, hsc0⟩ := hq
      have hres : (flatK sg.res).all scalarK = true := by
        simp only [List.all_eq_true, flatK, List.mem_flatMap] at hsc0 ⊢
        rintro k ⟨p, hp, hk⟩
        exact hsc0 p hp k hk
      have hfl : flatOk sg = true := by
        unfold flatOk
        rw [boxKs_val hval, Bool.and_eq_true]
        refine ⟨?_, rfl⟩
        rw [List.all_eq_true] at hres ⊢
        intro k hk
        have := hres k hk
        cases k <;> first | rfl | simp [scalarK] at this
      simp only [hfl, if_true] at h
      split at h
      · cases h
      rename_i hsc
      have hsc : σ.sc m = true := by simpa using hsc
      have hex : ∀ w', (execOp a.eval o).run P w' = .ok (.enter f (as.map a.eval)) w' := fun w' => call_exec hf ho
      have e : (as.toList.map a.eval).toArray = as.map a.eval := Array.ext' (Array.toList_map).symm
      split at h
      · rename_i es ids harg
        have hids := argE_val harg hval
        subst hids
        split at h
        · rename_i d hd
          split at h
          · rename_i ts nr hts
            split at h
            · simp only [Option.some.injEq] at h; subst h
              obtain ⟨hg, _⟩ := hcl
              obtain ⟨x, h1, h2, h3⟩ := quiet_call hf hr hm hsc hval hres harg hts hg
              have hnr := resTs_scalar hts hres
              subst hnr
              refine ⟨x, fun w' hk => ?_, I, ?_, hfx⟩
              · unfold Oper.quietAt
                rw [hex]
                have := h1 w' hk
                rw [e] at this
                exact ⟨rfl, this⟩
              · simp only [boxOut_nil]
                exact put_rel o.dst h2 h3
            · cases h
          · cases h
        · split at h
          · rename_i hrs
            simp only [Option.some.injEq] at h; subst h
            obtain ⟨hg, _⟩ := hcl
            obtain ⟨x, h1, h2, h3⟩ := quiet_call (d := 0) (ts := []) (nr := []) hf hr hm hsc hval hres harg (by rw [hrs]; rfl) hg
            refine ⟨x, fun w' hk => ?_, I, ?_, hfx⟩
            · unfold Oper.quietAt
              rw [hex]
              have := h1 w' hk
              rw [e] at this
              exact ⟨rfl, this⟩
            · simp only [boxOut_nil]
              exact put_rel (v := .dead) o.dst h2 trivial
          · cases h
      · cases h
    · cases h
  · split at h
    · rename_i v fs hv
      simp only [Option.some.injEq] at h; subst h
      have hcl : rs = [] := hcl
      subst hcl
      obtain ⟨x, h1, h2⟩ := valOp_sound hT hv hfs hr
      refine ⟨x, fun w' hk => ?_, I, by rw [List.append_nil]; exact put_rel o.dst hr h2, hfx⟩
      unfold Oper.quietAt
      rw [h1 o rfl w' (fun _ _ _ => hk.same)]
      exact ⟨rfl, rfl⟩
    · cases h

theorem runR_quiet {C : Ctx} {G : FEnv} (hT : TabOK P C.T) (hG : EnvOK P C.sigs G) {ops : Array Oper} {K : Leaf → List U → Prop} {Q : Exit → Act → World → Prop} (hK : KSt w0 M fx K Q) :
    ∀ (rest : List Oper) (asm : List Fact) (σ : PS) (n : Nat) (p : Prog) (η : List U) (a : Act), runR C ops rest asm σ n = some p → rest.all (quietOp C) = true → η.length = n → Asm n η asm → Rel w0 M fx η σ a w1 → wpP G p 0 η K →
      wpQuiet P ops (Kept [] w1) (fun a' => ∀ w', Kept [] w1 w' → Q .normal a' w') rest a
  | [], asm, σ, n, p, η, a, h, _, hn, ha, hr, hw => by
    simp only [runR, Option.some.injEq] at h; subst h
    refine wpQuiet_nil fun w' hk => ?_
    obtain ⟨I, hr, hfx⟩ := hr
    have hr2 : Rel w0 M fx η σ a w' := ⟨I, rel_kept hr hk, hfx⟩
    exact hK.st .norm n _ η hw a w' (hr2.kill _)
  | o :: rest, asm, σ, n, p, η, a, h, hq, hn, ha, hr, hw => by
    obtain ⟨I, hr, hfx⟩ := hr
    simp only [List.all_cons, Bool.and_eq_true] at hq
    refine wpQuiet_step fun K' hK' => ?_
    rcases runR_step h hn ha hw with ⟨asm', p', j, b, d, e, hg, hd, he, hne, ha', hp', hw'⟩ | ⟨asm', p', t, r, rs, hg, hs, hf, hcl, ha', hp', hw'⟩
    · have hy := yielded_of hr hd he
      have hwn : Region.wanted o (yielded ops a.tmps) = false := by
        unfold Region.wanted; rw [hg]; simp only [hy]; simpa using hne
      rw [if_neg (by simp [hwn])]
      exact hK' _ (runR_quiet hT hG hK rest asm' _ n p' η _ hp' hq.2 hn ha' ⟨I, put_rel o.dst hr trivial, hfx⟩ hw')
    · have hwn : Region.wanted o (yielded ops a.tmps) = true := by
        unfold Region.wanted
        split
        · rfl
        · rename_i j b hgd
          obtain ⟨d, e, hd, he, hb⟩ := hg j b hgd
          simp only [yielded_of hr hd he, hb]; simp
      rw [if_pos hwn]
      have hlen := hcl.len
      obtain ⟨x, h1, h2⟩ := quiet_op (fx := fx) hT hG hs hq.1 hr hfx hn hf hcl
      exact ⟨x, h1, hK' _ (runR_quiet hT hG hK rest asm' _ (n + r.k) p' (η ++ rs) _ hp' hq.2 (by simp [hn, hlen]) ha' h2 hw')⟩

/-- a region is sound -/
theorem region_sound {C : Ctx} {G : FEnv} (hT : TabOK P C.T) (hG : EnvOK P C.sigs G) (hnp : fx.N ≤ C.np) (hmix : P.follows .mixedOrders = true) (id : Nat) (ops : Array Oper) (draw : Bool) (σ : PS) (n : Nat) (p : Prog) (hq : draw = true → quietR C ops = true)
    (h : runR C ops ops.toList [] σ n = some p) : Sound P G w0 M fx (.region id ops draw) p σ n := by
  intro η a w K Q hn hr hw hK
  cases draw with
  | false => exact wp_region_list (runR_list hT hG hnp hK ops.toList [] σ n p η a w h hn (fun x hx => by simp at hx) hr hw)
  | true =>
    have hq := hq rfl
    unfold quietR at hq
    rw [Bool.and_eq_true] at hq
    obtain ⟨I, hr, hfx⟩ := hr
    have hk1 : Kept [] w { w with drawn := w.drawn + 1 } := ⟨rfl, rfl, rfl, Nat.le_refl _, fun _ _ _ => rfl⟩
    exact wp_region_quiet (C := Kept [] { w with drawn := w.drawn + 1 }) hmix hq.2 (Kept.refl _ _)
      (runR_quiet hT hG hK ops.toList [] σ n p η a h hq.1 hn (fun x hx => by simp at hx) ⟨I, rel_kept hr hk1, hfx⟩ hw)
end
end Go.Proofs.Ytjjnllklhcjomaa.Eng
