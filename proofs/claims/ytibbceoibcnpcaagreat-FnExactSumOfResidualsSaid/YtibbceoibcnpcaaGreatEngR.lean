/- The engine, part R: a region in the order of its text. No condition. -/
import Derived.Test.YtibbceoibcnpcaaGreatEngQ
namespace Go.Proofs.YtibbceoibcnpcaaGreat.Eng
open Go

theorem E.sc_mono {n m : Nat} (h : n ≤ m) : ∀ e : E, e.sc n = true → e.sc m = true
  | .var k, hs => by simp only [E.sc, Nat.blt_eq] at hs ⊢; omega
  | .int _, _ | .bool _, _ | .str _, _ | .nil, _ | .lnil, _ | .rnil, _ => rfl
  | .ar _ _ a b, hs | .cmp _ a b, hs | .beq a b, hs | .and a b, hs | .nth a b _, hs | .cat a b, hs | .take a b, hs | .drop a b, hs | .rep a b, hs
  | .lcons a b, hs | .rcons a b, hs | .mx a b, hs | .mn a b, hs => by
    simp only [E.sc, Bool.and_eq_true] at hs ⊢; exact ⟨E.sc_mono h a hs.1, E.sc_mono h b hs.2⟩
  | .not a, hs | .conv _ a, hs | .len a, hs => by simp only [E.sc] at hs ⊢; exact E.sc_mono h a hs
  | .set a b _ c, hs => by
    simp only [E.sc, Bool.and_eq_true] at hs ⊢; exact ⟨E.sc_mono h a hs.1, E.sc_mono h b hs.2.1, E.sc_mono h c hs.2.2⟩

/-- assumptions that hold, in scope -/
def Asm (n : Nat) (η : List U) (asm : List Fact) : Prop := ∀ x ∈ asm, x.1.sc n = true ∧ (x.1.den η).B = x.2
theorem Asm.app {n : Nat} {η ζ : List U} {asm : List Fact} (hn : η.length = n) (h : Asm n η asm) : Asm (n + ζ.length) (η ++ ζ) asm := fun x hx => by
  obtain ⟨h1, h2⟩ := h x hx
  exact ⟨E.sc_mono (by omega) _ h1, by rw [E.den_app hn _ h1]; exact h2⟩
theorem known_sound {n : Nat} {η : List U} : ∀ {asm : List Fact} {e : E} {t : Bool}, Asm n η asm → known asm e = some t → (e.den η).B = t
  | [], e, t, _, h => by
    unfold known at h
    split at h
    · rename_i b hb; cases h; exact lit?_some hb
    · cases h
  | (f, b) :: r, e, t, ha, h => by
    unfold known at h
    split at h
    · rename_i b hb; cases h; exact lit?_some hb
    · simp only at h
      split at h
      · rename_i hf; cases h
        have := of_decide_eq_true hf; subst this
        exact (ha _ List.mem_cons_self).2
      · exact known_sound (fun x hx => ha x (List.mem_cons_of_mem _ hx)) h

theorem wpP_chain {G : FEnv} {cl : Option (Nat × List E × Nat)} {p : Prog} {η : List U} {K : Leaf → List U → Prop} : ∀ {fs : List Fact}, wpP G (chain cl p fs) 0 η K → Facts η fs ∧ ∃ rs, ClOk G η cl rs ∧ wpP G p 0 (η ++ rs) K
  | [], h => by
    refine ⟨fun x hx => by simp at hx, ?_⟩
    cases cl with
    | none => exact ⟨[], rfl, by rw [List.append_nil]; exact h⟩
    | some c =>
      obtain ⟨f, es, k⟩ := c
      obtain ⟨rs, h1, h2, h3⟩ := h
      exact ⟨rs, ⟨h1, h2⟩, h3⟩
  | (b, t) :: fs, h => by
    obtain ⟨h1, h2⟩ := h
    obtain ⟨h3, h4⟩ := wpP_chain h2
    refine ⟨fun x hx => ?_, h4⟩
    rcases List.mem_cons.1 hx with rfl | hx
    · exact h1
    · exact h3 x hx

theorem Facts.app {η ζ : List U} {n : Nat} {fs : List Fact} (hn : η.length = n) (hs : fs.all (fun x => x.1.sc n) = true) (h : Facts η fs) : Facts (η ++ ζ) fs := fun x hx => by
  rw [List.all_eq_true] at hs
  rw [E.den_app hn _ (hs x hx)]; exact h x hx
theorem ClOk.at {G : FEnv} {η : List U} {n : Nat} {cl : Option (Nat × List E × Nat)} {rs : List U} (hn : η.length = n) (hs : callsSc n cl = true) (h : ClOk G η cl rs) : ClAt G (η ++ rs) n cl := by
  cases cl with
  | none => trivial
  | some c =>
    obtain ⟨f, es, k⟩ := c
    obtain ⟨h1, h2⟩ := h
    simp only [callsSc, List.all_eq_true] at hs
    refine ⟨rs, ?_, h2, fun j u hj => ?_⟩
    · rw [← h1]; congr 1
      exact List.map_congr_left fun e he => E.den_app hn e (hs e he)
    · rw [List.getD_eq_getElem?_getD, List.getElem?_append_right (by omega), show n + j - η.length = j by omega, hj]; rfl
theorem Rel'.out {w0 : World} {M : List Nat} {I : In} {G : FEnv} {η : List U} {n : Nat} {σ : PS} {a : Act} {w : World} {cl : Option (Nat × List E × Nat)} {rs : List U} (hn : η.length = n) (hs : (cl.isNone || σ.sc n) = true) (hcl : ClOk G η cl rs) (hr : Rel' w0 M I η σ a w) : Rel' w0 M I (η ++ rs) σ a w := by
  cases cl with
  | none => have hcl : rs = [] := hcl; subst hcl; rw [List.append_nil]; exact hr
  | some c => exact hr.app hn (by simpa using hs)

theorem ClOk.len {G : FEnv} {η : List U} {r : Res} {rs : List U} (h : ClOk G η r.cl rs) : rs.length = r.k := by
  unfold Res.k
  cases hc : r.cl with
  | none => rw [hc] at h; simp [ClOk] at h; simp [h]
  | some c => obtain ⟨f, es, k⟩ := c; rw [hc] at h; exact h.2

/-- what a record of an operation's run says at an environment -/
structure RecOk (G : FEnv) (η : List U) (n : Nat) (rc : Rec) : Prop where
  gf : Facts η rc.gf
  fs : Facts η rc.fs
  cl : ClAt G η rc.m rc.cl
  gs : rc.gf.all (fun x => x.1.sc n) = true
  ss : rc.fs.all (fun x => x.1.sc n) = true
  cs : callsSc n rc.cl = true
  ms : ∀ f es k, rc.cl = some (f, es, k) → rc.m + k ≤ n
theorem callsSc_mono {n m : Nat} (h : n ≤ m) {cl : Option (Nat × List E × Nat)} (hs : callsSc n cl = true) : callsSc m cl = true := by
  cases cl with
  | none => rfl
  | some c =>
    obtain ⟨f, es, k⟩ := c
    simp only [callsSc, List.all_eq_true] at hs ⊢
    exact fun e he => E.sc_mono h e (hs e he)
theorem allSc_mono {n m : Nat} (h : n ≤ m) {fs : List Fact} (hs : fs.all (fun x => x.1.sc n) = true) : fs.all (fun x => x.1.sc m) = true := by
  rw [List.all_eq_true] at hs ⊢
  exact fun x hx => E.sc_mono h _ (hs x hx)
theorem RecOk.app {G : FEnv} {η ζ : List U} {n : Nat} {rc : Rec} (hn : η.length = n) (h : RecOk G η n rc) : RecOk G (η ++ ζ) (n + ζ.length) rc where
  gf := h.gf.app hn h.gs
  fs := h.fs.app hn h.ss
  cl := by
    have h1 := h.cl; have h2 := h.cs; have h3 := h.ms
    cases hc : rc.cl with
    | none => trivial
    | some c =>
      obtain ⟨f, es, k⟩ := c
      rw [hc] at h1 h2
      obtain ⟨rs, e1, e2, e3⟩ := h1
      simp only [callsSc, List.all_eq_true] at h2
      have h3 := h3 f es k hc
      refine ⟨rs, ?_, e2, fun j u hj => ?_⟩
      · rw [← e1]; congr 1
        exact List.map_congr_left fun e he => E.den_app hn e (h2 e he)
      · have hj' := (List.getElem?_eq_some_iff.1 hj).1
        rw [List.getD_eq_getElem?_getD, List.getElem?_append_left (by omega), ← List.getD_eq_getElem?_getD]
        exact e3 j u hj
  gs := allSc_mono (by omega) h.gs
  ss := allSc_mono (by omega) h.ss
  cs := callsSc_mono (by omega) h.cs
  ms := fun f es k hc => by have := h.ms f es k hc; omega

/-- what one step of a region's run says -/
inductive Step (C : Ctx) (ops : Array Oper) (fin : List Rec → PS → Bool) (tr : List Rec) (G : FEnv) (o : Oper) (rest : List Oper) (σ : PS) (n : Nat) (η : List U) (K : Leaf → List U → Prop) : Prop where
  | skip (asm' : List Fact) (p' : Prog) (gf : List Fact) (tg : Option Bool) (j : Nat) (b : Bool) (d : Nat) (e : E) : o.guard = some (j, b) → (ops[j]?).bind (·.dst) = some d → boolOf? (σ.slot d) = some e → (e.den η).B ≠ b →
      Facts η gf → gf.all (fun x => x.1.sc n) = true → Asm n η asm' → runR C ops fin rest (⟨gf, false, tg, n, [], none⟩ :: tr) asm' (σ.put o.dst .dead) n = some p' → wpP G p' 0 η K → Step C ops fin tr G o rest σ n η K
  | run (asm' : List Fact) (p' : Prog) (gf : List Fact) (t : Option Bool) (r : Res) (rs : List U) : (∀ j b, o.guard = some (j, b) → ∃ d e, (ops[j]?).bind (·.dst) = some d ∧ boolOf? (σ.slot d) = some e ∧ (e.den η).B = b) →
      Facts η gf → gf.all (fun x => x.1.sc n) = true → stepOp C o n t σ = some r → Facts η r.fs → r.fs.all (fun x => x.1.sc n) = true → ClOk G η r.cl rs → callsSc n r.cl = true → (r.cl.isNone || σ.sc n) = true → Asm (n + r.k) (η ++ rs) asm' →
      runR C ops fin rest (⟨gf, true, t, n, r.fs, r.cl⟩ :: tr) asm' (r.σ.put o.dst r.v) (n + r.k) = some p' → wpP G p' 0 (η ++ rs) K → Step C ops fin tr G o rest σ n η K

theorem runR_step {C : Ctx} {ops : Array Oper} {fin : List Rec → PS → Bool} {tr : List Rec} {G : FEnv} {o : Oper} {rest : List Oper} {asm : List Fact} {σ : PS} {n : Nat} {p : Prog} {η : List U} {K : Leaf → List U → Prop} (h : runR C ops fin (o :: rest) tr asm σ n = some p) (hn : η.length = n) (ha : Asm n η asm)
    (hw : wpP G p 0 η K) : Step C ops fin tr G o rest σ n η K := by
  -- an operation that is carried out
  have run : ∀ (asm : List Fact) (t : Option Bool) (gf : List Fact) (p : Prog), (∀ x ∈ asm, x ∈ gf ∨ (∀ r, stepOp C o n t σ = some r → x ∈ r.fs) ∨ (x.1.sc n = true ∧ (x.1.den η).B = x.2)) →
      goOp C o n σ (fun rc => runR C ops fin rest (rc :: tr) asm) t true gf = some p → wpP G p 0 η K → (Facts η gf → ∀ j b, o.guard = some (j, b) → ∃ d e, (ops[j]?).bind (·.dst) = some d ∧ boolOf? (σ.slot d) = some e ∧ (e.den η).B = b) → Step C ops fin tr G o rest σ n η K := by
    intro asm t gf p hasm hp hw hg
    unfold goOp at hp
    rw [if_pos rfl] at hp
    split at hp
    · rename_i r hr
      split at hp
      · rename_i hsc
        simp only [Option.map_eq_some_iff] at hp
        obtain ⟨p', hp', rfl⟩ := hp
        obtain ⟨hf, rs, hcl, hw'⟩ := wpP_chain hw
        have hf1 : Facts η gf := fun x hx => hf x (List.mem_append_left _ hx)
        have hf2 : Facts η r.fs := fun x hx => hf x (List.mem_append_right _ hx)
        have hlen := hcl.len
        rw [Bool.and_eq_true, Bool.and_eq_true, List.all_eq_true] at hsc
        obtain ⟨hsc, hscσ⟩ := hsc
        refine .run asm p' gf t r rs (hg hf1) hf1 (by rw [List.all_eq_true]; exact fun x hx => hsc.1 x (List.mem_append_left _ hx)) hr hf2 (by rw [List.all_eq_true]; exact fun x hx => hsc.1 x (List.mem_append_right _ hx)) hcl hsc.2 hscσ ?_ hp' hw'
        rw [← hlen]
        refine Asm.app hn fun x hx => ?_
        rcases hasm x hx with h2 | h2 | h2
        · exact ⟨hsc.1 x (List.mem_append_left _ h2), hf1 x h2⟩
        · exact ⟨hsc.1 x (List.mem_append_right _ (h2 r hr)), hf2 x (h2 r hr)⟩
        · exact h2
      · cases hp
    · cases hp
  have skip : ∀ (asm : List Fact) (gf : List Fact) (p : Prog) (t : Option Bool) (j : Nat) (b : Bool) (d : Nat) (e : E), o.guard = some (j, b) → (ops[j]?).bind (·.dst) = some d → boolOf? (σ.slot d) = some e → (Facts η gf → (e.den η).B ≠ b) →
      (∀ x ∈ asm, x ∈ gf ∨ (x.1.sc n = true ∧ (x.1.den η).B = x.2)) →
      goOp C o n σ (fun rc => runR C ops fin rest (rc :: tr) asm) t false gf = some p → wpP G p 0 η K → Step C ops fin tr G o rest σ n η K := by
    intro asm gf p t j b d e h1 h2 h3 h4 hasm hp hw
    unfold goOp at hp
    rw [if_neg (by simp)] at hp
    split at hp
    · rename_i hsc
      simp only [Option.map_eq_some_iff] at hp
      obtain ⟨p', hp', rfl⟩ := hp
      obtain ⟨hf, rs, hcl, hw'⟩ := wpP_chain hw
      have hcl : rs = [] := hcl
      subst hcl
      rw [List.append_nil] at hw'
      have hsc' := hsc
      rw [List.all_eq_true] at hsc
      refine .skip asm p' gf t j b d e h1 h2 h3 (h4 hf) hf hsc' (fun x hx => ?_) hp' hw'
      rcases hasm x hx with h | h
      · exact ⟨hsc x h, hf x h⟩
      · exact h
    · cases hp
  rw [runR] at h
  split at h
  · cases h
  · -- nothing is asked
    rename_i hask
    refine run asm none [] p (fun x hx => .inr (.inr (ha x hx))) h hw (fun _ j b hg => ?_)
    unfold asks at hask
    rw [hg] at hask
    simp only at hask
    split at hask
    · split at hask <;> cases hask
    · cases hask
  · rename_i e gb hask
    -- what was asked
    have hcase : (∃ j b d, gb = some b ∧ o.guard = some (j, b) ∧ (ops[j]?).bind (·.dst) = some d ∧ boolOf? (σ.slot d) = some e) ∨ (∃ c x y, gb = none ∧ o.guard = none ∧ o.op = .pick c x y ∧ boolOf? (opv σ c) = some e) := by
      unfold asks at hask
      split at hask
      · rename_i j b hg
        split at hask
        · rename_i d hd
          split at hask
          · rename_i e' he
            simp only [Option.some.injEq, Prod.mk.injEq] at hask
            obtain ⟨rfl, rfl⟩ := hask
            exact .inl ⟨j, b, d, rfl, hg, hd, he⟩
          · cases hask
        · cases hask
      · rename_i hg
        split at hask
        · rename_i c x y ho
          split at hask
          · rename_i e' he
            simp only [Option.some.injEq, Prod.mk.injEq] at hask
            obtain ⟨rfl, rfl⟩ := hask
            exact .inr ⟨c, x, y, rfl, hg, ho, he⟩
          · cases hask
        · cases hask
    -- one choice
    have one : ∀ (asm' : List Fact) (t : Bool) (p : Prog), (∀ x ∈ asm', x = (e, t) ∨ (x.1.sc n = true ∧ (x.1.den η).B = x.2)) →
        atOp C o n σ (fun asm rc => runR C ops fin rest (rc :: tr) asm) gb e asm' t = some p → wpP G p 0 η K → Step C ops fin tr G o rest σ n η K := by
      intro asm' t p hasm hp hw
      rcases hcase with ⟨j, b, d, rfl, hg, hd, he⟩ | ⟨c, x, y, rfl, hg, ho, he⟩
      · simp only [atOp] at hp
        split at hp
        · cases hp
        · by_cases ht : t = b
          · rw [show (t == b) = true by simp [ht]] at hp
            refine run asm' none [(e, t)] p (fun x hx => (hasm x hx).imp (fun h => by simp [h]) .inr) hp hw (fun hf j' b' hg' => ?_)
            rw [hg] at hg'; cases hg'
            exact ⟨d, e, hd, he, by rw [← ht]; exact hf (e, t) List.mem_cons_self⟩
          · rw [show (t == b) = false by simp [ht]] at hp
            exact skip asm' [(e, t)] p none j b d e hg hd he (fun hf hb => ht (by rw [← hb]; exact (hf (e, t) List.mem_cons_self).symm)) (fun x hx => (hasm x hx).imp (fun h => by simp [h]) id) hp hw
      · simp only [atOp] at hp
        refine run asm' (some t) [] p (fun x' hx => ?_) hp hw (fun _ j b hg' => by rw [hg] at hg'; cases hg')
        rcases hasm x' hx with rfl | h
        · right; left
          intro r hr
          unfold stepOp at hr
          rw [ho] at hr
          simp only [valOp, he] at hr
          simp only [Option.some.injEq] at hr
          rw [← hr]; simp
        · exact .inr (.inr h)
    split at h
    · rename_i t hk
      have hkn := known_sound ha hk
      exact one asm t p (fun x hx => .inr (ha x hx)) h hw
    · split at h
      · rename_i p1 p2 h1 h2
        simp only [Option.some.injEq] at h; subst h
        rcases hw with ⟨hb, hw⟩ | ⟨hb, hw⟩
        · exact one ((e, true) :: asm) true p1 (fun x hx => (List.mem_cons.1 hx).imp id (ha x)) h1 hw
        · exact one ((e, false) :: asm) false p2 (fun x hx => (List.mem_cons.1 hx).imp id (ha x)) h2 hw
      · cases h

section
variable {P : Program} {w0 : World} {M : List Nat} {fx : Fx}

theorem yielded_of {ops : Array Oper} {I : In} {η : List U} {σ : PS} {a : Act} {w : World} (hr : Rel' w0 M I η σ a w) {j d : Nat} {e : E} (hd : (ops[j]?).bind (·.dst) = some d) (he : boolOf? (σ.slot d) = some e) : yielded ops a.tmps j = some (e.den η).B := by
  have h1 := slot_rel hr.slots d
  have h2 : σ.slots.getD d .dead = .val (.leaf (.u .bool e)) := boolOf?_some he
  rw [h2] at h1
  obtain ⟨b, hb, hu⟩ := Rd.bool_inv h1
  have hlt : d < a.tmps.size := by
    rcases Nat.lt_or_ge d a.tmps.size with h | h
    · exact h
    · have : a.tmps.getD d undef = undef := by simp [h]
      rw [this] at hb; cases hb
  have h3 : a.tmps[d]? = some (.bool b) := by
    have : a.tmps.getD d undef = a.tmps[d] := by simp [hlt]
    rw [this] at hb; rw [Array.getElem?_eq_getElem hlt, hb]
  unfold yielded
  rw [hd]
  simp [h3, hu]

theorem runR_list {C : Ctx} {G : FEnv} (hT : TabOK P C.T) (hG : EnvOK P C.sigs G) (hnp : fx.N ≤ C.np) {ops : Array Oper} {fin : List Rec → PS → Bool} {K : Leaf → List U → Prop} {Q : Exit → Act → World → Prop} (hK : KSt w0 M fx K Q) :
    ∀ (rest : List Oper) (tr : List Rec) (asm : List Fact) (σ : PS) (n : Nat) (p : Prog) (η : List U) (a : Act) (w : World), runR C ops fin rest tr asm σ n = some p → η.length = n → Asm n η asm → Rel w0 M fx η σ a w → wpP G p 0 η K → wpList P ops Q rest a w
  | [], tr, asm, σ, n, p, η, a, w, h, hn, ha, hr, hw => by
    simp only [runR, Option.ite_none_right_eq_some, Option.some.injEq] at h; obtain ⟨_, rfl⟩ := h
    exact wpList_nil (hK.st .norm n _ η hw a w (hr.kill _))
  | o :: rest, tr, asm, σ, n, p, η, a, w, h, hn, ha, hr, hw => by
    obtain ⟨I, hr, hfx⟩ := hr
    refine wpList_step fun K' hK' => ?_
    rcases runR_step h hn ha hw with ⟨asm', p', gf, tg, j, b, d, e, hg, hd, he, hne, _, _, ha', hp', hw'⟩ | ⟨asm', p', gf, t, r, rs, hg, _, _, hs, hf, hfsc, hcl, hcsc, hσsc, ha', hp', hw'⟩
    · have hy := yielded_of hr hd he
      have hwn : Region.wanted o (yielded ops a.tmps) = false := by
        unfold Region.wanted; rw [hg]; simp only [hy]; simpa using hne
      rw [if_neg (by simp [hwn])]
      exact hK' _ _ (runR_list hT hG hnp hK rest _ asm' _ n p' η _ w hp' hn ha' ⟨I, put_rel o.dst hr trivial, hfx⟩ hw')
    · have hwn : Region.wanted o (yielded ops a.tmps) = true := by
        unfold Region.wanted
        split
        · rfl
        · rename_i j b hgd
          obtain ⟨d, e, hd, he, hb⟩ := hg j b hgd
          simp only [yielded_of hr hd he, hb]; simp
      rw [if_pos hwn]
      have hlen := hcl.len
      refine stepOp_sound hT hG hnp hs (hr.out hn hσsc hcl) hfx (hf.app hn hfsc) (hcl.at hn hcsc) fun x w' hrel => ?_
      exact hK' _ _ (runR_list hT hG hnp hK rest _ asm' _ (n + r.k) p' (η ++ rs) _ w' hp' (by simp [hn, hlen]) ha' hrel hw')
/-- a way through a region's program: the records of all its operations hold at its end -/
theorem runR_path {C : Ctx} {G : FEnv} {ops : Array Oper} {fin : List Rec → PS → Bool} {K : Leaf → List U → Prop} :
    ∀ (rest : List Oper) (tr : List Rec) (asm : List Fact) (σ : PS) (n : Nat) (p : Prog) (η : List U), runR C ops fin rest tr asm σ n = some p → η.length = n → Asm n η asm → (∀ rc ∈ tr, RecOk G η n rc) → wpP G p 0 η K →
      ∃ (ζ : List U) (tr' : List Rec) (σ' : PS) (m : Nat), fin tr' σ' = true ∧ (∀ rc ∈ tr', RecOk G (η ++ ζ) m rc) ∧ (η ++ ζ).length = m ∧ K (.st .norm m (σ'.kill C.keep)) (η ++ ζ)
  | [], tr, asm, σ, n, p, η, h, hn, ha, htr, hw => by
    simp only [runR, Option.ite_none_right_eq_some, Option.some.injEq] at h; obtain ⟨hf, rfl⟩ := h
    exact ⟨[], tr, σ, n, hf, by rw [List.append_nil]; exact htr, by rw [List.append_nil]; exact hn, by rw [List.append_nil]; exact hw⟩
  | o :: rest, tr, asm, σ, n, p, η, h, hn, ha, htr, hw => by
    rcases runR_step h hn ha hw with ⟨asm', p', gf, tg, j, b, d, e, hg, hd, he, hne, hgf, hgs, ha', hp', hw'⟩ | ⟨asm', p', gf, t, r, rs, hg, hgf, hgs, hs, hf, hfsc, hcl, hcsc, hσsc, ha', hp', hw'⟩
    · refine runR_path rest _ asm' _ n p' η hp' hn ha' (fun rc hrc => ?_) hw'
      rcases List.mem_cons.1 hrc with rfl | hrc
      · exact ⟨hgf, fun x hx => by simp at hx, trivial, hgs, rfl, rfl, fun f es k h => by cases h⟩
      · exact htr rc hrc
    · have hlen := hcl.len
      obtain ⟨ζ, tr', σ', m, h1, h2, h3, h4⟩ := runR_path rest _ asm' _ (n + r.k) p' (η ++ rs) hp' (by simp [hn, hlen]) ha' (fun rc hrc => by
        rcases List.mem_cons.1 hrc with rfl | hrc
        · refine ⟨hgf.app hn hgs, hf.app hn hfsc, hcl.at hn hcsc, allSc_mono (by omega) hgs, allSc_mono (by omega) hfsc, callsSc_mono (by omega) hcsc, fun f es k h => ?_⟩
          have h : r.cl = some (f, es, k) := h
          have : r.k = k := by unfold Res.k; rw [h]
          show n + k ≤ n + r.k
          omega
        · rw [← hlen]; exact (htr rc hrc).app hn) hw'
      exact ⟨rs ++ ζ, tr', σ', m, h1, by rw [← List.append_assoc]; exact h2, by rw [← List.append_assoc]; exact h3, by rw [← List.append_assoc]; exact h4⟩
end
end Go.Proofs.YtibbceoibcnpcaaGreat.Eng
