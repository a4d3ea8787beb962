/- The engine, part F: the executor is sound over pieces of code, out of its soundness over regions. No condition. -/
import Derived.Test.YtibbceoibcnpcaaGreatEngE
namespace Go.Proofs.YtibbceoibcnpcaaGreat.Eng
open Go

def exOf : Ex → Exit | .norm => .normal | .exit id => .exit id | .ret => .ret
structure KSt (w0 : World) (M : List Nat) (fx : Fx) (K : Leaf → List U → Prop) (Q : Exit → Act → World → Prop) : Prop where
  st : ∀ x m σ η, K (.st x m σ) η → ∀ a w, Rel w0 M fx η σ a w → Q (exOf x) a w
  vals : ∀ l es η, ¬ K (.vals l es) η
  res : ∀ es η, ¬ K (.res es) η

/-- what is to be shown of a program p that was made of the code c -/
def Sound (P : Program) (G : FEnv) (w0 : World) (M : List Nat) (fx : Fx) (c : Code) (p : Prog) (σ : PS) (n : Nat) : Prop :=
  ∀ η a w K Q, η.length = n → Rel w0 M fx η σ a w → wpP G p 0 η K → KSt w0 M fx K Q → c.wp P Q a w

theorem wp_of {P : Program} {c : Code} {Q Q' : Exit → Act → World → Prop} {a : Act} {w : World} (h : c.wp P Q a w) (hq : ∀ e a w, Q e a w → Q' e a w) : c.wp P Q' a w := Code.wp_mono hq h

theorem findT_some : ∀ {ts : List Tmp3} {x : Ex} {lab : Nat} {T : PS} {k : Nat}, findT ts x = some (lab, T, k) → ts[lab]? = some (x, T, k)
  | (y, S, j) :: r, x, lab, T, k, h => by
    simp only [findT] at h
    split at h
    · rename_i hy; cases h; have := of_decide_eq_true hy; subst this; rfl
    · simp only [Option.map_eq_some_iff] at h
      obtain ⟨⟨l, S', j'⟩, h1, h2⟩ := h
      cases h2
      simpa using findT_some h1

theorem wpP_alts {G : FEnv} {n : Nat} {g : PS → Nat → Option Prog} {η : List U} {K : Leaf → List U → Prop} : ∀ {ts : List Tmp3} {c : Prog} {lab : Nat} {x : Ex} {T : PS} {k : Nat}, alts n g ts = some c → ts[lab]? = some (x, T, k) →
    wpP G c lab η K → ∃ q, alt1 n g x T k = some q ∧ wpP G q 0 η K
  | (y, S, j) :: r, c, lab, x, T, k, h, ht, hp => by
    simp only [alts] at h
    split at h
    · rename_i q c' h1 h2; cases h
      cases lab with
      | zero => simp at ht; obtain ⟨rfl, rfl, rfl⟩ := ht; exact ⟨q, h1, hp⟩
      | succ lab => exact wpP_alts h2 (by simpa using ht) hp
    · cases h

-- operands
theorem slot_rel {R w η I σ} {ss : List SV} {vs : Array Value} (h : All2 (SVr R w η I σ) ss vs.toList) (t : Nat) : SVr R w η I σ (ss.getD t .dead) (vs.getD t undef) := by
  cases hs : ss[t]? with
  | none => simp [hs]; trivial
  | some s =>
    obtain ⟨v, hv, hr⟩ := h.get hs
    have : vs[t]? = some v := by simpa using hv
    simp [hs, this]; exact hr
theorem opv_rel {w0 M I η σ a w} (h : Rel' w0 M I η σ a w) : ∀ (x : Operand), SVr (Ok I σ w) w η I σ (opv σ x) (a.eval x)
  | .tmp t => slot_rel h.slots t
  | .const v => by
    simp only [opv, Act.eval]
    unfold constV
    split
    · exact Rd.int _ _
    · exact Rd.bool _
    · rename_i s
      simp only [SVr, TVr, LVr, E.den]
      exact Rd.str s
    · rfl
    · trivial
  | .global g => trivial
  | .func f => ⟨by simp [Act.eval], by simp⟩
theorem boolOf?_some {v : SV} {e : E} (h : boolOf? v = some e) : v = .val (.leaf (.u .bool e)) := by
  unfold boolOf? at h; split at h
  · cases h; rfl
  · cases h
theorem Rd.bool_inv {R w v u} (h : Rd R w .bool v u) : ∃ b, v = .bool b ∧ u = .bool b := by cases h; exact ⟨_, rfl, rfl⟩
theorem opv_bool {w0 M I η σ a w} (h : Rel' w0 M I η σ a w) {x : Operand} {e : E} (he : boolOf? (opv σ x) = some e) : a.eval x = .bool (e.den η).B := by
  have := opv_rel h x
  rw [boolOf?_some he] at this
  obtain ⟨b, hb, hu⟩ := Rd.bool_inv this
  rw [hb, hu]; rfl
theorem lit?_some {e : E} {b : Bool} {η : List U} (h : lit? e = some b) : (e.den η).B = b := by
  unfold lit? at h; split at h
  · cases h; rfl
  · cases h

section
variable {P : Program} {G : FEnv} {w0 : World} {M : List Nat} {fx : Fx}

/-- behind a piece of code another: by joinP; N: what the other one comes to -/
theorem Sound.joinP {a : Code} {p p' : Prog} {σ : PS} {n : Nat} {g : PS → Nat → Option Prog} (N : (Exit → Act → World → Prop) → Act → World → Prop) (hp : joinP n p g = some p') (ha : Sound P G w0 M fx a p σ n)
    (hb : ∀ σ1 m q, g σ1 m = some q → ∀ η act w K Q, η.length = m → Rel w0 M fx η σ1 act w → wpP G q 0 η K → KSt w0 M fx K Q → N Q act w) :
    ∀ η act w K Q, η.length = n → Rel w0 M fx η σ act w → wpP G p' 0 η K → KSt w0 M fx K Q → a.wp P (Exit.then (N Q) Q) act w := by
  intro η act w K Q hn hr hw hK
  unfold Eng.joinP at hp
  simp only at hp
  split at hp
  · have h1 := wpP_bindL p p' 0 η K hp hw (.inl rfl)
    refine ha η act w _ _ hn hr h1 ⟨fun x m σ1 η1 hk a1 w1 hr1 => ?_, fun l es η1 hk => hk, fun es η1 hk => hk⟩
    obtain ⟨q, hq, hwq⟩ := hk
    cases x with
    | norm =>
      simp only [graft, Option.map_eq_some_iff] at hq
      obtain ⟨q0, hq0, rfl⟩ := hq
      exact hb σ1 m q0 hq0 η1 a1 w1 K Q hwq.1 hr1 hwq.2 hK
    | exit id => simp only [graft, Option.some.injEq] at hq; subst hq; exact hK.st (.exit id) m σ1 η1 hwq a1 w1 hr1
    | ret => simp only [graft, Option.some.injEq] at hq; subst hq; exact hK.st .ret m σ1 η1 hwq a1 w1 hr1
  · generalize hts : tmplsOf n p.leaves (kindsOf [.norm] (p.leaves.map (·.1))) = ts at hp
    split at hp
    · rename_i pm c hpm hc; cases hp
      have h1 := wpP_bindL p pm 0 η _ hpm hw (.inl rfl)
      have h2 := wpP_ext p 0 η _ h1
      refine ha η act w _ _ hn hr h2 ⟨fun x m σ1 η1 hk a1 w1 hr1 => ?_, fun l es η1 hk => hk.1, fun es η1 hk => hk.1⟩
      obtain ⟨⟨q, hq, hwq⟩, ζ, rfl⟩ := hk
      simp only [capt] at hq
      split at hq
      · rename_i lab T k hT
        split at hq
        · rename_i es hes
          split at hq
          · rename_i hk; cases hq
            have hk := Nat.eq_of_beq_eq_true hk
            obtain ⟨I, hr1, hfx⟩ := hr1
            have hrT : Rel w0 M fx (η ++ es.map (E.den (η ++ ζ))) T a1 w1 := ⟨I, fit_sound hn hes hr1, hfx⟩
            obtain ⟨q, hq, hwq⟩ := wpP_alts hc (findT_some hT) hwq
            have hlen : (η ++ es.map (E.den (η ++ ζ))).length = n + k := by simp [hn, hk]
            cases x with
            | norm => exact hb T (n + k) q hq _ a1 w1 K Q hlen hrT hwq hK
            | exit id => simp only [alt1, Option.some.injEq] at hq; subst hq; exact hK.st (.exit id) _ T _ hwq a1 w1 hrT
            | ret => simp only [alt1, Option.some.injEq] at hq; subst hq; exact hK.st .ret _ T _ hwq a1 w1 hrT
          · cases hq
        · cases hq
      · cases hq
    · cases hp

theorem Sound.block {id : Nat} {c : Code} {p p' : Prog} {σ : PS} {n : Nat} (hp : p.bindL (unE id) = some p') (hc : Sound P G w0 M fx c p σ n) : Sound P G w0 M fx (.block id c) p' σ n := by
  intro η act w K Q hn hr hw hK
  have h1 := wpP_bindL p p' 0 η K hp hw (.inl rfl)
  refine wp_block (hc η act w _ _ hn hr h1 ⟨fun x m σ1 η1 hk a1 w1 hr1 => ?_, fun l es η1 hk => hk, fun es η1 hk => hk⟩)
  obtain ⟨q, hq, hwq⟩ := hk
  cases x with
  | norm => simp only [unE, Option.some.injEq] at hq; subst hq; exact hK.st .norm m σ1 η1 hwq a1 w1 hr1
  | ret => simp only [unE, Option.some.injEq] at hq; subst hq; exact hK.st .ret m σ1 η1 hwq a1 w1 hr1
  | exit j =>
    simp only [unE] at hq
    split at hq
    · rename_i hj; cases hq
      have hj := Nat.eq_of_beq_eq_true hj
      simp only [exOf, Exit.inBlock, hj, if_true]
      exact hK.st .norm m σ1 η1 hwq a1 w1 hr1
    · rename_i hj; cases hq
      have hj : ¬ j = id := fun e => hj (by rw [e]; exact beq_self _)
      simp only [exOf, Exit.inBlock, hj, if_false]
      exact hK.st (.exit j) m σ1 η1 hwq a1 w1 hr1

theorem Sound.loop {c : Code} {body : PS → Nat → Option Prog} {σ : PS} {n : Nat} {p' : Prog} (hp : execL c body σ n = some p') (hc : ∀ T m q, body T m = some q → Sound P G w0 M fx c q T m) : Sound P G w0 M fx (.loop c) p' σ n := by
  intro η act w K Q hn hr hw hK
  unfold execL at hp
  simp only at hp
  split at hp
  · cases hp
  split at hp
  · cases hp
  split at hp
  · rename_i init q hinit hq
    split at hp
    · rename_i hk
      have hk := Nat.eq_of_beq_eq_true hk
      generalize weak n _ _ = T1 at hinit hq hp
      generalize Prod.snd _ = k1 at hk hq hp
      generalize tmplsOf n q.leaves _ = ts at hp
      split at hp
      · rename_i pb ca hpb hca; cases hp
        obtain ⟨fuel, hf⟩ := hw
        refine wp_loop_rounds fuel ?_
        obtain ⟨I, hr, hfx⟩ := hr
        have hr0 : Rel w0 M fx (η ++ init.map (E.den η)) T1 act w := by
          have := fit_sound (η := η) (ζ := []) hn hinit (by rw [List.append_nil]; exact hr)
          rw [List.append_nil] at this
          exact ⟨I, this, hfx⟩
        have hl0 : (init.map (E.den η)).length = k1 := by simp [hk]
        clear hr hinit
        generalize init.map (E.den η) = us at hf hr0 hl0
        induction fuel generalizing us act w with
        | zero => exact hf.elim
        | succ fuel ih =>
          have hlen : (η ++ us).length = n + k1 := by simp [hn, hl0]
          have h1 := wpP_bindL q pb 0 (η ++ us) _ hpb hf (.inl rfl)
          have h2 := wpP_ext q 0 (η ++ us) _ h1
          refine hc T1 (n + k1) q hq (η ++ us) act w _ _ hlen hr0 h2 ⟨fun x m σ1 η1 hk1 a1 w1 hr1 => ?_, fun l es η1 hk => hk.1, fun es η1 hk => hk.1⟩
          obtain ⟨⟨q1, hq1, hwq⟩, ζ, rfl⟩ := hk1
          simp only [capt] at hq1
          split at hq1
          · rename_i lab T k hT
            split at hq1
            · rename_i es hes
              split at hq1
              · rename_i hk2; cases hq1
                have hk2 := Nat.eq_of_beq_eq_true hk2
                obtain ⟨I1, hr1, hfx1⟩ := hr1
                rw [List.append_assoc] at hr1 hwq
                have hrT : Rel w0 M fx (η ++ es.map (E.den (η ++ (us ++ ζ)))) T a1 w1 := ⟨I1, fit_sound hn hes hr1, hfx1⟩
                have hT' := findT_some hT
                have hlen2 : (η ++ es.map (E.den (η ++ (us ++ ζ)))).length = n + k := by simp [hn, hk2]
                cases lab with
                | zero =>
                  simp at hT'
                  obtain ⟨rfl, rfl, rfl⟩ := hT'
                  exact ih a1 w1 _ hwq hrT (by simp [hk2])
                | succ lab =>
                  obtain ⟨q2, hq2, hwq2⟩ := wpP_alts hca (by simpa using hT') hwq
                  cases x with
                  | norm => simp [findT] at hT
                  | exit id => simp only [alt1, Option.some.injEq] at hq2; subst hq2; exact hK.st (.exit id) _ T _ hwq2 a1 w1 hrT
                  | ret => simp only [alt1, Option.some.injEq] at hq2; subst hq2; exact hK.st .ret _ T _ hwq2 a1 w1 hrT
              · cases hq1
            · cases hq1
          · cases hq1
      · cases hp
    · cases hp
  · cases hp

/-- the executor is sound, out of its soundness over regions -/
theorem exec_sound {C : Ctx} (hreg : ∀ id ops draw σ n p, σ.sc n = true → runR C ops (if draw && !quietR C ops && !tailR C ops then anyFin C ops σ else fun _ _ => true) ops.toList [] [] σ n = some p → Sound P G w0 M fx (.region id ops draw) p σ n) :
    ∀ c σ n p, exec C c σ n = some p → Sound P G w0 M fx c p σ n
  | .skip, σ, n, p, h => by
    simp only [exec, Option.some.injEq] at h; subst h
    intro η a w K Q hn hr hw hK
    exact wp_skip (hK.st .norm n σ η hw a w hr)
  | .region id ops draw, σ, n, p, h => by
    simp only [exec] at h
    split at h
    · cases h
    rename_i hsc
    split at h
    · rename_i p0 hp0
      intro η a w K Q hn hr hw hK
      refine wp_of (Sound.joinP (N := fun Q => Q .normal) h (hreg id ops draw σ n p0 (by simpa using hsc) hp0) (fun σ1 m q hq η1 a1 w1 K1 Q1 hm hr1 hw1 hK1 => ?_) η a w K Q hn hr hw hK) ?_
      · simp only [leafG, Option.some.injEq] at hq; subst hq
        exact hK1.st .norm m σ1 η1 hw1 a1 w1 hr1
      · intro e a w hq; cases e <;> exact hq
    · cases h
  | .seq a b, σ, n, p, h => by
    simp only [exec] at h
    split at h
    · rename_i p0 hp0
      intro η act w K Q hn hr hw hK
      exact wp_seq (Sound.joinP (N := fun Q => b.wp P Q) h (exec_sound hreg a σ n p0 hp0) (fun σ1 m q hq => exec_sound hreg b σ1 m q hq) η act w K Q hn hr hw hK)
    · cases h
  | .cond c a b, σ, n, p, h => by
    simp only [exec] at h
    split at h
    · rename_i e he
      intro η act w K Q hn hr hw hK
      obtain ⟨I, hr', _⟩ := id hr
      have hc : act.eval c = .bool (e.den η).B := opv_bool hr' he
      split at h
      · rename_i hl
        refine wp_cond hc ?_
        rw [lit?_some hl]
        exact exec_sound hreg a σ n p h η act w K Q hn hr hw hK
      · rename_i hl
        refine wp_cond hc ?_
        rw [lit?_some hl]
        exact exec_sound hreg b σ n p h η act w K Q hn hr hw hK
      · split at h
        · rename_i p1 p2 h1 h2; cases h
          refine wp_cond hc ?_
          rcases hw with ⟨hb, hw⟩ | ⟨hb, hw⟩ <;> rw [hb]
          · exact exec_sound hreg a σ n p1 h1 η act w K Q hn hr hw hK
          · exact exec_sound hreg b σ n p2 h2 η act w K Q hn hr hw hK
        · cases h
    · cases h
  | .block id c, σ, n, p, h => by
    simp only [exec] at h
    split at h
    · rename_i p0 hp0; exact Sound.block h (exec_sound hreg c σ n p0 hp0)
    · cases h
  | .loop c, σ, n, p, h => by
    simp only [exec] at h
    exact Sound.loop h (fun T m q hq => exec_sound hreg c T m q hq)
  | .exit id, σ, n, p, h => by
    simp only [exec, Option.some.injEq] at h; subst h
    intro η a w K Q hn hr hw hK
    exact wp_exit (hK.st (.exit id) n σ η hw a w hr)
  | .ret, σ, n, p, h => by
    simp only [exec, Option.some.injEq] at h; subst h
    intro η a w K Q hn hr hw hK
    exact wp_ret (hK.st .ret n σ η hw a w hr)
  | .rangeFunc .., _, _, _, h | .scope _, _, _, _, h | .label _, _, _, _, h | .goto _, _, _, _, h | .refuse _, _, _, _, h => by simp [exec] at h
end
end Go.Proofs.YtibbceoibcnpcaaGreat.Eng
