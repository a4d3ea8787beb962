/- The engine, part Y: two functions with one program, but for the numbers of their callees and for guards that hold: one answer for both. No condition. -/
import Derived.Test.YtibbceoibcnpcaaGreatEngW
namespace Go.Proofs.YtibbceoibcnpcaaGreat.Eng
open Go

def stripP (n : Option Nat) (asm : List Fact) : Prog → Option Prog
  | .chk k p => if decide (n = some k) then stripP n asm p else none
  | .guard b t p => if decide (known asm b = some t) then stripP n asm p else none
  | p => some p
def leafB : Leaf → Leaf → Bool
  | .vals a x, .vals b y => Nat.beq a b && decide (x = y)
  | .res x, .res y => decide (x = y)
  | _, _ => false
def addAsm (n : Option Nat) (b : E) (t : Bool) (asm : List Fact) : List Fact := match n with
  | some k => if b.sc k then (b, t) :: asm else asm
  | none => asm
def Prog.isAlt : Prog → Bool | .alt _ _ => true | _ => false
def impB (m : List (Nat × Nat)) : Prog → Option Nat → List Fact → Prog → Bool
  | .chk k p, _, asm, p' => !p'.isAlt && impB m p (some k) asm p'
  | .guard b t p, n, asm, p' => match p' with
    | .guard b' t' p1 => if decide (b = b') && decide (t = t') then !p1.isAlt && impB m p n (addAsm n b t asm) p1 else impB m p n (addAsm n b t asm) (.guard b' t' p1)
    | p' => !p'.isAlt && impB m p n (addAsm n b t asm) p'
  | .leaf l, n, asm, p' => match stripP n asm p' with | some (.leaf l') => leafB l l' | _ => false
  | .call f es k p, n, asm, p' => match stripP n asm p' with
    | some (.call f' es' k' p'') => m.any (fun x => Nat.beq x.1 f && Nat.beq x.2 f') && decide (es = es') && Nat.beq k k' && impB m p (n.map (· + k)) asm p''
    | _ => false
  | .cond b p q, n, asm, p' => match stripP n asm p' with
    | some (.cond b' p1 q1) => decide (b = b') && impB m p n (addAsm n b true asm) p1 && impB m q n (addAsm n b false asm) q1
    | _ => false
  | .join p c, n, asm, p' => match stripP n asm p' with
    | some (.join p1 c1) => impB m p n asm p1 && impB m c none asm c1
    | _ => false
  | .loop i b c, n, asm, p' => match stripP n asm p' with
    | some (.loop i1 b1 c1) => decide (i = i1) && impB m b none asm b1 && impB m c none asm c1
    | _ => false
  | .alt q c, n, asm, p' => match p' with
    | .alt q1 c1 => impB m q n asm q1 && impB m c n asm c1
    | _ => false
  | .stop, _, _, _ => true

theorem stripP_back {G : FEnv} {n : Option Nat} {asm : List Fact} {η : List U} {K : Leaf → List U → Prop} (hn : ∀ k, n = some k → η.length = k) (ha : Asm η.length η asm) : ∀ {p q : Prog}, stripP n asm p = some q → q.isAlt = false → wpP G q 0 η K → ∀ lab, wpP G p lab η K
  | .chk k p, q, h, hq, hw, lab => by
    simp only [stripP] at h
    split at h
    · rename_i hk
      exact ⟨hn k (of_decide_eq_true hk), stripP_back hn ha h hq hw 0⟩
    · cases h
  | .guard b t p, q, h, hq, hw, lab => by
    simp only [stripP] at h
    split at h
    · rename_i hk
      exact ⟨known_sound ha (of_decide_eq_true hk), stripP_back hn ha h hq hw 0⟩
    · cases h
  | .leaf l, q, h, _, hw, lab => by simp only [stripP, Option.some.injEq] at h; subst h; exact hw
  | .call f es k p, q, h, _, hw, lab => by simp only [stripP, Option.some.injEq] at h; subst h; exact hw
  | .cond b p1 p2, q, h, _, hw, lab => by simp only [stripP, Option.some.injEq] at h; subst h; exact hw
  | .join p1 c, q, h, _, hw, lab => by simp only [stripP, Option.some.injEq] at h; subst h; exact hw
  | .loop i b c, q, h, _, hw, lab => by simp only [stripP, Option.some.injEq] at h; subst h; exact hw
  | .stop, q, h, _, hw, lab => by simp only [stripP, Option.some.injEq] at h; subst h; exact hw
  | .alt a c, q, h, hq, _, _ => by simp only [stripP, Option.some.injEq] at h; subst h; cases hq

theorem addAsm_ok {n : Option Nat} {asm : List Fact} {b : E} {t : Bool} {η : List U} (hn : ∀ k, n = some k → η.length = k) (ha : Asm η.length η asm) (hb : (b.den η).B = t) : Asm η.length η (addAsm n b t asm) := by
  unfold addAsm
  split
  · rename_i k
    split
    · rename_i hs
      intro x hx
      rcases List.mem_cons.1 hx with rfl | hx
      · exact ⟨by rw [hn k rfl]; exact hs, hb⟩
      · exact ha x hx
    · exact ha
  · exact ha
theorem Asm.app' {η ζ : List U} {asm : List Fact} (h : Asm η.length η asm) : Asm (η ++ ζ).length (η ++ ζ) asm := by
  have := Asm.app (ζ := ζ) rfl h
  rwa [List.length_append]

theorem leafB_eq {l l' : Leaf} (h : leafB l l' = true) : l = l' := by
  unfold leafB at h
  split at h
  · simp only [Bool.and_eq_true, decide_eq_true_eq] at h
    rw [Nat.eq_of_beq_eq_true h.1, h.2]
  · rw [of_decide_eq_true h]
  · cases h

/-- the callees' answers agree -/
def HM (m : List (Nat × Nat)) (G G' : FEnv) : Prop := ∀ x ∈ m, ∀ us rs, G x.1 us = some rs → G' x.2 us = some rs
theorem impB_sound {m : List (Nat × Nat)} {G G' : FEnv} (hm : HM m G G') :
    ∀ (p : Prog) (n : Option Nat) (asm : List Fact) (p' : Prog) (lab lab' : Nat) (η : List U) (K : Leaf → List U → Prop), impB m p n asm p' = true → (∀ k, n = some k → η.length = k) → Asm η.length η asm → (lab' = lab ∨ p'.isAlt = false) → wpP G p lab η K → wpP G' p' lab' η K
  | .chk k p, n, asm, p', lab, lab', η, K, h, hn, ha, hl, hw => by
    simp only [impB, Bool.and_eq_true, Bool.not_eq_true'] at h
    exact impB_sound hm p (some k) asm p' 0 lab' η K h.2 (fun j hj => by cases hj; exact hw.1) ha (.inr h.1) hw.2
  | .guard b t p, n, asm, p', lab, lab', η, K, h, hn, ha, hl, hw => by
    simp only [impB] at h
    split at h
    · rename_i b' t' p1
      split at h
      · rename_i he
        simp only [Bool.and_eq_true, decide_eq_true_eq, Bool.not_eq_true'] at h he
        obtain ⟨rfl, rfl⟩ := he
        exact ⟨hw.1, impB_sound hm p n _ p1 0 0 η K h.2 hn (addAsm_ok hn ha hw.1) (.inr h.1) hw.2⟩
      · exact impB_sound hm p n _ (.guard b' t' p1) 0 lab' η K h hn (addAsm_ok hn ha hw.1) (.inr rfl) hw.2
    · simp only [Bool.and_eq_true, Bool.not_eq_true'] at h
      exact impB_sound hm p n _ _ 0 lab' η K h.2 hn (addAsm_ok hn ha hw.1) (.inr h.1) hw.2
  | .leaf l, n, asm, p', lab, lab', η, K, h, hn, ha, hl, hw => by
    simp only [impB] at h
    split at h
    · rename_i l' hs
      have := leafB_eq h; subst this
      exact stripP_back hn ha hs rfl hw lab'
    · cases h
  | .call f es k p, n, asm, p', lab, lab', η, K, h, hn, ha, hl, hw => by
    simp only [impB] at h
    split at h
    · rename_i f' es' k' p'' hs
      simp only [Bool.and_eq_true, List.any_eq_true, decide_eq_true_eq] at h
      obtain ⟨⟨⟨⟨x, hx, h1, h2⟩, h3⟩, h4⟩, h5⟩ := h
      have h1 := Nat.eq_of_beq_eq_true h1; have h2 := Nat.eq_of_beq_eq_true h2; have h4 := Nat.eq_of_beq_eq_true h4
      subst h1; subst h2; subst h3; subst h4
      obtain ⟨rs, e1, e2, e3⟩ := hw
      refine stripP_back hn ha hs rfl ⟨rs, hm x hx _ _ e1, e2, ?_⟩ lab'
      by_cases hal : p''.isAlt = true
      · exact impB_sound hm p _ asm p'' 0 0 _ K h5 (fun j hj => by
          cases n with
          | none => cases hj
          | some i => simp only [Option.map_some, Option.some.injEq] at hj; rw [List.length_append, hn i rfl, e2]; exact hj) ha.app' (.inl rfl) e3
      · exact impB_sound hm p _ asm p'' 0 0 _ K h5 (fun j hj => by
          cases n with
          | none => cases hj
          | some i => simp only [Option.map_some, Option.some.injEq] at hj; rw [List.length_append, hn i rfl, e2]; exact hj) ha.app' (.inl rfl) e3
    · cases h
  | .cond b p q, n, asm, p', lab, lab', η, K, h, hn, ha, hl, hw => by
    simp only [impB] at h
    split at h
    · rename_i b' p1 q1 hs
      simp only [Bool.and_eq_true, decide_eq_true_eq] at h
      obtain ⟨⟨h1, h2⟩, h3⟩ := h
      subst h1
      refine stripP_back hn ha hs rfl (hw.imp (fun x => ⟨x.1, ?_⟩) (fun x => ⟨x.1, ?_⟩)) lab'
      · exact impB_sound hm p n _ p1 0 0 η K h2 hn (addAsm_ok hn ha x.1) (.inl rfl) x.2
      · exact impB_sound hm q n _ q1 0 0 η K h3 hn (addAsm_ok hn ha x.1) (.inl rfl) x.2
    · cases h
  | .join p c, n, asm, p', lab, lab', η, K, h, hn, ha, hl, hw => by
    simp only [impB] at h
    split at h
    · rename_i p1 c1 hs
      simp only [Bool.and_eq_true] at h
      refine stripP_back hn ha hs rfl ?_ lab'
      have h1 := impB_sound hm p n asm p1 0 0 η _ h.1 hn ha (.inl rfl) hw
      refine wpP_mono p1 0 η _ _ (fun l ζ hl => ?_) h1
      match l, hl with
      | .vals lb es, hl => exact impB_sound hm c none asm c1 lb lb _ K h.2 (fun k hk => by cases hk) ha.app' (.inl rfl) hl
    · cases h
  | .loop i b c, n, asm, p', lab, lab', η, K, h, hn, ha, hl, hw => by
    simp only [impB] at h
    split at h
    · rename_i i1 b1 c1 hs
      simp only [Bool.and_eq_true, decide_eq_true_eq] at h
      obtain ⟨⟨h1, h2⟩, h3⟩ := h
      subst h1
      refine stripP_back hn ha hs rfl ?_ lab'
      obtain ⟨fuel, hf⟩ := hw
      refine ⟨fuel, iterP_mono (fun us R R' hR hst => ?_) fuel _ hf⟩
      have h4 := impB_sound hm b none asm b1 0 0 _ _ h2 (fun k hk => by cases hk) ha.app' (.inl rfl) hst
      refine wpP_mono b1 0 _ _ _ (fun l ζ hl => ?_) h4
      match l, hl with
      | .vals 0 es, hl => exact hR _ hl
      | .vals (lb + 1) es, hl => exact impB_sound hm c none asm c1 lb lb _ K h3 (fun k hk => by cases hk) ha.app' (.inl rfl) hl
    · cases h
  | .alt q c, n, asm, p', lab, lab', η, K, h, hn, ha, hl, hw => by
    simp only [impB] at h
    split at h
    · rename_i q1 c1
      simp only [Bool.and_eq_true] at h
      have hl : lab' = lab := hl.resolve_right (by simp [Prog.isAlt])
      subst hl
      cases lab' with
      | zero => exact impB_sound hm q n asm q1 0 0 η K h.1 hn ha (.inl rfl) hw
      | succ lb => exact impB_sound hm c n asm c1 lb lb η K h.2 hn ha (.inl rfl) hw
    · cases h
  | .stop, n, asm, p', lab, lab', η, K, h, hn, ha, hl, hw => hw.elim

/-- a run comes to one leaf -/
theorem wpP_reach {G : FEnv} : ∀ (p : Prog) (lab : Nat) (η : List U) (K : Leaf → List U → Prop), wpP G p lab η K → ∃ l ζ, K l (η ++ ζ) ∧ wpP G p lab η fun l' η' => l' = l ∧ η' = η ++ ζ
  | .leaf l, _, η, K, h => ⟨l, [], by rw [List.append_nil]; exact h, rfl, by rw [List.append_nil]⟩
  | .stop, _, _, _, h => h.elim
  | .chk n p, _, η, K, h => by
    obtain ⟨l, ζ, h1, h2⟩ := wpP_reach p 0 η K h.2
    exact ⟨l, ζ, h1, h.1, h2⟩
  | .guard b t p, _, η, K, h => by
    obtain ⟨l, ζ, h1, h2⟩ := wpP_reach p 0 η K h.2
    exact ⟨l, ζ, h1, h.1, h2⟩
  | .call f es k p, _, η, K, h => by
    obtain ⟨rs, e1, e2, e3⟩ := h
    obtain ⟨l, ζ, h1, h2⟩ := wpP_reach p 0 _ K e3
    exact ⟨l, rs ++ ζ, by rw [← List.append_assoc]; exact h1, rs, e1, e2, by rw [← List.append_assoc]; exact h2⟩
  | .cond b p q, _, η, K, h => by
    rcases h with ⟨hb, h⟩ | ⟨hb, h⟩
    · obtain ⟨l, ζ, h1, h2⟩ := wpP_reach p 0 η K h
      exact ⟨l, ζ, h1, .inl ⟨hb, h2⟩⟩
    · obtain ⟨l, ζ, h1, h2⟩ := wpP_reach q 0 η K h
      exact ⟨l, ζ, h1, .inr ⟨hb, h2⟩⟩
  | .join p c, _, η, K, h => by
    obtain ⟨l, ζ, h1, h2⟩ := wpP_reach p 0 η _ h
    match l, h1 with
    | .vals lab es, h1 =>
      obtain ⟨l', ζ', h3, h4⟩ := wpP_reach c lab _ K h1
      refine ⟨l', es.map (E.den (η ++ ζ)) ++ ζ', by rw [← List.append_assoc]; exact h3, wpP_mono p 0 η _ _ (fun l'' ζ'' hl => ?_) h2⟩
      obtain ⟨rfl, hz⟩ := hl
      simp only [hz]
      rw [← List.append_assoc]; exact h4
  | .alt q c, 0, η, K, h => wpP_reach q 0 η K h
  | .alt q c, lab + 1, η, K, h => wpP_reach c lab η K h
  | .loop i b c, _, η, K, h => by
    obtain ⟨fuel, hf⟩ := h
    have key : ∀ (n : Nat) (us : List U), iterP (fun us R => wpP G b 0 (η ++ us) fun l η' => match l with
        | .vals 0 es => R (es.map (E.den η'))
        | .vals (lab + 1) es => wpP G c lab (η ++ es.map (E.den η')) K
        | _ => False) n us → ∃ l ζ, K l (η ++ ζ) ∧ iterP (fun us R => wpP G b 0 (η ++ us) fun l' η' => match l' with
        | .vals 0 es => R (es.map (E.den η'))
        | .vals (lab + 1) es => wpP G c lab (η ++ es.map (E.den η')) fun l' η' => l' = l ∧ η' = η ++ ζ
        | _ => False) n us := by
      intro n
      induction n with
      | zero => intro us h; exact h.elim
      | succ n ih =>
        intro us h
        obtain ⟨l, ζ, h1, h2⟩ := wpP_reach b 0 _ _ h
        match l, h1 with
        | .vals 0 es, h1 =>
          obtain ⟨l', ζ', h3, h4⟩ := ih _ h1
          refine ⟨l', ζ', h3, wpP_mono b 0 _ _ _ (fun l'' ζ'' hl => ?_) h2⟩
          obtain ⟨rfl, hz⟩ := hl
          simp only [hz]; exact h4
        | .vals (lab + 1) es, h1 =>
          obtain ⟨l', ζ', h3, h4⟩ := wpP_reach c lab _ K h1
          refine ⟨l', es.map (E.den (η ++ us ++ ζ)) ++ ζ', by rw [← List.append_assoc]; exact h3, wpP_mono b 0 _ _ _ (fun l'' ζ'' hl => ?_) h2⟩
          obtain ⟨rfl, hz⟩ := hl
          simp only [hz]
          rw [← List.append_assoc]; exact h4
    obtain ⟨l, ζ, h1, h2⟩ := key fuel _ hf
    exact ⟨l, ζ, h1, fuel, h2⟩

/-- a program that the engine's own follows from: fewer guards and checks -/
def exB (T : Tab) (sigs : Sigs) (fn : Func) (sg : Sig) (pr : Prog) : Bool := match progOf T sigs fn sg with
  | some p => impB (sigs.map fun x => (x.1, x.1)) pr none [] p
  | none => false
theorem fn_ok2 {P : Program} {T : Tab} {sigs : Sigs} {G : FEnv} (hT : TabOK P T) (hG : EnvOK P sigs G) (hmix : P.follows .mixedOrders = true) {f : Nat} {fn : Func} {sg : Sig} {prog : Prog} {g : List U → Option (List U)}
    (hf : P.funcs[f]? = some fn) (hn : (fn.name == "runtime.NumGoroutine") = false) (hp : exB T sigs fn sg prog = true)
    (hg : ∀ us rs, us.length = Sig.nin sg.params → g us = some rs → wpP G prog 0 us fun l η => ∃ es, l = .res es ∧ es.map (E.den η) = rs) : FnOK P f sg g := by
  unfold exB at hp
  split at hp
  · rename_i p hpr
    refine fn_ok hT hG hmix hf hn hpr fun us rs hl h => ?_
    exact impB_sound (fun x hx us rs h => by
      obtain ⟨y, _, rfl⟩ := List.mem_map.1 hx
      exact h) prog none [] p 0 0 us _ hp (fun k hk => by cases hk) (fun x hx => by simp at hx) (.inl rfl) (hg us rs hl h)
  · cases hp

-- a program, step by step
section
variable {G : FEnv} {K : Leaf → List U → Prop} {η : List U} {lab : Nat}
theorem wp_chk {n : Nat} {p : Prog} (h : η.length = n) (hw : wpP G p 0 η K) : wpP G (.chk n p) lab η K := ⟨h, hw⟩
theorem wp_guard {b : E} {t : Bool} {p : Prog} (h : (b.den η).B = t) (hw : wpP G p 0 η K) : wpP G (.guard b t p) lab η K := ⟨h, hw⟩
theorem wp_call {f k : Nat} {es : List E} {p : Prog} {rs : List U} (h : G f (es.map (E.den η)) = some rs) (hk : rs.length = k) (hw : wpP G p 0 (η ++ rs) K) : wpP G (.call f es k p) lab η K := ⟨rs, h, hk, hw⟩
theorem wp_callA {f k : Nat} {es : List E} {p : Prog} {rs : List U} (us : List U) (he : es.map (E.den η) = us) (h : G f us = some rs) (hk : rs.length = k) (hw : wpP G p 0 (η ++ rs) K) : wpP G (.call f es k p) lab η K := ⟨rs, by rw [he]; exact h, hk, hw⟩
theorem wp_condT {b : E} {p q : Prog} (h : (b.den η).B = true) (hw : wpP G p 0 η K) : wpP G (.cond b p q) lab η K := .inl ⟨h, hw⟩
theorem wp_condF {b : E} {p q : Prog} (h : (b.den η).B = false) (hw : wpP G q 0 η K) : wpP G (.cond b p q) lab η K := .inr ⟨h, hw⟩
theorem wp_join {p c : Prog} (hw : wpP G p 0 η fun l η' => match l with | .vals lb es => wpP G c lb (η ++ es.map (E.den η')) K | _ => False) : wpP G (.join p c) lab η K := hw
theorem wp_vals {lb : Nat} {es : List E} {c : Prog} {η0 : List U} (vs : List U) (he : es.map (E.den η) = vs) (hw : wpP G c lb (η0 ++ vs) K) : wpP G (.leaf (.vals lb es)) lab η fun l η' => match l with | .vals lb es => wpP G c lb (η0 ++ es.map (E.den η')) K | _ => False := by
  show wpP G c lb (η0 ++ es.map (E.den η)) K
  rw [he]; exact hw
theorem wp_alt0 {q c : Prog} (hw : wpP G q 0 η K) : wpP G (.alt q c) 0 η K := hw
theorem wp_altS {q c : Prog} {n : Nat} (hw : wpP G c n η K) : wpP G (.alt q c) (n + 1) η K := hw
theorem wp_res {es : List E} {rs : List U} (he : es.map (E.den η) = rs) : wpP G (.leaf (.res es)) lab η fun l η => ∃ es, l = .res es ∧ es.map (E.den η) = rs := ⟨es, rfl, he⟩
end

/-- what a program answers -/
def Ans (G : FEnv) (p : Prog) (us rs : List U) : Prop := wpP G p 0 us fun l η => ∃ es, l = .res es ∧ es.map (E.den η) = rs
theorem ans_of {G : FEnv} {p : Prog} {us : List U} {Q : List U → Prop} (h : wpP G p 0 us fun l η => ∃ es, l = .res es ∧ Q (es.map (E.den η))) : ∃ rs, Ans G p us rs ∧ Q rs := by
  obtain ⟨l, ζ, ⟨es, rfl, hq⟩, h2⟩ := wpP_reach p 0 us _ h
  exact ⟨_, wpP_mono p 0 us _ _ (fun l' ζ' hl => ⟨es, hl.1, by rw [hl.2]⟩) h2, hq⟩
open Classical in
noncomputable def gQ (G : FEnv) (p : Prog) (Q : List U → List U → Prop) (us : List U) : Option (List U) := if h : ∃ rs, Ans G p us rs ∧ Q us rs then some (Classical.choose h) else none
theorem gQ_ans {G : FEnv} {p : Prog} {Q : List U → List U → Prop} {us rs : List U} (h : gQ G p Q us = some rs) : Ans G p us rs ∧ Q us rs := by
  unfold gQ at h
  split at h
  · rename_i hx; cases h; exact Classical.choose_spec hx
  · cases h

/-- two functions with one answer, which they have wherever Pre holds; Post tells of it -/
def Twin (P : Program) (f1 : Nat) (s1 : Sig) (f2 : Nat) (s2 : Sig) (Pre : List U → Prop) (Post : List U → List U → Prop) : Prop :=
  ∃ g, FnOK P f1 s1 g ∧ FnOK P f2 s2 g ∧ ∀ us, Pre us → ∃ rs, g us = some rs ∧ Post us rs

theorem twin_of {P : Program} {f1 f2 n1 n2 : Nat} {s1 s2 : Sig} {G1 G2 : FEnv} {p1 p2 : Prog} {Pre : List U → Prop} {Post : List U → List U → Prop}
    (mk1 : ∀ {g}, (∀ us rs, us.length = n1 → g us = some rs → Ans G1 p1 us rs) → FnOK P f1 s1 g) (mk2 : ∀ {g}, (∀ us rs, us.length = n2 → g us = some rs → Ans G2 p2 us rs) → FnOK P f2 s2 g)
    (m : List (Nat × Nat)) (hm : HM m G1 G2) (himp : impB m p1 none [] p2 = true)
    (htot : ∀ us, Pre us → wpP G1 p1 0 us fun l η => ∃ es, l = .res es ∧ Post us (es.map (E.den η))) : Twin P f1 s1 f2 s2 Pre Post := by
  refine ⟨gQ G1 p1 Post, mk1 fun us rs _ h => (gQ_ans h).1, mk2 fun us rs _ h => ?_, fun us hp => ?_⟩
  · exact impB_sound hm p1 none [] p2 0 0 us _ himp (fun k hk => by cases hk) (fun x hx => by simp at hx) (.inl rfl) (gQ_ans h).1
  · obtain ⟨rs, h1, h2⟩ := ans_of (htot us hp)
    have hx : ∃ rs, Ans G1 p1 us rs ∧ Post us rs := ⟨rs, h1, h2⟩
    refine ⟨Classical.choose hx, ?_, (Classical.choose_spec hx).2⟩
    unfold gQ
    rw [dif_pos hx]
/-- one function with an answer -/
theorem one_of {P : Program} {f1 n : Nat} {s1 : Sig} {G1 : FEnv} {p1 : Prog} {Pre : List U → Prop} {Post : List U → List U → Prop}
    (mk1 : ∀ {g}, (∀ us rs, us.length = n → g us = some rs → Ans G1 p1 us rs) → FnOK P f1 s1 g)
    (htot : ∀ us, Pre us → wpP G1 p1 0 us fun l η => ∃ es, l = .res es ∧ Post us (es.map (E.den η))) : ∃ g, FnOK P f1 s1 g ∧ ∀ us, Pre us → ∃ rs, g us = some rs ∧ Post us rs := by
  refine ⟨gQ G1 p1 Post, mk1 fun us rs _ h => (gQ_ans h).1, fun us hp => ?_⟩
  obtain ⟨rs, h1, h2⟩ := ans_of (htot us hp)
  have hx : ∃ rs, Ans G1 p1 us rs ∧ Post us rs := ⟨rs, h1, h2⟩
  refine ⟨Classical.choose hx, ?_, (Classical.choose_spec hx).2⟩
  unfold gQ
  rw [dif_pos hx]
/-- .. where the second's program follows by a proof of its own -/
theorem twin_by {P : Program} {f1 f2 n1 n2 : Nat} {s1 s2 : Sig} {G1 G2 : FEnv} {p1 p2 : Prog} {Pre : List U → Prop} {Post : List U → List U → Prop}
    (mk1 : ∀ {g}, (∀ us rs, us.length = n1 → g us = some rs → Ans G1 p1 us rs) → FnOK P f1 s1 g) (mk2 : ∀ {g}, (∀ us rs, us.length = n2 → g us = some rs → Ans G2 p2 us rs) → FnOK P f2 s2 g)
    (himp : ∀ us rs, Pre us → Ans G1 p1 us rs → Ans G2 p2 us rs)
    (htot : ∀ us, Pre us → wpP G1 p1 0 us fun l η => ∃ es, l = .res es ∧ Post us (es.map (E.den η))) : Twin P f1 s1 f2 s2 Pre Post := by
  refine ⟨gQ G1 p1 fun us rs => Pre us ∧ Post us rs, mk1 fun us rs _ h => (gQ_ans h).1, mk2 fun us rs _ h => ?_, fun us hp => ?_⟩
  · obtain ⟨h1, h2, _⟩ := gQ_ans h
    exact himp us rs h2 h1
  · obtain ⟨rs, h1, h2⟩ := ans_of (htot us hp)
    have hx : ∃ rs, Ans G1 p1 us rs ∧ Pre us ∧ Post us rs := ⟨rs, h1, hp, h2⟩
    refine ⟨Classical.choose hx, ?_, (Classical.choose_spec hx).2.2⟩
    unfold gQ
    rw [dif_pos hx]
/-- a loop that counts up to n, its other state told by S alone -/
theorem iterP_count {step : List U → (List U → Prop) → Prop} (n i0 : Nat) (S : Nat → List U → Prop) (us0 : List U) (h0 : S i0 us0) (h : ∀ i us, S i us → ∀ R : List U → Prop, (i < n → ∀ vs, S (i + 1) vs → R vs) → step us R) : ∃ k, iterP step k us0 := by
  have key : ∀ k i us, n - i < k → S i us → iterP step k us := by
    intro k
    induction k with
    | zero => intro i us hk; omega
    | succ k ih => intro i us hk hs; exact h i us hs _ fun hlt vs hv => ih (i + 1) vs (by omega) hv
  exact ⟨n - i0 + 1, key _ i0 us0 (by omega) h0⟩
theorem wp_cond {b : Bool} {A B : Prop} (ha : b = true → A) (hb : b = false → B) : (b = true ∧ A) ∨ (b = false ∧ B) := by
  cases b
  · exact .inr ⟨rfl, hb rfl⟩
  · exact .inl ⟨rfl, ha rfl⟩
theorem ar_quo (a b : Int) : arith .quo .i64 a b = IntKind.i64.wrap (a.tdiv b) := rfl
theorem ar_rem (a b : Int) : arith .rem .i64 a b = a.tmod b := rfl
/-- the number that g answers -/
def valI (g : List U → Option (List U)) (us : List U) : Int := (((g us).getD []).getD 0 default).I
theorem valI_of {g : List U → Option (List U)} {us : List U} (h : ∃ rs, g us = some rs ∧ ∃ v : Int, rs = [.int v]) : g us = some [.int (valI g us)] := by
  obtain ⟨rs, h1, v, rfl⟩ := h
  unfold valI; rw [h1]; rfl
/-- two functions with one told answer -/
theorem twin_fun {P : Program} {f1 f2 n1 n2 : Nat} {s1 s2 : Sig} {G1 G2 : FEnv} {p1 p2 : Prog} {Pre : List U → Prop} {f : List U → List U}
    (mk1 : ∀ {g}, (∀ us rs, us.length = n1 → g us = some rs → Ans G1 p1 us rs) → FnOK P f1 s1 g) (mk2 : ∀ {g}, (∀ us rs, us.length = n2 → g us = some rs → Ans G2 p2 us rs) → FnOK P f2 s2 g)
    (h1 : ∀ us, Pre us → Ans G1 p1 us (f us)) (h2 : ∀ us, Pre us → Ans G2 p2 us (f us)) : ∃ g, FnOK P f1 s1 g ∧ FnOK P f2 s2 g ∧ ∀ us, Pre us → g us = some (f us) := by
  classical
  refine ⟨fun us => if Pre us then some (f us) else none, mk1 fun us rs _ h => ?_, mk2 fun us rs _ h => ?_, fun us hp => if_pos hp⟩
  · simp only [Option.ite_none_right_eq_some, Option.some.injEq] at h
    rw [← h.2]; exact h1 us h.1
  · simp only [Option.ite_none_right_eq_some, Option.some.injEq] at h
    rw [← h.2]; exact h2 us h.1
theorem one_fun {P : Program} {f1 n1 : Nat} {s1 : Sig} {G1 : FEnv} {p1 : Prog} {Pre : List U → Prop} {f : List U → List U}
    (mk1 : ∀ {g}, (∀ us rs, us.length = n1 → g us = some rs → Ans G1 p1 us rs) → FnOK P f1 s1 g)
    (h1 : ∀ us, Pre us → Ans G1 p1 us (f us)) : ∃ g, FnOK P f1 s1 g ∧ ∀ us, Pre us → g us = some (f us) := by
  classical
  refine ⟨fun us => if Pre us then some (f us) else none, mk1 fun us rs _ h => ?_, fun us hp => if_pos hp⟩
  simp only [Option.ite_none_right_eq_some, Option.some.injEq] at h
  rw [← h.2]; exact h1 us h.1
theorem hm_nil {G1 G2 : FEnv} : HM [] G1 G2 := fun x hx => by simp at hx
theorem hm_cons {G1 G2 : FEnv} {a b : Nat} {m : List (Nat × Nat)} (h : G1 a = G2 b) (hm : HM m G1 G2) : HM ((a, b) :: m) G1 G2 := fun x hx us rs hr => by
  rcases List.mem_cons.1 hx with rfl | hx
  · rw [← h]; exact hr
  · exact hm x hx us rs hr
end Go.Proofs.YtibbceoibcnpcaaGreat.Eng
