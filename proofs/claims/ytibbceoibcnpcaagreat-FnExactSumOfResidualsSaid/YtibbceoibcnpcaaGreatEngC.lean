/- The engine, part C: what a program of the engine says, and how its pieces are joined. No condition. -/
import Derived.Test.YtibbceoibcnpcaaGreatEngB
namespace Go.Proofs.YtibbceoibcnpcaaGreat.Eng
open Go

abbrev FEnv := Nat → List U → Option (List U)

def iterP (step : List U → (List U → Prop) → Prop) : Nat → List U → Prop
  | 0, _ => False
  | n + 1, us => step us (iterP step n)

/-- the program p, begun over η, comes to a leaf that K lets; lab chooses among alternatives -/
def wpP (G : FEnv) : Prog → Nat → List U → (Leaf → List U → Prop) → Prop
  | .leaf l, _, η, K => K l η
  | .stop, _, _, _ => False
  | .chk n p, _, η, K => η.length = n ∧ wpP G p 0 η K
  | .guard b t p, _, η, K => (b.den η).B = t ∧ wpP G p 0 η K
  | .call f es k p, _, η, K => ∃ rs, G f (es.map (E.den η)) = some rs ∧ rs.length = k ∧ wpP G p 0 (η ++ rs) K
  | .cond b p q, _, η, K => ((b.den η).B = true ∧ wpP G p 0 η K) ∨ ((b.den η).B = false ∧ wpP G q 0 η K)
  | .join p c, _, η, K => wpP G p 0 η fun l η' => match l with
    | .vals lab es => wpP G c lab (η ++ es.map (E.den η')) K
    | _ => False
  | .alt q c, lab, η, K => match lab with
    | 0 => wpP G q 0 η K
    | lab + 1 => wpP G c lab η K
  | .loop init b c, _, η, K => ∃ fuel, iterP (fun us R => wpP G b 0 (η ++ us) fun l η' => match l with
    | .vals 0 es => R (es.map (E.den η'))
    | .vals (lab + 1) es => wpP G c lab (η ++ es.map (E.den η')) K
    | _ => False) fuel (init.map (E.den η))

theorem iterP_mono {s s' : List U → (List U → Prop) → Prop} (h : ∀ us R R', (∀ vs, R vs → R' vs) → s us R → s' us R') : ∀ n us, iterP s n us → iterP s' n us
  | 0, _, hh => hh.elim
  | n + 1, us, hh => h us _ _ (fun vs hv => iterP_mono h n vs hv) hh

theorem wpP_mono {G : FEnv} : ∀ (p : Prog) (lab : Nat) (η : List U) (K K' : Leaf → List U → Prop), (∀ l ζ, K l (η ++ ζ) → K' l (η ++ ζ)) → wpP G p lab η K → wpP G p lab η K'
  | .leaf l, _, η, K, K', h, hp => by have h' := h l []; simp only [List.append_nil] at h'; exact h' hp
  | .stop, _, η, K, K', h, hp => hp.elim
  | .chk n p, _, η, K, K', h, hp => ⟨hp.1, wpP_mono p 0 η K K' h hp.2⟩
  | .guard b t p, _, η, K, K', h, hp => ⟨hp.1, wpP_mono p 0 η K K' h hp.2⟩
  | .call f es k p, _, η, K, K', h, hp => by
    obtain ⟨rs, h1, h2, h3⟩ := hp
    exact ⟨rs, h1, h2, wpP_mono p 0 _ K K' (fun l ζ => by rw [List.append_assoc]; exact h l _) h3⟩
  | .cond b p q, _, η, K, K', h, hp => hp.imp (fun x => ⟨x.1, wpP_mono p 0 η K K' h x.2⟩) (fun x => ⟨x.1, wpP_mono q 0 η K K' h x.2⟩)
  | .join p c, _, η, K, K', h, hp => by
    refine wpP_mono p 0 η _ _ (fun l ζ hl => ?_) hp
    match l, hl with
    | .vals lab es, hl => exact wpP_mono c lab _ K K' (fun l ζ' => by rw [List.append_assoc]; exact h l _) hl
  | .alt q c, 0, η, K, K', h, hp => wpP_mono q 0 η K K' h hp
  | .alt q c, lab + 1, η, K, K', h, hp => wpP_mono c lab η K K' h hp
  | .loop init b c, _, η, K, K', h, hp => by
    obtain ⟨fuel, hf⟩ := hp
    refine ⟨fuel, iterP_mono (fun us R R' hR hs => ?_) fuel _ hf⟩
    refine wpP_mono b 0 _ _ _ (fun l ζ hl => ?_) hs
    match l, hl with
    | .vals 0 es, hl => exact hR _ hl
    | .vals (lab + 1) es, hl => exact wpP_mono c lab _ K K' (fun l ζ' => by rw [List.append_assoc]; exact h l _) hl

/-- a leaf's environment begins with the program's -/
theorem wpP_ext {G : FEnv} : ∀ (p : Prog) (lab : Nat) (η : List U) (K : Leaf → List U → Prop), wpP G p lab η K → wpP G p lab η fun l η' => K l η' ∧ ∃ ζ, η' = η ++ ζ
  | .leaf l, _, η, K, hp => ⟨hp, [], by simp⟩
  | .stop, _, η, K, hp => hp.elim
  | .chk n p, _, η, K, hp => ⟨hp.1, wpP_ext p 0 η K hp.2⟩
  | .guard b t p, _, η, K, hp => ⟨hp.1, wpP_ext p 0 η K hp.2⟩
  | .call f es k p, _, η, K, hp => by
    obtain ⟨rs, h1, h2, h3⟩ := hp
    exact ⟨rs, h1, h2, wpP_mono p 0 _ _ _ (fun l ζ hl => ⟨hl.1, by simp⟩) (wpP_ext p 0 _ K h3)⟩
  | .cond b p q, _, η, K, hp => hp.imp (fun x => ⟨x.1, wpP_ext p 0 η K x.2⟩) (fun x => ⟨x.1, wpP_ext q 0 η K x.2⟩)
  | .join p c, _, η, K, hp => by
    refine wpP_mono p 0 η _ _ (fun l ζ hl => ?_) hp
    match l, hl with
    | .vals lab es, hl => exact wpP_mono c lab _ _ _ (fun l ζ' hl => ⟨hl.1, by simp⟩) (wpP_ext c lab _ K hl)
  | .alt q c, 0, η, K, hp => wpP_ext q 0 η K hp
  | .alt q c, lab + 1, η, K, hp => wpP_ext c lab η K hp
  | .loop init b c, _, η, K, hp => by
    obtain ⟨fuel, hf⟩ := hp
    refine ⟨fuel, iterP_mono (fun us R R' hR hs => ?_) fuel _ hf⟩
    refine wpP_mono b 0 _ _ _ (fun l ζ hl => ?_) hs
    match l, hl with
    | .vals 0 es, hl => exact hR _ hl
    | .vals (lab + 1) es, hl => exact wpP_mono c lab _ _ _ (fun l ζ' hl => ⟨hl.1, by simp⟩) (wpP_ext c lab _ K hl)

/-- leaves that go on -/
def goOn (G : FEnv) (g : Ex → Nat → PS → Option Prog) (K : Leaf → List U → Prop) : Leaf → List U → Prop := fun l η => match l with
  | .st x n σ => ∃ q, g x n σ = some q ∧ wpP G q 0 η K
  | _ => False

theorem wpP_bindL {G : FEnv} {g : Ex → Nat → PS → Option Prog} : ∀ (p p' : Prog) (lab : Nat) (η : List U) (K : Leaf → List U → Prop), p.bindL g = some p' → wpP G p' lab η K → (lab = 0 ∨ p.isC = true) → wpP G p lab η (goOn G g K)
  | .leaf (.st x n σ), p', lab, η, K, hb, hp, hl => by
    rcases hl with rfl | h
    · exact ⟨p', hb, hp⟩
    · cases h
  | .leaf (.vals l es), p', lab, η, K, hb, hp, _ => by simp [Prog.bindL] at hb
  | .leaf (.res es), p', lab, η, K, hb, hp, _ => by simp [Prog.bindL] at hb
  | .stop, p', lab, η, K, hb, hp, _ => by simp only [Prog.bindL, Option.some.injEq] at hb; subst hb; exact hp.elim
  | .chk n p, p', lab, η, K, hb, hp, _ => by
    simp only [Prog.bindL, Option.map_eq_some_iff] at hb; obtain ⟨q, hq, rfl⟩ := hb
    exact ⟨hp.1, wpP_bindL p q 0 η K hq hp.2 (.inl rfl)⟩
  | .guard b t p, p', lab, η, K, hb, hp, _ => by
    simp only [Prog.bindL, Option.map_eq_some_iff] at hb; obtain ⟨q, hq, rfl⟩ := hb
    exact ⟨hp.1, wpP_bindL p q 0 η K hq hp.2 (.inl rfl)⟩
  | .call f es k p, p', lab, η, K, hb, hp, _ => by
    simp only [Prog.bindL, Option.map_eq_some_iff] at hb; obtain ⟨q, hq, rfl⟩ := hb
    obtain ⟨rs, h1, h2, h3⟩ := hp
    exact ⟨rs, h1, h2, wpP_bindL p q 0 _ K hq h3 (.inl rfl)⟩
  | .cond b p q, p', lab, η, K, hb, hp, _ => by
    simp only [Prog.bindL] at hb
    split at hb
    · rename_i p1 q1 h1 h2; cases hb
      exact hp.imp (fun x => ⟨x.1, wpP_bindL p p1 0 η K h1 x.2 (.inl rfl)⟩) (fun x => ⟨x.1, wpP_bindL q q1 0 η K h2 x.2 (.inl rfl)⟩)
    · cases hb
  | .alt p q, p', lab, η, K, hb, hp, _ => by
    simp only [Prog.bindL] at hb
    split at hb
    · rename_i hc
      split at hb
      · rename_i p1 q1 h1 h2; cases hb
        cases lab with
        | zero => exact wpP_bindL p p1 0 η K h1 hp (.inl rfl)
        | succ lab => exact wpP_bindL q q1 lab η K h2 hp (.inr hc)
      · cases hb
    · cases hb
  | .join p c, p', lab, η, K, hb, hp, _ => by
    simp only [Prog.bindL] at hb
    split at hb
    · rename_i hc
      simp only [Option.map_eq_some_iff] at hb; obtain ⟨q, hq, rfl⟩ := hb
      refine wpP_mono p 0 η _ _ (fun l ζ hl => ?_) hp
      match l, hl with
      | .vals lab es, hl => exact wpP_bindL c q lab _ K hq hl (.inr hc)
    · cases hb
  | .loop init b c, p', lab, η, K, hb, hp, _ => by
    simp only [Prog.bindL] at hb
    split at hb
    · rename_i hc
      simp only [Option.map_eq_some_iff] at hb; obtain ⟨q, hq, rfl⟩ := hb
      obtain ⟨fuel, hf⟩ := hp
      refine ⟨fuel, iterP_mono (fun us R R' hR hs => ?_) fuel _ hf⟩
      refine wpP_mono b 0 _ _ _ (fun l ζ hl => ?_) hs
      match l, hl with
      | .vals 0 es, hl => exact hR _ hl
      | .vals (lab + 1) es, hl => exact wpP_bindL c q lab _ K hq hl (.inr hc)
    · cases hb
end Go.Proofs.YtibbceoibcnpcaaGreat.Eng
