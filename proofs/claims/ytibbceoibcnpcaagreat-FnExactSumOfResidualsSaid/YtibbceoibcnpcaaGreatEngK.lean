/- The engine, part K: what is written into a box or a row. No condition. -/
import Derived.Test.YtibbceoibcnpcaaGreatEngJ
import Derived.Maps.AppendAt
namespace Go.Proofs.YtibbceoibcnpcaaGreat.Eng
open Go

section
variable {w0 : World} {M : List Nat} {I : In} {η : List U} {σ : PS} {a : Act} {w w' : World}

theorem storeBox_rel {b e : Nat} {ls ls' : List LV} {cur' : Array Value} (hr : Rel' w0 M I η σ a w) (hb : lookB σ.boxes b = some ls) (hg : w.grownBy w' (some (I.ρ b)))
    (hnew : w'.heap[I.ρ b]? = some (.cells cur' e (0, 0))) (hl : All2 (LVr (Ok I σ w) w η I σ) ls' cur'.toList) :
    Rel' w0 M I η { σ with boxes := setB σ.boxes b ls' } a w' := by
  have hlk : ∀ c, lookB (setB σ.boxes b ls') c = if c = b then some ls' else lookB σ.boxes c := fun c => by rw [lookB_setB, hb]; simp
  have hs : ∀ c, (lookB (setB σ.boxes b ls') c).isSome = (lookB σ.boxes c).isSome := fun c => by
    rw [hlk]; by_cases h : c = b
    · subst h; simp [hb]
    · simp [h]
  have hWB : ∀ g, WB I { σ with boxes := setB σ.boxes b ls' } g → WB I σ g := fun g hg => hg.imp (fun ⟨c, hc, e⟩ => ⟨c, by rw [← hs]; exact hc, e⟩) id
  have hbW : WB I σ (I.ρ b) := .inl ⟨b, by rw [hb]; rfl, rfl⟩
  have hh : ∀ g, g < w.heap.size → g ≠ I.ρ b → w'.heap[g]? = w.heap[g]? := fun g h1 h2 => hg.block g h1 (fun e => h2 (Option.some.inj e))
  have hsz := hg.size
  have ht : Tr (Ok I σ w) (Ok I { σ with boxes := setB σ.boxes b ls' } w') w w' η I I σ { σ with boxes := setB σ.boxes b ls' } :=
    ⟨fun g h => ⟨⟨by have := h.1.1; omega, h.1.2⟩, fun x => h.2 (hWB g x)⟩, fun g h => hh g h.1.1 (fun e => h.2 (e ▸ hbW)), fun c h => ⟨by rw [hs]; exact h, rfl⟩, fun r q hq => ⟨q, hq, rfl, rfl, rfl⟩⟩
  exact { hr with
    slots := hr.slots.mono fun s v hv => SVr.tr ht hv
    boxes := fun c l hc => by
      rw [hlk] at hc
      by_cases h : c = b
      · subst h
        simp only [if_true, Option.some.injEq] at hc; subst hc
        exact ⟨cur', e, hnew, hl.mono fun l v hv => LVr.tr ht hv⟩
      · rw [if_neg h] at hc
        obtain ⟨cur, e', h1, h2⟩ := hr.boxes c l hc
        refine ⟨cur, e', ?_, h2.mono fun l v hv => LVr.tr ht hv⟩
        rw [hh _ (hr.lt (.inl ⟨c, by rw [hc]; rfl, rfl⟩)) (fun e => h (hr.injB c b (by rw [hc]; rfl) (by rw [hb]; rfl) e))]
        exact h1
    rows := fun r q hq => by
      obtain ⟨us, h1, h2⟩ := hr.rows r q hq
      exact ⟨us, h1, h2.tr ht.ok ht.heap fun g hg' => hh g (hr.lt (.inr ⟨r, by rw [show lookR σ.rows r = some q from hq]; rfl, hg'⟩))
        (fun e => hr.injBR b r (by rw [hb]; rfl) (by rw [show lookR σ.rows r = some q from hq]; rfl) (by rw [hg', e]))⟩
    injB := fun c c' h1 h2 => hr.injB c c' (by rw [← hs]; exact h1) (by rw [← hs]; exact h2)
    injBR := fun c r h1 h2 => hr.injBR c r (by rw [← hs]; exact h1) h2
    new := fun g hg => hr.new g (hWB g hg)
    r0 := hr.r0
    keyB := nodupB_setB b ls' hr.keyB
    kept := hr.kept.grown hg (fun k hk => by cases hk; exact hr.new _ hbW) }

/-- a row's content turns, and the slice's value with it if nothing refers to it any more -/
theorem setRow_rel {r : Nat} {q : Row} {c : E} {v' : Value} {us us' : List (List U)} (hr : Rel' w0 M I η σ a w) (hq : lookR σ.rows r = some q) (hg : w.grownBy w' (I.vr r).ownBlock)
    (hc0 : q.c.den η = .lst us) (hc : c.den η = .lst us') (hown : Own (Ok I σ w) w' q.e q.ks v' us')
    (hv' : (v' = I.vr r ∧ us'.length = us.length) ∨ ((∀ s ∈ σ.slots, s.refs (fun _ => True) (fun s => s ≠ r)) ∧ (∀ b ls, lookB σ.boxes b = some ls → ∀ l ∈ ls, LV.refs (fun s => s ≠ r) l) ∧ (v'.ownBlock = (I.vr r).ownBlock ∨ v'.ownBlock = some w.heap.size))) :
    Rel' w0 M (I.row r v') η { σ with rows := setR σ.rows r c } a w' := by
  have hlk : ∀ s, lookR (setR σ.rows r c) s = if s = r then some { q with c := c } else lookR σ.rows s := fun s => by rw [lookR_setR, hq]; rfl
  have hs : ∀ s, (lookR (setR σ.rows r c) s).isSome = (lookR σ.rows s).isSome := fun s => by
    rw [hlk]; by_cases h : s = r
    · subst h; simp [hq]
    · simp [h]
  have hv : ∀ s, s ≠ r → (I.row r v').vr s = I.vr s := fun s h => by simp [In.row, h]
  have hvr : (I.row r v').vr r = v' := by simp [In.row]
  have hrW : ∀ g, (I.vr r).ownBlock = some g → WB I σ g := fun g h => .inr ⟨r, by rw [hq]; rfl, h⟩
  have hvb : ∀ g, v'.ownBlock = some g → (I.vr r).ownBlock = some g ∨ g = w.heap.size := fun g h => by
    rcases hv' with ⟨e, _⟩ | ⟨_, _, e | e⟩
    · left; rw [← e]; exact h
    · left; rw [← e]; exact h
    · right; rw [e] at h; cases h; rfl
  have hWB : ∀ g, WB (I.row r v') { σ with rows := setR σ.rows r c } g → WB I σ g ∨ g = w.heap.size := by
    rintro g (⟨b, hb, e⟩ | ⟨s, hsm, e⟩)
    · exact .inl (.inl ⟨b, hb, e⟩)
    · rw [hs] at hsm
      by_cases h : s = r
      · subst h; rw [hvr] at e
        exact (hvb g e).imp (hrW g) id
      · left; right; exact ⟨s, hsm, by rw [← hv s h]; exact e⟩
  have hh : ∀ g, g < w.heap.size → (I.vr r).ownBlock ≠ some g → w'.heap[g]? = w.heap[g]? := fun g h1 h2 => hg.block g h1 (fun e => h2 e.symm)
  have hsz := hg.size
  have hok : ∀ g, Ok I σ w g → Ok (I.row r v') { σ with rows := setR σ.rows r c } w' g := fun g h => ⟨⟨by have := h.1.1; omega, h.1.2⟩, fun x => by
    rcases hWB g x with h1 | h1
    · exact h.2 h1
    · have := h.1.1; omega⟩
  have hhp : ∀ g, Ok I σ w g → w'.heap[g]? = w.heap[g]? := fun g h => hh g h.1.1 (fun e => h.2 (hrW g e))
  have ht : Tr2 (fun _ => True) (fun s => s ≠ r) (Ok I σ w) (Ok (I.row r v') { σ with rows := setR σ.rows r c } w') w w' η I (I.row r v') σ { σ with rows := setR σ.rows r c } :=
    ⟨hok, hhp, fun b _ h => ⟨h, rfl⟩, fun s p hsr hp => ⟨p, by rw [hlk, if_neg hsr]; exact hp, hv s hsr, rfl, rfl⟩⟩
  have htAll : v' = I.vr r → us'.length = us.length → Tr (Ok I σ w) (Ok (I.row r v') { σ with rows := setR σ.rows r c } w') w w' η I (I.row r v') σ { σ with rows := setR σ.rows r c } := fun e1 e2 =>
    ⟨hok, hhp, fun b h => ⟨h, rfl⟩, fun s p hp => by
      by_cases h : s = r
      · subst h
        rw [hq] at hp; cases hp
        exact ⟨{ q with c := c }, by rw [hlk, if_pos rfl], by rw [hvr]; exact e1, rfl, by simp only [hc, hc0, U.L_lst]; exact e2⟩
      · exact ⟨p, by rw [hlk, if_neg h]; exact hp, hv s h, rfl, rfl⟩⟩
  have hslot : ∀ s ∈ σ.slots, ∀ x, SVr (Ok I σ w) w η I σ s x → SVr (Ok (I.row r v') { σ with rows := setR σ.rows r c } w') w' η (I.row r v') { σ with rows := setR σ.rows r c } s x := fun s hs x hx => by
    rcases hv' with ⟨e1, e2⟩ | ⟨e1, _, _⟩
    · exact SVr.tr (htAll e1 e2) hx
    · exact SVr.tr2 ht (e1 s hs) hx
  have hleaf : ∀ b ls, lookB σ.boxes b = some ls → ∀ l ∈ ls, ∀ x, LVr (Ok I σ w) w η I σ l x → LVr (Ok (I.row r v') { σ with rows := setR σ.rows r c } w') w' η (I.row r v') { σ with rows := setR σ.rows r c } l x := fun b ls hb l hl x hx => by
    rcases hv' with ⟨e1, e2⟩ | ⟨_, e1, _⟩
    · exact LVr.tr (htAll e1 e2) hx
    · exact LVr.tr2 ht (e1 b ls hb l hl) hx
  exact {
    defers := hr.defers
    slots := hr.slots.mem fun s x hs hx => hslot s hs x hx
    boxes := fun b l hb => by
      obtain ⟨cur, e', h1, h2⟩ := hr.boxes b l hb
      refine ⟨cur, e', ?_, h2.mem fun l' x hl hx => hleaf b l hb l' hl x hx⟩
      rw [show (I.row r v').ρ b = I.ρ b from rfl, hh _ (hr.lt (.inl ⟨b, by rw [show lookB σ.boxes b = some l from hb]; rfl, rfl⟩)) (hr.injBR b r (by rw [show lookB σ.boxes b = some l from hb]; rfl) (by rw [hq]; rfl))]
      exact h1
    rows := fun s p hp => by
      rw [hlk] at hp
      by_cases h : s = r
      · subst h
        simp only [if_true, Option.some.injEq] at hp; subst hp
        refine ⟨us', hc, ?_⟩
        rw [hvr]
        obtain ⟨xs, h1, h2, h3⟩ := hown
        exact ⟨xs, h1, h2, fun i j hi hj => let ⟨x, hx, hrd⟩ := h3 i j hi hj; ⟨x, hx, hrd.mono hok fun _ _ => rfl⟩⟩
      · rw [if_neg h] at hp
        obtain ⟨us0, h1, h2⟩ := hr.rows s p hp
        refine ⟨us0, h1, ?_⟩
        rw [hv s h]
        exact h2.tr hok hhp fun g hg' => hh g (hr.lt (.inr ⟨s, by rw [hp]; rfl, hg'⟩)) (fun e => h (hr.injR s r g (by rw [hp]; rfl) (by rw [hq]; rfl) hg' e))
    injB := hr.injB
    injR := fun s s' g h1 h2 e1 e2 => by
      rw [hs] at h1 h2
      have key : ∀ s, (lookR σ.rows s).isSome = true → s ≠ r → ∀ g, (I.vr s).ownBlock = some g → v'.ownBlock = some g → False := fun s hs1 hsr g e1 e2 => by
        rcases hvb g e2 with h | h
        · exact hsr (hr.injR s r g hs1 (by rw [hq]; rfl) e1 h)
        · have := hr.lt (.inr ⟨s, hs1, e1⟩); omega
      by_cases hb : s = r <;> by_cases hb' : s' = r
      · rw [hb, hb']
      · exfalso; subst hb; rw [hvr] at e1; rw [hv s' hb'] at e2
        exact key s' h2 hb' g e2 e1
      · exfalso; subst hb'; rw [hvr] at e2; rw [hv s hb] at e1
        exact key s h1 hb g e1 e2
      · rw [hv s hb] at e1; rw [hv s' hb'] at e2
        exact hr.injR s s' g h1 h2 e1 e2
    injBR := fun b s h1 h2 he => by
      rw [hs] at h2
      by_cases hb : s = r
      · subst hb; rw [hvr] at he
        rcases hvb _ he with h | h
        · exact hr.injBR b s h1 h2 h
        · have := hr.lt (.inl ⟨b, h1, rfl⟩); simp only [In.row] at h; omega
      · rw [hv s hb] at he
        exact hr.injBR b s h1 h2 he
    new := fun g hg' => by
      rcases hWB g hg' with h | h
      · exact hr.new g h
      · left; have := hr.kept.size; omega
    r0 := hr.r0
    keyB := hr.keyB
    keyR := nodupR_setR r c hr.keyR
    kept := hr.kept.grown hg (fun k hk => hr.new k (hrW k hk)) }
end
end Go.Proofs.YtibbceoibcnpcaaGreat.Eng
