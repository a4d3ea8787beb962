/- The engine, part D: what a symbolic state says of a frame and a world. No condition. -/
import Derived.Test.YtibbceoibcnpcaaGreatEngC
namespace Go.Proofs.YtibbceoibcnpcaaGreat.Eng
open Go

def All2 {α β : Type} (R : α → β → Prop) : List α → List β → Prop
  | [], [] => True
  | a :: as, b :: bs => R a b ∧ All2 R as bs
  | _, _ => False

theorem All2.length {α β : Type} {R : α → β → Prop} : ∀ {l : List α} {m : List β}, All2 R l m → l.length = m.length
  | [], [], _ => rfl
  | _ :: _, _ :: _, h => by simp [All2.length h.2]
  | [], _ :: _, h | _ :: _, [], h => h.elim
theorem All2.mono {α β : Type} {R S : α → β → Prop} (h : ∀ a b, R a b → S a b) : ∀ {l : List α} {m : List β}, All2 R l m → All2 S l m
  | [], [], _ => trivial
  | _ :: _, _ :: _, hh => ⟨h _ _ hh.1, All2.mono h hh.2⟩
  | [], _ :: _, hh | _ :: _, [], hh => hh.elim
theorem All2.get {α β : Type} {R : α → β → Prop} : ∀ {l : List α} {m : List β} {i : Nat} {a : α}, All2 R l m → l[i]? = some a → ∃ b, m[i]? = some b ∧ R a b
  | a :: l, b :: m, 0, x, h, hx => by simp at hx; subst hx; exact ⟨b, by simp, h.1⟩
  | a :: l, b :: m, i + 1, x, h, hx => by simp at hx; simpa using All2.get (i := i) h.2 hx
  | [], [], _, _, _, hx => by simp at hx
  | [], _ :: _, _, _, h, _ | _ :: _, [], _, _, h, _ => h.elim
theorem All2.set {α β : Type} {R : α → β → Prop} {x : α} {y : β} (hxy : R x y) : ∀ {l : List α} {m : List β} (i : Nat), All2 R l m → All2 R (l.set i x) (m.set i y)
  | [], [], _, _ => trivial
  | _ :: _, _ :: _, 0, h => ⟨hxy, h.2⟩
  | _ :: _, _ :: _, i + 1, h => ⟨h.1, All2.set hxy i h.2⟩
  | [], _ :: _, _, h | _ :: _, [], _, h => h.elim
theorem All2.map {α α' β : Type} {R : α' → β → Prop} (f : α → α') : ∀ {l : List α} {m : List β}, All2 (fun a b => R (f a) b) l m → All2 R (l.map f) m
  | [], [], _ => trivial
  | _ :: _, _ :: _, h => ⟨h.1, All2.map f h.2⟩
  | [], _ :: _, h | _ :: _, [], h => h.elim
theorem All2.drop {α β : Type} {R : α → β → Prop} : ∀ {l : List α} {m : List β} (n : Nat), All2 R l m → All2 R (l.drop n) (m.drop n)
  | _, _, 0, h => h
  | [], [], _ + 1, _ => trivial
  | _ :: _, _ :: _, n + 1, h => All2.drop n h.2
  | [], _ :: _, _, h | _ :: _, [], _, h => h.elim
theorem All2.take {α β : Type} {R : α → β → Prop} : ∀ {l : List α} {m : List β} (n : Nat), All2 R l m → All2 R (l.take n) (m.take n)
  | _, _, 0, _ => by simp [All2]
  | [], [], _ + 1, _ => trivial
  | _ :: _, _ :: _, n + 1, h => ⟨h.1, All2.take n h.2⟩
  | [], _ :: _, _, h | _ :: _, [], _, h => h.elim
theorem All2.append {α β : Type} {R : α → β → Prop} : ∀ {l : List α} {m : List β} {l' : List α} {m' : List β}, All2 R l m → All2 R l' m' → All2 R (l ++ l') (m ++ m')
  | [], [], _, _, _, h' => h'
  | _ :: _, _ :: _, _, _, h, h' => ⟨h.1, All2.append h.2 h'⟩
  | [], _ :: _, _, _, h, _ | _ :: _, [], _, _, h, _ => h.elim
theorem All2.of_get {α β : Type} {R : α → β → Prop} : ∀ {l : List α} {m : List β}, l.length = m.length → (∀ (i : Nat) a b, l[i]? = some a → m[i]? = some b → R a b) → All2 R l m
  | [], [], _, _ => trivial
  | a :: l, b :: m, hl, h => ⟨h 0 a b (by simp) (by simp), All2.of_get (by simpa using hl) fun i x y hx hy => h (i + 1) x y (by simpa using hx) (by simpa using hy)⟩
  | [], _ :: _, hl, _ | _ :: _, [], hl, _ => by simp at hl

/-- which blocks stand for the boxes, which values for the rows -/
structure In where
  ρ : Nat → Nat
  vr : Nat → Value
  R0 : Nat → Prop

/-- the blocks that may be written -/
def WB (I : In) (σ : PS) (g : Nat) : Prop :=
  (∃ b, (lookB σ.boxes b).isSome = true ∧ I.ρ b = g) ∨ (∃ r, (lookR σ.rows r).isSome = true ∧ (I.vr r).ownBlock = some g)
def Ok (I : In) (σ : PS) (w : World) : Nat → Prop := fun b => (b < w.heap.size ∧ I.R0 b) ∧ ¬ WB I σ b

def LVr (R : Nat → Prop) (w : World) (η : List U) (I : In) (σ : PS) : LV → Value → Prop
  | .u k e, v => Rd R w k v (e.den η)
  | .own r, v => v = I.vr r ∧ (lookR σ.rows r).isSome = true
  | .nil, v => v = .slice none 0 0
def TVr (R : Nat → Prop) (w : World) (η : List U) (I : In) (σ : PS) : TV → Value → Prop
  | .leaf l, v => LVr R w η I σ l v
  | .agg ls, v => ∃ cs, v = .agg cs ∧ All2 (LVr R w η I σ) ls cs.toList
def SVr (R : Nat → Prop) (w : World) (η : List U) (I : In) (σ : PS) : SV → Value → Prop
  | .dead, _ => True
  | .val t, v => TVr R w η I σ t v
  | .tup ts, v => ∃ vs, v = .tuple vs ∧ All2 (TVr R w η I σ) ts vs.toList
  | .ptr b off, v => v = .pointer (some ⟨I.ρ b, off, none⟩) ∧ (lookB σ.boxes b).isSome = true
  | .fn f cs, v => v = .func (.func f) #[] (cs.map fun b => Value.pointer (some ⟨I.ρ b, 0, none⟩)).toArray ∧ ∀ b ∈ cs, (lookB σ.boxes b).isSome = true
  | .eptr ls, v => ∃ a : Addr, v = .pointer (some a) ∧ a.spot = none ∧ R a.block ∧ ∀ j l, ls[j]? = some l → ∃ x, w.cell? ⟨a.block, a.off + j, none⟩ = some x ∧ LVr R w η I σ l x
  | .rptr r i off, v => ∃ q g cap, lookR σ.rows r = some q ∧ I.vr r = .slice (some ⟨g, 0, none⟩) (q.c.den η).L.length cap ∧
      v = .pointer (some ⟨g, (i.den η).I.toNat * q.ks.length + off, none⟩) ∧ 0 ≤ (i.den η).I ∧ (i.den η).I < (q.c.den η).L.length

structure Kept (M : List Nat) (w0 w : World) : Prop where
  os : w.os = w0.os
  tape : w.tape = w0.tape
  output : w.output = w0.output
  size : w0.heap.size ≤ w.heap.size
  block : ∀ b, b < w0.heap.size → b ∉ M → w.heap[b]? = w0.heap[b]?
theorem Kept.refl (M : List Nat) (w : World) : Kept M w w := ⟨rfl, rfl, rfl, Nat.le_refl _, fun _ _ _ => rfl⟩

structure Rel' (w0 : World) (M : List Nat) (I : In) (η : List U) (σ : PS) (a : Act) (w : World) : Prop where
  defers : a.defers = []
  slots : All2 (SVr (Ok I σ w) w η I σ) σ.slots a.tmps.toList
  boxes : ∀ b ls, lookB σ.boxes b = some ls → ∃ cur e, w.heap[I.ρ b]? = some (.cells cur e (0, 0)) ∧ All2 (LVr (Ok I σ w) w η I σ) ls cur.toList
  rows : ∀ r q, lookR σ.rows r = some q → ∃ us, q.c.den η = .lst us ∧ Own (Ok I σ w) w q.e q.ks (I.vr r) us
  injB : ∀ b b', (lookB σ.boxes b).isSome = true → (lookB σ.boxes b').isSome = true → I.ρ b = I.ρ b' → b = b'
  injR : ∀ r r' g, (lookR σ.rows r).isSome = true → (lookR σ.rows r').isSome = true → (I.vr r).ownBlock = some g → (I.vr r').ownBlock = some g → r = r'
  injBR : ∀ b r, (lookB σ.boxes b).isSome = true → (lookR σ.rows r).isSome = true → (I.vr r).ownBlock ≠ some (I.ρ b)
  new : ∀ g, WB I σ g → w0.heap.size ≤ g ∨ g ∈ M
  r0 : ∀ g, w0.heap.size ≤ g ∨ g ∈ M → I.R0 g
  keyB : nodupB σ.boxes = true
  keyR : nodupR σ.rows = true
  kept : Kept M w0 w
/-- what stays fixed: the blocks of a function's parameters, what may be read -/
structure Fx where
  N : Nat
  F : Nat → Nat
  R0 : Nat → Prop
def Fx.ok (fx : Fx) (I : In) : Prop := (∀ b, b < fx.N → I.ρ b = fx.F b) ∧ I.R0 = fx.R0
def Rel (w0 : World) (M : List Nat) (fx : Fx) (η : List U) (σ : PS) (a : Act) (w : World) : Prop := ∃ I, Rel' w0 M I η σ a w ∧ fx.ok I

-- lists of boxes and rows
theorem lookB_mem : ∀ {bs : List (Nat × List LV)} {b : Nat} {ls : List LV}, lookB bs b = some ls → (b, ls) ∈ bs
  | (c, l) :: r, b, ls, h => by
    simp only [lookB] at h
    split at h
    · rename_i hc; have := Nat.eq_of_beq_eq_true hc; cases h; subst this; exact List.mem_cons_self
    · exact List.mem_cons_of_mem _ (lookB_mem h)
theorem lookR_mem : ∀ {rs : List Row} {r : Nat} {q : Row}, lookR rs r = some q → q ∈ rs ∧ q.id = r
  | p :: rs, r, q, h => by
    simp only [lookR] at h
    split at h
    · rename_i hc; cases h; exact ⟨List.mem_cons_self, Nat.eq_of_beq_eq_true hc⟩
    · exact ⟨List.mem_cons_of_mem _ (lookR_mem h).1, (lookR_mem h).2⟩
theorem beq_self (n : Nat) : Nat.beq n n = true := Nat.beq_eq ▸ rfl
theorem lookR_of_mem : ∀ {rs : List Row} {q : Row}, nodupR rs = true → q ∈ rs → lookR rs q.id = some q
  | p :: rs, q, hn, hm => by
    simp only [nodupR, Bool.and_eq_true, Option.isNone_iff_eq_none] at hn
    simp only [lookR]
    rcases List.mem_cons.1 hm with rfl | hm
    · simp
    · have hq := lookR_of_mem hn.2 hm
      by_cases hc : p.id = q.id
      · rw [hc, hq] at hn; cases hn.1
      · simp [hc, hq]
theorem lookB_of_mem : ∀ {rs : List (Nat × List LV)} {q : Nat × List LV}, nodupB rs = true → q ∈ rs → lookB rs q.1 = some q.2
  | (b, l) :: rs, q, hn, hm => by
    simp only [nodupB, Bool.and_eq_true, Option.isNone_iff_eq_none] at hn
    simp only [lookB]
    rcases List.mem_cons.1 hm with rfl | hm
    · simp
    · have hq := lookB_of_mem hn.2 hm
      by_cases hc : b = q.1
      · rw [hc, hq] at hn; cases hn.1
      · simp [hc, hq]

-- from one world, state and instance to another
structure Tr (R R' : Nat → Prop) (w w' : World) (η : List U) (I I' : In) (σ σ' : PS) : Prop where
  ok : ∀ b, R b → R' b
  heap : ∀ b, R b → w'.heap[b]? = w.heap[b]?
  box : ∀ b, (lookB σ.boxes b).isSome = true → (lookB σ'.boxes b).isSome = true ∧ I'.ρ b = I.ρ b
  row : ∀ r q, lookR σ.rows r = some q → ∃ q', lookR σ'.rows r = some q' ∧ I'.vr r = I.vr r ∧ q'.ks = q.ks ∧ (q'.c.den η).L.length = (q.c.den η).L.length

section
variable {R R' : Nat → Prop} {w w' : World} {η : List U} {I I' : In} {σ σ' : PS}
theorem LVr.tr (h : Tr R R' w w' η I I' σ σ') : ∀ {l : LV} {v : Value}, LVr R w η I σ l v → LVr R' w' η I' σ' l v
  | .u k e, v, hv => Rd.mono hv h.ok h.heap
  | .own r, v, hv => by
    obtain ⟨h1, h2⟩ := hv
    obtain ⟨q, hq⟩ := Option.isSome_iff_exists.1 h2
    obtain ⟨q', hq', hvr, _⟩ := h.row r q hq
    exact ⟨by rw [hvr]; exact h1, by rw [hq']; rfl⟩
  | .nil, v, hv => hv
theorem TVr.tr (h : Tr R R' w w' η I I' σ σ') : ∀ {t : TV} {v : Value}, TVr R w η I σ t v → TVr R' w' η I' σ' t v
  | .leaf _, _, hv => LVr.tr h hv
  | .agg _, _, hv => let ⟨cs, h1, h2⟩ := hv; ⟨cs, h1, h2.mono fun _ _ => LVr.tr h⟩
theorem SVr.tr (h : Tr R R' w w' η I I' σ σ') : ∀ {t : SV} {v : Value}, SVr R w η I σ t v → SVr R' w' η I' σ' t v
  | .dead, _, _ => trivial
  | .val _, _, hv => TVr.tr h hv
  | .tup _, _, hv => let ⟨cs, h1, h2⟩ := hv; ⟨cs, h1, h2.mono fun _ _ => TVr.tr h⟩
  | .ptr b off, v, hv => by
    obtain ⟨h1, h2⟩ := hv
    obtain ⟨h3, h4⟩ := h.box b h2
    exact ⟨by rw [h4]; exact h1, h3⟩
  | .fn f cs, v, hv => by
    obtain ⟨h1, h2⟩ := hv
    have e : (cs.map fun b => Value.pointer (some ⟨I'.ρ b, 0, none⟩)) = cs.map fun b => Value.pointer (some ⟨I.ρ b, 0, none⟩) := List.map_congr_left fun b hb => by rw [(h.box b (h2 b hb)).2]
    refine ⟨?_, fun b hb => (h.box b (h2 b hb)).1⟩
    rw [e]; exact h1
  | .eptr ls, v, hv => by
    obtain ⟨a, h1, h2, h3, h4⟩ := hv
    refine ⟨a, h1, h2, h.ok _ h3, fun j l hl => ?_⟩
    obtain ⟨x, hx, hr⟩ := h4 j l hl
    exact ⟨x, by rw [World.cell?_of_block (w := w) (a := ⟨a.block, a.off + j, none⟩) (h.heap _ h3)]; exact hx, LVr.tr h hr⟩
  | .rptr r i off, v, hv => by
    obtain ⟨q, g, cap, h1, h2, h3, h4, h5⟩ := hv
    obtain ⟨q', hq', hvr, hks, hl⟩ := h.row r q h1
    exact ⟨q', g, cap, hq', by rw [hvr, hl]; exact h2, by rw [hks]; exact h3, h4, by rw [hl]; exact h5⟩
theorem Own.tr {e ks v us} (ho : ∀ b, R b → R' b) (hh : ∀ b, R b → w'.heap[b]? = w.heap[b]?) (hb : ∀ b, v.ownBlock = some b → w'.heap[b]? = w.heap[b]?)
    (h : Own R w e ks v us) : Own R' w' e ks v us := by
  obtain ⟨xs, h1, h2, h3⟩ := h
  refine ⟨xs, ?_, h2, fun i j hi hj => let ⟨x, hx, hr⟩ := h3 i j hi hj; ⟨x, hx, hr.mono ho hh⟩⟩
  obtain ⟨ha, hc⟩ := h1
  refine ⟨ha, hc.imp id ?_⟩
  rintro ⟨g, cap, cur, hv, hg, hgh, rest⟩
  exact ⟨g, cap, cur, hv, hg, by rw [hb g (by rw [hv]; rfl)]; exact hgh, rest⟩
end

-- an environment grows
theorem All2.mem {α β : Type} {R S : α → β → Prop} : ∀ {l : List α} {m : List β}, All2 R l m → (∀ a b, a ∈ l → R a b → S a b) → All2 S l m
  | [], [], _, _ => trivial
  | _ :: _, _ :: _, h, f => ⟨f _ _ List.mem_cons_self h.1, All2.mem h.2 fun a b ha => f a b (List.mem_cons_of_mem _ ha)⟩
  | [], _ :: _, h, _ | _ :: _, [], h, _ => h.elim

section
variable {R : Nat → Prop} {w : World} {η ζ : List U} {I : In} {σ : PS} {n : Nat}
theorem LVr.app (hn : η.length = n) : ∀ {l : LV} {v : Value}, l.sc n = true → LVr R w η I σ l v → LVr R w (η ++ ζ) I σ l v
  | .u k e, v, hs, hv => by simp only [LVr] at hv ⊢; rw [E.den_app hn e hs]; exact hv
  | .own r, v, _, hv => hv
  | .nil, v, _, hv => hv
theorem TVr.app (hn : η.length = n) : ∀ {l : TV} {v : Value}, l.sc n = true → TVr R w η I σ l v → TVr R w (η ++ ζ) I σ l v
  | .leaf _, _, hs, hv => LVr.app hn (by simpa [TV.sc, TV.ls] using hs) hv
  | .agg ls, _, hs, hv => by
    obtain ⟨cs, h1, h2⟩ := hv
    simp only [TV.sc, TV.ls, List.all_eq_true] at hs
    exact ⟨cs, h1, h2.mem fun a b ha hr => LVr.app hn (hs a ha) hr⟩
theorem SVr.app (hn : η.length = n) (hσ : σ.sc n = true) : ∀ {l : SV} {v : Value}, l.sc n = true → SVr R w η I σ l v → SVr R w (η ++ ζ) I σ l v
  | .dead, _, _, _ => trivial
  | .val _, _, hs, hv => TVr.app hn (by simpa [SV.sc] using hs) hv
  | .tup ts, _, hs, hv => by
    obtain ⟨cs, h1, h2⟩ := hv
    simp only [SV.sc, List.all_eq_true] at hs
    exact ⟨cs, h1, h2.mem fun a b ha hr => TVr.app hn (hs a ha) hr⟩
  | .ptr _ _, _, _, hv => hv
  | .fn _ _, _, _, hv => hv
  | .eptr ls, _, hs, hv => by
    obtain ⟨a, h1, h2, h3, h4⟩ := hv
    simp only [SV.sc, List.all_eq_true] at hs
    refine ⟨a, h1, h2, h3, fun j l hl => ?_⟩
    obtain ⟨x, hx, hr⟩ := h4 j l hl
    exact ⟨x, hx, LVr.app hn (hs l (List.mem_of_getElem? hl)) hr⟩
  | .rptr r i off, _, hs, hv => by
    obtain ⟨q, g, cap, h1, h2, h3, h4, h5⟩ := hv
    simp only [SV.sc] at hs
    simp only [PS.sc, Bool.and_eq_true, List.all_eq_true] at hσ
    have hc := hσ.2 q (lookR_mem h1).1
    exact ⟨q, g, cap, h1, by rw [E.den_app hn _ hc]; exact h2, by rw [E.den_app hn _ hs]; exact h3, by rw [E.den_app hn _ hs]; exact h4,
      by rw [E.den_app hn _ hs, E.den_app hn _ hc]; exact h5⟩
theorem Rel'.app {w0 : World} {M : List Nat} {a : Act} (hn : η.length = n) (hσ : σ.sc n = true) (h : Rel' w0 M I η σ a w) : Rel' w0 M I (η ++ ζ) σ a w := by
  have hσ' := hσ
  simp only [PS.sc, Bool.and_eq_true, List.all_eq_true] at hσ'
  refine { h with slots := h.slots.mem fun v x hv hr => SVr.app hn hσ (hσ'.1.1 v hv) hr, boxes := fun b ls hp => ?_, rows := fun r q hq => ?_ }
  · obtain ⟨cur, e, h1, h2⟩ := h.boxes b ls hp
    exact ⟨cur, e, h1, h2.mem fun l x hl hr => LVr.app hn (hσ'.1.2 _ (lookB_mem hp) l hl) hr⟩
  · obtain ⟨us, h1, h2⟩ := h.rows r q hq
    exact ⟨us, by rw [E.den_app hn _ (hσ'.2 q (lookR_mem hq).1)]; exact h1, h2⟩
theorem Rel.app {w0 : World} {M : List Nat} {fx : Fx} {a : Act} (hn : η.length = n) (hσ : σ.sc n = true) (h : Rel w0 M fx η σ a w) : Rel w0 M fx (η ++ ζ) σ a w :=
  let ⟨I, h, hf⟩ := h; ⟨I, h.app hn hσ, hf⟩
end
end Go.Proofs.YtibbceoibcnpcaaGreat.Eng
