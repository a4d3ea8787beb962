/- The engine, part J: new boxes and rows; writes. No condition. -/
import Derived.Test.YtibbceoibcnpcaaGreatEngI
namespace Go.Proofs.YtibbceoibcnpcaaGreat.Eng
open Go

section
variable {w0 : World} {M : List Nat} {I : In} {η : List U} {σ : PS} {a : Act} {w w' : World}

def In.box (I : In) (d g : Nat) : In := { I with ρ := fun b => if b = d then g else I.ρ b }
def In.row (I : In) (d : Nat) (v : Value) : In := { I with vr := fun r => if r = d then v else I.vr r }

theorem Kept.grown {w w' : World} {row : Option Nat} (h : Kept M w0 w) (hg : w.grownBy w' row) (hrow : ∀ k, row = some k → w0.heap.size ≤ k ∨ k ∈ M) : Kept M w0 w' :=
  ⟨hg.os.trans h.os, hg.tape.trans h.tape, hg.output.trans h.output, Nat.le_trans h.size hg.size, fun b hb hm => by
    have := h.size
    rw [hg.block b (by omega) (fun e => by rcases hrow b e.symm with h1 | h1 <;> first | omega | exact hm h1), h.block b hb hm]⟩

theorem newBox_rel {d e : Nat} {ls : List LV} {cur : Array Value} (hr : Rel' w0 M I η σ a w) (hn : lookB σ.boxes d = none) (hl : All2 (LVr (Ok I σ w) w η I σ) ls cur.toList) :
    Rel' w0 M (I.box d w.heap.size) η { σ with boxes := (d, ls) :: σ.boxes } a (w.alloc (.cells cur e)) := by
  have hlk : ∀ b, lookB ((d, ls) :: σ.boxes) b = if b = d then some ls else lookB σ.boxes b := lookB_cons d ls σ.boxes
  have hne : ∀ b, (lookB σ.boxes b).isSome = true → b ≠ d := fun b hb e => by subst e; rw [hn] at hb; cases hb
  have hρ : ∀ b, b ≠ d → (I.box d w.heap.size).ρ b = I.ρ b := fun b hb => by simp [In.box, hb]
  have hWB : ∀ g, WB (I.box d w.heap.size) { σ with boxes := (d, ls) :: σ.boxes } g → WB I σ g ∨ g = w.heap.size := by
    rintro g (⟨b, hb, e⟩ | ⟨r, hr', e⟩)
    · by_cases h : b = d
      · subst h; right; simpa [In.box] using e.symm
      · left; left
        simp only [hlk, if_neg h] at hb
        exact ⟨b, hb, by rw [← hρ b h]; exact e⟩
    · left; right; exact ⟨r, hr', e⟩
  have hh : ∀ b, b < w.heap.size → (w.alloc (.cells cur e)).heap[b]? = w.heap[b]? := fun b hb => RowKit.Below.heap_alloc w _ b hb
  have hsz : (w.alloc (.cells cur e)).heap.size = w.heap.size + 1 := by show (w.heap.push _).size = _; simp
  have ht : Tr2 (fun b => b ≠ d) (fun _ => True) (Ok I σ w) (Ok (I.box d w.heap.size) { σ with boxes := (d, ls) :: σ.boxes } (w.alloc (.cells cur e))) w (w.alloc (.cells cur e)) η I (I.box d w.heap.size) σ { σ with boxes := (d, ls) :: σ.boxes } := by
    refine ⟨fun b hb => ⟨⟨by rw [hsz]; have := hb.1.1; omega, hb.1.2⟩, fun x => ?_⟩, fun b hb => hh b hb.1.1, fun b hb h => ⟨by rw [hlk, if_neg hb]; exact h, hρ b hb⟩, fun r q _ hq => ⟨q, hq, rfl, rfl, rfl⟩⟩
    rcases hWB b x with h | h
    · exact hb.2 h
    · have := hb.1.1; omega
  exact {
    defers := hr.defers
    slots := hr.slots.mono fun s v hv => by
      cases s with
      | ptr b off => exact SVr.tr2 (t := .ptr b off) ht (hne b hv.2) hv
      | fn f cs => exact SVr.tr2 (t := .fn f cs) ht (fun b hb => hne b (hv.2 b hb)) hv
      | dead => trivial
      | val t => exact SVr.tr2 (t := .val t) ht (TV.refs_true t) hv
      | tup ts => exact SVr.tr2 (t := .tup ts) ht (fun t _ => TV.refs_true t) hv
      | eptr ls => exact SVr.tr2 (t := .eptr ls) ht (fun l _ => LV.refs_true l) hv
      | rptr r i o => exact SVr.tr2 (t := .rptr r i o) ht trivial hv
    boxes := fun b l hb => by
      rw [hlk] at hb
      by_cases h : b = d
      · subst h
        simp only [if_true, Option.some.injEq] at hb; subst hb
        refine ⟨cur, e, ?_, hl.mono fun l v hv => LVr.tr2 ht (LV.refs_true l) hv⟩
        have hb : (I.box b w.heap.size).ρ b = w.heap.size := by simp [In.box]
        rw [hb]
        show (w.heap.push (.cells cur e))[w.heap.size]? = _
        simp
      · simp only [if_neg h] at hb
        obtain ⟨c, e', h1, h2⟩ := hr.boxes b l hb
        refine ⟨c, e', ?_, h2.mono fun l v hv => LVr.tr2 ht (LV.refs_true l) hv⟩
        rw [hρ b h, hh _ (hr.lt (.inl ⟨b, by rw [hb]; rfl, rfl⟩))]; exact h1
    rows := fun r q hq => by
      obtain ⟨us, h1, h2⟩ := hr.rows r q hq
      exact ⟨us, h1, h2.tr ht.ok ht.heap fun g hg => hh g (hr.lt (.inr ⟨r, by rw [hq]; rfl, hg⟩))⟩
    injB := fun b b' h1 h2 he => by
      rw [hlk] at h1 h2
      by_cases hb : b = d <;> by_cases hb' : b' = d
      · rw [hb, hb']
      · exfalso; subst hb; simp only [if_neg hb'] at h2
        have := hr.lt (.inl ⟨b', h2, rfl⟩)
        rw [hρ b' hb'] at he; simp only [In.box, if_true] at he; omega
      · exfalso; subst hb'; simp only [if_neg hb] at h1
        have := hr.lt (.inl ⟨b, h1, rfl⟩)
        rw [hρ b hb] at he; simp only [In.box, if_true] at he; omega
      · simp only [if_neg hb] at h1; simp only [if_neg hb'] at h2
        exact hr.injB b b' h1 h2 (by rw [← hρ b hb, ← hρ b' hb']; exact he)
    injR := hr.injR
    injBR := fun b r h1 h2 he => by
      rw [hlk] at h1
      by_cases hb : b = d
      · subst hb
        have := hr.lt (.inr ⟨r, h2, he⟩)
        simp only [In.box, if_true] at this; omega
      · simp only [if_neg hb] at h1
        exact hr.injBR b r h1 h2 (by rw [← hρ b hb]; exact he)
    new := fun g hg => by
      rcases hWB g hg with h | h
      · exact hr.new g h
      · left; have := hr.kept.size; omega
    r0 := hr.r0
    keyB := by simp only [nodupB, Bool.and_eq_true, Option.isNone_iff_eq_none]; exact ⟨hn, hr.keyB⟩
    keyR := hr.keyR
    kept := hr.kept.grown (World.grownBy_alloc w _ none) (fun k hk => by cases hk) }

theorem newRow_rel {d e : Nat} {ks : List K} {c : E} {v : Value} {us : List (List U)} (hr : Rel' w0 M I η σ a w) (hg : w.grownBy w' none) (hn : lookR σ.rows d = none) (hc : c.den η = .lst us)
    (hown : Own (Ok I σ w) w' e ks v us) (hf : ∀ g, v.ownBlock = some g → w.heap.size ≤ g) :
    Rel' w0 M (I.row d v) η (newRow σ d e ks c) a w' := by
  have hlk : ∀ b, lookR (newRow σ d e ks c).rows b = if b = d then some { id := d, e := e, ks := ks, c := c } else lookR σ.rows b := lookR_cons _ _
  have hne : ∀ b, (lookR σ.rows b).isSome = true → b ≠ d := fun b hb e => by subst e; rw [hn] at hb; cases hb
  have hv : ∀ b, b ≠ d → (I.row d v).vr b = I.vr b := fun b hb => by simp [In.row, hb]
  have hvd : (I.row d v).vr d = v := by simp [In.row]
  have hWB : ∀ g, WB (I.row d v) (newRow σ d e ks c) g → WB I σ g ∨ (v.ownBlock = some g) := by
    rintro g (⟨b, hb, e⟩ | ⟨r, hr', e⟩)
    · left; left; exact ⟨b, hb, e⟩
    · by_cases h : r = d
      · subst h; right; rw [← hvd]; exact e
      · left; right
        rw [hlk, if_neg h] at hr'
        exact ⟨r, hr', by rw [← hv r h]; exact e⟩
  have hh : ∀ b, b < w.heap.size → w'.heap[b]? = w.heap[b]? := fun b hb => hg.block b hb (by simp)
  have hsz := hg.size
  have ht : Tr2 (fun _ => True) (fun s => s ≠ d) (Ok I σ w) (Ok (I.row d v) (newRow σ d e ks c) w') w w' η I (I.row d v) σ (newRow σ d e ks c) := by
    refine ⟨fun b hb => ⟨⟨by have := hb.1.1; omega, hb.1.2⟩, fun x => ?_⟩, fun b hb => hh b hb.1.1, fun b _ h => ⟨h, rfl⟩, fun r q hrd hq => ⟨q, by rw [hlk, if_neg hrd]; exact hq, hv r hrd, rfl, rfl⟩⟩
    rcases hWB b x with h | h
    · exact hb.2 h
    · have := hb.1.1; have := hf b h; omega
  have hLV : ∀ (l : LV) x, LVr (Ok I σ w) w η I σ l x → LVr (Ok (I.row d v) (newRow σ d e ks c) w') w' η (I.row d v) (newRow σ d e ks c) l x := fun l x hx => by
    cases l with
    | own s => exact LVr.tr2 (l := .own s) ht (hne s hx.2) hx
    | u k e => exact LVr.tr2 (l := .u k e) ht trivial hx
    | nil => exact hx
  have hTV : ∀ (t : TV) x, TVr (Ok I σ w) w η I σ t x → TVr (Ok (I.row d v) (newRow σ d e ks c) w') w' η (I.row d v) (newRow σ d e ks c) t x := fun t x hx => by
    cases t with
    | leaf l => exact hLV l x hx
    | agg ls => obtain ⟨cs, h1, h2⟩ := hx; exact ⟨cs, h1, h2.mono hLV⟩
  exact {
    defers := hr.defers
    slots := hr.slots.mono fun s x hx => by
      cases s with
      | ptr b off => exact SVr.tr2 (t := .ptr b off) ht trivial hx
      | fn f cs => exact SVr.tr2 (t := .fn f cs) ht (fun _ _ => trivial) hx
      | dead => trivial
      | val t => exact hTV t x hx
      | tup ts => obtain ⟨vs, h1, h2⟩ := hx; exact ⟨vs, h1, h2.mono hTV⟩
      | eptr ls =>
        obtain ⟨ad, h1, h2, h3, h4⟩ := hx
        refine ⟨ad, h1, h2, ht.ok _ h3, fun j l hl => ?_⟩
        obtain ⟨y, hy, hyr⟩ := h4 j l hl
        exact ⟨y, by rw [World.cell?_of_block (w := w) (a := ⟨ad.block, ad.off + j, none⟩) (ht.heap _ h3)]; exact hy, hLV l y hyr⟩
      | rptr r i o =>
        obtain ⟨q, _, _, hq, _⟩ := id hx
        exact SVr.tr2 (t := .rptr r i o) ht (hne r (by rw [hq]; rfl)) hx
    boxes := fun b l hb => by
      obtain ⟨cur, e', h1, h2⟩ := hr.boxes b l hb
      exact ⟨cur, e', by rw [show (I.row d v).ρ b = I.ρ b from rfl, hh _ (hr.lt (.inl ⟨b, by rw [show lookB σ.boxes b = some l from hb]; rfl, rfl⟩))]; exact h1, h2.mono hLV⟩
    rows := fun r q hq => by
      rw [hlk] at hq
      by_cases h : r = d
      · subst h
        simp only [if_true, Option.some.injEq] at hq; subst hq
        refine ⟨us, hc, ?_⟩
        rw [hvd]
        obtain ⟨xs, h1, h2, h3⟩ := hown
        exact ⟨xs, h1, h2, fun i j hi hj => let ⟨x, hx, hrd⟩ := h3 i j hi hj; ⟨x, hx, hrd.mono ht.ok fun _ _ => rfl⟩⟩
      · rw [if_neg h] at hq
        obtain ⟨us', h1, h2⟩ := hr.rows r q hq
        refine ⟨us', h1, ?_⟩
        rw [hv r h]
        exact h2.tr ht.ok ht.heap fun g hg' => hh g (hr.lt (.inr ⟨r, by rw [hq]; rfl, hg'⟩))
    injB := hr.injB
    injR := fun r r' g h1 h2 e1 e2 => by
      rw [hlk] at h1 h2
      by_cases hb : r = d <;> by_cases hb' : r' = d
      · rw [hb, hb']
      · exfalso; subst hb; rw [if_neg hb'] at h2
        rw [hvd] at e1; rw [hv r' hb'] at e2
        have := hr.lt (.inr ⟨r', h2, e2⟩); have := hf g e1; omega
      · exfalso; subst hb'; rw [if_neg hb] at h1
        rw [hvd] at e2; rw [hv r hb] at e1
        have := hr.lt (.inr ⟨r, h1, e1⟩); have := hf g e2; omega
      · rw [if_neg hb] at h1; rw [if_neg hb'] at h2
        rw [hv r hb] at e1; rw [hv r' hb'] at e2
        exact hr.injR r r' g h1 h2 e1 e2
    injBR := fun b r h1 h2 he => by
      rw [hlk] at h2
      by_cases hb : r = d
      · subst hb
        rw [hvd] at he
        have := hr.lt (.inl ⟨b, h1, rfl⟩); have := hf _ he
        simp only [In.row] at this; omega
      · rw [if_neg hb] at h2
        rw [hv r hb] at he
        exact hr.injBR b r h1 h2 he
    new := fun g hg' => by
      rcases hWB g hg' with h | h
      · exact hr.new g h
      · left; have := hr.kept.size; have := hf g h; omega
    r0 := hr.r0
    keyB := hr.keyB
    keyR := by
      show nodupR ({ id := d, e := e, ks := ks, c := c } :: σ.rows) = true
      simp only [nodupR, Bool.and_eq_true, Option.isNone_iff_eq_none]; exact ⟨hn, hr.keyR⟩
    kept := hr.kept.grown hg (fun k hk => by cases hk) }
end
end Go.Proofs.YtibbceoibcnpcaaGreat.Eng
