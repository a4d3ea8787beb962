/- The engine, part O: what a function promises to its callers; a call. No condition. -/
import Derived.Test.YtibbceoibcnpcaaGreatEngN
namespace Go.Proofs.YtibbceoibcnpcaaGreat.Eng
open Go

/-- cells that read as data, each by its kind -/
def RdL (R : Nat → Prop) (w : World) : List K → List Value → List U → Prop
  | [], [], [] => True
  | k :: ks, v :: vs, u :: us => Rd R w k v u ∧ RdL R w ks vs us
  | _, _, _ => False
theorem RdL.mono {R R' : Nat → Prop} {w w' : World} (hR : ∀ b, R b → R' b) (hh : ∀ b, R b → w'.heap[b]? = w.heap[b]?) : ∀ {ks : List K} {vs : List Value} {us : List U}, RdL R w ks vs us → RdL R' w' ks vs us
  | [], [], [], _ => trivial
  | _ :: _, _ :: _, _ :: _, h => ⟨h.1.mono hR hh, RdL.mono hR hh h.2⟩
  | [], [], _ :: _, h | [], _ :: _, _, h | _ :: _, [], _, h | _ :: _, _ :: _, [], h => h.elim
theorem RdL.len {R : Nat → Prop} {w : World} : ∀ {ks : List K} {vs : List Value} {us : List U}, RdL R w ks vs us → vs.length = ks.length ∧ us.length = ks.length
  | [], [], [], _ => ⟨rfl, rfl⟩
  | _ :: _, _ :: _, _ :: _, h => by obtain ⟨h1, h2⟩ := RdL.len h.2; exact ⟨by simp [h1], by simp [h2]⟩
  | [], [], _ :: _, h | [], _ :: _, _, h | _ :: _, [], _, h | _ :: _, _ :: _, [], h => h.elim

def ArgsRel (R : Nat → Prop) (w : World) : List PK → List Value → List U → List Nat → Prop
  | [], [], [], [] => True
  | .ro ks :: ps, v :: vs, us, bs => ∃ (a : Addr) (cs : List Value) (u1 u2 : List U), us = u1 ++ u2 ∧ v = .pointer (some a) ∧ a.spot = none ∧ R a.block ∧ (∀ j x, cs[j]? = some x → w.cell? ⟨a.block, a.off + j, none⟩ = some x) ∧ RdL R w ks cs u1 ∧ ArgsRel R w ps vs u2 bs
  | .fn f n :: ps, v :: vs, us, bs => ∃ caps : List Value, v = .func (.func f) #[] caps.toArray ∧ caps.length = n ∧ ArgsRel R w ps (caps ++ vs) us bs
  | .val agg ks :: ps, v :: vs, us, bs => ∃ cs u1 u2, us = u1 ++ u2 ∧ (if agg then v = .agg cs.toArray else cs = [v]) ∧ RdL R w ks cs u1 ∧ ArgsRel R w ps vs u2 bs
  | .box ks :: ps, v :: vs, us, g :: bs => ∃ cur e u1 u2, us = u1 ++ u2 ∧ v = .pointer (some ⟨g, 0, none⟩) ∧ w.heap[g]? = some (.cells cur e (0, 0)) ∧ RdL R w ks cur.toList u1 ∧ ArgsRel R w ps vs u2 bs
  | _, _, _, _ => False

/-- a result's cell: plain data, or a row of the call's own -/
def LfRes (R : Nat → Prop) (w : World) (base : Nat) : K → Value → U → Prop
  | .lst e ks, v, u => ∃ us, u = .lst us ∧ Own R w e ks v us ∧ ∀ g, v.ownBlock = some g → base ≤ g
  | k, v, u => Rd R w k v u
def ResL (R : Nat → Prop) (w : World) (base : Nat) : List K → List Value → List U → Prop
  | [], [], [] => True
  | k :: ks, v :: vs, u :: us => LfRes R w base k v u ∧ ResL R w base ks vs us
  | _, _, _ => False
def Chunks : List (Bool × List K) → List Value → List Value → Prop
  | [], [], [] => True
  | (agg, ks) :: r, v :: vs, cs => ∃ c1 c2, cs = c1 ++ c2 ∧ c1.length = ks.length ∧ (if agg then v = .agg c1.toArray else c1 = [v]) ∧ Chunks r vs c2
  | _, _, _ => False
def tupV : List Value → Value | [x] => x | vs => .tuple vs.toArray
def BoxesRel (R : Nat → Prop) (w : World) : List PK → List Nat → List U → Prop
  | [], [], [] => True
  | .val _ _ :: ps, bs, us => BoxesRel R w ps bs us
  | .fn _ _ :: ps, bs, us => BoxesRel R w ps bs us
  | .ro _ :: ps, bs, us => BoxesRel R w ps bs us
  | .box ks :: ps, g :: bs, us => ∃ cur e u1 u2, us = u1 ++ u2 ∧ w.heap[g]? = some (.cells cur e (0, 0)) ∧ RdL R w ks cur.toList u1 ∧ BoxesRel R w ps bs u2
  | _, _, _ => False

/-- what a call hands back -/
structure Back (R : Nat → Prop) (w w' : World) (sg : Sig) (bs : List Nat) (v : Value) (rs : List U) (cs : List Value) (u1 u2 : List U) (vs : List Value) (R' : Nat → Prop) : Prop where
  kept : Kept bs w w'
  rs : rs = u1 ++ u2
  v : v = tupV vs
  chunks : Chunks sg.res vs cs
  res : ResL R' w' w.heap.size (flatK sg.res) cs u1
  apart : ∀ (i j : Nat) x y g, cs[i]? = some x → cs[j]? = some y → x.ownBlock = some g → y.ownBlock = some g → i = j
  old : ∀ b, R' b → (R b ∨ w.heap.size ≤ b) ∧ b < w'.heap.size ∧ ∀ x ∈ cs, x.ownBlock ≠ some b
  boxes : BoxesRel R' w' sg.params bs u2

/-- the promise of function f: from data that are as its signature says, if g tells an answer, the call hands it back -/
structure FnOK (P : Program) (f : Nat) (sg : Sig) (g : List U → Option (List U)) : Prop where
  enter : ∀ args w, (callFunc f args).run P w = .ok (.enter f args) w
  run : ∀ (w : World) (vs : List Value) (us rs : List U) (R : Nat → Prop) (bs : List Nat), ArgsRel R w sg.params vs us bs → bs.Nodup → (∀ b, R b → b < w.heap.size ∧ b ∉ bs) → g us = some rs →
    Calls P f vs.toArray w fun e w' => ∃ v cs u1 u2 vs R', e = .returned v ∧ Back R w w' sg bs v rs cs u1 u2 vs R'

section
variable {P : Program} {T : Tab} {w0 : World} {M : List Nat} {fx : Fx} {I : In} {η : List U} {σ : PS} {a : Act} {w w' : World}

theorem lookR_app (nr rs : List Row) (r : Nat) : lookR (nr ++ rs) r = match lookR nr r with | some q => some q | none => lookR rs r := by
  induction nr with
  | nil => rfl
  | cons q nr ih =>
    rw [List.cons_append, lookR_cons, lookR_cons, ih]
    by_cases h : r = q.id <;> simp [h]
theorem nodupR_app {nr rs : List Row} (h1 : nodupR nr = true) (h2 : nodupR rs = true) (h : ∀ q ∈ nr, lookR rs q.id = none) : nodupR (nr ++ rs) = true := by
  induction nr with
  | nil => exact h2
  | cons q nr ih =>
    simp only [List.cons_append, nodupR, Bool.and_eq_true, Option.isNone_iff_eq_none] at h1 ⊢
    refine ⟨?_, ih h1.2 fun p hp => h p (List.mem_cons_of_mem _ hp)⟩
    rw [lookR_app, h1.1]; exact h q List.mem_cons_self

/-- many new rows, and boxes that were written -/
theorem step_rel {bs : List Nat} {vr' : Nat → Value} {nb : List (Nat × List LV)} {nr : List Row} {R' : Nat → Prop} (hr : Rel' w0 M I η σ a w) (hk : Kept bs w w')
    (hbs : ∀ g, g ∈ bs → ∃ b, (lookB σ.boxes b).isSome = true ∧ I.ρ b = g)
    (hkeys : ∀ b, (lookB nb b).isSome = (lookB σ.boxes b).isSome) (hnb : nodupB nb = true)
    (hnr : nodupR nr = true) (hfr : ∀ q ∈ nr, lookR σ.rows q.id = none) (hvr : ∀ r, (lookR σ.rows r).isSome = true → vr' r = I.vr r)
    (hR1 : ∀ b, R' b → (Ok I σ w b ∨ w.heap.size ≤ b) ∧ b < w'.heap.size) (hR2 : ∀ b, R' b → ∀ q ∈ nr, (vr' q.id).ownBlock ≠ some b)
    (hfresh : ∀ q ∈ nr, ∀ g, (vr' q.id).ownBlock = some g → w.heap.size ≤ g)
    (hap : ∀ q ∈ nr, ∀ q' ∈ nr, ∀ g, (vr' q.id).ownBlock = some g → (vr' q'.id).ownBlock = some g → q.id = q'.id)
    (hboxes : ∀ b ls, lookB nb b = some ls → (I.ρ b ∉ bs ∧ lookB σ.boxes b = some ls) ∨ ∃ cur e, w'.heap[I.ρ b]? = some (.cells cur e (0, 0)) ∧
      All2 (LVr R' w' η { I with vr := vr' } { σ with boxes := nb, rows := nr ++ σ.rows }) ls cur.toList)
    (hrows : ∀ q ∈ nr, ∃ us, q.c.den η = .lst us ∧ Own R' w' q.e q.ks (vr' q.id) us) :
    Rel' w0 M { I with vr := vr' } η { σ with boxes := nb, rows := nr ++ σ.rows } a w' ∧ ∀ b, R' b → Ok { I with vr := vr' } { σ with boxes := nb, rows := nr ++ σ.rows } w' b := by
  generalize hI' : ({ I with vr := vr' } : In) = I' at *
  generalize hσ' : ({ σ with boxes := nb, rows := nr ++ σ.rows } : PS) = σ' at *
  have eρ : I'.ρ = I.ρ := by rw [← hI']
  have evr : I'.vr = vr' := by rw [← hI']
  have eR0 : I'.R0 = I.R0 := by rw [← hI']
  have eb : σ'.boxes = nb := by rw [← hσ']
  have er : σ'.rows = nr ++ σ.rows := by rw [← hσ']
  have es : σ'.slots = σ.slots := by rw [← hσ']
  have hlk : ∀ r, lookR σ'.rows r = match lookR nr r with | some q => some q | none => lookR σ.rows r := fun r => by rw [er]; exact lookR_app nr σ.rows r
  have hnew : ∀ r, (lookR σ'.rows r).isSome = true → (∃ q ∈ nr, q.id = r ∧ lookR σ'.rows r = some q) ∨ ((lookR σ.rows r).isSome = true ∧ lookR σ'.rows r = lookR σ.rows r) := fun r h => by
    have hl := hlk r
    cases hn : lookR nr r with
    | some q => rw [hn] at hl; left; exact ⟨q, (lookR_mem hn).1, (lookR_mem hn).2, hl⟩
    | none => rw [hn] at hl; right; rw [hl] at h; exact ⟨h, hl⟩
  have hold : ∀ r q, lookR σ.rows r = some q → lookR σ'.rows r = some q := fun r q h => by
    rw [hlk]
    cases hn : lookR nr r with
    | some p => have := hfr p (lookR_mem hn).1; rw [(lookR_mem hn).2, h] at this; cases this
    | none => exact h
  have hsz := hk.size
  have hWB : ∀ g, WB I' σ' g → WB I σ g ∨ ∃ q ∈ nr, (vr' q.id).ownBlock = some g := by
    rintro g (⟨b, hb, e⟩ | ⟨r, hrs, e⟩)
    · left; left; rw [eb, hkeys] at hb; exact ⟨b, hb, by rw [← eρ]; exact e⟩
    · rw [evr] at e
      rcases hnew r hrs with ⟨q, hq, rfl, _⟩ | ⟨h, _⟩
      · right; exact ⟨q, hq, e⟩
      · left; right; exact ⟨r, h, by rw [← hvr r h]; exact e⟩
  have hh : ∀ b, Ok I σ w b → w'.heap[b]? = w.heap[b]? := fun b hb => hk.block b hb.1.1 (fun h => by
    obtain ⟨c, hc, e⟩ := hbs b h
    exact hb.2 (.inl ⟨c, hc, e⟩))
  have hok : ∀ b, Ok I σ w b → Ok I' σ' w' b := fun b hb => ⟨⟨by have := hb.1.1; omega, by rw [eR0]; exact hb.1.2⟩, fun x => by
    rcases hWB b x with h | ⟨q, hq, h⟩
    · exact hb.2 h
    · have := hfresh q hq b h; have := hb.1.1; omega⟩
  have hokR : ∀ b, R' b → Ok I' σ' w' b := fun b hb => by
    obtain ⟨h1, h2⟩ := hR1 b hb
    refine ⟨⟨h2, ?_⟩, fun x => ?_⟩
    · rw [eR0]; rcases h1 with h | h
      · exact h.1.2
      · exact hr.r0 b (.inl (by have := hr.kept.size; omega))
    · rcases hWB b x with h | ⟨q, hq, h⟩
      · rcases h1 with h3 | h3
        · exact h3.2 h
        · have := hr.lt h; omega
      · exact hR2 b hb q hq h
  have ht : Tr (Ok I σ w) (Ok I' σ' w') w w' η I I' σ σ' := ⟨hok, hh, fun b h => ⟨by rw [eb, hkeys]; exact h, by rw [eρ]⟩, fun r q hq => ⟨q, hold r q hq, by rw [evr]; exact hvr r (by rw [hq]; rfl), rfl, rfl⟩⟩
  refine ⟨?_, hokR⟩
  exact {
    defers := hr.defers
    slots := by rw [es]; exact hr.slots.mono fun s v hv => SVr.tr ht hv
    boxes := fun b ls hb => by
      rw [eb] at hb
      rw [eρ]
      rcases hboxes b ls hb with ⟨h1, h2⟩ | ⟨cur, e, h1, h2⟩
      · obtain ⟨cur, e, h3, h4⟩ := hr.boxes b ls h2
        refine ⟨cur, e, ?_, h4.mono fun l v hv => LVr.tr ht hv⟩
        rw [hk.block _ (hr.lt (.inl ⟨b, by rw [h2]; rfl, rfl⟩)) h1]; exact h3
      · refine ⟨cur, e, h1, h2.mono fun l v hv => ?_⟩
        cases l with
        | u k e => exact Rd.mono hv hokR fun _ _ => rfl
        | own r => exact hv
        | nil => exact hv
    rows := fun r q hq => by
      rw [evr]
      rcases hnew r (by rw [hq]; rfl) with ⟨q', hq', rfl, h⟩ | ⟨h1, h2⟩
      · rw [hq] at h; cases h
        obtain ⟨us, h1, xs, h2, h3, h4⟩ := hrows q hq'
        exact ⟨us, h1, xs, h2, h3, fun i j hi hj => let ⟨x, hx, hrd⟩ := h4 i j hi hj; ⟨x, hx, hrd.mono hokR fun _ _ => rfl⟩⟩
      · rw [hq] at h2
        obtain ⟨us, h3, h4⟩ := hr.rows r q h2.symm
        refine ⟨us, h3, ?_⟩
        rw [hvr r h1]
        exact h4.tr ht.ok ht.heap fun g hg => hk.block g (hr.lt (.inr ⟨r, h1, hg⟩)) (fun h => by
          obtain ⟨c, hc, e⟩ := hbs g h
          exact hr.injBR c r hc h1 (by rw [hg, e]))
    injB := fun b b' h1 h2 he => by
      rw [eb, hkeys] at h1 h2; rw [eρ] at he; exact hr.injB b b' h1 h2 he
    injR := fun r r' g h1 h2 e1 e2 => by
      rw [evr] at e1 e2
      rcases hnew r h1 with ⟨q, hq, rfl, _⟩ | ⟨h3, _⟩ <;> rcases hnew r' h2 with ⟨q', hq', rfl, _⟩ | ⟨h4, _⟩
      · exact hap q hq q' hq' g e1 e2
      · have := hfresh q hq g e1; rw [hvr _ h4] at e2; have := hr.lt (.inr ⟨r', h4, e2⟩); omega
      · have := hfresh q' hq' g e2; rw [hvr _ h3] at e1; have := hr.lt (.inr ⟨r, h3, e1⟩); omega
      · rw [hvr _ h3] at e1; rw [hvr _ h4] at e2; exact hr.injR r r' g h3 h4 e1 e2
    injBR := fun b r h1 h2 he => by
      rw [eb, hkeys] at h1; rw [evr, eρ] at he
      rcases hnew r h2 with ⟨q, hq, rfl, _⟩ | ⟨h3, _⟩
      · have := hfresh q hq _ he; have := hr.lt (.inl ⟨b, h1, rfl⟩); omega
      · rw [hvr _ h3] at he; exact hr.injBR b r h1 h3 he
    new := fun g hg => by
      rcases hWB g hg with h | ⟨q, hq, h⟩
      · exact hr.new g h
      · left; have := hfresh q hq g h; have := hr.kept.size; omega
    r0 := fun g hg => by rw [eR0]; exact hr.r0 g hg
    keyB := by rw [eb]; exact hnb
    keyR := by rw [er]; exact nodupR_app hnr hr.keyR hfr
    kept := by
      have hk0 := hr.kept
      refine ⟨hk.os.trans hk0.os, hk.tape.trans hk0.tape, hk.output.trans hk0.output, Nat.le_trans hk0.size hk.size, fun b hb hm => ?_⟩
      rw [hk.block b (by have := hk0.size; omega) (fun h => ?_), hk0.block b hb hm]
      obtain ⟨c, hc, e⟩ := hbs b h
      rcases hr.new b (.inl ⟨c, hc, e⟩) with h | h
      · omega
      · exact hm h }
end
end Go.Proofs.YtibbceoibcnpcaaGreat.Eng
