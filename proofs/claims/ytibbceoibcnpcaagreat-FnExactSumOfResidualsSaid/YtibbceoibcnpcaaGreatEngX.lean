/- The engine, part X: from a law's arguments, as the statement reads them, to the engine's data, and back. No condition. -/
import Derived.Test.YtibbceoibcnpcaaGreatEngW
import Derived.OpenShut
import Derived.ProofKit
import Derived.Carry
namespace Go.Proofs.YtibbceoibcnpcaaGreat.Eng
open Go Go.RowKit Go.ChangeShapes Go.WideShapes Go.ChangeAt

def fieldsOk (T : Tab) : List (Nat × Nat) → Nat → List K → Bool
  | [], _, [] => true
  | (ft, o) :: fs, off, ks => match T.get ft with
    | some ti => Nat.beq o off && K.beqL ti.ks (ks.take ti.size) && Nat.ble ti.size ks.length && fieldsOk T fs (off + ti.size) (ks.drop ti.size)
    | none => false
  | [], _, _ :: _ => false
def ksOk (T : Tab) (ti : TI) : Bool := match ti.kind with
  | .int k => K.beqL ti.ks [.int k] | .bool => K.beqL ti.ks [.bool] | .str => K.beqL ti.ks [.str]
  | .slice e => match T.get e with | some te => K.beqL ti.ks [.lst e te.ks] && Nat.ble 1 te.size | none => false
  | .struct fs => fieldsOk T fs 0 ti.ks
  | _ => false
def tabOk2 (T : Tab) : Bool := T.all fun p => ksOk T p.2
def TabOK2 (T : Tab) : Prop := ∀ t ti, T.get t = some ti → ksOk T ti = true
theorem tabOk2_sound {T : Tab} (h : tabOk2 T = true) : TabOK2 T := fun t ti ht => by
  simp only [tabOk2, List.all_eq_true] at h
  exact h _ (get_mem ht)

/-- data as a type's values are -/
inductive UOk : K → U → Prop where
  | int (k n) : (Lit.int k n).wf = true → UOk (.int k) (.int n)
  | bool (b) : UOk .bool (.bool b)
  | str (s : ByteArray) : s.size ≤ maxLen → UOk .str (.str s)
  | lst (e ks) (us : List (List U)) : us.length ≤ maxLen → (∀ r ∈ us, r.length = ks.length) → (∀ i j, i < us.length → j < ks.length → UOk (ks.getD j default) ((us.getD i []).getD j default)) → UOk (.lst e ks) (.lst us)
def UOkL : List K → List U → Prop
  | [], [] => True
  | k :: ks, u :: us => UOk k u ∧ UOkL ks us
  | _, _ => False
theorem UOkL.get : ∀ {ks : List K} {us : List U} {j : Nat}, UOkL ks us → j < ks.length → UOk (ks.getD j default) (us.getD j default)
  | k :: ks, u :: us, 0, h, _ => h.1
  | k :: ks, u :: us, j + 1, h, hj => by simpa using UOkL.get (j := j) h.2 (by simpa using hj)
  | k :: ks, [], _, h, _ => h.elim
  | [], _, _, _, hj => by simp at hj
theorem RdL.get {R : Nat → Prop} {w : World} : ∀ {ks : List K} {vs : List Value} {us : List U} {j : Nat}, RdL R w ks vs us → j < ks.length → ∃ x, vs[j]? = some x ∧ Rd R w (ks.getD j default) x (us.getD j default)
  | k :: ks, v :: vs, u :: us, 0, h, _ => ⟨v, rfl, h.1⟩
  | k :: ks, v :: vs, u :: us, j + 1, h, hj => by simpa using RdL.get (j := j) h.2 (by simpa using hj)
  | k :: ks, [], _, _, h, _ | k :: ks, _ :: _, [], _, h, _ => h.elim
  | [], _, _, _, _, hj => by simp at hj
theorem RdL.append {R : Nat → Prop} {w : World} : ∀ {k1 k2 : List K} {v1 v2 : List Value} {u1 u2 : List U}, RdL R w k1 v1 u1 → RdL R w k2 v2 u2 → RdL R w (k1 ++ k2) (v1 ++ v2) (u1 ++ u2)
  | [], _, [], _, [], _, _, h => h
  | _ :: _, _, _ :: _, _, _ :: _, _, h, h' => ⟨h.1, RdL.append h.2 h'⟩
  | [], _, [], _, _ :: _, _, h, _ | [], _, _ :: _, _, _, _, h, _ | _ :: _, _, [], _, _, _, h, _ | _ :: _, _, _ :: _, _, [], _, h, _ => h.elim
theorem UOkL.append : ∀ {k1 k2 : List K} {u1 u2 : List U}, UOkL k1 u1 → UOkL k2 u2 → UOkL (k1 ++ k2) (u1 ++ u2)
  | [], _, [], _, _, h => h
  | _ :: _, _, _ :: _, _, h, h' => ⟨h.1, UOkL.append h.2 h'⟩
  | [], _, _ :: _, _, h, _ | _ :: _, _, [], _, h, _ => h.elim

section
variable {H : Type} {enc : TypeId × Value → H} {P : Program} {w : World} {T : Tab} {held : Bool}

theorem cellsOf_tab {t : Nat} {ti : TI} (h : TyOK P t ti) : P.cellsOf t = ti.size := by
  obtain ⟨i, z, h1, h2, _⟩ := h.info
  simp [Program.cellsOf, h1, h2]

def In0 (w : World) : Nat → Prop := fun b => b < w.heap.size

theorem cells_get {base : Nat} {a : Addr} {n : Nat} {cs : List Value} (h : w.cells? base a n = some cs) : cs.length = n ∧ ∀ j, j < n → w.cell? (a.add j) = cs[j]? := by
  unfold World.cells? at h
  split at h
  · exact ⟨by simpa using mapM_some_length h, fun j hj => mapM_some_get h j j (by simp [hj])⟩
  · cases h
theorem add_add' (a : Addr) (i j : Nat) : (a.add i).add j = a.add (i + j) := by
  unfold Addr.add
  by_cases hi : i = 0 <;> by_cases hj : j = 0 <;> simp [hi, hj, Nat.add_assoc]

theorem fields_rd {n : Nat} (ih : ∀ {t : Nat} {ti : TI} {cs : List Value} {x : DataW H × List MemPlace}, T.get t = some ti → DataW.trod enc P w 0 (fun _ => true) held n t cs = some x → ∃ us, RdL (In0 w) w ti.ks cs us ∧ UOkL ti.ks us)
    (hT : TabOK P T) : ∀ (fs : List Field) (off : Nat) (ks : List K) (cs : List Value), fieldsOk T (fs.map (fun f => (f.type, f.offset))) off ks = true →
    (∀ f ∈ fs, ∃ x, DataW.trod enc P w 0 (fun _ => true) held n f.type ((cs.drop f.offset).take (P.cellsOf f.type)) = some x) → cs.length = off + ks.length → ∃ us, RdL (In0 w) w ks (cs.drop off) us ∧ UOkL ks us
  | [], off, [], cs, _, _, hl => by
    refine ⟨[], ?_, trivial⟩
    rw [List.drop_of_length_le (by simp at hl; omega)]; trivial
  | f :: fs, off, ks, cs, h, hx, hl => by
    simp only [List.map_cons, fieldsOk] at h
    split at h
    · rename_i ti hti
      simp only [Bool.and_eq_true, Nat.ble_eq] at h
      obtain ⟨⟨⟨h1, h2⟩, h3⟩, h4⟩ := h
      have h1 := Nat.eq_of_beq_eq_true h1
      have h2 := K.eq_of_beqL _ _ h2
      obtain ⟨x, hxf⟩ := hx f List.mem_cons_self
      rw [cellsOf_tab (hT _ _ hti), h1] at hxf
      obtain ⟨u1, r1, o1⟩ := ih hti hxf
      obtain ⟨u2, r2, o2⟩ := fields_rd ih hT fs (off + ti.size) (ks.drop ti.size) cs h4 (fun g hg => hx g (List.mem_cons_of_mem _ hg)) (by simp; omega)
      refine ⟨u1 ++ u2, ?_, ?_⟩
      · rw [show ks = ti.ks ++ ks.drop ti.size by rw [h2, List.take_append_drop], show cs.drop off = (cs.drop off).take ti.size ++ cs.drop (off + ti.size) by rw [← List.drop_drop, List.take_append_drop]]
        exact r1.append r2
      · rw [show ks = ti.ks ++ ks.drop ti.size by rw [h2, List.take_append_drop]]
        exact o1.append o2
    · cases h
  | [], _, _ :: _, _, h, _, _ => by simp [fieldsOk] at h

/-- what the statement reads, the engine reads -/
theorem trod_rd (hT : TabOK P T) (h2 : TabOK2 T) : ∀ (n : Nat) {t : Nat} {ti : TI} {cs : List Value} {x : DataW H × List MemPlace}, T.get t = some ti → DataW.trod enc P w 0 (fun _ => true) held n t cs = some x →
    ∃ us, RdL (In0 w) w ti.ks cs us ∧ UOkL ti.ks us
  | 0, t, ti, cs, x, _, h => by simp [DataW.trod] at h
  | n + 1, t, ti, cs, x, hti, h => by
    have hk := h2 t ti hti
    have hTy := hT t ti hti
    unfold ksOk at hk
    split at hk
    · rename_i k hkd
      have hu := hTy.und_int hkd
      rw [K.eq_of_beqL _ _ hk]
      unfold DataW.trod at h
      rw [hu] at h
      split at h <;> simp_all
      exact ⟨[.int _], ⟨Rd.int _ _, trivial⟩, ⟨UOk.int _ _ (by simp_all), trivial⟩⟩
    · rename_i hkd
      have hu := hTy.und_bool hkd
      rw [K.eq_of_beqL _ _ hk]
      unfold DataW.trod at h
      rw [hu] at h
      split at h <;> simp_all
      exact ⟨[.bool _], ⟨Rd.bool _, trivial⟩, ⟨UOk.bool _, trivial⟩⟩
    · rename_i hkd
      have hu : P.underlying t = some .string := by
        have := hTy.kind; unfold kindOk at this; rw [hkd] at this; split at this <;> simp_all
      rw [K.eq_of_beqL _ _ hk]
      unfold DataW.trod at h
      rw [hu] at h
      split at h <;> simp_all
      exact ⟨[.str _], ⟨Rd.str _, trivial⟩, ⟨UOk.str _ (by simp_all), trivial⟩⟩
    · rename_i e hkd
      have hu := hTy.und_slice hkd
      split at hk
      · rename_i te hte
        rw [Bool.and_eq_true, Nat.ble_eq] at hk
        obtain ⟨hk, hpos⟩ := hk
        rw [K.eq_of_beqL _ _ hk]
        rcases DataW.trod_slice hu h with ⟨rfl, _⟩ | ⟨a, len, cap, elems, rest, m, hm, rfl, _, _, hle, hcap, hlen, hel, hsp, _⟩
        · exact ⟨[.lst []], ⟨Rd.nil _ _, trivial⟩, ⟨UOk.lst _ _ [] (by simp) (by simp) (fun i j hi => by simp at hi), trivial⟩⟩
        · cases hm
          have hsz : P.cellsOf e = te.ks.length := by rw [cellsOf_tab (hT _ _ hte)]; exact (hT _ _ hte).len
          have hszs : te.size = te.ks.length := (hT _ _ hte).len
          rw [hsz] at hel hsp
          have hspot : a.spot = none ∨ cap = 0 := by
            rcases Nat.eq_zero_or_pos cap with h0 | h0
            · exact .inr h0
            · left
              have key : ∃ cs', w.cells? 0 (a.add (0 * te.ks.length)) te.ks.length = some cs' := by
                by_cases hl : 0 < len
                · have := hel 0 hl
                  rw [List.getElem?_eq_getElem (by omega)] at this
                  obtain ⟨cs', h1, _⟩ := Option.bind_eq_some_iff.1 this
                  exact ⟨cs', h1⟩
                · obtain ⟨hrl, hr⟩ := hsp rfl
                  have := hr 0 (by omega)
                  rw [List.getElem?_eq_getElem (by omega), show len + 0 = 0 by omega] at this
                  obtain ⟨cs', h1, _⟩ := Option.bind_eq_some_iff.1 this
                  exact ⟨cs', h1⟩
              obtain ⟨cs', hc⟩ := key
              obtain ⟨h3, h4⟩ := cells_get hc
              have h5 := h4 0 (by omega)
              rw [List.getElem?_eq_getElem (by omega), Nat.zero_mul, add_add'] at h5
              have h6 : a.add (0 + 0) = a := by unfold Addr.add; simp
              rw [h6] at h5
              exact World.cell?_spot h5
          have row : ∀ i, i < len → ∃ r, (∃ cs', (∀ j, j < te.ks.length → w.cell? ⟨a.block, a.off + (i * te.ks.length + j), none⟩ = cs'[j]?) ∧ RdL (In0 w) w te.ks cs' r) ∧ UOkL te.ks r := fun i hi => by
            have := hel i hi
            rw [List.getElem?_eq_getElem (by omega)] at this
            obtain ⟨cs', h3, h4⟩ := Option.bind_eq_some_iff.1 this
            obtain ⟨us, h5, h6⟩ := trod_rd hT h2 n hte h4
            refine ⟨us, ⟨cs', fun j hj => ?_, h5⟩, h6⟩
            have := (cells_get h3).2 j hj
            rw [add_add', add_eq (hspot.resolve_right (by omega))] at this
            exact this
          have hch : ∃ us : List (List U), us.length = len ∧ ∀ i, i < len → (∃ cs', (∀ j, j < te.ks.length → w.cell? ⟨a.block, a.off + (i * te.ks.length + j), none⟩ = cs'[j]?) ∧ RdL (In0 w) w te.ks cs' (us.getD i [])) ∧ UOkL te.ks (us.getD i []) := by
            refine ⟨(List.range len).map fun i => if hi : i < len then Classical.choose (row i hi) else [], by simp, fun i hi => ?_⟩
            have := Classical.choose_spec (row i hi)
            have e : ((List.range len).map fun i => if hi : i < len then Classical.choose (row i hi) else []).getD i [] = Classical.choose (row i hi) := by
              rw [List.getD_eq_getElem?_getD, List.getElem?_map, List.getElem?_range hi]; simp [hi]
            rw [e]; exact this
          obtain ⟨us, hul, hus⟩ := hch
          have hrow : ∀ r ∈ us, r.length = te.ks.length := fun r hr => by
            obtain ⟨i, hi⟩ := List.mem_iff_getElem?.1 hr
            have hil := (List.getElem?_eq_some_iff.1 hi).1
            obtain ⟨⟨cs', _, h4⟩, _⟩ := hus i (by omega)
            have e : us.getD i [] = r := by simp [hi]
            rw [e] at h4; exact h4.len.2
          have hcell : ∀ i j, i < len → j < te.ks.length → ∃ y, w.cell? ⟨a.block, a.off + (i * te.ks.length + j), none⟩ = some y ∧ Rd (In0 w) w (te.ks.getD j default) y ((us.getD i []).getD j default) := fun i j hi hj => by
            obtain ⟨⟨cs', h3, h4⟩, _⟩ := hus i hi
            obtain ⟨y, hy, hyr⟩ := h4.get hj
            exact ⟨y, by rw [h3 j hj, hy], hyr⟩
          refine ⟨[.lst us], ⟨Rd.row e te.ks a len cap us (fun i j => (w.cell? ⟨a.block, a.off + (i * te.ks.length + j), none⟩).getD default) hspot hul hle hcap hrow (fun i j hi hj => ?_) (fun i j hi hj => ?_) (fun i j hi hj => ?_), trivial⟩,
            ⟨UOk.lst _ _ us (by omega) hrow (fun i j hi hj => (hus i (by omega)).2.get hj), trivial⟩⟩
          · obtain ⟨y, hy, _⟩ := hcell i j hi hj
            have : a.block < w.heap.size := by
              rcases Nat.lt_or_ge a.block w.heap.size with h7 | h7
              · exact h7
              · simp [World.cell?, Array.getElem?_eq_none h7] at hy
            exact this
          · obtain ⟨y, hy, _⟩ := hcell i j hi hj; simp only [hy, Option.getD_some]
          · obtain ⟨y, hy, hyr⟩ := hcell i j hi hj; simp only [hy, Option.getD_some]; exact hyr
      · cases hk
    · rename_i fs hkd
      obtain ⟨fl, hu, hfl⟩ := hTy.und_struct hkd
      obtain ⟨xs, m, hm, _, hlen, hxl, hf⟩ := DataW.trod_struct hu h
      cases hm
      rw [← hfl] at hk
      have := fields_rd (fun hti h => trod_rd hT h2 n hti h) hT fl.toList 0 ti.ks cs hk (fun f hf' => by
        obtain ⟨i, hi⟩ := List.mem_iff_getElem?.1 hf'
        have hi' : fl[i]? = some f := by simpa using hi
        have := hf i f hi'
        rw [this]
        have hlt := (Array.getElem?_eq_some_iff.1 hi').1
        exact ⟨_, List.getElem?_eq_getElem (by omega)⟩) (by rw [hlen, cellsOf_tab hTy, hTy.len]; omega)
      simpa using this
    · cases hk

def parOk (T : Tab) : List PK → List Nat → Bool
  | [], [] => true
  | .val agg ks :: ps, t :: ts => match T.get t with
    | some ti => (match agg, ti.agg with | true, true => true | false, false => true | _, _ => false) && K.beqL ti.ks ks && parOk T ps ts
    | none => false
  | _, _ => false
def parK (ps : List PK) : List K := ps.flatMap fun | .val _ ks => ks | .box ks => ks | .fn _ _ => [] | .ro ks => ks

theorem leaf_cells {t : Nat} {ti : TI} (h : TyOK P t ti) (ha : ti.agg = false) {r : Reach} {base : Nat} {v : Value} (hv : Value.okWide P w r base t v) : v.cells = #[v] := by
  have hk := h.kind
  unfold kindOk at hk
  split at hk
  · rename_i hu _ _
    simp only [Value.okWide, hu, Cell.okWide, Cell.ok] at hv
    cases v <;> first | rfl | exact hv.elim
  · rename_i hu _ _
    simp only [Value.okWide, hu, Cell.okWide, Cell.ok] at hv
    cases v <;> first | rfl | exact hv.elim
  · rename_i hu _ _
    simp only [Value.okWide, hu, Cell.okWide, Cell.ok] at hv
    cases v <;> first | rfl | exact hv.elim
  · rename_i hu _ _
    simp only [Value.okWide, hu, Cell.okWide, Cell.ok] at hv
    cases v <;> first | rfl | exact hv.elim
  · rename_i hagg
    rw [ha] at hagg; cases hagg
  · cases hk

theorem agg_cells {t : Nat} {ti : TI} (h : TyOK P t ti) (ha : ti.agg = true) {r : Reach} {base : Nat} {v : Value} (hv : Value.okWide P w r base t v) : v = .agg v.cells := by
  have hk := h.kind
  unfold kindOk at hk
  split at hk
  · rename_i hagg; rw [ha] at hagg; cases hagg
  · rename_i hagg; rw [ha] at hagg; cases hagg
  · rename_i hagg; rw [ha] at hagg; cases hagg
  · rename_i hagg; rw [ha] at hagg; cases hagg
  · rename_i hu _ _
    simp only [Value.okWide, hu] at hv
    obtain ⟨cs, rfl, _⟩ := hv
    rfl
  · cases hk

theorem args_rel (hT : TabOK P T) (h2 : TabOK2 T) {base : Nat} : ∀ {ts : List Nat} {vs : List Value} {ds : List (DataW H)} {p : List MemPlace} {ps : List PK}, DataW.TrodAll enc P w 0 (fun _ => true) held ts vs ds p →
    (∀ (j : Nat) t v, ts[j]? = some t → vs[j]? = some v → Value.okWide P w .any base t v) → parOk T ps ts = true → ∃ us, ArgsRel (In0 w) w ps vs us [] ∧ UOkL (parK ps) us
  | [], [], [], p, [], _, _, _ => ⟨[], trivial, trivial⟩
  | t :: ts, v :: vs, d :: ds, p, .val agg ks :: ps, h, hv, hp => by
    obtain ⟨p1, q1, ⟨n, h1⟩, h3, _⟩ := h
    simp only [parOk] at hp
    split at hp
    · rename_i ti hti
      simp only [Bool.and_eq_true] at hp
      obtain ⟨⟨hagg, hks⟩, hps⟩ := hp
      have hks := K.eq_of_beqL _ _ hks
      obtain ⟨u1, r1, o1⟩ := trod_rd hT h2 n hti h1
      obtain ⟨u2, r2, o2⟩ := args_rel hT h2 h3 (fun j t v hj hj' => hv (j + 1) t v (by simpa using hj) (by simpa using hj')) hps
      rw [hks] at r1 o1
      have hok := hv 0 t v rfl rfl
      refine ⟨u1 ++ u2, ⟨v.cells.toList, u1, u2, rfl, ?_, r1, r2⟩, o1.append o2⟩
      cases agg with
      | true =>
        cases ha : ti.agg with
        | true => simp only [if_true]; exact agg_cells (hT _ _ hti) ha hok
        | false => rw [ha] at hagg; cases hagg
      | false =>
        cases ha : ti.agg with
        | false => simp only [Bool.false_eq_true, if_false]; rw [leaf_cells (hT _ _ hti) ha hok]
        | true => rw [ha] at hagg; cases hagg
    · cases hp
  | [], [], [], _, _ :: _, _, _, hp => by simp [parOk] at hp
  | _ :: _, _ :: _, _ :: _, _, [], _, _, hp | _ :: _, _ :: _, _ :: _, _, .box _ :: _, _, _, hp | _ :: _, _ :: _, _ :: _, _, .fn _ _ :: _, _, _, hp | _ :: _, _ :: _, _ :: _, _, .ro _ :: _, _, _, hp => by simp [parOk] at hp
  | [], _ :: _, _, _, _, h, _, _ | [], [], _ :: _, _, _, h, _, _ | _ :: _, [], _, _, _, h, _, _ | _ :: _, _ :: _, [], _, _, h, _, _ => h.elim

theorem trodAll_stays (hl : laidOutB P = true) {w' : World} (hb : Below w.heap.size w w') : ∀ {ts : List Nat} {vs : List Value} {ds : List (DataW H)} {p : List MemPlace}, DataW.TrodAll enc P w 0 (fun _ => true) true ts vs ds p →
    (ts.all fun t => P.readableRec t && Nat.blt t P.types.size) = true → (∀ x ∈ p, x.block < w.heap.size) → DataW.TrodAll enc P w' 0 (fun b => decide (b < w.heap.size)) true ts vs ds p
  | [], [], [], p, h, _, _ => h
  | t :: ts, v :: vs, d :: ds, p, h, hr, hlt => by
    obtain ⟨p1, q1, h1, h2, rfl⟩ := h
    simp only [List.all_cons, Bool.and_eq_true, Nat.blt_eq] at hr
    obtain ⟨⟨hr1, hr2⟩, hr3⟩ := hr
    exact ⟨p1, q1, Below.trod hl hr1 hr2 h1 hb (fun x hx => hlt x (List.mem_append_left _ hx)), trodAll_stays hl hb h2 (by simpa using hr3) (fun x hx => hlt x (List.mem_append_right _ hx)), rfl⟩
  | [], _ :: _, _, _, h, _, _ | [], [], _ :: _, _, h, _, _ | _ :: _, [], _, _, h, _, _ | _ :: _, _ :: _, [], _, h, _, _ => h.elim
end

/-- A LAW THAT ANSWERS TRUE, as its row says it -/
theorem law_contract {P : Program} {T : Tab} (hT : TabOK P T) (h2 : TabOK2 T) (hl : laidOutB P = true) {f bt : Nat} {fn : Func} {sg : Sig} {g : List U → Option (List U)} (hok : FnOK P f sg g) (hres : sg.res = [(false, [.bool])]) (hpar : parOk T sg.params fn.params.toList = true)
    (hrd : (fn.params.toList.all fun t => P.readableRec t && Nat.blt t P.types.size) = true) (hrt : fn.resultTypes = #[bt]) (hbt : P.underlying bt = some .bool)
    (hg : ∀ us, UOkL (parK sg.params) us → g us = some [.bool true]) {s : ChangeSpec} (hvars : s.vars = []) (hs : ∀ (H : Type) (ds : List (DataW H)), ds.length = fn.params.size → s.fn H ds = { results := [.lit (.bool true)], args := ds })
    (H : Type) (enc : TypeId × Value → H) (apart fresh handsOn : Bool) (W : World) (base : Nat) (args : Array Value) (ds gs : List (DataW H)) (before : List MemPlace)
    (hval : ∀ (j : Nat) t v, fn.params[j]? = some t → args[j]? = some v → Value.okWide P W .any base t v)
    (hW : DataW.Whole enc P fn.params.toList s.vars apart W args.toList ds gs before) :
    Calls P f args W fun e W' => ∃ v, e = .returned v ∧ s.post enc P fn apart fresh handsOn false W args v W' := by
  have hW' := hW
  obtain ⟨p, q, hA, hV, hpq, hfz, hnd⟩ := hW
  rw [hvars] at hV
  have hgs : gs = [] ∧ q = [] := by
    cases gs with
    | nil => exact ⟨rfl, hV⟩
    | cons _ _ => exact hV.elim
  obtain ⟨rfl, rfl⟩ := hgs
  obtain ⟨us, ha, ho⟩ := args_rel hT h2 hA (fun j t v hj hv => hval j t v (by simpa using hj) (by simpa using hv)) hpar
  have hrun := hok.run W args.toList us [.bool true] (In0 W) [] ha List.nodup_nil (fun b hb => ⟨hb, by simp⟩) (hg us ho)
  rw [show args.toList.toArray = args by simp] at hrun
  refine hrun.mono ?_
  rintro e W' ⟨v, cs, u1, u2, vs, R', rfl, hb⟩
  obtain ⟨hk, hrs, hv, hch, hrl, _, _, hbx⟩ := hb
  refine ⟨v, rfl, ?_⟩
  -- the result
  have hvt : v = .bool true := by
    rw [hres] at hch
    match vs, cs, hch with
    | [x], cs, hch =>
      obtain ⟨c1, c2, rfl, hlen, hx, hc2⟩ := hch
      simp only [Bool.false_eq_true, if_false] at hx
      match c2, hc2 with
      | [], _ =>
        rw [hres] at hrl
        rw [hx, List.append_nil] at hrl
        match u1, hrl with
        | [u], hrl =>
          simp only [List.cons_append, List.cons.injEq] at hrs
          have h1 : Rd R' W' .bool x u := hrl.1
          rw [← hrs.1] at h1
          cases h1
          rw [hv]; rfl
  subst hvt
  have hbelow : Below W.heap.size W W' := ⟨hk.os, hk.tape, hk.output, hk.size, fun b hb => hk.block b hb (by simp)⟩
  have hdl : ds.length = fn.params.size := by
    have : ∀ {ts : List Nat} {vs : List Value} {ds : List (DataW H)} {p : List MemPlace}, DataW.TrodAll enc P W 0 (fun _ => true) true ts vs ds p → ds.length = ts.length := by
      intro ts
      induction ts with
      | nil => intro vs ds p h; cases vs <;> cases ds <;> first | rfl | exact h.elim
      | cons t ts ih =>
        intro vs ds p h
        cases vs <;> cases ds <;> first | exact h.elim | (obtain ⟨_, _, _, h2, _⟩ := h; simp [ih h2])
    simpa using this hA
  have hsp := hs H (ds ++ []) (by simpa using hdl)
  rw [List.append_nil] at hsp
  refine ⟨ds, [], before, [], p, [], hW', ?_, ?_, ?_, hbelow.frame _, fun h => by cases h⟩
  · rw [List.append_nil, hsp, hrt]
    exact trodAll_mk1 (shut_bool hbt _)
  · rw [List.append_nil, hsp]
    exact trodAll_stays hl hbelow hA hrd (fun x hx => hW'.lt x (by rw [hpq]; simpa using hx))
  · rw [List.append_nil, hsp, hvars]
    rfl
end Go.Proofs.YtibbceoibcnpcaaGreat.Eng
