/- The engine, part L: operations on the memory: a new variable, a store, a new slice. No condition. -/
import Derived.Test.YtibbceoibcnpcaaGreatEngK
namespace Go.Proofs.YtibbceoibcnpcaaGreat.Eng
open Go

/-- an operation runs; the state behind it is as told -/
def Did (P : Program) (w0 : World) (M : List Nat) (fx : Fx) (η : List U) (a : Act) (w : World) (o : Oper) (σ' : PS) (v : SV) : Prop :=
  ∃ nx x w' I, (execOp a.eval o).run P w = .ok nx w' ∧ (nx = .value x ∨ (nx = .skip ∧ x = undef)) ∧ Rel' w0 M I η σ' a w' ∧ SVr (Ok I σ' w') w' η I σ' v x ∧ fx.ok I

theorem getElem?_setAt {α : Type} : ∀ (xs l : List α) (off k : Nat), off + xs.length ≤ l.length → (setAt l off xs)[k]? = if off ≤ k ∧ k < off + xs.length then xs[k - off]? else l[k]?
  | [], l, off, k, _ => by simp [Eng.setAt]; intro h1 h2; omega
  | x :: xs, l, off, k, h => by
    simp only [List.length_cons] at h
    simp only [Eng.setAt]
    rw [getElem?_setAt xs (l.set off x) (off + 1) k (by simp; omega)]
    simp only [List.length_cons]
    by_cases hk : k = off
    · subst hk
      rw [if_neg (by omega), if_pos (by omega)]
      simp [show k < l.length by omega]
    · by_cases h2 : off + 1 ≤ k ∧ k < off + 1 + xs.length
      · rw [if_pos h2, if_pos (by omega)]
        obtain ⟨m, hm⟩ : ∃ m, k - off = m + 1 := ⟨k - off - 1, by omega⟩
        rw [hm, List.getElem?_cons_succ]
        congr 1; omega
      · rw [if_neg h2, if_neg (by omega), List.getElem?_set_ne (by omega)]

theorem setAt_take_drop {α : Type} (xs l : List α) (off : Nat) (h : off + xs.length ≤ l.length) : setAt l off xs = l.take off ++ xs ++ l.drop (off + xs.length) := by
  apply List.ext_getElem?
  intro k
  rw [getElem?_setAt xs l off k h]
  by_cases h1 : k < off
  · rw [if_neg (by omega), List.append_assoc, List.getElem?_append_left (by simp; omega)]
    simp [h1]
  · by_cases h2 : k < off + xs.length
    · rw [if_pos (by omega), List.append_assoc, List.getElem?_append_right (by simp; omega), List.getElem?_append_left (by simp; omega)]
      congr 1; simp; omega
    · rw [if_neg (by omega), List.getElem?_append_right (by simp; omega), List.getElem?_drop]
      congr 1; simp; omega

section
variable {P : Program} {T : Tab} {w0 : World} {M : List Nat} {fx : Fx} {I : In} {η : List U} {σ : PS} {a : Act} {w : World}

theorem Fx.ok.box {d g : Nat} (hfx : fx.ok I) (hd : fx.N ≤ d) : fx.ok (I.box d g) :=
  ⟨fun b hb => by simp [In.box, show b ≠ d by omega]; exact hfx.1 b hb, hfx.2⟩

theorem clB_none (hr : Rel' w0 M I η σ a w) (d : Nat) : lookB (σ.clB d).boxes d = none := by
  show lookB (delB σ.boxes d) d = none
  rw [lookB_delB d d hr.keyB, if_pos rfl]

theorem alloc_did (hT : TabOK P T) {o : Oper} {ty d : Nat} {ti : TI} (ho : o.op = .alloc ty) (hti : T.get ty = some ti) (hr : Rel' w0 M I η σ a w) (hd : fx.N ≤ d) (hfx : fx.ok I) :
    Did P w0 M fx η a w o { (σ.clB d) with boxes := (d, ti.ks.map zeroLV) :: (σ.clB d).boxes } (.ptr d 0) := by
  have h1 := clB_rel d hr
  obtain ⟨i, z, e1, _, _, e4, e5⟩ := (hT _ _ hti).info
  have h2 := newBox_rel (e := ty) h1 (clB_none hr d) (zero_rel (vs := z.cells.toList) e5)
  refine ⟨_, .pointer (some ⟨w.heap.size, 0, none⟩), _, _, ?_, .inl rfl, h2, ⟨?_, ?_⟩, hfx.box hd⟩
  · simp [execOp, ho, Instr.alloc, zeroValue, typeInfo, e1, e4, newVar, Go.newRow]
  · simp [In.box]
  · rw [lookB_cons]; simp

theorem box_did {o : Oper} {ty d : Nat} {x : Operand} {tv : TV} (ho : o.op = .box ty x) (hx : opv σ x = .val tv) (hr : Rel' w0 M I η σ a w) (hd : fx.N ≤ d) (hfx : fx.ok I) :
    Did P w0 M fx η a w o { (σ.clB d) with boxes := (d, tv.ls) :: (σ.clB d).boxes } (.ptr d 0) := by
  have h1 := clB_rel d hr
  have hv := opv_rel hr x
  rw [hx] at hv
  obtain ⟨hc, _⟩ := TVr.cells hr hv
  -- the value's leaves hold no pointer: forgetting a box changes nothing
  have hl : ∀ b, lookB (σ.clB d).boxes b = if b = d then none else lookB σ.boxes b := fun b => lookB_delB d b hr.keyB
  have hWB : ∀ g, WB I (σ.clB d) g → WB I σ g := fun g hg => hg.imp (fun ⟨b, hb, e⟩ => ⟨b, by rw [hl] at hb; by_cases h : b = d <;> simp [h] at hb; exact hb, e⟩) id
  have ht : Tr2 (fun b => b ≠ d) (fun _ => True) (Ok I σ w) (Ok I (σ.clB d) w) w w η I I σ (σ.clB d) :=
    ⟨fun b hb => ⟨hb.1, fun x => hb.2 (hWB b x)⟩, fun _ _ => rfl, fun b hb h => ⟨by rw [hl, if_neg hb]; exact h, rfl⟩, fun r q _ hq => ⟨q, hq, rfl, rfl, rfl⟩⟩
  have h2 := newBox_rel (e := ty) (cur := (a.eval x).cells) h1 (clB_none hr d) (hc.mono fun l v hv => LVr.tr2 ht (LV.refs_true l) hv)
  refine ⟨_, .pointer (some ⟨w.heap.size, 0, none⟩), _, _, ?_, .inl rfl, h2, ⟨?_, ?_⟩, hfx.box hd⟩
  · simp [execOp, ho, Instr.box, newVar, Go.newRow]
  · simp [In.box]
  · rw [lookB_cons]; simp

theorem storeVar_at {ty : Nat} {ti : TI} (hT : TyOK P ty ti) {g off e : Nat} {cur : Array Value} {v : Value} (hg : w.heap[g]? = some (.cells cur e (0, 0))) (hsz : v.cells.size = ti.size) (hle : off + v.cells.size ≤ cur.size)
    (h1 : ∀ x ∈ v.cells.toList, x.oneCell' = true) : (storeVar ty ⟨g, off, none⟩ v).run P w = .ok () (w.setRow g (setAt cur.toList off v.cells.toList).toArray) := by
  have := run_storeCells_at P g off e v.cells.toList 0 cur w hg (by simpa using hle) h1
  rw [setAt_take_drop _ _ _ (by simpa using hle)]
  simp [storeVar, hT.run_size, hsz, this]

theorem setRow_grown (g : Nat) (cs : Array Value) : w.grownBy (w.setRow g cs) (some g) :=
  ⟨rfl, rfl, rfl, by simp [World.setRow], fun k _ hk => setRow_other w g k _ (fun e => hk (by rw [e]))⟩

theorem storeBox_did (hT : TabOK P T) {o : Oper} {ty b off : Nat} {ti : TI} {p x : Operand} {tv : TV} {ls : List LV} (ho : o.op = .store ty p x) (hti : T.get ty = some ti) (hx : opv σ x = .val tv) (hsz : tv.ls.length = ti.size)
    (hp : opv σ p = .ptr b off) (hb : lookB σ.boxes b = some ls) (hle : off + tv.ls.length ≤ ls.length) (hr : Rel' w0 M I η σ a w) (hfx : fx.ok I) :
    Did P w0 M fx η a w o { σ with boxes := setB σ.boxes b (setAt ls off tv.ls) } .dead := by
  have hv := opv_rel hr x
  rw [hx] at hv
  obtain ⟨hc, h1⟩ := TVr.cells hr hv
  have hpv := opv_rel hr p
  rw [hp] at hpv
  obtain ⟨cur, e, hg, hcur⟩ := hr.boxes b ls hb
  have hlen : tv.ls.length = (a.eval x).cells.size := by simpa using hc.length
  have hcl : ls.length = cur.size := by simpa using hcur.length
  have hst := storeVar_at (P := P) (hT _ _ hti) hg (v := a.eval x) (off := off) (by omega) (by omega) h1
  refine ⟨.skip, undef, w.setRow (I.ρ b) (setAt cur.toList off (a.eval x).cells.toList).toArray, I, ?_, .inr ⟨rfl, rfl⟩, storeBox_rel hr hb (setRow_grown _ _) (setRow_heap w _ cur _ e _ hg) ?_, trivial, hfx⟩
  · simp [execOp, ho, hpv.1, Instr.storeAt, Instr.sureAddr, hst]
  · simpa using All2.setAt off hc hcur

theorem setFold_den {i : E} {off : Nat} : ∀ (es : List E) (k : Nat) (c : E) (us : List (List U)), c.den η = .lst us →
    ((es.zipIdx k).foldl (fun c p => E.set c i (off + p.2) p.1) c).den η = .lst (us.modify (i.den η).I.toNat (fun r => setAt r (off + k) (es.map (E.den η))))
  | [], k, c, us, h => by
    simp only [List.zipIdx_nil, List.foldl_nil, List.map_nil, Eng.setAt, h]
    congr 1
    exact (List.modify_id _ us).symm
  | e :: es, k, c, us, h => by
    simp only [List.zipIdx_cons, List.foldl_cons, List.map_cons, Eng.setAt]
    rw [setFold_den es (k + 1) _ (us.modify (i.den η).I.toNat (fun r => r.set (off + k) (e.den η))) (by simp only [E.den, h, U.L_lst])]
    rw [List.modify_modify_eq]
    rfl

theorem zipE_toU {R : Nat → Prop} : ∀ {ks : List K} {ls : List LV} {es : List E} {vs : List Value}, zipE LV.toU ks ls = some es → All2 (LVr R w η I σ) ls vs →
    es.length = ks.length ∧ ks.length = vs.length ∧ ∀ (j : Nat) x, vs[j]? = some x → Rd R w (ks.getD j default) x ((es.map (E.den η)).getD j default)
  | [], [], es, [], h, _ => by simp only [zipE, Option.some.injEq] at h; subst h; exact ⟨rfl, rfl, fun j x hx => by simp at hx⟩
  | k :: ks, l :: ls, es, v :: vs, h, hl => by
    simp only [zipE] at h
    split at h
    · rename_i e es' h1 h2
      simp only [Option.some.injEq] at h; subst h
      obtain ⟨r1, r2, r3⟩ := zipE_toU h2 hl.2
      refine ⟨by simp [r1], by simp [r2], fun j x hx => ?_⟩
      cases j with
      | zero =>
        simp at hx; subst hx
        simp only [List.getD_cons_zero, List.map_cons]
        have hv := hl.1
        unfold LV.toU at h1
        split at h1
        · rename_i k' e'
          split at h1
          · rename_i hk; cases h1
            rw [K.eq_of_beq _ _ hk]; exact hv
          · cases h1
        · cases h1
        · split at h1
          · cases h1; rw [show v = .slice none 0 0 from hv]; exact Rd.nil _ _
          · cases h1
      | succ j => simpa using r3 j x (by simpa using hx)
    · cases h
  | [], _ :: _, _, _, h, _ | _ :: _, [], _, _, h, _ => by simp [zipE] at h
  | _, [], _, _ :: _, _, hl | _, _ :: _, _, [], _, hl => hl.elim

theorem idx_in {i i' j' size off len : Nat} (hj : j' < size) (hl : off + len ≤ size) : (i * size + off ≤ i' * size + j' ∧ i' * size + j' < i * size + off + len) ↔ (i' = i ∧ off ≤ j' ∧ j' < off + len) := by
  constructor
  · rintro ⟨h1, h2⟩
    have : i' = i := by
      rcases Nat.lt_trichotomy i' i with h | h | h
      · have := Nat.mul_le_mul_right size (show i' + 1 ≤ i from h); rw [Nat.add_mul] at this; omega
      · exact h
      · have := Nat.mul_le_mul_right size (show i + 1 ≤ i' from h); rw [Nat.add_mul] at this; omega
    subst this; omega
  · rintro ⟨rfl, h1, h2⟩; omega

theorem own_store {R : Nat → Prop} {e : Nat} {ks : List K} {g cap : Nat} {us : List (List U)} {i off : Nat} {vs : List Value} {uv : List U} (ho : Own R w e ks (.slice (some ⟨g, 0, none⟩) us.length cap) us)
    (hi : i < us.length) (hle : off + vs.length ≤ ks.length) (huv : uv.length = vs.length) (hgR : ¬ R g) (hrd : ∀ (j : Nat) x, vs[j]? = some x → Rd R w (ks.getD (off + j) default) x (uv.getD j default)) :
    ∃ cur, w.heap[g]? = some (.cells cur e (0, 0)) ∧ i * ks.length + off + vs.length ≤ cur.size ∧
      Own R (w.setRow g (setAt cur.toList (i * ks.length + off) vs).toArray) e ks (.slice (some ⟨g, 0, none⟩) us.length cap) (us.modify i (fun r => setAt r off uv)) := by
  obtain ⟨xs, h1, h2, h3⟩ := ho
  obtain ⟨hx, hor⟩ := h1
  rcases hor with ⟨e1, _⟩ | ⟨g', cap', cur, e1, hb, hg, hnc, hcm, hcs, htk⟩
  · cases e1
  · cases e1
    have hm := Nat.mul_le_mul_right ks.length (show i + 1 ≤ us.length from hi)
    rw [Nat.add_mul] at hm
    have hm2 := Nat.mul_le_mul_right ks.length hnc
    have hfit : i * ks.length + off + vs.length ≤ cur.size := by omega
    refine ⟨cur, hg, hfit, (setAt cur.toList (i * ks.length + off) vs).take (us.length * ks.length), ⟨?_, .inr ⟨g, cap, _, by simp, hb, setRow_heap w g cur _ e _ hg, by simpa using hnc, hcm, by simp [length_setAt, hcs], by simp⟩⟩, ?_, ?_⟩
    · simp [length_setAt]; omega
    · intro r hr
      rw [List.mem_iff_getElem?] at hr
      obtain ⟨k, hk⟩ := hr
      rw [List.getElem?_modify] at hk
      split at hk
      · rw [Option.map_eq_map, Option.map_eq_some_iff] at hk
        obtain ⟨r0, hr0, rfl⟩ := hk
        rw [length_setAt]; exact h2 r0 (List.mem_of_getElem? hr0)
      · simp at hk; exact h2 r (List.mem_of_getElem? hk)
    · intro i' j' hi' hj'
      simp only [List.length_modify] at hi'
      have hm' := Nat.mul_le_mul_right ks.length (show i' + 1 ≤ us.length from hi')
      rw [Nat.add_mul] at hm'
      have hlt : i' * ks.length + j' < us.length * ks.length := by omega
      rw [List.getElem?_take, if_pos hlt, getElem?_setAt _ _ _ _ (by simpa using hfit)]
      have hR : ∀ b, R b → (w.setRow g (setAt cur.toList (i * ks.length + off) vs).toArray).heap[b]? = w.heap[b]? := fun b hb => setRow_other w g b _ (fun e => hgR (e ▸ hb))
      have hus : us[i']? = some (us.getD i' []) := by simp [hi']
      have hrl : (us.getD i' []).length = ks.length := h2 _ (List.mem_of_getElem? hus)
      by_cases hin : i * ks.length + off ≤ i' * ks.length + j' ∧ i' * ks.length + j' < i * ks.length + off + vs.length
      · obtain ⟨rfl, hj1, hj2⟩ := (idx_in hj' hle).1 hin
        rw [if_pos hin]
        have hk : i' * ks.length + j' - (i' * ks.length + off) = j' - off := by omega
        rw [hk]
        have hv : vs[j' - off]? = some vs[j' - off] := by simp
        refine ⟨_, hv, ?_⟩
        have := (hrd _ _ hv).mono (fun _ h => h) hR
        rw [show off + (j' - off) = j' by omega] at this
        have hrow : (us.modify i' (fun r => setAt r off uv)).getD i' [] = setAt (us.getD i' []) off uv := by
          rw [List.getD_eq_getElem?_getD, List.getElem?_modify_eq, hus]; rfl
        have hgd : ((us.modify i' (fun r => setAt r off uv)).getD i' []).getD j' default = uv.getD (j' - off) default := by
          rw [hrow, List.getD_eq_getElem?_getD, getElem?_setAt _ _ _ _ (by omega), if_pos (by omega), List.getD_eq_getElem?_getD]
        rw [hgd]; exact this
      · rw [if_neg hin]
        obtain ⟨x, hx1, hx2⟩ := h3 i' j' hi' hj'
        rw [← htk, List.getElem?_take, if_pos hlt] at hx1
        refine ⟨x, hx1, ?_⟩
        have hgd : ((us.modify i (fun r => setAt r off uv)).getD i' []).getD j' default = (us.getD i' []).getD j' default := by
          by_cases he : i = i'
          · subst he
            have hrow : (us.modify i (fun r => setAt r off uv)).getD i [] = setAt (us.getD i []) off uv := by
              rw [List.getD_eq_getElem?_getD, List.getElem?_modify_eq, hus]; rfl
            rw [hrow, List.getD_eq_getElem?_getD, getElem?_setAt _ _ _ _ (by omega), if_neg (by intro h; exact hin ((idx_in hj' hle).2 ⟨rfl, h.1, by omega⟩)), ← List.getD_eq_getElem?_getD]
          · have hrow : (us.modify i (fun r => setAt r off uv)).getD i' [] = us.getD i' [] := by
              simp [List.getElem?_modify, he]
            rw [hrow]
        rw [hgd]; exact hx2.mono (fun _ h => h) hR

theorem storeRow_did (hT : TabOK P T) {o : Oper} {ty r off : Nat} {i : E} {ti : TI} {p x : Operand} {tv : TV} {q : Row} {es : List E} (ho : o.op = .store ty p x) (hti : T.get ty = some ti) (hx : opv σ x = .val tv) (hsz : tv.ls.length = ti.size)
    (hp : opv σ p = .rptr r i off) (hq : lookR σ.rows r = some q) (hes : zipE LV.toU ((q.ks.drop off).take tv.ls.length) tv.ls = some es) (hle : off + tv.ls.length ≤ q.ks.length) (hr : Rel' w0 M I η σ a w) (hfx : fx.ok I) :
    Did P w0 M fx η a w o { σ with rows := setR σ.rows r ((es.zipIdx).foldl (fun c p => .set c i (off + p.2) p.1) q.c) } .dead := by
  have hv := opv_rel hr x
  rw [hx] at hv
  obtain ⟨hc, h1⟩ := TVr.cells hr hv
  have hpv := opv_rel hr p
  rw [hp] at hpv
  obtain ⟨q', g, cap, hq', hvr, hpe, h0, hlt⟩ := hpv
  rw [hq] at hq'; cases hq'
  obtain ⟨us, hus, hown⟩ := hr.rows r q hq
  rw [hus] at hvr hlt
  simp only [U.L_lst] at hvr hlt
  have hlen : tv.ls.length = (a.eval x).cells.size := by simpa using hc.length
  obtain ⟨z1, z2, z3⟩ := zipE_toU hes hc
  have hi : (i.den η).I.toNat < us.length := by omega
  have hgW : ¬ Ok I σ w g := fun h => h.2 (.inr ⟨r, by rw [hq]; rfl, by rw [hvr]; rfl⟩)
  rw [hvr] at hown
  obtain ⟨cur, hg, hfit, hown'⟩ := own_store (i := (i.den η).I.toNat) (off := off) (vs := (a.eval x).cells.toList) (uv := es.map (E.den η)) hown hi (by simp; omega) (by simp [z1]; simpa using z2) hgW (fun j y hy => by
    have := z3 j y hy
    have hj := (List.getElem?_eq_some_iff.1 hy).1
    have e : ((q.ks.drop off).take tv.ls.length).getD j default = q.ks.getD (off + j) default := by
      rw [List.getD_eq_getElem?_getD, List.getElem?_take, if_pos (by simp at hj; omega), List.getElem?_drop, List.getD_eq_getElem?_getD]
    rw [e] at this; exact this)
  have hst := storeVar_at (P := P) (hT _ _ hti) hg (v := a.eval x) (off := (i.den η).I.toNat * q.ks.length + off) (by omega) (by simpa using hfit) h1
  refine ⟨.skip, undef, w.setRow g (setAt cur.toList ((i.den η).I.toNat * q.ks.length + off) (a.eval x).cells.toList).toArray, I.row r (I.vr r), ?_, .inr ⟨rfl, rfl⟩,
    setRow_rel hr hq (by rw [hvr]; exact setRow_grown _ _) hus (setFold_den es 0 q.c us hus) ?_ (.inl ⟨rfl, by simp⟩), trivial, hfx⟩
  · simp [execOp, ho, hpe, Instr.storeAt, Instr.sureAddr, hst]
  · rw [hvr]
    rw [show (fun r => setAt r (off + 0) (es.map (E.den η))) = (fun r => setAt r off (es.map (E.den η))) from rfl]
    obtain ⟨xs, y1, y2, y3⟩ := hown'
    exact ⟨xs, by simpa using y1, y2, y3⟩
end
end Go.Proofs.YtibbceoibcnpcaaGreat.Eng
