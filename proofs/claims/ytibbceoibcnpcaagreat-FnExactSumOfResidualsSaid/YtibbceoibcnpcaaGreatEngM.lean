/- The engine, part M: new slices: literals, make; pieces; append. No condition. -/
import Derived.Test.YtibbceoibcnpcaaGreatEngL
import Derived.Great.BuildSlice
namespace Go.Proofs.YtibbceoibcnpcaaGreat.Eng
open Go

section
variable {P : Program} {T : Tab} {w0 : World} {M : List Nat} {fx : Fx} {I : In} {η : List U} {σ : PS} {a : Act} {w : World}

theorem rowE_den : ∀ es : List E, (rowE es).den η = .lst [es.map (E.den η)]
  | [] => rfl
  | e :: es => by simp only [rowE, E.den, rowE_den es, U.R_lst, List.map_cons]
theorem rowsE_den : ∀ rs : List (List E), (rowsE rs).den η = .lst (rs.map (List.map (E.den η)))
  | [] => rfl
  | r :: rs => by simp only [rowsE, E.den, rowE_den r, rowsE_den rs, U.R_lst, U.L_lst, List.map_cons]

theorem zero_rd {R : Nat → Prop} : ∀ {ks : List K} {vs : List Value}, zeroOk ks vs = true → vs.length = ks.length ∧ ∀ j, j < ks.length → ∃ x, vs[j]? = some x ∧ Rd R w (ks.getD j default) x (((ks.map zeroE).map (E.den η)).getD j default)
  | [], [], _ => ⟨rfl, fun j hj => by simp at hj⟩
  | k :: ks, v :: vs, h => by
    have key : zeroOk ks vs = true ∧ Rd R w k v ((zeroE k).den η) := by
      cases k with
      | int k =>
        cases v <;> simp only [zeroOk, Bool.and_eq_true, decide_eq_true_eq, Bool.false_eq_true] at h
        obtain ⟨⟨rfl, rfl⟩, h⟩ := h
        exact ⟨h, Rd.int _ _⟩
      | bool =>
        cases v <;> simp only [zeroOk, Bool.and_eq_true, Bool.not_eq_true', Bool.false_eq_true] at h
        obtain ⟨rfl, h⟩ := h
        exact ⟨h, Rd.bool _⟩
      | str =>
        cases v <;> simp only [zeroOk, Bool.and_eq_true, List.isEmpty_iff, Bool.false_eq_true] at h
        rename_i s
        obtain ⟨hs, h⟩ := h
        refine ⟨h, ?_⟩
        simp only [zeroE, E.den]
        obtain ⟨⟨l⟩⟩ := s
        simp only at hs; subst hs
        exact Rd.str _
      | lst e ks' =>
        cases v
        case slice b n c => cases b <;> cases n <;> cases c <;> first | (simp [zeroOk] at h; done) | exact ⟨by simpa only [zeroOk] using h, Rd.nil _ _⟩
        all_goals (simp [zeroOk] at h)
    obtain ⟨r1, r2⟩ := zero_rd (R := R) key.1
    refine ⟨by simp [r1], fun j hj => ?_⟩
    cases j with
    | zero => exact ⟨v, by simp, by simpa using key.2⟩
    | succ j =>
      obtain ⟨x, hx, hr⟩ := r2 j (by simpa using hj)
      exact ⟨x, by simpa using hx, by simpa using hr⟩
  | k :: _, [], h => by cases k <;> simp [zeroOk] at h
  | [], _ :: _, h => by simp [zeroOk] at h

/-- cells that read as rows -/
def CellsRd (R : Nat → Prop) (w : World) (ks : List K) (cs : List Value) (us : List (List U)) : Prop :=
  cs.length = us.length * ks.length ∧ (∀ r ∈ us, r.length = ks.length) ∧ ∀ i j, i < us.length → j < ks.length → ∃ x, cs[i * ks.length + j]? = some x ∧ Rd R w (ks.getD j default) x ((us.getD i []).getD j default)

theorem made_rd {R : Nat → Prop} {ks : List K} {z : Array Value} (h : zeroOk ks z.toList = true) (n : Nat) : CellsRd R w ks (madeCells z (n * ks.length)).toList (List.replicate n ((ks.map zeroE).map (E.den η))) := by
  obtain ⟨h1, h2⟩ := zero_rd (R := R) (η := η) (w := w) h
  refine ⟨by simp [madeCells], fun r hr => by rw [List.mem_replicate] at hr; rw [hr.2]; simp, fun i j hi hj => ?_⟩
  obtain ⟨x, hx, hr⟩ := h2 j hj
  have hi' : i < n := by simpa using hi
  refine ⟨x, ?_, by rw [List.getD_eq_getElem?_getD (l := List.replicate n _), List.getElem?_replicate, if_pos hi', Option.getD_some]; exact hr⟩
  have hz : z.size = ks.length := by simpa using h1
  have hm := Nat.mul_le_mul_right ks.length (show i + 1 ≤ n from hi')
  rw [Nat.add_mul] at hm
  have hlt : i * ks.length + j < n * ks.length := by omega
  have hmod : (i * ks.length + j) % z.size = j := by rw [hz, Nat.add_comm, Nat.add_mul_mod_self_right, Nat.mod_eq_of_lt hj]
  have hx' : z[j]? = some x := by simpa using hx
  simp [madeCells, hlt, hmod, getElem!_def, hx']

theorem cells_set {R : Nat → Prop} {ks : List K} {cs : List Value} {us : List (List U)} {i : Nat} {vs : List Value} {r : List U} (h : CellsRd R w ks cs us) (hi : i < us.length) (hl : vs.length = ks.length) (hr : r.length = ks.length)
    (hrd : ∀ (j : Nat) x, vs[j]? = some x → Rd R w (ks.getD j default) x (r.getD j default)) : CellsRd R w ks (setAt cs (i * ks.length) vs) (us.set i r) := by
  obtain ⟨h1, h2, h3⟩ := h
  have hm := Nat.mul_le_mul_right ks.length (show i + 1 ≤ us.length from hi)
  rw [Nat.add_mul] at hm
  refine ⟨by simp [length_setAt, h1], fun q hq => ?_, fun i' j' hi' hj' => ?_⟩
  · rcases List.mem_or_eq_of_mem_set hq with h | rfl
    · exact h2 q h
    · exact hr
  · simp only [List.length_set] at hi'
    rw [getElem?_setAt _ _ _ _ (by omega)]
    have key := idx_in (i := i) (i' := i') (j' := j') (size := ks.length) (off := 0) (len := ks.length) hj' (by omega)
    simp only [Nat.add_zero, Nat.zero_le, true_and, Nat.zero_add] at key
    rw [hl]
    by_cases hin : i * ks.length ≤ i' * ks.length + j' ∧ i' * ks.length + j' < i * ks.length + ks.length
    · obtain ⟨rfl, _⟩ := key.1 hin
      rw [if_pos hin, Nat.add_sub_cancel_left]
      have hv : vs[j']? = some vs[j'] := by simp
      refine ⟨_, hv, ?_⟩
      have := hrd _ _ hv
      simpa [hi] using this
    · rw [if_neg hin]
      have hne : i' ≠ i := fun e => hin (key.2 ⟨e, by omega⟩)
      obtain ⟨x, hx, hxr⟩ := h3 i' j' hi' hj'
      refine ⟨x, hx, ?_⟩
      rw [List.getD_eq_getElem?_getD (l := us.set i r), List.getElem?_set_ne (Ne.symm hne), ← List.getD_eq_getElem?_getD]
      exact hxr

theorem own_new {R : Nat → Prop} {e : Nat} {ks : List K} {cs : Array Value} {us : List (List U)} (hR : ∀ b, R b → b < w.heap.size) (h : CellsRd R w ks cs.toList us) (hm : us.length ≤ maxLen) :
    Own R (w.alloc (.cells cs e)) e ks (.slice (some ⟨w.heap.size, 0, none⟩) us.length us.length) us := by
  obtain ⟨h1, h2, h3⟩ := h
  refine ⟨cs.toList, World.ownsRow_lit w cs us.length (Nat.zero_le _) hm (by simpa using h1), h2, fun i j hi hj => ?_⟩
  obtain ⟨x, hx, hr⟩ := h3 i j hi hj
  exact ⟨x, hx, hr.mono (fun _ h => h) fun b hb => RowKit.Below.heap_alloc w _ b (hR b hb)⟩

theorem slParts_sound (hr : Rel' w0 M I η σ a w) {ks : List K} {size len : Nat} (hs : size = ks.length) : ∀ {parts : List (Nat × Operand)} {ls rs : List (List E)} {cells : Array Value}, slParts T σ ks parts ls = some rs →
    CellsRd (Ok I σ w) w ks cells.toList (ls.map (List.map (E.den η))) → ls.length = len →
    ∃ cells', Instr.fill (fun i => some (i * size, size)) cells (parts.map fun p => (p.1, a.eval p.2)) = some cells' ∧ CellsRd (Ok I σ w) w ks cells'.toList (rs.map (List.map (E.den η))) ∧ rs.length = len
  | [], ls, rs, cells, h, hc, hl => by simp only [slParts, Option.some.injEq] at h; subst h; exact ⟨cells, rfl, hc, hl⟩
  | (i, x) :: parts, ls, rs, cells, h, hc, hl => by
    simp only [slParts] at h
    split at h
    · rename_i tv hx
      split at h
      · rename_i es hes
        split at h
        · rename_i hi
          have hi : i < ls.length := by simpa using hi
          have hv := opv_rel hr x
          rw [hx] at hv
          obtain ⟨h1, _⟩ := TVr.cells hr hv
          obtain ⟨z1, z2, z3⟩ := zipE_toU hes h1
          have hcs := cells_set (i := i) (vs := (a.eval x).cells.toList) (r := es.map (E.den η)) hc (by simpa using hi) z2.symm (by simp [z1]) z3
          rw [← List.map_set, ← hs] at hcs
          have hsz : (a.eval x).cells.size = size := by rw [hs]; simpa using z2.symm
          have hm := Nat.mul_le_mul_right size (show i + 1 ≤ ls.length from hi)
          rw [Nat.add_mul] at hm
          have hcl : cells.size = ls.length * size := by have := hc.1; simpa [hs] using this
          obtain ⟨cells', h2, h3⟩ := slParts_sound hr hs (len := len) h (cells := (a.eval x).cells.zipIdx.foldl (fun cs (p : Value × Nat) => cs.setIfInBounds (i * size + p.2) p.1) cells)
            (by rw [fold_cells]; exact hcs) (by simp [hl])
          refine ⟨cells', ?_, h3⟩
          simp only [List.map_cons, Instr.fill]
          have hcond : ¬ ((a.eval x).cells.size ≠ size ∨ i * size + (a.eval x).cells.size > cells.size) := by
            rintro (h | h) <;> omega
          rw [if_neg (by rw [Bool.or_eq_true, decide_eq_true_eq, decide_eq_true_eq]; exact hcond)]
          exact h2
        · cases h
      · cases h
    · cases h

theorem dg_none (r : Nat) (hr : Rel' w0 M I η σ a w) : lookR (σ.dg r).rows r = none := by
  unfold PS.dg
  split
  · assumption
  · show lookR (delR σ.rows r) r = none
    rw [lookR_delR r r hr.keyR, if_pos rfl]

theorem Ok_lt {b : Nat} (h : Ok I σ w b) : b < w.heap.size := h.1.1

theorem newRow_did {o : Oper} {d e n : Nat} {ks : List K} {c : E} {cs : Array Value} {us : List (List U)} (hr : Rel' w0 M I η σ a w) (hn : lookR σ.rows d = none) (hc : c.den η = .lst us) (hu : us.length = n) (hm : n ≤ maxLen)
    (hcs : CellsRd (Ok I σ w) w ks cs.toList us) (hrun : (execOp a.eval o).run P w = .ok (.value (.slice (some ⟨w.heap.size, 0, none⟩) n n)) (w.alloc (.cells cs e))) (hfx : fx.ok I) :
    Did P w0 M fx η a w o (newRow σ d e ks c) (.val (.leaf (.own d))) := by
  subst hu
  refine ⟨_, _, _, _, hrun, .inl rfl, newRow_rel hr (World.grownBy_alloc w _ none) hn hc (own_new (fun b hb => hb.1.1) hcs hm) (fun g hg => by cases hg; exact Nat.le_refl _), ⟨?_, ?_⟩, hfx⟩
  · simp [In.row]
  · show (lookR (_ :: _) d).isSome = true
    rw [lookR_cons]; simp

theorem buildSlice_did (hT : TabOK P T) {o : Oper} {ty e len d : Nat} {ti te : TI} {parts : Array (Nat × Operand)} {rs : List (List E)} (ho : o.op = .buildSlice ty len parts) (hty : T.get ty = some te) (hk : te.kind = .slice e) (hti : T.get e = some ti)
    (hr : Rel' w0 M I η σ a w) (hn : lookR σ.rows d = none) (hrs : slParts T σ ti.ks parts.toList (List.replicate len (ti.ks.map zeroE)) = some rs) (hlen : len * ti.size ≤ 16777216) (h1 : 1 ≤ ti.size) (hfx : fx.ok I) :
    Did P w0 M fx η a w o (newRow σ d e ti.ks (rowsE rs)) (.val (.leaf (.own d))) := by
  have hu := (hT _ _ hty).und_slice hk
  have hTe := hT _ _ hti
  obtain ⟨i, z, e1, e2, _, e4, e5⟩ := hTe.info
  have hmade := made_rd (R := Ok I σ w) (w := w) (η := η) e5 len
  have hinit : CellsRd (Ok I σ w) w ti.ks (madeCells z.cells (len * i.size)).toList ((List.replicate len (ti.ks.map zeroE)).map (List.map (E.den η))) := by
    rw [e2, hTe.len, List.map_replicate]; exact hmade
  obtain ⟨cells, hf, hc, hrl⟩ := slParts_sound (len := len) (size := i.size) hr (by rw [e2, hTe.len]) hrs hinit (by simp)
  have hml : len ≤ maxLen := by
    have := Nat.le_mul_of_pos_right len h1
    simp only [maxLen]; omega
  refine newRow_did (n := len) (cs := cells) hr hn (rowsE_den rs) (by simp [hrl]) hml hc ?_ hfx
  generalize hq : (parts.map fun (p : Nat × Operand) => (p.1, a.eval p.2)) = q
  have hfill : Instr.fill (fun i' => some (i' * i.size, i.size)) (madeCells z.cells (len * i.size)) q.toList = some cells := by
    rw [← hq, Array.toList_map]; exact hf
  have hbig : ¬ len * i.size > 2 ^ 24 := by rw [e2]; omega
  have key : (Instr.buildSlice ty len q).run P w = .ok (.slice (some ⟨w.heap.size, 0, none⟩) len len) (w.alloc (.cells cells e)) := by
    by_cases h0 : len = 0
    · subst h0
      have hz : madeCells z.cells (0 * i.size) = #[] := by simp [madeCells]
      rw [hz] at hfill
      simp [Instr.buildSlice, run_underlying hu, sizeOf, typeInfo, e1, Array.range_zero', hfill, Go.newRow]
    · have hpos : ¬ len * i.size = 0 := by
        have : 0 < len * i.size := Nat.mul_pos (by omega) (by omega)
        omega
      exact run_buildSlice w ty e len q cells i z hu e1 e4 hbig hpos hfill
  rw [← hq] at key
  simp only [execOp, ho, Sem.run_bind, key, Result.andThen_ok]
  rfl

theorem fact_int {x : E} {n : Int} (h : (x.den η) = .int n) : (x.den η).I = n := by rw [h]; rfl
theorem lim_ok {x bytes : Nat} (hb : 1 ≤ bytes) (h : (x : Int) ≤ ((lim / bytes : Nat) : Int)) : x * bytes ≤ 140737488355328 ∧ x ≤ maxLen := by
  have h1 : x ≤ lim / bytes := by omega
  have h2 := (Nat.le_div_iff_mul_le (by omega)).1 h1
  have h3 := Nat.le_mul_of_pos_right x hb
  simp only [lim] at h2
  exact ⟨h2, by simp only [maxLen]; omega⟩

theorem makeFull_did (hT : TabOK P T) {o : Oper} {ty e d : Nat} {ti te : TI} {l c : Operand} {k k' : IntKind} {x : E} (ho : o.op = .makeSlice ty l c) (hty : T.get ty = some te) (hk : te.kind = .slice e) (hti : T.get e = some ti)
    (hl : a.eval l = .int k (x.den η).I) (hc : a.eval c = .int k' (x.den η).I) (h0 : 0 ≤ (x.den η).I) (hle : (x.den η).I ≤ ((lim / ti.bytes : Nat) : Int))
    (hr : Rel' w0 M I η σ a w) (hn : lookR σ.rows d = none) (hfx : fx.ok I) :
    Did P w0 M fx η a w o (newRow σ d e ti.ks (.rep x (rowE (ti.ks.map zeroE)))) (.val (.leaf (.own d))) := by
  have hu := (hT _ _ hty).und_slice hk
  have hTe := hT _ _ hti
  obtain ⟨i, z, e1, e2, e3, e4, e5⟩ := hTe.info
  obtain ⟨n, hn'⟩ : ∃ n : Nat, (x.den η).I = n := ⟨(x.den η).I.toNat, by omega⟩
  rw [hn'] at hl hc hle
  have hlim := lim_ok hTe.bytes hle
  have hmade := made_rd (R := Ok I σ w) (w := w) (η := η) e5 n
  rw [← hTe.len] at hmade
  have hrun := run_make (P := P) w ty e i z hu e1 e4 k k' n n (by omega) (Int.le_refl _) (by
    have : i.bytes * n ≤ 140737488355328 := by rw [e3, Nat.mul_comm]; exact hlim.1
    have h2 : ((i.bytes * n : Nat) : Int) ≤ 140737488355328 := by omega
    rw [Int.natCast_mul] at h2; omega) (by have := hlim.2; simp only [maxLen] at this; omega)
  simp only [Int.toNat_natCast, e2] at hrun
  refine newRow_did (n := n) (cs := madeCells z.cells (n * ti.size)) hr hn (us := List.replicate n ((ti.ks.map zeroE).map (E.den η))) ?_ (by simp) hlim.2 hmade ?_ hfx
  · simp only [E.den, rowE_den, hn', U.R_lst, Int.toNat_natCast]
  · simp only [execOp, ho, hl, hc, Sem.run_bind, hrun, Result.andThen_ok]
    rfl

theorem makeCap_did (hT : TabOK P T) {o : Oper} {ty e d : Nat} {ti te : TI} {l c : Operand} {k k' : IntKind} {x : E} (ho : o.op = .makeSlice ty l c) (hty : T.get ty = some te) (hk : te.kind = .slice e) (hti : T.get e = some ti)
    (hl : a.eval l = .int k 0) (hc : a.eval c = .int k' (x.den η).I) (h0 : 0 ≤ (x.den η).I) (hle : (x.den η).I ≤ ((lim / ti.bytes : Nat) : Int))
    (hr : Rel' w0 M I η σ a w) (hn : lookR σ.rows d = none) (hfx : fx.ok I) :
    Did P w0 M fx η a w o (newRow σ d e ti.ks .nil) (.val (.leaf (.own d))) := by
  have hu := (hT _ _ hty).und_slice hk
  have hTe := hT _ _ hti
  obtain ⟨i, z, e1, e2, e3, e4, e5⟩ := hTe.info
  obtain ⟨n, hn'⟩ : ∃ n : Nat, (x.den η).I = n := ⟨(x.den η).I.toNat, by omega⟩
  rw [hn'] at hc hle
  have hlim := lim_ok hTe.bytes hle
  obtain ⟨w', hrun, hown, hgr⟩ := run_make_own (P := P) w 0 ty e i z i.size hu e1 e4 rfl k k' n (by rw [e3, Nat.mul_comm]; omega) hlim.2 (Nat.zero_le _)
  refine ⟨_, .slice (some ⟨w.heap.size, 0, none⟩) 0 n, w', _, ?_, .inl rfl, newRow_rel (v := .slice (some ⟨w.heap.size, 0, none⟩) 0 n) (us := []) hr hgr hn rfl ⟨[], by rw [← hTe.len, ← e2]; exact hown, by simp, by simp⟩ (fun g hg => by cases hg; exact Nat.le_refl _), ⟨?_, ?_⟩, hfx⟩
  · simp only [execOp, ho, hl, hc, Sem.run_bind, hrun, Result.andThen_ok]
    rfl
  · simp [In.row]
  · show (lookR (_ :: _) d).isSome = true
    rw [lookR_cons]; simp
end
end Go.Proofs.YtibbceoibcnpcaaGreat.Eng
