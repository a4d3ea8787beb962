/- The engine, part G: operations that reckon a value are sound. No condition. -/
import Derived.Test.YtibbceoibcnpcaaGreatEngF
import Derived.WalkLawsBesides
namespace Go.Proofs.YtibbceoibcnpcaaGreat.Eng
open Go

def zeroOk : List K → List Value → Bool
  | [], [] => true
  | .int k :: ks, .int k' n :: vs => decide (k = k') && decide (n = 0) && zeroOk ks vs
  | .bool :: ks, .bool b :: vs => !b && zeroOk ks vs
  | .str :: ks, .string s :: vs => s.data.toList.isEmpty && zeroOk ks vs
  | .lst _ _ :: ks, .slice none 0 0 :: vs => zeroOk ks vs
  | _, _ => false
def kindOk (P : Program) (t : Nat) (ti : TI) : Bool := match P.underlying t, ti.kind, ti.agg with
  | some (.int k), .int k', false => decide (k = k')
  | some .bool, .bool, false => true
  | some .string, .str, false => true
  | some (.slice e), .slice e', false => Nat.beq e e'
  | some (.struct fs), .struct fs', true => decide (fs.toList.map (fun f => (f.type, f.offset)) = fs')
  | _, _, _ => false
def tyOk (P : Program) (t : Nat) (ti : TI) : Bool := match P.info? t with
  | none => false
  | some i => Nat.beq i.size ti.size && Nat.beq i.bytes ti.bytes && Nat.beq ti.size ti.ks.length && Nat.ble 1 ti.bytes && (match i.zero with | some z => zeroOk ti.ks z.cells.toList | none => false) && kindOk P t ti
def tabOk (P : Program) (T : Tab) : Bool := T.all fun p => tyOk P p.1 p.2

structure TyOK (P : Program) (t : Nat) (ti : TI) : Prop where
  info : ∃ i z, P.info? t = some i ∧ i.size = ti.size ∧ i.bytes = ti.bytes ∧ i.zero = some z ∧ zeroOk ti.ks z.cells.toList = true
  len : ti.size = ti.ks.length
  bytes : 1 ≤ ti.bytes
  kind : kindOk P t ti = true

theorem tyOk_sound {P t ti} (h : tyOk P t ti = true) : TyOK P t ti := by
  unfold tyOk at h
  split at h
  · cases h
  · rename_i i hi
    simp only [Bool.and_eq_true, Nat.ble_eq] at h
    obtain ⟨⟨⟨⟨⟨h1, h2⟩, h3⟩, h4⟩, h5⟩, h6⟩ := h
    split at h5
    · rename_i z hz; exact ⟨⟨i, z, hi, Nat.eq_of_beq_eq_true h1, Nat.eq_of_beq_eq_true h2, hz, h5⟩, Nat.eq_of_beq_eq_true h3, h4, h6⟩
    · cases h5
theorem get_mem : ∀ {T : Tab} {t : Nat} {ti : TI}, T.get t = some ti → (t, ti) ∈ T
  | (m, i) :: r, t, ti, h => by
    simp only [Tab.get] at h
    split at h
    · rename_i hm; cases h; have := Nat.eq_of_beq_eq_true hm; subst this; exact List.mem_cons_self
    · exact List.mem_cons_of_mem _ (get_mem h)
def TabOK (P : Program) (T : Tab) : Prop := ∀ t ti, T.get t = some ti → TyOK P t ti
theorem tabOk_sound {P T} (h : tabOk P T = true) : TabOK P T := fun t ti ht => by
  simp only [tabOk, List.all_eq_true] at h
  exact tyOk_sound (h _ (get_mem ht))

section
variable {P : Program} {t : Nat} {ti : TI}
theorem TyOK.und_int (h : TyOK P t ti) {k} (hk : ti.kind = .int k) : P.underlying t = some (.int k) := by
  have := h.kind; unfold kindOk at this; rw [hk] at this; split at this <;> simp_all
theorem TyOK.und_bool (h : TyOK P t ti) (hk : ti.kind = .bool) : P.underlying t = some .bool := by
  have := h.kind; unfold kindOk at this; rw [hk] at this; split at this <;> simp_all
theorem TyOK.und_slice (h : TyOK P t ti) {e} (hk : ti.kind = .slice e) : P.underlying t = some (.slice e) := by
  have := h.kind; unfold kindOk at this; rw [hk] at this; split at this <;> simp_all
theorem TyOK.und_struct (h : TyOK P t ti) {fs} (hk : ti.kind = .struct fs) : ∃ f, P.underlying t = some (.struct f) ∧ f.toList.map (fun f => (f.type, f.offset)) = fs := by
  have := h.kind; unfold kindOk at this; rw [hk] at this; split at this <;> simp_all
theorem TyOK.run_agg (h : TyOK P t ti) (w : World) : (isAgg t).run P w = .ok ti.agg w := by
  have := h.kind; unfold kindOk at this
  split at this
  · rename_i hu hk ha; simp [isAgg, run_underlying hu, ha]
  · rename_i hu hk ha; simp [isAgg, run_underlying hu, ha]
  · rename_i hu hk ha; simp [isAgg, run_underlying hu, ha]
  · rename_i hu hk ha; simp [isAgg, run_underlying hu, ha]
  · rename_i hu hk ha; simp [isAgg, run_underlying hu, ha]
  · cases this
theorem TyOK.run_size (h : TyOK P t ti) (w : World) : (sizeOf t).run P w = .ok ti.size w := by
  obtain ⟨i, z, h1, h2, _⟩ := h.info
  simp [sizeOf, typeInfo, h1, h2]
theorem TyOK.run_und (h : TyOK P t ti) {d} (hd : P.underlying t = some d) (w : World) : (underlying t).run P w = .ok d w := run_underlying hd w
end

theorem Rd.int_inv {R w k v u} (h : Rd R w (.int k) v u) : ∃ n, v = .int k n ∧ u = .int n := by cases h; exact ⟨_, rfl, rfl⟩
theorem Rd.lst_inv {R w e ks v u} (h : Rd R w (.lst e ks) v u) : ∃ a n cap us, v = .slice a n cap ∧ u = .lst us ∧ us.length = n := by
  cases h
  · exact ⟨_, _, _, _, rfl, rfl, rfl⟩
  · rename_i h _ _ _ _ _ _; exact ⟨_, _, _, _, rfl, rfl, h⟩

def Facts (η : List U) (fs : List Fact) : Prop := ∀ x ∈ fs, (x.1.den η).B = x.2

/-- the operation's run: a value, the world as it was -/
def Same (w w' : World) : Prop := ∀ b, b < w.heap.size → w'.heap[b]? = w.heap[b]?
theorem Same.cell {w w' : World} (h : Same w w') {a : Addr} {v : Value} (hc : w.cell? a = some v) : w'.cell? a = some v := by
  have hb : a.block < w.heap.size := by
    rcases Nat.lt_or_ge a.block w.heap.size with h1 | h1
    · exact h1
    · simp [World.cell?, Array.getElem?_eq_none h1] at hc
  rw [World.cell?_of_block (w := w) (h _ hb)]; exact hc
def Gives (P : Program) (op : Op) (a : Act) (w : World) (x : Value) : Prop := ∀ o : Oper, o.op = op → ∀ w', (∀ ty p, op = .load ty p → Same w w') → (execOp a.eval o).run P w' = .ok (.value x) w'

section
variable {P : Program} {T : Tab} {w0 : World} {M : List Nat} {I : In} {η : List U} {σ : PS} {a : Act} {w : World}
theorem intVal {R : Nat → Prop} {k : IntKind} {e : E} {v : Value} (h : SVr R w η I σ (.val (.leaf (.u (.int k) e))) v) : v = .int k (e.den η).I := by
  obtain ⟨n, h1, h2⟩ := Rd.int_inv h; rw [h1, h2]; rfl
theorem boolVal {R : Nat → Prop} {e : E} {v : Value} (h : SVr R w η I σ (.val (.leaf (.u .bool e))) v) : v = .bool (e.den η).B := by
  obtain ⟨n, h1, h2⟩ := Rd.bool_inv h; rw [h1, h2]; rfl
theorem isZero_false {e : E} (h : isZero e = false) : (e.den η).I ≠ 0 := by
  unfold isZero at h; split at h
  · simpa [E.den] using h
  · cases h
theorem sInt_rel {R : Nat → Prop} {k : IntKind} {e : E} {n : Int} (h : e.den η = .int n) : SVr R w η I σ (sInt k e) (.int k n) := by
  simp only [sInt, SVr, TVr, LVr, h]; exact Rd.int _ _
theorem sBool_rel {R : Nat → Prop} {e : E} {b : Bool} (h : e.den η = .bool b) : SVr R w η I σ (sBool e) (.bool b) := by
  simp only [sBool, SVr, TVr, LVr, h]; exact Rd.bool _

theorem binV_sound (hT : TabOK P T) {op : BinOp} {xt yt : Nat} {x y : Operand} {v : SV} {fs : List Fact} (h : binV T op xt (opv σ x) (opv σ y) = some (v, fs)) (hf : Facts η fs)
    (hr : Rel' w0 M I η σ a w) : ∃ z, Gives P (.binOp op xt x y yt) a w z ∧ SVr (Ok I σ w) w η I σ v z := by
  have hx := opv_rel hr x
  have hy := opv_rel hr y
  unfold binV at h
  split at h
  · rename_i k e1 k' e2 h1 h2
    rw [h1] at hx; rw [h2] at hy
    have hx := intVal hx; have hy := intVal hy
    split at h
    · rename_i hk; have hk := of_decide_eq_true hk; subst hk
      cases op <;> simp only [Option.some.injEq, Prod.mk.injEq, reduceCtorEq] at h
      case add | sub | mul =>
        obtain ⟨rfl, rfl⟩ := h
        refine ⟨_, fun o ho w' hw => ?_, sInt_rel rfl⟩
        simp [execOp, ho, hx, hy, eqGuard, binOp, Op.intArith, arith]
      case quo | rem =>
        obtain ⟨rfl, rfl⟩ := h
        have hz : (e2.den η).I ≠ 0 := by
          by_cases hz : isZero e2 = true
          · rw [if_pos hz] at hf
            have := hf _ List.mem_cons_self
            simpa [E.den, cmpB] using this
          · exact isZero_false (by simpa using hz)
        refine ⟨_, fun o ho w' hw => ?_, sInt_rel rfl⟩
        simp [execOp, ho, hx, hy, eqGuard, binOp, Op.intDiv, arith, hz]
      all_goals
        obtain ⟨rfl, rfl⟩ := h
        refine ⟨_, fun o ho w' hw => ?_, sBool_rel rfl⟩
        simp [execOp, ho, hx, hy, eqGuard, binOp, Op.intCmp, cmpB]
    · cases h
  · rename_i e1 e2 h1 h2
    rw [h1] at hx; rw [h2] at hy
    have hx := boolVal hx; have hy := boolVal hy
    split at h
    · rename_i ti hti
      have hu := (hT _ _ hti).und_bool rfl
      split at h
      · simp only [Option.some.injEq, Prod.mk.injEq] at h; obtain ⟨rfl, rfl⟩ := h
        refine ⟨_, fun o ho w' hw => ?_, sBool_rel rfl⟩
        have := run_eql_bool (P := P) w' xt (e1.den η).B (e2.den η).B hu
        simp [execOp, ho, hx, hy, eqGuard, this]
      · simp only [Option.some.injEq, Prod.mk.injEq] at h; obtain ⟨rfl, rfl⟩ := h
        refine ⟨_, fun o ho w' hw => ?_, sBool_rel rfl⟩
        have := run_neq_bool (P := P) w' xt (e1.den η).B (e2.den η).B hu
        simp [execOp, ho, hx, hy, eqGuard, this]
        try rfl
      · cases h
    · cases h
  · cases h

theorem fact_lt {x y : E} (h : ((E.cmp .lss x y).den η).B = true) : (x.den η).I < (y.den η).I := by simpa [E.den, cmpB] using h
theorem fact_le {x y : E} (h : ((E.cmp .leq x y).den η).B = true) : (x.den η).I ≤ (y.den η).I := by simpa [E.den, cmpB] using h
theorem add_eq {a : Addr} (h : a.spot = none) (n : Nat) : a.add n = ⟨a.block, a.off + n, none⟩ := by
  obtain ⟨b, o, s⟩ := a; simp only at h; subst h; unfold Addr.add; split
  · rename_i h; subst h; rfl
  · rfl

theorem row_cells {us : List (List U)} {q : Row} {v : Value} {R : Nat → Prop} (ho : Own R w q.e q.ks v us) {g cap n : Nat} (hv : v = .slice (some ⟨g, 0, none⟩) n cap) {i j : Nat} (hi : i < us.length) (hj : j < q.ks.length) :
    ∃ x, w.cell? ⟨g, i * q.ks.length + j, none⟩ = some x ∧ Rd R w (q.ks.getD j default) x ((us.getD i []).getD j default) := by
  obtain ⟨xs, h1, h2, h3⟩ := ho
  obtain ⟨x, hx, hr⟩ := h3 i j hi hj
  refine ⟨x, ?_, hr⟩
  have := h1.cells (g := g) (by rw [hv]; rfl) (i * q.ks.length + j) x hx
  rwa [add_eq rfl, Nat.zero_add] at this

theorem elemLs_get {ks : List K} {c i : E} {j : Nat} {l : LV} (h : (elemLs ks c i)[j]? = some l) : j < ks.length ∧ l = .u (ks.getD j default) (.nth c i j) := by
  unfold elemLs at h
  rw [List.getElem?_map, Option.map_eq_some_iff] at h
  obtain ⟨p, hp, rfl⟩ := h
  rw [List.getElem?_zipIdx, Option.map_eq_some_iff] at hp
  obtain ⟨k, hk, rfl⟩ := hp
  have := (List.getElem?_eq_some_iff.1 hk).1
  exact ⟨this, by simp [hk]⟩

theorem ptrLs_sound {R} (hr : Rel' w0 M I η σ a w) (hR : R = Ok I σ w) {v : SV} {x : Value} {ls : List LV} (hp : ptrLs σ v = some ls) (hv : SVr R w η I σ v x) :
    ∃ ad : Addr, x = .pointer (some ad) ∧ ad.spot = none ∧ ∀ j l, ls[j]? = some l → ∃ y, w.cell? ⟨ad.block, ad.off + j, none⟩ = some y ∧ LVr R w η I σ l y := by
  subst hR
  unfold ptrLs at hp
  split at hp
  · rename_i b off
    simp only [Option.map_eq_some_iff] at hp
    obtain ⟨l0, hl0, rfl⟩ := hp
    obtain ⟨cur, e, h1, h2⟩ := hr.boxes b l0 hl0
    refine ⟨_, hv.1, rfl, fun j l hl => ?_⟩
    rw [List.getElem?_drop] at hl
    obtain ⟨y, hy, hyr⟩ := h2.get hl
    refine ⟨y, ?_, hyr⟩
    have hy' : cur[off + j]? = some y := by simpa using hy
    simp [World.cell?, h1, hy']
  · cases hp
    obtain ⟨ad, h1, h2, _, h4⟩ := hv
    exact ⟨ad, h1, h2, h4⟩
  · rename_i r i off
    obtain ⟨q, g, cap, h1, h2, h3, h4, h5⟩ := hv
    rw [h1] at hp
    simp only [Option.some.injEq] at hp; subst hp
    obtain ⟨us, h6, h7⟩ := hr.rows r q h1
    refine ⟨_, h3, rfl, fun j l hl => ?_⟩
    rw [List.getElem?_drop] at hl
    obtain ⟨hj, rfl⟩ := elemLs_get hl
    have hi : (i.den η).I.toNat < us.length := by rw [h6] at h5; simp only [U.L_lst] at h5; omega
    obtain ⟨y, hy, hyr⟩ := row_cells h7 h2 hi hj
    refine ⟨y, by rw [Nat.add_assoc]; exact hy, ?_⟩
    simp only [LVr, E.den, h6, U.L_lst]
    exact hyr
  · cases hp

theorem mkTV_sound {R} {agg : Bool} {ls : List LV} {tv : TV} {cs : List Value} (h : mkTV agg ls = some tv) (hl : All2 (LVr R w η I σ) ls cs) :
    (agg = true ∧ TVr R w η I σ tv (.agg cs.toArray)) ∨ (agg = false ∧ ∃ x, cs = [x] ∧ TVr R w η I σ tv x) := by
  unfold mkTV at h
  split at h
  · rename_i ha; cases h; exact .inl ⟨ha, _, rfl, hl⟩
  · rename_i ha
    split at h
    · rename_i l; cases h
      match cs, hl with
      | [x], hl => exact .inr ⟨by simpa using ha, x, rfl, hl.1⟩
    · cases h

theorem loadVar_run {R : Nat → Prop} {t : Nat} {ti : TI} (hT : TyOK P t ti) {ad : Addr} (hs : ad.spot = none) {ls : List LV} {tv : TV} (hle : ti.size ≤ ls.length) (hm : mkTV ti.agg (ls.take ti.size) = some tv)
    (hc : ∀ j l, ls[j]? = some l → ∃ y, w.cell? ⟨ad.block, ad.off + j, none⟩ = some y ∧ LVr R w η I σ l y) :
    ∃ x, (∀ w', Same w w' → (loadVar t ad).run P w' = .ok x w') ∧ TVr R w η I σ tv x := by
  have hcs : ∀ n, n ≤ ls.length → ∃ cs : List Value, cs.length = n ∧ All2 (LVr R w η I σ) (ls.take n) cs ∧ ∀ j v, cs[j]? = some v → w.cell? (ad.add j) = some v := by
    intro n hn
    induction n with
    | zero => exact ⟨[], rfl, by simp [All2], by simp⟩
    | succ n ih =>
      obtain ⟨cs, h1, h2, h3⟩ := ih (by omega)
      have hlt : n < ls.length := by omega
      obtain ⟨y, hy, hyr⟩ := hc n ls[n] (by simp)
      refine ⟨cs ++ [y], by simp [h1], ?_, fun j v hj => ?_⟩
      · rw [List.take_succ_eq_append_getElem hlt]; exact h2.append ⟨hyr, trivial⟩
      · rcases Nat.lt_or_ge j n with h | h
        · rw [List.getElem?_append_left (by omega)] at hj; exact h3 j v hj
        · have : j = n := by
            have := (List.getElem?_eq_some_iff.1 hj).1; simp [h1] at this; omega
          subst this
          rw [List.getElem?_append_right (by omega)] at hj
          simp [h1] at hj; subst hj
          rw [add_eq hs]; exact hy
  obtain ⟨cs, h1, h2, h3⟩ := hcs ti.size hle
  rcases mkTV_sound hm h2 with ⟨ha, hx⟩ | ⟨ha, x, rfl, hx⟩
  · refine ⟨_, fun w' hs' => ?_, hx⟩
    have hl := run_loadCells_list (P := P) w' ad cs (fun j v hj => hs'.cell (h3 j v hj))
    rw [h1] at hl
    simp [loadVar, hT.run_agg, hT.run_size, ha, hl]
  · refine ⟨x, fun w' hs' => ?_, hx⟩
    have := hs'.cell (h3 0 x (by simp))
    rw [add_eq hs, Nat.add_zero] at this
    obtain ⟨b, o, sp⟩ := ad
    simp only at hs; subst hs
    simp [loadVar, hT.run_agg, ha, load, Sem.run, this]

theorem fieldOf_some {s f ft off : Nat} {ti : TI} (hT : TabOK P T) (h : fieldOf T s f = some (ft, off, ti)) :
    ∃ fs fd, P.underlying s = some (.struct fs) ∧ fs[f]? = some fd ∧ fd.type = ft ∧ fd.offset = off ∧ TyOK P ft ti ∧ 1 ≤ ti.size := by
  unfold fieldOf at h
  split at h
  · rename_i fs hs
    split at h
    · rename_i ft' off' hf
      split at h
      · rename_i ti' hti
        split at h
        · rename_i hsz
          simp only [Option.some.injEq, Prod.mk.injEq] at h; obtain ⟨rfl, rfl, rfl⟩ := h
          obtain ⟨fl, h1, h2⟩ := (hT _ _ hs).und_struct rfl
          rw [← h2, List.getElem?_map, Option.map_eq_some_iff] at hf
          obtain ⟨fd, h3, h4⟩ := hf
          simp only [Prod.mk.injEq] at h4
          exact ⟨fl, fd, h1, by simpa using h3, h4.1, h4.2, hT _ _ hti, by simpa using hsz⟩
        · cases h
      · cases h
    · cases h
  · cases h

theorem fieldAt_run {s f ft off : Nat} {ti : TI} (hT : TabOK P T) (h : fieldOf T s f = some (ft, off, ti)) {ad : Addr} (hs : ad.spot = none) :
    (Instr.fieldAt s (.pointer (some ad)) f).run P w = .ok (.pointer (some ⟨ad.block, ad.off + off, none⟩)) w := by
  obtain ⟨fs, fd, h1, h2, h3, h4, h5, h6⟩ := fieldOf_some hT h
  have hz : ti.size ≠ 0 := by omega
  simp [Instr.fieldAt, run_underlying h1, h2, Instr.sureAddr, fieldPlace, h3, h5.run_size, hz, h4, add_eq hs]

theorem valOp_simple (hT : TabOK P T) {op : Op} {t : Option Bool} {v : SV} {fs : List Fact} (h : valOp T σ t op = some (v, fs)) (hf : Facts η fs)
    (hr : Rel' w0 M I η σ a w) (hop : match op with | .move _ | .assign _ | .pick .. | .unOp .. | .convert .. | .nilCheck _ | .fieldAddr .. | .load .. | .extract .. | .indexAddr .. => True | _ => False) :
    ∃ x, Gives P op a w x ∧ SVr (Ok I σ w) w η I σ v x := by
  cases op <;> simp only at hop
  case move x => simp only [valOp, Option.some.injEq, Prod.mk.injEq] at h; obtain ⟨rfl, rfl⟩ := h; exact ⟨_, fun o ho w' hw => by simp [execOp, ho], opv_rel hr x⟩
  case assign x => simp only [valOp, Option.some.injEq, Prod.mk.injEq] at h; obtain ⟨rfl, rfl⟩ := h; exact ⟨_, fun o ho w' hw => by simp [execOp, ho], opv_rel hr x⟩
  case pick c x y =>
    simp only [valOp] at h
    split at h
    · rename_i e t he
      simp only [Option.some.injEq, Prod.mk.injEq] at h; obtain ⟨rfl, rfl⟩ := h
      have hc := opv_bool hr he
      have ht := hf _ List.mem_cons_self
      simp only at ht
      rw [ht] at hc
      cases t
      · exact ⟨_, fun o ho w' hw => by simp [execOp, ho, hc, asBool], opv_rel hr y⟩
      · exact ⟨_, fun o ho w' hw => by simp [execOp, ho, hc, asBool], opv_rel hr x⟩
    · cases h
  case unOp op xt x =>
    simp only [valOp] at h
    have hx := opv_rel hr x
    split at h
    · rename_i k e he
      simp only [Option.some.injEq, Prod.mk.injEq] at h; obtain ⟨rfl, rfl⟩ := h
      rw [he] at hx
      have hx := intVal hx
      exact ⟨_, fun o ho w' hw => by simp [execOp, ho, hx, Op.unary, Op.intArith], sInt_rel (n := k.wrap (0 - (e.den η).I)) rfl⟩
    · rename_i e he
      simp only [Option.some.injEq, Prod.mk.injEq] at h; obtain ⟨rfl, rfl⟩ := h
      rw [he] at hx
      have hx := boolVal hx
      exact ⟨_, fun o ho w' hw => by simp [execOp, ho, hx, Op.unary], sBool_rel rfl⟩
    · cases h
  case convert s d x =>
    simp only [valOp] at h
    have hx := opv_rel hr x
    split at h
    · rename_i hs hd he
      simp only [Option.some.injEq, Prod.mk.injEq] at h; obtain ⟨rfl, rfl⟩ := h
      rw [he] at hx
      have hx := intVal hx
      have h1 := (hT _ _ hs).und_int rfl
      have h2 := (hT _ _ hd).und_int rfl
      refine ⟨_, fun o ho w' hw => ?_, sInt_rel rfl⟩
      simp [execOp, ho, hx, convert, run_underlying h1, run_underlying h2, Conv.intToInt]
    · cases h
  case nilCheck x =>
    simp only [valOp] at h
    have hx := opv_rel hr x
    split at h
    · rename_i b o' he
      simp only [Option.some.injEq, Prod.mk.injEq] at h; obtain ⟨rfl, rfl⟩ := h
      rw [he] at hx
      have hv := hx.1
      exact ⟨a.eval x, fun o ho w' hw => by simp [execOp, ho, hv], hx⟩
    · rename_i ls he
      simp only [Option.some.injEq, Prod.mk.injEq] at h; obtain ⟨rfl, rfl⟩ := h
      rw [he] at hx
      obtain ⟨ad, hv, _⟩ := id hx
      exact ⟨a.eval x, fun o ho w' hw => by simp [execOp, ho, hv], hx⟩
    · rename_i r i o' he
      simp only [Option.some.injEq, Prod.mk.injEq] at h; obtain ⟨rfl, rfl⟩ := h
      rw [he] at hx
      obtain ⟨q, g, cap, _, _, hv, _⟩ := id hx
      exact ⟨a.eval x, fun o ho w' hw => by simp [execOp, ho, hv], hx⟩
    · cases h
  case fieldAddr s x f =>
    simp only [valOp] at h
    have hx := opv_rel hr x
    split at h
    · rename_i ft off ti b o' hfo he
      simp only [Option.some.injEq, Prod.mk.injEq] at h; obtain ⟨rfl, rfl⟩ := h
      rw [he] at hx
      obtain ⟨hv, hb⟩ := hx
      refine ⟨_, fun o ho w' hw => ?_, ⟨rfl, hb⟩⟩
      simp [execOp, ho, hv, fieldAt_run hT hfo]
    · rename_i ft off ti ls hfo he
      split at h
      · rename_i hlt
        simp only [Option.some.injEq, Prod.mk.injEq] at h; obtain ⟨rfl, rfl⟩ := h
        rw [he] at hx
        obtain ⟨ad, hv, hsp, hR, hc⟩ := hx
        refine ⟨.pointer (some ⟨ad.block, ad.off + off, none⟩), fun o ho w' hw => by simp [execOp, ho, hv, fieldAt_run hT hfo hsp], _, rfl, rfl, hR, fun j l hl => ?_⟩
        rw [List.getElem?_drop] at hl
        obtain ⟨y, h1, h2⟩ := hc _ l hl
        exact ⟨y, by rw [Nat.add_assoc]; exact h1, h2⟩
      · cases h
    · rename_i ft off ti r i o' hfo he
      simp only [Option.some.injEq, Prod.mk.injEq] at h; obtain ⟨rfl, rfl⟩ := h
      rw [he] at hx
      obtain ⟨q, g, cap, h1, h2, hv, h4⟩ := hx
      refine ⟨.pointer (some ⟨g, (i.den η).I.toNat * q.ks.length + o' + off, none⟩), fun o ho w' hw => by simp [execOp, ho, hv, fieldAt_run hT hfo], q, g, cap, h1, h2, by simp only [Nat.add_assoc], h4⟩
    · cases h
  case load ty p =>
    simp only [valOp] at h
    have hx := opv_rel hr p
    split at h
    · rename_i ti ls hti hls
      split at h
      · rename_i hle
        split at h
        · rename_i tv htv
          simp only [Option.some.injEq, Prod.mk.injEq] at h; obtain ⟨rfl, rfl⟩ := h
          obtain ⟨ad, hv, hsp, hc⟩ := ptrLs_sound hr rfl hls hx
          obtain ⟨x, h1, h2⟩ := loadVar_run (P := P) (hT _ _ hti) hsp (by simpa using hle) htv hc
          exact ⟨x, fun o ho w' hw => by simp [execOp, ho, hv, Instr.loadAt, Instr.sureAddr, h1 w' (hw _ _ rfl)], h2⟩
        · cases h
      · cases h
    · cases h
  case extract x i =>
    simp only [valOp] at h
    have hx := opv_rel hr x
    split at h
    · rename_i ts he
      split at h
      · rename_i t ht
        simp only [Option.some.injEq, Prod.mk.injEq] at h; obtain ⟨rfl, rfl⟩ := h
        rw [he] at hx
        obtain ⟨vs, hv, hc⟩ := hx
        obtain ⟨y, hy, hyr⟩ := hc.get ht
        have hy' : vs[i]? = some y := by simpa using hy
        exact ⟨y, fun o ho w' hw => by simp [execOp, ho, hv, Instr.extract, hy'], hyr⟩
      · cases h
    · cases h
  case indexAddr ty x ix =>
    simp only [valOp] at h
    have hx := opv_rel hr x
    have hix := opv_rel hr ix
    split at h
    · rename_i e _ _ _ _ k i hty hi
      have hi' : opv σ ix = sInt k i := by unfold intOf? at hi; split at hi <;> simp at hi; rename_i h'; rw [h', hi.1, hi.2]; rfl
      rw [hi'] at hix
      have hix := intVal hix
      have hu := (hT _ _ hty).und_slice rfl
      split at h
      · rename_i ti e' ks c hti he
        split at h
        · rename_i hsz
          simp only [Option.some.injEq, Prod.mk.injEq] at h; obtain ⟨rfl, rfl⟩ := h
          rw [Bool.and_eq_true, Nat.ble_eq] at hsz
          obtain ⟨hsz, hs1⟩ := hsz
          have hsz := Nat.eq_of_beq_eq_true hsz
          rw [he] at hx
          have h0 : 0 ≤ (i.den η).I := fact_le (hf (.cmp .leq (.int 0) i, true) (by simp [inRange]))
          have h1 : (i.den η).I < (c.den η).L.length := fact_lt (hf (.cmp .lss i (.len c), true) (by simp [inRange]))
          simp only [SVr, TVr, LVr] at hx
          generalize hcd : c.den η = cu at hx h1
          generalize hav : a.eval x = xv at hx
          cases hx with
          | nil => simp at h1; omega
          | row _ _ ad n cap us vs hsp hlen hcap hml hall hR hcell hrd =>
            simp only [U.L_lst, hlen] at h1
            have hin : (i.den η).I.toNat < n := by omega
            have hsp : ad.spot = none := hsp.resolve_right (by omega)
            refine ⟨.pointer (some ⟨ad.block, ad.off + (i.den η).I.toNat * ks.length, none⟩), fun o ho w' hw => ?_, ?_⟩
            · have : 0 ≤ (i.den η).I ∧ (i.den η).I < (n : Int) := ⟨h0, h1⟩
              simp [execOp, ho, hav, hix, Instr.indexAt, asIntOf, run_underlying hu, this, (hT _ _ hti).run_size, hsz, add_eq hsp]
            · refine ⟨_, rfl, rfl, hR _ 0 hin (by omega), fun j l hl => ?_⟩
              obtain ⟨hj, rfl⟩ := elemLs_get hl
              refine ⟨vs _ j, by rw [Nat.add_assoc]; exact hcell _ j hin hj, ?_⟩
              simp only [LVr, E.den, hcd, U.L_lst]
              exact hrd _ j hin hj
        · cases h
      · rename_i ti r hti he
        split at h
        · rename_i q hq
          split at h
          · rename_i hsz
            simp only [Option.some.injEq, Prod.mk.injEq] at h; obtain ⟨rfl, rfl⟩ := h
            have hsz := Nat.eq_of_beq_eq_true hsz
            rw [he] at hx
            have h0 : 0 ≤ (i.den η).I := fact_le (hf (.cmp .leq (.int 0) i, true) (by simp [inRange]))
            have h1 : (i.den η).I < (q.c.den η).L.length := fact_lt (hf (.cmp .lss i (.len q.c), true) (by simp [inRange]))
            obtain ⟨hv, _⟩ := hx
            obtain ⟨us, h2, xs, h3, h4⟩ := hr.rows r q hq
            rw [h2] at h1; simp only [U.L_lst] at h1
            rcases h3.2 with ⟨hnil, hlen⟩ | ⟨g, cap, cur, hvr, _, hg, hle, hml, _⟩
            · omega
            · refine ⟨.pointer (some ⟨g, (i.den η).I.toNat * q.ks.length + 0, none⟩), fun o ho w' hw => ?_, q, g, cap, hq, by rw [h2]; exact hvr, rfl, h0, by rw [h2]; exact h1⟩
              have : 0 ≤ (i.den η).I ∧ (i.den η).I < (us.length : Int) := ⟨h0, h1⟩
              simp [execOp, ho, hv, hvr, hix, Instr.indexAt, asIntOf, run_underlying hu, this, (hT _ _ hti).run_size, hsz, add_eq]
          · cases h
        · cases h
      · cases h
    · cases h
end
end Go.Proofs.YtibbceoibcnpcaaGreat.Eng
