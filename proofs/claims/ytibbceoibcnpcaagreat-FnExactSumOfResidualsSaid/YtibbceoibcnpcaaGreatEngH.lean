/- The engine, part H: the rest of the operations that reckon a value; a value is put into a slot. No condition. -/
import Derived.Test.YtibbceoibcnpcaaGreatEngG
import Derived.Great.BuildSlice
namespace Go.Proofs.YtibbceoibcnpcaaGreat.Eng
open Go

theorem All2.setAt {α β : Type} {R : α → β → Prop} : ∀ {xs : List α} {ys : List β} {l : List α} {m : List β} (off : Nat), All2 R xs ys → All2 R l m → All2 R (setAt l off xs) (setAt m off ys)
  | [], [], _, _, _, _, h => h
  | _ :: _, _ :: _, _, _, off, h, hl => All2.setAt (off + 1) h.2 (All2.set h.1 off hl)
  | [], _ :: _, _, _, _, h, _ | _ :: _, [], _, _, _, h, _ => h.elim
theorem length_setAt {α : Type} : ∀ (xs l : List α) (off : Nat), (setAt l off xs).length = l.length
  | [], _, _ => rfl
  | x :: xs, l, off => by simp [Eng.setAt, length_setAt xs]
theorem foldl_setAt : ∀ (vs : List Value) (k off : Nat) (cells : Array Value), ((vs.zipIdx k).foldl (fun cs p => cs.setIfInBounds (off + p.2) p.1) cells).toList = setAt cells.toList (off + k) vs
  | [], _, _, _ => rfl
  | v :: vs, k, off, cells => by
    simp only [List.zipIdx_cons, List.foldl_cons]
    rw [foldl_setAt vs (k + 1) off]
    simp [Eng.setAt, Nat.add_assoc]
theorem fold_cells (v : Value) (off : Nat) (cells : Array Value) : (v.cells.zipIdx.foldl (fun cs p => cs.setIfInBounds (off + p.2) p.1) cells).toList = setAt cells.toList off v.cells.toList := by
  rw [← Array.foldl_toList, Array.toList_zipIdx, foldl_setAt]; rfl

section
variable {P : Program} {T : Tab} {w0 : World} {M : List Nat} {I : In} {η : List U} {σ : PS} {a : Act} {w : World}

theorem zero_rel {R : Nat → Prop} : ∀ {ks : List K} {vs : List Value}, zeroOk ks vs = true → All2 (LVr R w η I σ) (ks.map zeroLV) vs
  | [], [], _ => trivial
  | .int k :: ks, .int k' n :: vs, h => by
    simp only [zeroOk, Bool.and_eq_true, decide_eq_true_eq] at h
    obtain ⟨⟨rfl, rfl⟩, h⟩ := h
    exact ⟨Rd.int _ _, zero_rel h⟩
  | .bool :: ks, .bool b :: vs, h => by
    simp only [zeroOk, Bool.and_eq_true, Bool.not_eq_true'] at h
    obtain ⟨rfl, h⟩ := h
    exact ⟨Rd.bool _, zero_rel h⟩
  | .str :: ks, .string s :: vs, h => by
    simp only [zeroOk, Bool.and_eq_true, List.isEmpty_iff] at h
    refine ⟨?_, zero_rel h.2⟩
    have : s = ⟨([] : List UInt8).toArray⟩ := by cases s; rename_i d; simp at h ⊢; simpa using h.1
    simp only [zeroLV, LVr, E.den]; rw [← this]; exact Rd.str _
  | .lst e k :: ks, .slice none 0 0 :: vs, h => ⟨rfl, zero_rel (by simpa [zeroOk] using h)⟩
  | [], _ :: _, h | _ :: _, [], h => by simp [zeroOk] at h
  | .int _ :: _, .bool _ :: _, h | .int _ :: _, .string _ :: _, h | .int _ :: _, .slice .. :: _, h | .int _ :: _, .float .. :: _, h | .int _ :: _, .complex .. :: _, h | .int _ :: _, .pointer _ :: _, h | .int _ :: _, .map _ :: _, h | .int _ :: _, .chan _ :: _, h | .int _ :: _, .func .. :: _, h | .int _ :: _, .nilFunc :: _, h | .int _ :: _, .iface .. :: _, h | .int _ :: _, .nilIface :: _, h | .int _ :: _, .agg _ :: _, h | .int _ :: _, .tuple _ :: _, h => by simp [zeroOk] at h
  | .bool :: _, .int .. :: _, h | .bool :: _, .string _ :: _, h | .bool :: _, .slice .. :: _, h | .bool :: _, .float .. :: _, h | .bool :: _, .complex .. :: _, h | .bool :: _, .pointer _ :: _, h | .bool :: _, .map _ :: _, h | .bool :: _, .chan _ :: _, h | .bool :: _, .func .. :: _, h | .bool :: _, .nilFunc :: _, h | .bool :: _, .iface .. :: _, h | .bool :: _, .nilIface :: _, h | .bool :: _, .agg _ :: _, h | .bool :: _, .tuple _ :: _, h => by simp [zeroOk] at h
  | .str :: _, .int .. :: _, h | .str :: _, .bool _ :: _, h | .str :: _, .slice .. :: _, h | .str :: _, .float .. :: _, h | .str :: _, .complex .. :: _, h | .str :: _, .pointer _ :: _, h | .str :: _, .map _ :: _, h | .str :: _, .chan _ :: _, h | .str :: _, .func .. :: _, h | .str :: _, .nilFunc :: _, h | .str :: _, .iface .. :: _, h | .str :: _, .nilIface :: _, h | .str :: _, .agg _ :: _, h | .str :: _, .tuple _ :: _, h => by simp [zeroOk] at h
  | .lst .. :: _, .int .. :: _, h | .lst .. :: _, .bool _ :: _, h | .lst .. :: _, .string _ :: _, h | .lst .. :: _, .float .. :: _, h | .lst .. :: _, .complex .. :: _, h | .lst .. :: _, .pointer _ :: _, h | .lst .. :: _, .map _ :: _, h | .lst .. :: _, .chan _ :: _, h | .lst .. :: _, .func .. :: _, h | .lst .. :: _, .nilFunc :: _, h | .lst .. :: _, .iface .. :: _, h | .lst .. :: _, .nilIface :: _, h | .lst .. :: _, .agg _ :: _, h | .lst .. :: _, .tuple _ :: _, h => by simp [zeroOk] at h
  | .lst .. :: _, .slice (some _) _ _ :: _, h | .lst .. :: _, .slice none (_ + 1) _ :: _, h | .lst .. :: _, .slice none 0 (_ + 1) :: _, h => by simp [zeroOk] at h

/-- a leaf's value is one cell -/
theorem LVr.one {w0 M a} (hr : Rel' w0 M I η σ a w) {R : Nat → Prop} : ∀ {l : LV} {v : Value}, LVr R w η I σ l v → v.oneCell' = true ∧ v.cells = #[v]
  | .u k e, v, h => by
    simp only [LVr] at h
    generalize e.den η = u at h
    cases h <;> exact ⟨rfl, rfl⟩
  | .own r, v, h => by
    obtain ⟨hv, hs⟩ := h
    obtain ⟨q, hq⟩ := Option.isSome_iff_exists.1 hs
    obtain ⟨us, _, xs, h1, _⟩ := hr.rows r q hq
    rcases h1.2 with ⟨e, _⟩ | ⟨g, cap, cur, e, _⟩ <;> rw [hv, e] <;> exact ⟨rfl, rfl⟩
  | .nil, v, h => by cases h; exact ⟨rfl, rfl⟩
theorem TVr.cells (hr : Rel' w0 M I η σ a w) {R : Nat → Prop} : ∀ {t : TV} {v : Value}, TVr R w η I σ t v → All2 (LVr R w η I σ) t.ls v.cells.toList ∧ ∀ x ∈ v.cells.toList, x.oneCell' = true
  | .leaf l, v, h => by
    have := LVr.one hr h
    rw [this.2]
    exact ⟨⟨h, trivial⟩, fun x hx => by simp at hx; subst hx; exact this.1⟩
  | .agg ls, v, h => by
    obtain ⟨cs, rfl, hl⟩ := h
    refine ⟨hl, fun x hx => ?_⟩
    obtain ⟨i, hi⟩ := List.mem_iff_getElem?.1 (show x ∈ cs.toList from hx)
    have hlen := hl.length
    have hi2 := (List.getElem?_eq_some_iff.1 hi).1
    have hi3 : i < ls.length := by omega
    obtain ⟨y, hy, hyr⟩ := hl.get (List.getElem?_eq_getElem hi3)
    rw [hi] at hy; cases hy
    exact (LVr.one hr hyr).1

theorem buildV_sound (hT : TabOK P T) (hr : Rel' w0 M I η σ a w) {fs : List (Nat × Nat)} {places : List (Nat × Nat)} (hp : ∀ (i ft off : Nat) (ti : TI), fs[i]? = some (ft, off) → T.get ft = some ti → places[i]? = some (off, ti.size)) :
    ∀ {parts : List (Nat × Operand)} {ls ls' : List LV} {cells : Array Value}, buildV T σ fs parts ls = some ls' → All2 (LVr (Ok I σ w) w η I σ) ls cells.toList →
    ∃ cells', Instr.fill (places.toArray[·]?) cells (parts.map fun p => (p.1, a.eval p.2)) = some cells' ∧ All2 (LVr (Ok I σ w) w η I σ) ls' cells'.toList
  | [], ls, ls', cells, h, hl => by simp only [buildV, Option.some.injEq] at h; subst h; exact ⟨cells, rfl, hl⟩
  | (i, x) :: parts, ls, ls', cells, h, hl => by
    simp only [buildV] at h
    split at h
    · rename_i ft off tv hf hx
      split at h
      · rename_i ti hti
        split at h
        · rename_i hc
          rw [Bool.and_eq_true, Nat.ble_eq] at hc
          have hsz := Nat.eq_of_beq_eq_true hc.1
          have hv := opv_rel hr x
          rw [hx] at hv
          obtain ⟨h1, _⟩ := TVr.cells hr hv
          have hlen : tv.ls.length = (a.eval x).cells.size := by simpa using h1.length
          have hcl : ls.length = cells.size := by simpa using hl.length
          have hn : All2 (LVr (Ok I σ w) w η I σ) (setAt ls off tv.ls) (((a.eval x).cells.zipIdx.foldl (fun cs (p : Value × Nat) => cs.setIfInBounds (off + p.2) p.1) cells)).toList := by
            rw [fold_cells]; exact All2.setAt off h1 hl
          obtain ⟨cells', h2, h3⟩ := buildV_sound hT hr hp h hn
          refine ⟨cells', ?_, h3⟩
          have hpl : places.toArray[i]? = some (off, ti.size) := by simpa using hp i ft off ti hf hti
          simp only [List.map_cons, Instr.fill, hpl]
          have h4 := hc.2
          have hcond : ¬ ((a.eval x).cells.size ≠ ti.size ∨ off + (a.eval x).cells.size > cells.size) := by
            rintro (h | h) <;> omega
          rw [if_neg (by rw [Bool.or_eq_true, decide_eq_true_eq, decide_eq_true_eq]; exact hcond)]
          exact h2
        · cases h
      · cases h
    · cases h

theorem field_run {s f ft off : Nat} {ti : TI} (hT : TabOK P T) (h : fieldOf T s f = some (ft, off, ti)) {ls : List LV} {cs : Array Value} {tv : TV} {R : Nat → Prop} (hl : All2 (LVr R w η I σ) ls cs.toList)
    (hm : mkTV ti.agg ((ls.drop off).take ti.size) = some tv) (hle : off + ti.size ≤ ls.length) :
    ∃ x, (∀ w', (Instr.field s (.agg cs) f).run P w' = .ok x w') ∧ TVr R w η I σ tv x := by
  obtain ⟨fs, fd, h1, h2, h3, h4, h5, h6⟩ := fieldOf_some hT h
  have hs := (hl.drop off).take ti.size
  have hlen := hl.length
  rcases mkTV_sound hm hs with ⟨ha, hx⟩ | ⟨ha, x, hx1, hx⟩
  · refine ⟨_, fun w' => ?_, hx⟩
    simp [Instr.field, run_underlying h1, h2, asAgg, part, h3, h5.run_agg, ha, h5.run_size, h4]
    apply Array.ext'
    simp [List.extract_eq_take_drop]
  · refine ⟨x, fun w' => ?_, hx⟩
    have : cs[off]? = some x := by
      have e : (cs.toList.drop off)[0]? = some x := by
        have := congrArg (·[0]?) hx1
        simp only [List.getElem?_take, List.getElem?_cons_zero] at this
        rw [if_pos (by omega)] at this; exact this
      simpa using e
    simp [Instr.field, run_underlying h1, h2, asAgg, part, h3, h5.run_agg, ha, h4, this]

theorem run_places_tab (hT : TabOK P T) : ∀ (fl : List Field), (fl.map (fun f => (f.type, f.offset))).all (fun f => (T.get f.1).isSome) = true →
    ∃ places, fl.mapM (fun f => (P.info? f.type).map fun i => (f.offset, i.size)) = some places ∧ ∀ (i ft off : Nat) (ti : TI), (fl.map (fun f => (f.type, f.offset)))[i]? = some (ft, off) → T.get ft = some ti → places[i]? = some (off, ti.size)
  | [], _ => ⟨[], rfl, fun i ft off ti h => by simp at h⟩
  | f :: fl, h => by
    simp only [List.map_cons, List.all_cons, Bool.and_eq_true] at h
    obtain ⟨ti, hti⟩ := Option.isSome_iff_exists.1 h.1
    obtain ⟨places, h1, h2⟩ := run_places_tab hT fl h.2
    obtain ⟨i, z, h3, h4, _⟩ := (hT _ _ hti).info
    refine ⟨(f.offset, i.size) :: places, by simp [List.mapM_cons, h1, h3], fun j ft off tj hj htj => ?_⟩
    cases j with
    | zero =>
      simp at hj; obtain ⟨rfl, rfl⟩ := hj
      rw [hti] at htj; cases htj
      simp [h4]
    | succ j => simpa using h2 j ft off tj (by simpa using hj) htj

theorem intOf?_some {v : SV} {k : IntKind} {e : E} (h : intOf? v = some (k, e)) : v = .val (.leaf (.u (.int k) e)) := by
  unfold intOf? at h; split at h
  · simp at h; obtain ⟨rfl, rfl⟩ := h; rfl
  · cases h
theorem intOf_val {x : Operand} {k : IntKind} {e : E} (hr : Rel' w0 M I η σ a w) (h : intOf? (opv σ x) = some (k, e)) : a.eval x = .int k (e.den η).I := by
  have := opv_rel hr x
  rw [intOf?_some h] at this
  exact intVal this

theorem max_run (hr : Rel' w0 M I η σ a w) {k : IntKind} : ∀ {xs : List Operand} {l : List (IntKind × E)} (acc : E), xs.mapM (fun y => intOf? (opv σ y)) = some l → l.all (fun p => decide (p.1 = k)) = true →
    ∀ w', ((xs.map a.eval).foldlM Builtin.max2 (.int k (acc.den η).I)).run P w' = .ok (.int k ((l.foldl (fun a p => E.mx a p.2) acc).den η).I) w'
  | [], l, acc, h, _, w' => by simp at h; subst h; simp
  | x :: xs, l, acc, h, hk, w' => by
    simp only [List.mapM_cons, Option.bind_eq_bind, Option.bind_eq_some_iff, Option.pure_def, Option.some.injEq] at h
    obtain ⟨⟨k', e⟩, h1, l', h2, rfl⟩ := h
    simp only [List.all_cons, Bool.and_eq_true, decide_eq_true_eq] at hk
    obtain ⟨rfl, hk⟩ := hk
    have := max_run hr (.mx acc e) h2 hk w'
    simp only [List.map_cons, List.foldlM_cons, intOf_val hr h1, Builtin.max2, List.foldl_cons, Sem.run_bind, Sem.run_pure, Result.andThen_ok]
    exact this
theorem min_run (hr : Rel' w0 M I η σ a w) {k : IntKind} : ∀ {xs : List Operand} {l : List (IntKind × E)} (acc : E), xs.mapM (fun y => intOf? (opv σ y)) = some l → l.all (fun p => decide (p.1 = k)) = true →
    ∀ w', ((xs.map a.eval).foldlM Builtin.min2 (.int k (acc.den η).I)).run P w' = .ok (.int k ((l.foldl (fun a p => E.mn a p.2) acc).den η).I) w'
  | [], l, acc, h, _, w' => by simp at h; subst h; simp
  | x :: xs, l, acc, h, hk, w' => by
    simp only [List.mapM_cons, Option.bind_eq_bind, Option.bind_eq_some_iff, Option.pure_def, Option.some.injEq] at h
    obtain ⟨⟨k', e⟩, h1, l', h2, rfl⟩ := h
    simp only [List.all_cons, Bool.and_eq_true, decide_eq_true_eq] at hk
    obtain ⟨rfl, hk⟩ := hk
    have := min_run hr (.mn acc e) h2 hk w'
    simp only [List.map_cons, List.foldlM_cons, intOf_val hr h1, Builtin.min2, List.foldl_cons, Sem.run_bind, Sem.run_pure, Result.andThen_ok]
    exact this
theorem foldl_mx_int {η : List U} : ∀ (l : List (IntKind × E)) (acc : E), (∃ n, acc.den η = .int n) → ∃ n, (l.foldl (fun a p => E.mx a p.2) acc).den η = .int n
  | [], _, h => h
  | _ :: l, _, _ => foldl_mx_int l _ ⟨_, rfl⟩
theorem foldl_mn_int {η : List U} : ∀ (l : List (IntKind × E)) (acc : E), (∃ n, acc.den η = .int n) → ∃ n, (l.foldl (fun a p => E.mn a p.2) acc).den η = .int n
  | [], _, h => h
  | _ :: l, _, _ => foldl_mn_int l _ ⟨_, rfl⟩

theorem arr_of_toList {α : Type} {xs : Array α} {l : List α} (h : xs.toList = l) : xs = l.toArray := by rw [← h]

theorem len_sound (hT : TabOK P T) (hr : Rel' w0 M I η σ a w) {x : Operand} {ty e : Nat} {ti : TI} (hti : T.get ty = some ti) (hk : ti.kind = .slice e) {v : SV} {fs : List Fact}
    (h : (match opv σ x with
        | .val (.leaf (.u (.lst _ _) c)) => some (sInt .i64 (.len c), ([] : List Fact))
        | .val (.leaf (.own r)) => match lookR σ.rows r with | some q => some (sInt .i64 (.len q.c), []) | none => none
        | .val (.leaf .nil) => some (sInt .i64 (.int 0), [])
        | _ => none) = some (v, fs)) {rty : Nat} :
    ∃ z, (∀ w', (Builtin.len_ #[ty] rty #[a.eval x]).run P w' = .ok z w') ∧ SVr (Ok I σ w) w η I σ v z := by
  have hx := opv_rel hr x
  have hu := (hT _ _ hti).und_slice hk
  split at h
  · rename_i e' ks c he
    simp only [Option.some.injEq, Prod.mk.injEq] at h; obtain ⟨rfl, rfl⟩ := h
    rw [he] at hx
    obtain ⟨ad, n, cap, us, h1, h2, h3⟩ := Rd.lst_inv hx
    refine ⟨.int .i64 n, fun w' => ?_, sInt_rel (by simp [E.den, h2, h3])⟩
    simp [Builtin.len_, run_underlying hu, h1, goInt]
  · rename_i r he
    split at h
    · rename_i q hq
      simp only [Option.some.injEq, Prod.mk.injEq] at h; obtain ⟨rfl, rfl⟩ := h
      rw [he] at hx
      obtain ⟨us, h1, xs, h2, _⟩ := hr.rows r q hq
      have hv : a.eval x = I.vr r := hx.1
      rcases h2.2 with ⟨hnil, hlen⟩ | ⟨g, cap, cur, hvr, _⟩
      · refine ⟨.int .i64 0, fun w' => ?_, sInt_rel (by simp [E.den, h1, hlen])⟩
        simp [Builtin.len_, run_underlying hu, hv, hnil, goInt]
      · refine ⟨.int .i64 us.length, fun w' => ?_, sInt_rel (by simp [E.den, h1])⟩
        simp [Builtin.len_, run_underlying hu, hv, hvr, goInt]
    · cases h
  · rename_i he
    simp only [Option.some.injEq, Prod.mk.injEq] at h; obtain ⟨rfl, rfl⟩ := h
    rw [he] at hx
    have hv : a.eval x = .slice none 0 0 := hx
    refine ⟨.int .i64 0, fun w' => ?_, sInt_rel rfl⟩
    simp [Builtin.len_, run_underlying hu, hv, goInt]
  · cases h

theorem ops_rel (hr : Rel' w0 M I η σ a w) : ∀ (xs : List Operand), All2 (SVr (Ok I σ w) w η I σ) (xs.map (opv σ)) (xs.map a.eval)
  | [] => trivial
  | x :: xs => ⟨opv_rel hr x, ops_rel hr xs⟩
theorem capIds_rel {R : Nat → Prop} : ∀ {svs : List SV} {vs : List Value} {cs : List Nat}, capIds svs = some cs → All2 (SVr R w η I σ) svs vs →
    vs = (cs.map fun b => Value.pointer (some ⟨I.ρ b, 0, none⟩)) ∧ ∀ b ∈ cs, (lookB σ.boxes b).isSome = true
  | [], [], cs, h, _ => by simp only [capIds, Option.some.injEq] at h; subst h; exact ⟨rfl, by simp⟩
  | s :: svs, v :: vs, cs, h, hv => by
    unfold capIds at h
    split at h
    · rename_i he; cases he
    · rename_i b r he
      simp only [List.cons.injEq] at he
      obtain ⟨rfl, rfl⟩ := he
      simp only [Option.map_eq_some_iff] at h
      obtain ⟨cs', hcs, rfl⟩ := h
      obtain ⟨h1, h2⟩ := capIds_rel hcs hv.2
      obtain ⟨h3, h4⟩ := hv.1
      refine ⟨by rw [h1, h3]; rfl, fun c hc => ?_⟩
      rcases List.mem_cons.1 hc with rfl | hc
      · exact h4
      · exact h2 c hc
    · cases h
  | [], _ :: _, _, _, h | _ :: _, [], _, _, h => h.elim

theorem valOp_sound (hT : TabOK P T) {op : Op} {t : Option Bool} {v : SV} {fs : List Fact} (h : valOp T σ t op = some (v, fs)) (hf : Facts η fs)
    (hr : Rel' w0 M I η σ a w) : ∃ x, Gives P op a w x ∧ SVr (Ok I σ w) w η I σ v x := by
  cases op
  case binOp op xt x y yt => exact binV_sound hT h hf hr
  case build ty parts =>
    simp only [valOp] at h
    split at h
    · rename_i fl ks hty
      split at h
      · rename_i hall
        split at h
        · rename_i ls hls
          simp only [Option.some.injEq, Prod.mk.injEq] at h; obtain ⟨rfl, rfl⟩ := h
          have hTy := hT _ _ hty
          obtain ⟨fd, hu, hfd⟩ := hTy.und_struct rfl
          obtain ⟨i, z, h1, h2, h3, h4, h5⟩ := hTy.info
          rw [← hfd] at hall
          obtain ⟨places, hp1, hp2⟩ := run_places_tab (P := P) hT fd.toList hall
          rw [hfd] at hp2
          obtain ⟨cells, hc1, hc2⟩ := buildV_sound hT hr hp2 hls (zero_rel h5)
          refine ⟨.agg cells, fun o ho w' hw => ?_, ⟨cells, rfl, hc2⟩⟩
          have hb : P.built ty ((parts.map fun (p : Nat × Operand) => (p.1, a.eval p.2)).toList) = some cells := by
            unfold Program.built
            simp only [h1, hu, h4, hp1]
            rw [Array.toList_map]; exact hc1
          have := run_build (P := P) w' ty (parts.map fun (p : Nat × Operand) => (p.1, a.eval p.2)) cells hb
          simp only [execOp, ho, Sem.run_bind, this, Result.andThen_ok]
          rfl
        · cases h
      · cases h
    · cases h
  case makeFunc fn first cap =>
    cases fn <;> simp only [valOp, reduceCtorEq] at h
    rename_i f
    split at h
    · rename_i hfe
      simp only [Option.map_eq_some_iff, Prod.mk.injEq] at h
      obtain ⟨cs, hcs, rfl, rfl⟩ := h
      have hfe : first = #[] := by simpa using hfe
      subst hfe
      obtain ⟨hm, hb⟩ := capIds_rel hcs (ops_rel hr cap.toList)
      refine ⟨.func (.func f) #[] (cs.map fun b => Value.pointer (some ⟨I.ρ b, 0, none⟩)).toArray, fun o ho w' hw => ?_, rfl, hb⟩
      have hm' : cap.map a.eval = (cs.map fun b => Value.pointer (some ⟨I.ρ b, 0, none⟩)).toArray := by rw [← hm]; exact Array.ext' Array.toList_map
      simp [execOp, ho, Instr.makeFunc, hm']
    · cases h
  case field s x f =>
    simp only [valOp] at h
    have hx := opv_rel hr x
    split at h
    · rename_i ft off ti ls hfo he
      split at h
      · rename_i tv htv
        split at h
        · rename_i hle
          simp only [Option.some.injEq, Prod.mk.injEq] at h; obtain ⟨rfl, rfl⟩ := h
          rw [he] at hx
          obtain ⟨cs, hv, hl⟩ := hx
          obtain ⟨y, h1, h2⟩ := field_run (P := P) hT hfo hl htv (by simpa using hle)
          exact ⟨y, fun o ho w' hw => by simp [execOp, ho, hv, h1], h2⟩
        · cases h
      · cases h
    · cases h
  case call c =>
    obtain ⟨callee, as, ts⟩ := c
    cases callee
    case builtin b =>
      simp only [valOp] at h
      split at h
      · rename_i x ty has hts
        split at h
        · rename_i e hty
          have has := arr_of_toList has; have hts := arr_of_toList hts
          subst has; subst hts
          obtain ⟨z, h1, h2⟩ := len_sound hT hr hty rfl h (rty := 0)
          refine ⟨z, fun o ho w' hw => ?_, h2⟩
          have h1' : (Builtin.len_ #[ty] o.type #[a.eval x]).run P w' = .ok z w' := h1 w'
          simp [execOp, ho, resolve, invoke, builtin, h1']
        · cases h
      · rename_i _ x r has
        split at h
        · rename_i k e l h1 h2
          split at h
          · rename_i hall
            simp only [Option.some.injEq, Prod.mk.injEq] at h; obtain ⟨rfl, rfl⟩ := h
            have has := arr_of_toList has
            subst has
            have hm := max_run (P := P) hr e h2 hall
            obtain ⟨n, hn⟩ := foldl_mx_int (η := η) l e (by
              have := opv_rel hr x; rw [intOf?_some h1] at this
              obtain ⟨n, _, hn⟩ := Rd.int_inv this; exact ⟨n, hn⟩)
            refine ⟨.int k n, fun o ho w' hw => ?_, sInt_rel hn⟩
            replace hm := hm w'; rw [hn] at hm
            simp [execOp, ho, resolve, invoke, builtin, Builtin.max_, intOf_val hr h1, hm]
          · cases h
        · cases h
      · rename_i _ x r has
        split at h
        · rename_i k e l h1 h2
          split at h
          · rename_i hall
            simp only [Option.some.injEq, Prod.mk.injEq] at h; obtain ⟨rfl, rfl⟩ := h
            have has := arr_of_toList has
            subst has
            have hm := min_run (P := P) hr e h2 hall
            obtain ⟨n, hn⟩ := foldl_mn_int (η := η) l e (by
              have := opv_rel hr x; rw [intOf?_some h1] at this
              obtain ⟨n, _, hn⟩ := Rd.int_inv this; exact ⟨n, hn⟩)
            refine ⟨.int k n, fun o ho w' hw => ?_, sInt_rel hn⟩
            replace hm := hm w'; rw [hn] at hm
            simp [execOp, ho, resolve, invoke, builtin, Builtin.min_, intOf_val hr h1, hm]
          · cases h
        · cases h
      · cases h
    all_goals simp [valOp] at h
  all_goals first | exact valOp_simple hT h hf hr trivial | (simp [valOp] at h; done)

-- a value into a slot
theorem put_rel {v : SV} {x : Value} (d : Option Nat) (hr : Rel' w0 M I η σ a w) (hv : SVr (Ok I σ w) w η I σ v x) : Rel' w0 M I η (σ.put d v) (a.put d x) w := by
  cases d with
  | none => exact hr
  | some d =>
    have ht : Tr (Ok I σ w) (Ok I (σ.put (some d) v) w) w w η I I σ (σ.put (some d) v) := ⟨fun _ h => h, fun _ _ => rfl, fun _ h => ⟨h, rfl⟩, fun r q hq => ⟨q, hq, rfl, rfl, rfl⟩⟩
    refine { hr with slots := ?_, boxes := fun b ls hl => ?_ }
    · have : (a.put (some d) x).tmps.toList = a.tmps.toList.set d x := by simp [Act.put]
      rw [this]
      exact (All2.set hv d hr.slots).mono fun s v hs => SVr.tr ht hs
    · obtain ⟨cur, e, h1, h2⟩ := hr.boxes b ls hl
      exact ⟨cur, e, h1, h2.mono fun s v hs => LVr.tr ht hs⟩
end
end Go.Proofs.YtibbceoibcnpcaaGreat.Eng
