/- The engine, part N: pieces of slices; append. No condition. -/
import Derived.Test.YtibbceoibcnpcaaGreatEngM
namespace Go.Proofs.YtibbceoibcnpcaaGreat.Eng
open Go

section
variable {P : Program} {T : Tab} {w0 : World} {M : List Nat} {fx : Fx} {I : In} {η : List U} {σ : PS} {a : Act} {w : World}

theorem sliced_rd {R : Nat → Prop} {e : Nat} {ks : List K} {ad : Option Addr} {n cap : Nat} {u : U} (h : Rd R w (.lst e ks) (.slice ad n cap) u) {l hh : Nat} (h1 : l ≤ hh) (h2 : hh ≤ n) :
    Rd R w (.lst e ks) (sliced ad l hh cap ks.length) (.lst ((u.L.take hh).drop l)) := by
  cases h with
  | nil =>
    have : hh = 0 := by omega
    subst this
    have : l = 0 := by omega
    subst this
    simp [sliced]; exact Rd.nil _ _
  | row _ _ ad n cap us vs hsp hlen hcap hml hall hR hcell hrd =>
    simp only [U.L_lst]
    have hlen' : ((us.take hh).drop l).length = hh - l := by simp; omega
    have hall' : ∀ r ∈ (us.take hh).drop l, r.length = ks.length := fun r hr => hall r (List.mem_of_mem_take (List.mem_of_mem_drop hr))
    have hgd : ∀ i, i < hh - l → ((us.take hh).drop l).getD i [] = us.getD (l + i) [] := fun i hi => by
      rw [List.getD_eq_getElem?_getD, List.getElem?_drop, List.getElem?_take, if_pos (by omega), List.getD_eq_getElem?_getD]
    unfold sliced
    by_cases hc : cap = l
    · rw [if_pos hc]
      exact Rd.row e ks ad (hh - l) (cap - l) _ vs (.inr (by omega)) hlen' (by omega) (by omega) hall' (fun i j hi hj => by omega) (fun i j hi hj => by omega) (fun i j hi hj => by omega)
    · rw [if_neg hc]
      simp only [Option.map_some]
      rw [add_eq (hsp.resolve_right (by omega))]
      refine Rd.row e ks _ (hh - l) (cap - l) _ (fun i j => vs (l + i) j) (.inl rfl) hlen' (by omega) (by omega) hall' (fun i j hi hj => hR (l + i) j (by omega) hj) (fun i j hi hj => ?_) (fun i j hi hj => ?_)
      · have := hcell (l + i) j (by omega) hj
        rw [Nat.add_mul] at this
        show w.cell? ⟨ad.block, ad.off + l * ks.length + (i * ks.length + j), none⟩ = _
        rw [← this]; congr 2; omega
      · rw [hgd i hi]
        exact hrd (l + i) j (by omega) hj

def loE (σ : PS) (lo : Option Operand) : Option E := match lo with | none => some (.int 0) | some y => (intOf? (opv σ y)).map (·.2)
def hiE (σ : PS) (c : E) (hi : Option Operand) : Option E := match hi with | none => some (.len c) | some y => (intOf? (opv σ y)).map (·.2)

theorem slice_did (hT : TabOK P T) {o : Oper} {ty e1 e : Nat} {ti te : TI} {ks : List K} {c x1 x2 : E} {x : Operand} {lo hi : Option Operand} (ho : o.op = .slice ty x lo hi none) (hty : T.get ty = some te) (hk : te.kind = .slice e1)
    (hti : T.get e1 = some ti) (hsz : ti.size = ks.length) (hx : opv σ x = .val (.leaf (.u (.lst e ks) c))) (hlo : loE σ lo = some x1) (hhi : hiE σ c hi = some x2)
    (h0 : 0 ≤ (x1.den η).I) (h1 : (x1.den η).I ≤ (x2.den η).I) (h2 : (x2.den η).I ≤ (c.den η).L.length) (hr : Rel' w0 M I η σ a w) (hfx : fx.ok I) :
    Did P w0 M fx η a w o σ (.val (.leaf (.u (.lst e ks) (.drop (.take c x2) x1)))) := by
  have hu := (hT _ _ hty).und_slice hk
  have hel : P.elem ty = e1 := by simp [Program.elem, hu]
  have hu' : P.underlying ty = some (.slice (P.elem ty)) := by rw [hel]; exact hu
  have hv := opv_rel hr x
  rw [hx] at hv
  simp only [SVr, TVr, LVr] at hv
  obtain ⟨ad, n, cap, us, hav, hcu, hln⟩ := Rd.lst_inv hv
  rw [hav] at hv
  have hc : (c.den η).L.length = n := by rw [hcu]; simpa using hln
  have hcap : n ≤ cap := by
    generalize c.den η = cu at hv
    cases hv <;> omega
  have hsize : ∀ w', (sizeOf (P.elem ty)).run P w' = .ok ks.length w' := fun w' => by rw [hel, (hT _ _ hti).run_size, hsz]
  rw [hc] at h2
  have hrd := sliced_rd hv (l := (x1.den η).I.toNat) (hh := (x2.den η).I.toNat) (by omega) (by omega)
  have hrun : (Instr.slice ty (.slice ad n cap) (lo.map a.eval) (hi.map a.eval) none).run P w = .ok (sliced ad (x1.den η).I.toNat (x2.den η).I.toNat cap ks.length) w := by
    cases lo with
    | none =>
      simp only [loE, Option.some.injEq] at hlo; subst hlo
      cases hi with
      | none =>
        simp only [hiE, Option.some.injEq] at hhi; subst hhi
        simp only [Option.map_none, run_slice_all w ty ad n cap hu', hsize, Result.andThen_ok, E.den, U.I_int, hc, Int.toNat_natCast, Int.toNat_zero]
      | some y =>
        simp only [hiE, Option.map_eq_some_iff] at hhi
        obtain ⟨⟨k, e2⟩, hy, hh⟩ := hhi
        simp only at hh; subst hh
        simp only [Option.map_none, Option.map_some, intOf_val hr hy]
        rw [run_slice_h w ty ad n cap hu' k _ (by simp only [E.den, U.I_int] at h1; exact h1) (by omega), hsize]
        rfl
    | some z =>
      simp only [loE, Option.map_eq_some_iff] at hlo
      obtain ⟨⟨k1, e3⟩, hz, hh⟩ := hlo
      simp only at hh; subst hh
      cases hi with
      | none =>
        simp only [hiE, Option.some.injEq] at hhi; subst hhi
        simp only [E.den, U.I_int, hc] at h1
        simp only [Option.map_none, Option.map_some, intOf_val hr hz]
        rw [run_slice_l w ty ad n cap hu' k1 _ h0 h1, hsize]
        simp only [Result.andThen_ok, E.den, U.I_int, hc, Int.toNat_natCast]
      | some y =>
        simp only [hiE, Option.map_eq_some_iff] at hhi
        obtain ⟨⟨k, e2⟩, hy, hh⟩ := hhi
        simp only at hh; subst hh
        simp only [Option.map_some, intOf_val hr hy, intOf_val hr hz]
        rw [run_slice_lh w ty ad n cap hu' k1 k _ _ h0 h1 (by omega), hsize]
        rfl
  refine ⟨_, sliced ad (x1.den η).I.toNat (x2.den η).I.toNat cap ks.length, w, I, ?_, .inl rfl, hr, ?_, hfx⟩
  · have hsa : (Instr.sliceAt ty (.slice ad n cap) (lo.map a.eval) (hi.map a.eval) none).run P w = .ok (sliced ad (x1.den η).I.toNat (x2.den η).I.toNat cap ks.length) w := by
      rw [run_sliceAt_slice _ _ _ _ _ _ hu']; exact hrun
    simp [execOp, ho, hav, hsa]
  · simp only [SVr, TVr, LVr, E.den]
    exact hrd

/-- a slice's cells read as rows -/
def SrcRd (R : Nat → Prop) (w : World) (ks : List K) (y : Value) (us : List (List U)) : Prop :=
  (y = .slice none 0 0 ∧ us = []) ∨ ∃ ad : Addr, ∃ c, y = .slice (some ad) us.length c ∧ (ad.spot = none ∨ us = []) ∧ (∀ r ∈ us, r.length = ks.length) ∧
    ∀ i j, i < us.length → j < ks.length → ∃ x, w.cell? ⟨ad.block, ad.off + (i * ks.length + j), none⟩ = some x ∧ Rd R w (ks.getD j default) x ((us.getD i []).getD j default)

theorem Own.src {R : Nat → Prop} {e : Nat} {ks : List K} {v : Value} {us : List (List U)} (h : Own R w e ks v us) : SrcRd R w ks v us := by
  obtain ⟨xs, h1, h2, h3⟩ := h
  rcases h1.2 with ⟨e1, e2⟩ | ⟨g, cap, cur, e1, _⟩
  · left; exact ⟨e1, List.eq_nil_of_length_eq_zero (by simpa using e2)⟩
  · right
    refine ⟨⟨g, 0, none⟩, cap, e1, .inl rfl, h2, fun i j hi hj => ?_⟩
    obtain ⟨x, hx, hr⟩ := h3 i j hi hj
    refine ⟨x, ?_, hr⟩
    have := h1.cells (g := g) (by rw [e1]; rfl) _ x hx
    rwa [add_eq rfl] at this
theorem Rd.src {R : Nat → Prop} {e : Nat} {ks : List K} {v : Value} {u : U} (h : Rd R w (.lst e ks) v u) : ∃ us, u = .lst us ∧ SrcRd R w ks v us := by
  cases h with
  | nil => exact ⟨[], rfl, .inl ⟨rfl, rfl⟩⟩
  | row _ _ ad n cap us vs hsp hlen hcap hml hall hR hcell hrd =>
    subst hlen
    exact ⟨us, rfl, .inr ⟨ad, cap, rfl, hsp.imp id (fun h => List.eq_nil_of_length_eq_zero (by omega)), hall, fun i j hi hj => ⟨vs i j, hcell i j hi hj, hrd i j hi hj⟩⟩⟩

theorem toE_src (hr : Rel' w0 M I η σ a w) {e : Nat} {ks : List K} {lx : LV} {c2 : E} {y : Value} (h : LV.toE σ.rows (.lst e ks) lx = some c2) (hy : LVr (Ok I σ w) w η I σ lx y) :
    ∃ us, c2.den η = .lst us ∧ SrcRd (Ok I σ w) w ks y us := by
  unfold LV.toE at h
  split at h
  · split at h
    · rename_i hk; cases h
      have := K.eq_of_beq _ _ hk; subst this
      obtain ⟨us, h1, h2⟩ := Rd.src hy
      exact ⟨us, h1, h2⟩
    · cases h
  · split at h
    · rename_i q hq
      split at h
      · rename_i hk; cases h
        have hk := K.eq_of_beq _ _ hk
        injection hk with k1 k2
        subst k2
        obtain ⟨us, h1, h2⟩ := hr.rows _ q hq
        rw [hy.1]
        exact ⟨us, h1, h2.src⟩
      · cases h
    · cases h
  · have hy : y = .slice none 0 0 := hy
    simp only [Option.some.injEq] at h
    subst h
    exact ⟨[], rfl, .inl ⟨hy, rfl⟩⟩

theorem Rd.one {R : Nat → Prop} {k : K} {v : Value} {u : U} (h : Rd R w k v u) : v.oneCell' = true := by cases h <;> rfl

theorem append_run (hT : TabOK P T) {ty rt e : Nat} {ti te : TI} {v y : Value} {us us2 : List (List U)} {R : Nat → Prop} (hty : T.get ty = some te) (hk : te.kind = .slice e) (hti : T.get e = some ti) (h1 : 1 ≤ ti.size)
    (hown : Own R w e ti.ks v us) (hsrc : SrcRd R w ti.ks y us2) (hle : ((us ++ us2).length : Int) ≤ ((lim / ti.bytes : Nat) : Int)) (hR : ∀ b, R b → b < w.heap.size ∧ v.ownBlock ≠ some b) :
    ∃ v' w', (Builtin.append_ #[ty, ty] rt #[v, y]).run P w = .ok v' w' ∧ Own R w' e ti.ks v' (us ++ us2) ∧ w.grownBy w' v.ownBlock ∧ (v'.ownBlock = v.ownBlock ∨ v'.ownBlock = some w.heap.size) := by
  have hu := (hT _ _ hty).und_slice hk
  have hTe := hT _ _ hti
  obtain ⟨i, z, e1, e2, e3, e4, e5⟩ := hTe.info
  obtain ⟨xs, o1, o2, o3⟩ := hown
  rcases hsrc with ⟨rfl, rfl⟩ | ⟨ad, c, rfl, hsp, hall, hcell⟩
  · refine ⟨v, w, run_append_owned_none w 0 ty rt e i ti.ks.length hu e1 v us.length xs o1, ?_, ⟨rfl, rfl, rfl, Nat.le_refl _, fun _ _ _ => rfl⟩, .inl rfl⟩
    rw [List.append_nil]; exact ⟨xs, o1, o2, o3⟩
  · have hlim := lim_ok hTe.bytes hle
    rw [List.length_append] at hlim
    have hz : z.cells.size = ti.ks.length := by have := (zero_rd (R := R) (η := []) (w := w) e5).1; simpa using this
    have hs : ti.size = ti.ks.length := hTe.len
    have hpos : 0 < ti.ks.length := by omega
    have hcell' : ∀ k, k < us2.length * ti.ks.length → ∃ x, w.cell? ⟨ad.block, ad.off + k, none⟩ = some x ∧ x.oneCell' = true ∧ Rd R w (ti.ks.getD (k % ti.ks.length) default) x ((us2.getD (k / ti.ks.length) []).getD (k % ti.ks.length) default) := fun k hk => by
      obtain ⟨x, hx, hr⟩ := hcell (k / ti.ks.length) (k % ti.ks.length) ((Nat.div_lt_iff_lt_mul hpos).2 hk) (Nat.mod_lt _ hpos)
      rw [Nat.mul_comm, Nat.div_add_mod] at hx
      exact ⟨x, hx, hr.one, hr⟩
    generalize hnews : (List.range (us2.length * ti.ks.length)).map (fun k => (w.cell? ⟨ad.block, ad.off + k, none⟩).getD undef) = news
    have hnl : news.length = us2.length * ti.ks.length := by rw [← hnews]; simp
    have hget : ∀ k u, news[k]? = some u → k < us2.length * ti.ks.length ∧ w.cell? ⟨ad.block, ad.off + k, none⟩ = some u := fun k u h => by
      have hk := (List.getElem?_eq_some_iff.1 h).1
      rw [hnl] at hk
      obtain ⟨x, hx, _⟩ := hcell' k hk
      rw [← hnews, List.getElem?_map, List.getElem?_range hk] at h
      simp [hx] at h; subst h
      exact ⟨hk, hx⟩
    obtain ⟨v', w', hrun, hown', hgr, _, hat⟩ := run_append_own_at (P := P) w 0 ty rt e i z ti.ks.length ti.bytes hu e1 e4 (by omega) e3 hz hpos v us.length xs o1 ad us2.length c news hnl
      (fun j u hj => by
        obtain ⟨h3, h4⟩ := hget j u hj
        rcases hsp with hsp | hsp
        · rw [add_eq hsp]; exact h4
        · rw [hsp] at h3; simp at h3) (fun u hu => by
        obtain ⟨k, hk⟩ := List.mem_iff_getElem?.1 hu
        obtain ⟨h3, h4⟩ := hget k u hk
        obtain ⟨x, hx, ho, _⟩ := hcell' k h3
        rw [h4] at hx; cases hx; exact ho) hlim.2 hlim.1 (Nat.zero_le _)
    have hRR : ∀ b, R b → w'.heap[b]? = w.heap[b]? := fun b hb => hgr.block b (hR b hb).1 (fun e => (hR b hb).2 e.symm)
    refine ⟨v', w', hrun, ⟨xs ++ news, by rw [List.length_append]; exact hown', fun r hr => ?_, fun i' j' hi hj => ?_⟩, hgr, hat⟩
    · rcases List.mem_append.1 hr with h | h
      · exact o2 r h
      · exact hall r h
    · rw [List.length_append] at hi
      have hxl : xs.length = us.length * ti.ks.length := o1.1
      by_cases hlt : i' < us.length
      · have hm := Nat.mul_le_mul_right ti.ks.length (show i' + 1 ≤ us.length from hlt)
        rw [Nat.add_mul] at hm
        obtain ⟨x, hx, hr⟩ := o3 i' j' hlt hj
        refine ⟨x, by rw [List.getElem?_append_left (by omega)]; exact hx, ?_⟩
        rw [List.getD_eq_getElem?_getD (l := us ++ us2), List.getElem?_append_left hlt, ← List.getD_eq_getElem?_getD]
        exact hr.mono (fun _ h => h) hRR
      · obtain ⟨m, rfl⟩ : ∃ m, i' = us.length + m := ⟨i' - us.length, by omega⟩
        have hm2 : m < us2.length := by omega
        have hm := Nat.mul_le_mul_right ti.ks.length (show m + 1 ≤ us2.length from hm2)
        rw [Nat.add_mul] at hm
        obtain ⟨x, hx, hr⟩ := hcell m j' hm2 hj
        refine ⟨x, ?_, ?_⟩
        · rw [Nat.add_mul, List.getElem?_append_right (by omega), show us.length * ti.ks.length + m * ti.ks.length + j' - xs.length = m * ti.ks.length + j' by omega, ← hnews, List.getElem?_map, List.getElem?_range (by omega)]
          simp [hx]
        · rw [List.getD_eq_getElem?_getD (l := us ++ us2), List.getElem?_append_right (by omega), Nat.add_sub_cancel_left, ← List.getD_eq_getElem?_getD]
          exact hr.mono (fun _ h => h) hRR

theorem append_exec {o : Oper} {ty : Nat} {s x : Operand} {v' : Value} {w' : World} (ho : o.op = .call { callee := .builtin .append, args := #[s, x], argTypes := #[ty, ty] })
    (h : (Builtin.append_ #[ty, ty] o.type #[a.eval s, a.eval x]).run P w = .ok v' w') : (execOp a.eval o).run P w = .ok (.value v') w' := by
  simp [execOp, ho, resolve, invoke, builtin, h]

theorem appendOwn_did (hT : TabOK P T) {o : Oper} {ty e r : Nat} {ti te : TI} {s x : Operand} {lx : LV} {c2 : E} {q : Row} {σ' : PS} (ho : o.op = .call { callee := .builtin .append, args := #[s, x], argTypes := #[ty, ty] })
    (hty : T.get ty = some te) (hk : te.kind = .slice e) (hti : T.get e = some ti) (h1 : 1 ≤ ti.size) (hx : opv σ x = .val (.leaf lx)) (hc2 : LV.toE σ.rows (.lst e ti.ks) lx = some c2)
    (hs : opv σ s = .val (.leaf (.own r))) (hq : lookR σ.rows r = some q) (hkq : K.beq (.lst q.e q.ks) (.lst e ti.ks) = true) (hcl : σ.clR r = some σ')
    (hle : ((E.len (.cat q.c c2)).den η).I ≤ ((lim / ti.bytes : Nat) : Int)) (hr : Rel' w0 M I η σ a w) (hfx : fx.ok I) :
    Did P w0 M fx η a w o { σ' with rows := setR σ'.rows r (.cat q.c c2) } (.val (.leaf (.own r))) := by
  have hkq := K.eq_of_beq _ _ hkq
  injection hkq with k1 k2
  have hvs := opv_rel hr s
  rw [hs] at hvs
  have hvx := opv_rel hr x
  rw [hx] at hvx
  obtain ⟨us2, hd2, hsrc⟩ := toE_src hr hc2 hvx
  obtain ⟨us, hd, hown⟩ := hr.rows r q hq
  rw [k1, k2] at hown
  simp only [E.den, hd, hd2, U.L_lst, U.I_int] at hle
  have hbl : ∀ b, Ok I σ w b → b < w.heap.size ∧ (I.vr r).ownBlock ≠ some b := fun b hb => ⟨hb.1.1, fun e => hb.2 (.inr ⟨r, by rw [hq]; rfl, e⟩)⟩
  obtain ⟨v', w', hrun, hown', hgr, hat⟩ := append_run (rt := o.type) hT hty hk hti h1 hown hsrc hle hbl
  obtain ⟨hr', er, eb, hsl, hbx⟩ := clR_rel hcl hr
  have hq' : lookR σ'.rows r = some q := by rw [er]; exact hq
  have hOk : ∀ b, Ok I σ w b → Ok I σ' w b := fun b hb => ⟨hb.1, fun hx => hb.2 (hx.imp (fun ⟨b, h, e⟩ => ⟨b, by rw [← eb]; exact h, e⟩) (fun ⟨b, h, e⟩ => ⟨b, by rw [← er]; exact h, e⟩))⟩
  have hown2 : Own (Ok I σ' w) w' q.e q.ks v' (us ++ us2) := by
    rw [k1, k2]
    obtain ⟨xs, y1, y2, y3⟩ := hown'
    exact ⟨xs, y1, y2, fun i j hi hj => let ⟨x, hx, hrd⟩ := y3 i j hi hj; ⟨x, hx, hrd.mono hOk fun _ _ => rfl⟩⟩
  refine ⟨_, v', w', _, append_exec ho ?_, .inl rfl, setRow_rel hr' hq' hgr hd (by simp only [E.den, hd, hd2, U.L_lst]) hown2 (.inr ⟨hsl, fun b ls hb => hbx b ls (by rw [← eb]; exact hb), hat⟩), ⟨?_, ?_⟩, hfx⟩
  · rw [hvs.1]; exact hrun
  · simp [In.row]
  · show (lookR (setR σ'.rows r _) r).isSome = true
    rw [lookR_setR, if_pos rfl, hq']; rfl

theorem appendNil_did (hT : TabOK P T) {o : Oper} {ty e d : Nat} {ti te : TI} {s x : Operand} {lx : LV} {c2 : E} (ho : o.op = .call { callee := .builtin .append, args := #[s, x], argTypes := #[ty, ty] })
    (hty : T.get ty = some te) (hk : te.kind = .slice e) (hti : T.get e = some ti) (h1 : 1 ≤ ti.size) (hx : opv σ x = .val (.leaf lx)) (hc2 : LV.toE σ.rows (.lst e ti.ks) lx = some c2)
    (hs : opv σ s = .val (.leaf .nil)) (hn : lookR σ.rows d = none)
    (hle : ((E.len c2).den η).I ≤ ((lim / ti.bytes : Nat) : Int)) (hr : Rel' w0 M I η σ a w) (hfx : fx.ok I) :
    Did P w0 M fx η a w o (newRow σ d e ti.ks c2) (.val (.leaf (.own d))) := by
  have hvs := opv_rel hr s
  rw [hs] at hvs
  have hvs : a.eval s = .slice none 0 0 := hvs
  have hvx := opv_rel hr x
  rw [hx] at hvx
  obtain ⟨us2, hd2, hsrc⟩ := toE_src hr hc2 hvx
  simp only [E.den, hd2, U.L_lst, U.I_int] at hle
  have hnil : Own (Ok I σ w) w e ti.ks (.slice none 0 0) [] := ⟨[], World.ownsRow_nil w 0 e ti.ks.length, by simp, by simp⟩
  obtain ⟨v', w', hrun, hown', hgr, hat⟩ := append_run (rt := o.type) hT hty hk hti h1 hnil hsrc (by simpa using hle) (fun b hb => ⟨hb.1.1, by simp [Value.ownBlock]⟩)
  have hgr' : w.grownBy w' none := by simpa [Value.ownBlock] using hgr
  refine ⟨_, v', w', _, append_exec ho ?_, .inl rfl, newRow_rel hr hgr' hn hd2 (by simpa using hown') (fun g hg => ?_), ⟨?_, ?_⟩, hfx⟩
  · rw [hvs]; exact hrun
  · rcases hat with h | h
    · rw [hg] at h; simp [Value.ownBlock] at h
    · rw [hg] at h; cases h; exact Nat.le_refl _
  · simp [In.row]
  · show (lookR (_ :: _) d).isSome = true
    rw [lookR_cons]; simp
end
end Go.Proofs.YtibbceoibcnpcaaGreat.Eng
