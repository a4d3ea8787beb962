/- What the rows about strokes ask of the plain laws. No condition. -/
import Derived.Test.YtjjnllklhcjomaaLawB
import Derived.Test.YtjjnllklhcjomaaEngX
import Derived.Test.YtjjnllklhcjomaaRows
import Derived.JoinedOf
namespace Go.Proofs.Ytjjnllklhcjomaa.Eng
open Go Go.RowKit Go.ChangeShapes Go.WideShapes Go.ChangeAt

theorem tabOk2' : tabOk2 tab = true := by kernel_rfl
theorem laid : laidOutB Try.prog = true := by kernel_rfl
theorem own : ownKnob Try.prog.godebug = none := by kernel_rfl

/-- what the reading of strokes gives -/
theorem stW_of {l : List (List U)} (h : UOk (.lst 104 [.int .i64, .lst 39 [.int .i64, .int .i64]]) (.lst l)) : StW l := by
  cases h with
  | lst _ _ l hlen hrow hok =>
    refine ⟨fun r hr => ?_, by unfold Big; simp only [maxLen] at hlen; omega⟩
    obtain ⟨i, hi⟩ := List.mem_iff_getElem?.1 hr
    have hil := (List.getElem?_eq_some_iff.1 hi).1
    have e : l.getD i [] = r := by simp [hi]
    have hl2 := hrow r hr
    have a0 := hok i 0 hil (by decide)
    have a1 := hok i 1 hil (by decide)
    rw [e] at a0 a1
    match r, hl2 with
    | [x, y], _ =>
      simp only [List.getD_cons_zero, List.getD_cons_succ] at a0 a1
      cases a0
      cases a1 with
      | lst _ _ m hlen hrow hok =>
        refine ⟨_, m, rfl, fun q hq => ?_, by unfold Big; simp only [maxLen] at hlen; omega⟩
        obtain ⟨k, hk⟩ := List.mem_iff_getElem?.1 hq
        have hkl := (List.getElem?_eq_some_iff.1 hk).1
        have e : m.getD k [] = q := by simp [hk]
        have hq2 := hrow q hq
        have b0 := hok k 0 hkl (by decide)
        have b1 := hok k 1 hkl (by decide)
        rw [e] at b0 b1
        match q, hq2 with
        | [x, y], _ =>
          simp only [List.getD_cons_zero, List.getD_cons_succ] at b0 b1
          cases b0; cases b1
          exact ⟨_, _, rfl⟩
theorem lawS_true (us : List U) (h : UOkL [.lst 104 [.int .i64, .lst 39 [.int .i64, .int .i64]]] us) : g_lawS us = some [.bool true] := by
  match us, h with
  | [u], h =>
    obtain ⟨h1, _⟩ := h
    have : ∃ l, u = .lst l := by cases h1; exact ⟨_, rfl⟩
    obtain ⟨l, rfl⟩ := this
    unfold g_lawS
    dsimp only
    rw [if_pos (stW_of h1)]

end Go.Proofs.Ytjjnllklhcjomaa.Eng
