/- What the rows about observations ask of the plain laws. No condition. -/
import Derived.Test.YtibbceoibcnpcaaGreatLawRK
import Derived.Test.YtibbceoibcnpcaaGreatEngX
import Derived.Test.YtibbceoibcnpcaaGreatRows
import Derived.JoinedOf
namespace Go.Proofs.YtibbceoibcnpcaaGreat.Eng
open Go Go.RowKit Go.ChangeShapes Go.WideShapes Go.ChangeAt

theorem tabOk2' : tabOk2 tab = true := by kernel_rfl
theorem laid : laidOutB Tryz.prog = true := by kernel_rfl
theorem own : ownKnob Tryz.prog.godebug = none := by kernel_rfl

/-- what the reading of observations gives -/
theorem obW_of {t : Nat} {l : List (List U)} (h : UOk (.lst t [.int .i64, .int .i64, .int .i64, .int .i64]) (.lst l)) : ObW l := by
  cases h with
  | lst _ _ l hlen hrow hok =>
    refine ⟨fun r hr => ?_, by unfold Big; simp only [maxLen] at hlen; omega⟩
    obtain ⟨i, hi⟩ := List.mem_iff_getElem?.1 hr
    have hil := (List.getElem?_eq_some_iff.1 hi).1
    have e : l.getD i [] = r := by simp [hi]
    have hl2 := hrow r hr
    have a0 := hok i 0 hil (by decide)
    have a1 := hok i 1 hil (by decide)
    have a2 := hok i 2 hil (by decide)
    have a3 := hok i 3 hil (by decide)
    rw [e] at a0 a1 a2 a3
    match r, hl2 with
    | [x, y, z, w], _ =>
      simp only [List.getD_cons_zero, List.getD_cons_succ] at a0 a1 a2 a3
      cases a0; cases a1; cases a2; cases a3
      exact ⟨_, _, _, _, rfl⟩
theorem lawO_true (t : Nat) (us : List U) (h : UOkL [.int .i64, .int .i64, .int .i64, .int .i64, .lst t [.int .i64, .int .i64, .int .i64, .int .i64]] us) : g_lawO us = some [.bool true] := by
  match us, h with
  | [a, b, c, d, u], h =>
    obtain ⟨h1, h2, h3, h4, h5, _⟩ := h
    have : ∃ l, u = .lst l := by cases h5; exact ⟨_, rfl⟩
    obtain ⟨l, rfl⟩ := this
    have hw := obW_of h5
    cases h1; cases h2; cases h3; cases h4
    unfold g_lawO
    dsimp only
    rw [if_pos hw]
end Go.Proofs.YtibbceoibcnpcaaGreat.Eng
