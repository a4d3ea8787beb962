/- The functions' programs, printed by a program of ours. No condition. -/
import Derived.Test.YtjjnllklhcjomaaEngY
import Derived.Test.YtjjnllklhcjomaaChecked
import Derived.KernelRfl
namespace Go.Proofs.Ytjjnllklhcjomaa.Eng
open Go Go.Proofs.Ytjjnllklhcjomaa
def tab : Tab := [(2, ⟨1, 8, false, [(.int .i64)], (.int .i64)⟩),
  (3, ⟨1, 8, false, [(.int .i64)], (.int .i64)⟩),
  (4, ⟨1, 1, false, [.bool], .bool⟩),
  (5, ⟨1, 1, false, [(.int .u8)], (.int .u8)⟩),
  (6, ⟨1, 1, false, [(.int .u8)], (.int .u8)⟩),
  (7, ⟨4, 24, true, [(.int .i64), (.int .i64), .bool, (.int .u8)], (.struct [(2, 0), (3, 1), (4, 2), (6, 3)])⟩),
  (8, ⟨4, 24, true, [(.int .i64), (.int .i64), .bool, (.int .u8)], (.struct [(2, 0), (3, 1), (4, 2), (6, 3)])⟩),
  (9, ⟨1, 16, false, [.str], .str⟩),
  (10, ⟨1, 16, false, [.str], .str⟩),
  (11, ⟨1, 16, false, [.str], .str⟩),
  (12, ⟨1, 8, false, [(.int .u64)], (.int .u64)⟩),
  (13, ⟨2, 24, true, [.str, (.int .u64)], (.struct [(9, 0), (12, 1)])⟩),
  (14, ⟨2, 24, true, [.str, (.int .u64)], (.struct [(9, 0), (12, 1)])⟩),
  (21, ⟨1, 4, false, [(.int .i32)], (.int .i32)⟩),
  (22, ⟨1, 24, false, [(.lst 100 [(.int .u8), (.int .i64), (.int .i64)])], (.slice 100)⟩),
  (25, ⟨1, 24, false, [(.lst 98 [(.int .u8), (.int .i64), (.int .i64)])], (.slice 98)⟩),
  (29, ⟨1, 24, false, [(.lst 104 [(.int .i64), (.lst 39 [(.int .i64), (.int .i64)])])], (.slice 104)⟩),
  (32, ⟨1, 24, false, [(.lst 107 [(.int .i64), (.lst 40 [(.int .i64), (.int .i64)])])], (.slice 107)⟩),
  (36, ⟨4, 32, true, [(.int .i64), (.int .i64), (.int .i64), (.int .i64)], (.struct [(2, 0), (2, 1), (2, 2), (2, 3)])⟩),
  (37, ⟨4, 32, true, [(.int .i64), (.int .i64), (.int .i64), (.int .i64)], (.struct [(2, 0), (2, 1), (2, 2), (2, 3)])⟩),
  (38, ⟨2, 16, true, [(.int .i64), (.int .i64)], (.struct [(2, 0), (2, 1)])⟩),
  (39, ⟨2, 16, true, [(.int .i64), (.int .i64)], (.struct [(2, 0), (2, 1)])⟩),
  (40, ⟨2, 16, true, [(.int .i64), (.int .i64)], (.struct [(2, 0), (2, 1)])⟩),
  (43, ⟨4, 32, true, [(.int .i64), (.int .i64), (.int .i64), (.int .i64)], (.struct [(2, 0), (2, 1), (2, 2), (2, 3)])⟩),
  (50, ⟨1, 24, false, [(.lst 2 [(.int .i64)])], (.slice 2)⟩),
  (57, ⟨1, 24, false, [(.lst 5 [(.int .u8)])], (.slice 5)⟩),
  (66, ⟨1, 24, false, [(.lst 39 [(.int .i64), (.int .i64)])], (.slice 39)⟩),
  (68, ⟨1, 24, false, [(.lst 71 [(.lst 40 [(.int .i64), (.int .i64)])])], (.slice 71)⟩),
  (71, ⟨1, 24, false, [(.lst 40 [(.int .i64), (.int .i64)])], (.slice 40)⟩),
  (82, ⟨1, 24, false, [(.lst 132 [(.int .i64), (.int .i64), (.lst 39 [(.int .i64), (.int .i64)])])], (.slice 132)⟩),
  (86, ⟨1, 24, false, [(.lst 135 [(.int .i64), (.int .i64), (.lst 40 [(.int .i64), (.int .i64)])])], (.slice 135)⟩),
  (97, ⟨3, 24, true, [(.int .u8), (.int .i64), (.int .i64)], (.struct [(5, 0), (2, 1), (2, 2)])⟩),
  (98, ⟨3, 24, true, [(.int .u8), (.int .i64), (.int .i64)], (.struct [(5, 0), (2, 1), (2, 2)])⟩),
  (100, ⟨3, 24, true, [(.int .u8), (.int .i64), (.int .i64)], (.struct [(5, 0), (2, 1), (2, 2)])⟩),
  (103, ⟨2, 32, true, [(.int .i64), (.lst 39 [(.int .i64), (.int .i64)])], (.struct [(2, 0), (66, 1)])⟩),
  (104, ⟨2, 32, true, [(.int .i64), (.lst 39 [(.int .i64), (.int .i64)])], (.struct [(2, 0), (66, 1)])⟩),
  (106, ⟨2, 32, true, [(.int .i64), (.lst 40 [(.int .i64), (.int .i64)])], (.struct [(2, 0), (71, 1)])⟩),
  (107, ⟨2, 32, true, [(.int .i64), (.lst 40 [(.int .i64), (.int .i64)])], (.struct [(2, 0), (71, 1)])⟩),
  (131, ⟨3, 40, true, [(.int .i64), (.int .i64), (.lst 39 [(.int .i64), (.int .i64)])], (.struct [(2, 0), (2, 1), (66, 2)])⟩),
  (132, ⟨3, 40, true, [(.int .i64), (.int .i64), (.lst 39 [(.int .i64), (.int .i64)])], (.struct [(2, 0), (2, 1), (66, 2)])⟩),
  (134, ⟨3, 40, true, [(.int .i64), (.int .i64), (.lst 40 [(.int .i64), (.int .i64)])], (.struct [(2, 0), (2, 1), (71, 2)])⟩),
  (135, ⟨3, 40, true, [(.int .i64), (.int .i64), (.lst 40 [(.int .i64), (.int .i64)])], (.struct [(2, 0), (2, 1), (71, 2)])⟩),
  (153, ⟨3, 40, true, [(.lst 5 [(.int .u8)]), (.int .i64), (.int .i64)], (.struct [(57, 0), (3, 1), (2, 2)])⟩),
  (154, ⟨3, 40, true, [(.lst 5 [(.int .u8)]), (.int .i64), (.int .i64)], (.struct [(57, 0), (3, 1), (2, 2)])⟩),
  (169, ⟨1, 4, false, [(.int .u32)], (.int .u32)⟩),
  (170, ⟨1, 1, false, [(.int .u8)], (.int .u8)⟩),
  (171, ⟨1, 1, false, [(.int .u8)], (.int .u8)⟩),
  (174, ⟨1, 4, false, [(.int .i32)], (.int .i32)⟩),
  (175, ⟨1, 4, false, [(.int .i32)], (.int .i32)⟩)]
theorem tabOk' : tabOk Try.prog tab = true := by kernel_rfl
theorem tab_ok : TabOK Try.prog tab := tabOk_sound tabOk'
theorem mix : Try.prog.follows .mixedOrders = true := by kernel_rfl
/-- laws_toFace -/
def sg_laws_toFace : Sig := ⟨[.val true [(.int .i64), (.int .i64), (.int .i64), (.int .i64)]], [(true, [(.int .i64), (.int .i64), (.int .i64), (.int .i64)])]⟩
def pr_laws_toFace : Prog :=
 (.chk 4
 (.leaf (.res [(.var 0), (.var 1), (.var 2), (.var 3)])))
theorem ex_laws_toFace : exB tab [] Try.f27 sg_laws_toFace pr_laws_toFace = true := by kernel_rfl
abbrev n_laws_toFace : Nat := 27
theorem mk_laws_toFace  {g : List U → Option (List U)} (hg : ∀ us rs, us.length = 4 → g us = some rs → wpP (fun _ _ => none) pr_laws_toFace 0 us fun l η => ∃ es, l = .res es ∧ es.map (E.den η) = rs) : FnOK Try.prog 27 sg_laws_toFace g :=
  fn_ok2 tab_ok env_nil mix Try.func27 (by kernel_rfl) ex_laws_toFace hg
/-- laws_toPoint -/
def sg_laws_toPoint : Sig := ⟨[.val true [(.int .i64), (.int .i64)]], [(true, [(.int .i64), (.int .i64)])]⟩
def pr_laws_toPoint : Prog :=
 (.chk 2
 (.leaf (.res [(.var 0), (.var 1)])))
theorem ex_laws_toPoint : exB tab [] Try.f28 sg_laws_toPoint pr_laws_toPoint = true := by kernel_rfl
abbrev n_laws_toPoint : Nat := 28
theorem mk_laws_toPoint  {g : List U → Option (List U)} (hg : ∀ us rs, us.length = 2 → g us = some rs → wpP (fun _ _ => none) pr_laws_toPoint 0 us fun l η => ∃ es, l = .res es ∧ es.map (E.den η) = rs) : FnOK Try.prog 28 sg_laws_toPoint g :=
  fn_ok2 tab_ok env_nil mix Try.func28 (by kernel_rfl) ex_laws_toPoint hg
/-- spec_l01In -/
def sg_spec_l01In : Sig := ⟨[.val false [(.int .i64)], .val false [(.int .i64)], .val false [(.int .i64)]], [(false, [.bool])]⟩
def pr_spec_l01In : Prog :=
 (.chk 3
 (.join
  (.cond (.cmp .geq (.var 0) (.var 1))
   (.leaf (.vals 0 [(.cmp .leq (.var 0) (.var 2))]))
   (.leaf (.vals 0 [(.bool false)])))
  (.alt
   (.chk 4
   (.leaf (.res [(.var 3)])))
   .stop)))
theorem ex_spec_l01In : exB tab [] Try.f115 sg_spec_l01In pr_spec_l01In = true := by kernel_rfl
abbrev n_spec_l01In : Nat := 115
theorem mk_spec_l01In  {g : List U → Option (List U)} (hg : ∀ us rs, us.length = 3 → g us = some rs → wpP (fun _ _ => none) pr_spec_l01In 0 us fun l η => ∃ es, l = .res es ∧ es.map (E.den η) = rs) : FnOK Try.prog 115 sg_spec_l01In g :=
  fn_ok2 tab_ok env_nil mix Try.func115 (by kernel_rfl) ex_spec_l01In hg
/-- spec_l14Point -/
def sg_spec_l14Point : Sig := ⟨[.val false [(.int .i64)], .val false [(.int .i64)]], [(false, [.bool])]⟩
def pr_spec_l14Point : Prog :=
 (.chk 2
 (.join
  (.call 115 [(.var 0), (.int (-1000000)), (.int 1000000)] 1
  (.cond (.var 2)
   (.call 115 [(.var 1), (.int (-1000000)), (.int 1000000)] 1
   (.leaf (.vals 0 [(.var 3)])))
   (.leaf (.vals 0 [(.bool false)]))))
  (.alt
   (.chk 3
   (.leaf (.res [(.var 2)])))
   .stop)))
theorem ex_spec_l14Point : exB tab [(115, sg_spec_l01In)] Try.f104 sg_spec_l14Point pr_spec_l14Point = true := by kernel_rfl
abbrev n_spec_l14Point : Nat := 104
theorem mk_spec_l14Point {g0 : List U → Option (List U)}  (h0 : FnOK Try.prog 115 sg_spec_l01In g0) {g : List U → Option (List U)} (hg : ∀ us rs, us.length = 2 → g us = some rs → wpP (fun k us => if 115 = k then g0 us else none) pr_spec_l14Point 0 us fun l η => ∃ es, l = .res es ∧ es.map (E.den η) = rs) : FnOK Try.prog 104 sg_spec_l14Point g :=
  fn_ok2 tab_ok (env_cons (f := 115) h0 rfl env_nil) mix Try.func104 (by kernel_rfl) ex_spec_l14Point hg
/-- spec_IsFace -/
def sg_spec_IsFace : Sig := ⟨[.val true [(.int .i64), (.int .i64), (.int .i64), (.int .i64)]], [(false, [.bool])]⟩
def pr_spec_IsFace : Prog :=
 (.chk 4
 (.join
  (.call 104 [(.var 0), (.var 1)] 1
  (.cond (.var 4)
   (.call 104 [(.var 2), (.var 3)] 1
   (.cond (.var 5)
    (.cond (.cmp .lss (.var 0) (.var 2))
     (.leaf (.vals 0 [(.cmp .lss (.var 1) (.var 3))]))
     (.leaf (.vals 0 [(.bool false)])))
    (.leaf (.vals 0 [(.bool false)]))))
   (.leaf (.vals 0 [(.bool false)]))))
  (.alt
   (.chk 5
   (.leaf (.res [(.var 4)])))
   .stop)))
theorem ex_spec_IsFace : exB tab [(104, sg_spec_l14Point)] Try.f49 sg_spec_IsFace pr_spec_IsFace = true := by kernel_rfl
abbrev n_spec_IsFace : Nat := 49
theorem mk_spec_IsFace {g0 : List U → Option (List U)}  (h0 : FnOK Try.prog 104 sg_spec_l14Point g0) {g : List U → Option (List U)} (hg : ∀ us rs, us.length = 4 → g us = some rs → wpP (fun k us => if 104 = k then g0 us else none) pr_spec_IsFace 0 us fun l η => ∃ es, l = .res es ∧ es.map (E.den η) = rs) : FnOK Try.prog 49 sg_spec_IsFace g :=
  fn_ok2 tab_ok (env_cons (f := 104) h0 rfl env_nil) mix Try.func49 (by kernel_rfl) ex_spec_IsFace hg
/-- spec_l16Points -/
def sg_spec_l16Points : Sig := ⟨[.val false [(.lst 40 [(.int .i64), (.int .i64)])]], [(false, [.bool])]⟩
def pr_spec_l16Points : Prog :=
 (.chk 1
 (.loop [(.int 0)]
  (.chk 2
  (.cond (.cmp .lss (.var 1) (.len (.var 0)))
   (.guard (.cmp .leq (.int 0) (.var 1)) true
   (.call 104 [(.nth (.var 0) (.var 1) 0), (.nth (.var 0) (.var 1) 1)] 1
   (.cond (.not (.var 2))
    (.leaf (.vals 1 [(.var 1), (.cmp .lss (.var 1) (.len (.var 0))), (.not (.var 2))]))
    (.leaf (.vals 0 [(.ar .add .i64 (.var 1) (.int 1))])))))
   (.leaf (.vals 2 [(.var 1), (.cmp .lss (.var 1) (.len (.var 0)))]))))
  (.alt
   (.leaf (.res [(.bool false)]))
   (.alt
    (.chk 3
    (.leaf (.res [(.bool true)])))
    .stop))))
theorem ex_spec_l16Points : exB tab [(104, sg_spec_l14Point)] Try.f86 sg_spec_l16Points pr_spec_l16Points = true := by kernel_rfl
abbrev n_spec_l16Points : Nat := 86
theorem mk_spec_l16Points {g0 : List U → Option (List U)}  (h0 : FnOK Try.prog 104 sg_spec_l14Point g0) {g : List U → Option (List U)} (hg : ∀ us rs, us.length = 1 → g us = some rs → wpP (fun k us => if 104 = k then g0 us else none) pr_spec_l16Points 0 us fun l η => ∃ es, l = .res es ∧ es.map (E.den η) = rs) : FnOK Try.prog 86 sg_spec_l16Points g :=
  fn_ok2 tab_ok (env_cons (f := 104) h0 rfl env_nil) mix Try.func86 (by kernel_rfl) ex_spec_l16Points hg
/-- spec_l18Beyond -/
def sg_spec_l18Beyond : Sig := ⟨[.val true [(.int .i64), (.int .i64), (.int .i64), (.int .i64)], .val false [(.int .i64)], .val true [(.int .i64), (.int .i64)]], [(false, [(.int .i64)])]⟩
def pr_spec_l18Beyond : Prog :=
 (.chk 7
 (.cond (.cmp .eql (.var 4) (.int 0))
  (.leaf (.res [(.ar .sub .i64 (.var 0) (.var 5))]))
  (.cond (.cmp .eql (.var 4) (.int 1))
   (.leaf (.res [(.ar .sub .i64 (.var 5) (.var 2))]))
   (.cond (.cmp .eql (.var 4) (.int 2))
    (.leaf (.res [(.ar .sub .i64 (.var 1) (.var 6))]))
    (.leaf (.res [(.ar .sub .i64 (.var 6) (.var 3))]))))))
theorem ex_spec_l18Beyond : exB tab [] Try.f129 sg_spec_l18Beyond pr_spec_l18Beyond = true := by kernel_rfl
abbrev n_spec_l18Beyond : Nat := 129
theorem mk_spec_l18Beyond  {g : List U → Option (List U)} (hg : ∀ us rs, us.length = 7 → g us = some rs → wpP (fun _ _ => none) pr_spec_l18Beyond 0 us fun l η => ∃ es, l = .res es ∧ es.map (E.den η) = rs) : FnOK Try.prog 129 sg_spec_l18Beyond g :=
  fn_ok2 tab_ok env_nil mix Try.func129 (by kernel_rfl) ex_spec_l18Beyond hg
/-- spec_l01Floor -/
def sg_spec_l01Floor : Sig := ⟨[.val false [(.int .i64)], .val false [(.int .i64)]], [(false, [(.int .i64)])]⟩
def pr_spec_l01Floor : Prog :=
 (.chk 2
 (.join
  (.cond (.cmp .lss (.var 1) (.int 0))
   (.leaf (.vals 0 [(.ar .sub .i64 (.int 0) (.var 0)), (.ar .sub .i64 (.int 0) (.var 1))]))
   (.leaf (.vals 0 [(.var 0), (.var 1)])))
  (.alt
   (.guard (.cmp .neq (.var 3) (.int 0)) true
   (.chk 4
   (.join
    (.guard (.cmp .neq (.var 3) (.int 0)) true
    (.cond (.cmp .lss (.ar .rem .i64 (.var 2) (.var 3)) (.int 0))
     (.leaf (.vals 0 [(.ar .sub .i64 (.ar .quo .i64 (.var 2) (.var 3)) (.int 1))]))
     (.leaf (.vals 0 [(.ar .quo .i64 (.var 2) (.var 3))]))))
    (.alt
     (.chk 5
     (.leaf (.res [(.var 4)])))
     .stop))))
   .stop)))
theorem ex_spec_l01Floor : exB tab [] Try.f154 sg_spec_l01Floor pr_spec_l01Floor = true := by kernel_rfl
abbrev n_spec_l01Floor : Nat := 154
theorem mk_spec_l01Floor  {g : List U → Option (List U)} (hg : ∀ us rs, us.length = 2 → g us = some rs → wpP (fun _ _ => none) pr_spec_l01Floor 0 us fun l η => ∃ es, l = .res es ∧ es.map (E.den η) = rs) : FnOK Try.prog 154 sg_spec_l01Floor g :=
  fn_ok2 tab_ok env_nil mix Try.func154 (by kernel_rfl) ex_spec_l01Floor hg
/-- spec_l01Nearest -/
def sg_spec_l01Nearest : Sig := ⟨[.val false [(.int .i64)], .val false [(.int .i64)]], [(false, [(.int .i64)])]⟩
def pr_spec_l01Nearest : Prog :=
 (.chk 2
 (.call 154 [(.ar .add .i64 (.ar .mul .i64 (.int 2) (.var 0)) (.var 1)), (.ar .mul .i64 (.int 2) (.var 1))] 1
 (.leaf (.res [(.var 2)]))))
theorem ex_spec_l01Nearest : exB tab [(154, sg_spec_l01Floor)] Try.f152 sg_spec_l01Nearest pr_spec_l01Nearest = true := by kernel_rfl
abbrev n_spec_l01Nearest : Nat := 152
theorem mk_spec_l01Nearest {g0 : List U → Option (List U)}  (h0 : FnOK Try.prog 154 sg_spec_l01Floor g0) {g : List U → Option (List U)} (hg : ∀ us rs, us.length = 2 → g us = some rs → wpP (fun k us => if 154 = k then g0 us else none) pr_spec_l01Nearest 0 us fun l η => ∃ es, l = .res es ∧ es.map (E.den η) = rs) : FnOK Try.prog 152 sg_spec_l01Nearest g :=
  fn_ok2 tab_ok (env_cons (f := 154) h0 rfl env_nil) mix Try.func152 (by kernel_rfl) ex_spec_l01Nearest hg
/-- spec_l01Mix -/
def sg_spec_l01Mix : Sig := ⟨[.val false [(.int .i64)], .val false [(.int .i64)], .val false [(.int .i64)], .val false [(.int .i64)]], [(false, [(.int .i64)])]⟩
def pr_spec_l01Mix : Prog :=
 (.chk 4
 (.call 152 [(.ar .mul .i64 (.ar .sub .i64 (.var 1) (.var 0)) (.var 2)), (.var 3)] 1
 (.leaf (.res [(.ar .add .i64 (.var 0) (.var 4))]))))
theorem ex_spec_l01Mix : exB tab [(152, sg_spec_l01Nearest)] Try.f148 sg_spec_l01Mix pr_spec_l01Mix = true := by kernel_rfl
abbrev n_spec_l01Mix : Nat := 148
theorem mk_spec_l01Mix {g0 : List U → Option (List U)}  (h0 : FnOK Try.prog 152 sg_spec_l01Nearest g0) {g : List U → Option (List U)} (hg : ∀ us rs, us.length = 4 → g us = some rs → wpP (fun k us => if 152 = k then g0 us else none) pr_spec_l01Mix 0 us fun l η => ∃ es, l = .res es ∧ es.map (E.den η) = rs) : FnOK Try.prog 148 sg_spec_l01Mix g :=
  fn_ok2 tab_ok (env_cons (f := 152) h0 rfl env_nil) mix Try.func148 (by kernel_rfl) ex_spec_l01Mix hg
/-- spec_l18Cut -/
def sg_spec_l18Cut : Sig := ⟨[.val true [(.int .i64), (.int .i64), (.int .i64), (.int .i64)], .val false [(.int .i64)], .val true [(.int .i64), (.int .i64)], .val true [(.int .i64), (.int .i64)]], [(true, [(.int .i64), (.int .i64)])]⟩
def pr_spec_l18Cut : Prog :=
 (.chk 9
 (.call 129 [(.var 0), (.var 1), (.var 2), (.var 3), (.var 4), (.var 5), (.var 6)] 1
 (.call 129 [(.var 0), (.var 1), (.var 2), (.var 3), (.var 4), (.var 7), (.var 8)] 1
 (.cond (.cmp .eql (.var 4) (.int 0))
  (.call 148 [(.var 6), (.var 8), (.var 9), (.ar .sub .i64 (.var 9) (.var 10))] 1
  (.leaf (.res [(.var 0), (.var 11)])))
  (.cond (.cmp .eql (.var 4) (.int 1))
   (.call 148 [(.var 6), (.var 8), (.var 9), (.ar .sub .i64 (.var 9) (.var 10))] 1
   (.leaf (.res [(.var 2), (.var 11)])))
   (.cond (.cmp .eql (.var 4) (.int 2))
    (.call 148 [(.var 5), (.var 7), (.var 9), (.ar .sub .i64 (.var 9) (.var 10))] 1
    (.leaf (.res [(.var 11), (.var 1)])))
    (.call 148 [(.var 5), (.var 7), (.var 9), (.ar .sub .i64 (.var 9) (.var 10))] 1
    (.leaf (.res [(.var 11), (.var 3)])))))))))
theorem ex_spec_l18Cut : exB tab [(129, sg_spec_l18Beyond), (148, sg_spec_l01Mix)] Try.f130 sg_spec_l18Cut pr_spec_l18Cut = true := by kernel_rfl
abbrev n_spec_l18Cut : Nat := 130
theorem mk_spec_l18Cut {g0 g1 : List U → Option (List U)}  (h0 : FnOK Try.prog 129 sg_spec_l18Beyond g0) (h1 : FnOK Try.prog 148 sg_spec_l01Mix g1) {g : List U → Option (List U)} (hg : ∀ us rs, us.length = 9 → g us = some rs → wpP (fun k us => if 129 = k then g0 us else if 148 = k then g1 us else none) pr_spec_l18Cut 0 us fun l η => ∃ es, l = .res es ∧ es.map (E.den η) = rs) : FnOK Try.prog 130 sg_spec_l18Cut g :=
  fn_ok2 tab_ok (env_cons (f := 129) h0 rfl (env_cons (f := 148) h1 rfl env_nil)) mix Try.func130 (by kernel_rfl) ex_spec_l18Cut hg
/-- spec_l18Clip -/
def sg_spec_l18Clip : Sig := ⟨[.val true [(.int .i64), (.int .i64), (.int .i64), (.int .i64)], .val true [(.int .i64), (.int .i64)], .val true [(.int .i64), (.int .i64)]], [(true, [(.int .i64), (.int .i64)]), (true, [(.int .i64), (.int .i64)]), (false, [.bool])]⟩
def pr_spec_l18Clip : Prog :=
 (.chk 8
 (.loop [(.int 0), (.var 6), (.var 7), (.var 4), (.var 5)]
  (.chk 13
  (.cond (.cmp .lss (.var 8) (.int 4))
   (.join
    (.call 129 [(.var 0), (.var 1), (.var 2), (.var 3), (.var 8), (.var 11), (.var 12)] 1
    (.call 129 [(.var 0), (.var 1), (.var 2), (.var 3), (.var 8), (.var 9), (.var 10)] 1
    (.join
     (.cond (.cmp .gtr (.var 13) (.int 0))
      (.leaf (.vals 0 [(.cmp .gtr (.var 14) (.int 0))]))
      (.leaf (.vals 0 [(.bool false)])))
     (.alt
      (.chk 16
      (.cond (.var 15)
       (.leaf (.vals 1 [(.cmp .gtr (.var 13) (.int 0)), (.cmp .gtr (.var 14) (.int 0)), (.var 15)]))
       (.cond (.cmp .gtr (.var 13) (.int 0))
        (.call 130 [(.var 0), (.var 1), (.var 2), (.var 3), (.var 8), (.var 11), (.var 12), (.var 9), (.var 10)] 2
        (.leaf (.vals 0 [(.cmp .gtr (.var 13) (.int 0)), (.cmp .gtr (.var 14) (.int 0)), (.var 15), (.cmp .gtr (.var 13) (.int 0)), (.var 9), (.var 10), (.var 16), (.var 17)])))
        (.cond (.cmp .gtr (.var 14) (.int 0))
         (.call 130 [(.var 0), (.var 1), (.var 2), (.var 3), (.var 8), (.var 9), (.var 10), (.var 11), (.var 12)] 2
         (.leaf (.vals 0 [(.cmp .gtr (.var 13) (.int 0)), (.cmp .gtr (.var 14) (.int 0)), (.var 15), (.cmp .gtr (.var 13) (.int 0)), (.var 16), (.var 17), (.var 11), (.var 12)])))
         (.leaf (.vals 0 [(.cmp .gtr (.var 13) (.int 0)), (.cmp .gtr (.var 14) (.int 0)), (.var 15), (.cmp .gtr (.var 13) (.int 0)), (.var 9), (.var 10), (.var 11), (.var 12)]))))))
      .stop))))
    (.alt
     (.chk 21
     (.leaf (.vals 0 [(.ar .add .i64 (.var 8) (.int 1)), (.var 17), (.var 18), (.var 19), (.var 20)])))
     (.alt
      (.leaf (.vals 1 [(.var 8), (.var 13), (.var 14), (.cmp .lss (.var 8) (.int 4)), (.var 15), (.var 9), (.var 10), (.var 11), (.var 12)]))
      .stop)))
   (.leaf (.vals 2 [(.var 8), (.cmp .lss (.var 8) (.int 4)), (.var 9), (.var 10), (.var 11), (.var 12)]))))
  (.alt
   (.leaf (.res [(.int 0), (.int 0), (.int 0), (.int 0), (.bool false)]))
   (.alt
    (.chk 14
    (.leaf (.res [(.var 12), (.var 13), (.var 10), (.var 11), (.bool true)])))
    .stop))))
theorem ex_spec_l18Clip : exB tab [(129, sg_spec_l18Beyond), (130, sg_spec_l18Cut)] Try.f87 sg_spec_l18Clip pr_spec_l18Clip = true := by kernel_rfl
abbrev n_spec_l18Clip : Nat := 87
theorem mk_spec_l18Clip {g0 g1 : List U → Option (List U)}  (h0 : FnOK Try.prog 129 sg_spec_l18Beyond g0) (h1 : FnOK Try.prog 130 sg_spec_l18Cut g1) {g : List U → Option (List U)} (hg : ∀ us rs, us.length = 8 → g us = some rs → wpP (fun k us => if 129 = k then g0 us else if 130 = k then g1 us else none) pr_spec_l18Clip 0 us fun l η => ∃ es, l = .res es ∧ es.map (E.den η) = rs) : FnOK Try.prog 87 sg_spec_l18Clip g :=
  fn_ok2 tab_ok (env_cons (f := 129) h0 rfl (env_cons (f := 130) h1 rfl env_nil)) mix Try.func87 (by kernel_rfl) ex_spec_l18Clip hg
/-- spec_ClipSegment -/
def sg_spec_ClipSegment : Sig := ⟨[.val true [(.int .i64), (.int .i64), (.int .i64), (.int .i64)], .val true [(.int .i64), (.int .i64)], .val true [(.int .i64), (.int .i64)]], [(true, [(.int .i64), (.int .i64)]), (true, [(.int .i64), (.int .i64)]), (false, [(.int .i64)])]⟩
def pr_spec_ClipSegment : Prog :=
 (.chk 8
 (.call 49 [(.var 0), (.var 1), (.var 2), (.var 3)] 1
 (.cond (.not (.var 8))
  (.leaf (.res [(.int 0), (.int 0), (.int 0), (.int 0), (.int 1)]))
  (.call 86 [(.lcons (.rcons (.var 4) (.rcons (.var 5) .rnil)) (.lcons (.rcons (.var 6) (.rcons (.var 7) .rnil)) .lnil))] 1
  (.cond (.not (.var 9))
   (.leaf (.res [(.int 0), (.int 0), (.int 0), (.int 0), (.int 2)]))
   (.call 87 [(.var 0), (.var 1), (.var 2), (.var 3), (.var 4), (.var 5), (.var 6), (.var 7)] 5
   (.cond (.not (.var 14))
    (.leaf (.res [(.int 0), (.int 0), (.int 0), (.int 0), (.int 4)]))
    (.leaf (.res [(.var 10), (.var 11), (.var 12), (.var 13), (.int 0)])))))))))
theorem ex_spec_ClipSegment : exB tab [(49, sg_spec_IsFace), (86, sg_spec_l16Points), (87, sg_spec_l18Clip)] Try.f26 sg_spec_ClipSegment pr_spec_ClipSegment = true := by kernel_rfl
abbrev n_spec_ClipSegment : Nat := 26
theorem mk_spec_ClipSegment {g0 g1 g2 : List U → Option (List U)}  (h0 : FnOK Try.prog 49 sg_spec_IsFace g0) (h1 : FnOK Try.prog 86 sg_spec_l16Points g1) (h2 : FnOK Try.prog 87 sg_spec_l18Clip g2) {g : List U → Option (List U)} (hg : ∀ us rs, us.length = 8 → g us = some rs → wpP (fun k us => if 49 = k then g0 us else if 86 = k then g1 us else if 87 = k then g2 us else none) pr_spec_ClipSegment 0 us fun l η => ∃ es, l = .res es ∧ es.map (E.den η) = rs) : FnOK Try.prog 26 sg_spec_ClipSegment g :=
  fn_ok2 tab_ok (env_cons (f := 49) h0 rfl (env_cons (f := 86) h1 rfl (env_cons (f := 87) h2 rfl env_nil))) mix Try.func26 (by kernel_rfl) ex_spec_ClipSegment hg
/-- impl_in -/
def sg_impl_in : Sig := ⟨[.val false [(.int .i64)], .val false [(.int .i64)], .val false [(.int .i64)]], [(false, [.bool])]⟩
def pr_impl_in : Prog :=
 (.chk 3
 (.join
  (.cond (.cmp .geq (.var 0) (.var 1))
   (.leaf (.vals 0 [(.cmp .leq (.var 0) (.var 2))]))
   (.leaf (.vals 0 [(.bool false)])))
  (.alt
   (.chk 4
   (.leaf (.res [(.var 3)])))
   .stop)))
theorem ex_impl_in : exB tab [] Try.f120 sg_impl_in pr_impl_in = true := by kernel_rfl
abbrev n_impl_in : Nat := 120
theorem mk_impl_in  {g : List U → Option (List U)} (hg : ∀ us rs, us.length = 3 → g us = some rs → wpP (fun _ _ => none) pr_impl_in 0 us fun l η => ∃ es, l = .res es ∧ es.map (E.den η) = rs) : FnOK Try.prog 120 sg_impl_in g :=
  fn_ok2 tab_ok env_nil mix Try.func120 (by kernel_rfl) ex_impl_in hg
/-- impl_isSpot -/
def sg_impl_isSpot : Sig := ⟨[.val false [(.int .i64)]], [(false, [.bool])]⟩
def pr_impl_isSpot : Prog :=
 (.chk 1
 (.call 120 [(.var 0), (.int (-1000000)), (.int 1000000)] 1
 (.leaf (.res [(.var 1)]))))
theorem ex_impl_isSpot : exB tab [(120, sg_impl_in)] Try.f106 sg_impl_isSpot pr_impl_isSpot = true := by kernel_rfl
abbrev n_impl_isSpot : Nat := 106
theorem mk_impl_isSpot {g0 : List U → Option (List U)}  (h0 : FnOK Try.prog 120 sg_impl_in g0) {g : List U → Option (List U)} (hg : ∀ us rs, us.length = 1 → g us = some rs → wpP (fun k us => if 120 = k then g0 us else none) pr_impl_isSpot 0 us fun l η => ∃ es, l = .res es ∧ es.map (E.den η) = rs) : FnOK Try.prog 106 sg_impl_isSpot g :=
  fn_ok2 tab_ok (env_cons (f := 120) h0 rfl env_nil) mix Try.func106 (by kernel_rfl) ex_impl_isSpot hg
/-- impl_IsFace -/
def sg_impl_IsFace : Sig := ⟨[.val true [(.int .i64), (.int .i64), (.int .i64), (.int .i64)]], [(false, [.bool])]⟩
def pr_impl_IsFace : Prog :=
 (.chk 4
 (.join
  (.call 106 [(.var 0)] 1
  (.cond (.var 4)
   (.call 106 [(.var 1)] 1
   (.cond (.var 5)
    (.call 106 [(.var 2)] 1
    (.cond (.var 6)
     (.call 106 [(.var 3)] 1
     (.cond (.var 7)
      (.cond (.cmp .lss (.var 0) (.var 2))
       (.leaf (.vals 0 [(.cmp .lss (.var 1) (.var 3))]))
       (.leaf (.vals 0 [(.bool false)])))
      (.leaf (.vals 0 [(.bool false)]))))
     (.leaf (.vals 0 [(.bool false)]))))
    (.leaf (.vals 0 [(.bool false)]))))
   (.leaf (.vals 0 [(.bool false)]))))
  (.alt
   (.chk 5
   (.leaf (.res [(.var 4)])))
   .stop)))
theorem ex_impl_IsFace : exB tab [(106, sg_impl_isSpot)] Try.f48 sg_impl_IsFace pr_impl_IsFace = true := by kernel_rfl
abbrev n_impl_IsFace : Nat := 48
theorem mk_impl_IsFace {g0 : List U → Option (List U)}  (h0 : FnOK Try.prog 106 sg_impl_isSpot g0) {g : List U → Option (List U)} (hg : ∀ us rs, us.length = 4 → g us = some rs → wpP (fun k us => if 106 = k then g0 us else none) pr_impl_IsFace 0 us fun l η => ∃ es, l = .res es ∧ es.map (E.den η) = rs) : FnOK Try.prog 48 sg_impl_IsFace g :=
  fn_ok2 tab_ok (env_cons (f := 106) h0 rfl env_nil) mix Try.func48 (by kernel_rfl) ex_impl_IsFace hg
/-- impl_isPoint -/
def sg_impl_isPoint : Sig := ⟨[.val true [(.int .i64), (.int .i64)]], [(false, [.bool])]⟩
def pr_impl_isPoint : Prog :=
 (.chk 2
 (.join
  (.call 106 [(.var 0)] 1
  (.cond (.var 2)
   (.call 106 [(.var 1)] 1
   (.leaf (.vals 0 [(.var 3)])))
   (.leaf (.vals 0 [(.bool false)]))))
  (.alt
   (.chk 3
   (.leaf (.res [(.var 2)])))
   .stop)))
theorem ex_impl_isPoint : exB tab [(106, sg_impl_isSpot)] Try.f131 sg_impl_isPoint pr_impl_isPoint = true := by kernel_rfl
abbrev n_impl_isPoint : Nat := 131
theorem mk_impl_isPoint {g0 : List U → Option (List U)}  (h0 : FnOK Try.prog 106 sg_impl_isSpot g0) {g : List U → Option (List U)} (hg : ∀ us rs, us.length = 2 → g us = some rs → wpP (fun k us => if 106 = k then g0 us else none) pr_impl_isPoint 0 us fun l η => ∃ es, l = .res es ∧ es.map (E.den η) = rs) : FnOK Try.prog 131 sg_impl_isPoint g :=
  fn_ok2 tab_ok (env_cons (f := 106) h0 rfl env_nil) mix Try.func131 (by kernel_rfl) ex_impl_isPoint hg
/-- impl_faced -/
def sg_impl_faced : Sig := ⟨[.val true [(.int .i64), (.int .i64), (.int .i64), (.int .i64)], .val false [(.lst 40 [(.int .i64), (.int .i64)])]], [(false, [(.int .i64)])]⟩
def pr_impl_faced : Prog :=
 (.chk 5
 (.call 48 [(.var 0), (.var 1), (.var 2), (.var 3)] 1
 (.cond (.not (.var 5))
  (.leaf (.res [(.int 1)]))
  (.loop [(.int 0)]
   (.chk 7
   (.cond (.cmp .lss (.var 6) (.len (.var 4)))
    (.guard (.cmp .leq (.int 0) (.var 6)) true
    (.call 131 [(.nth (.var 4) (.var 6) 0), (.nth (.var 4) (.var 6) 1)] 1
    (.cond (.not (.var 7))
     (.leaf (.vals 1 [(.var 6), (.cmp .lss (.var 6) (.len (.var 4))), (.not (.var 7)), (.nth (.var 4) (.var 6) 0), (.nth (.var 4) (.var 6) 1)]))
     (.leaf (.vals 0 [(.ar .add .i64 (.var 6) (.int 1))])))))
    (.leaf (.vals 2 [(.var 6), (.cmp .lss (.var 6) (.len (.var 4)))]))))
   (.alt
    (.leaf (.res [(.int 2)]))
    (.alt
     (.chk 8
     (.leaf (.res [(.int 0)])))
     .stop))))))
theorem ex_impl_faced : exB tab [(48, sg_impl_IsFace), (131, sg_impl_isPoint)] Try.f88 sg_impl_faced pr_impl_faced = true := by kernel_rfl
abbrev n_impl_faced : Nat := 88
theorem mk_impl_faced {g0 g1 : List U → Option (List U)}  (h0 : FnOK Try.prog 48 sg_impl_IsFace g0) (h1 : FnOK Try.prog 131 sg_impl_isPoint g1) {g : List U → Option (List U)} (hg : ∀ us rs, us.length = 5 → g us = some rs → wpP (fun k us => if 48 = k then g0 us else if 131 = k then g1 us else none) pr_impl_faced 0 us fun l η => ∃ es, l = .res es ∧ es.map (E.den η) = rs) : FnOK Try.prog 88 sg_impl_faced g :=
  fn_ok2 tab_ok (env_cons (f := 48) h0 rfl (env_cons (f := 131) h1 rfl env_nil)) mix Try.func88 (by kernel_rfl) ex_impl_faced hg
/-- impl_floor -/
def sg_impl_floor : Sig := ⟨[.val false [(.int .i64)], .val false [(.int .i64)]], [(false, [(.int .i64)])]⟩
def pr_impl_floor : Prog :=
 (.chk 2
 (.guard (.cmp .neq (.var 1) (.int 0)) true
 (.join
  (.join
   (.cond (.cmp .neq (.ar .rem .i64 (.var 0) (.var 1)) (.int 0))
    (.leaf (.vals 0 [(.not (.beq (.cmp .lss (.ar .rem .i64 (.var 0) (.var 1)) (.int 0)) (.cmp .lss (.var 1) (.int 0))))]))
    (.leaf (.vals 0 [(.bool false)])))
   (.alt
    (.chk 3
    (.cond (.var 2)
     (.leaf (.vals 0 [(.ar .sub .i64 (.ar .quo .i64 (.var 0) (.var 1)) (.int 1)), (.var 2)]))
     (.leaf (.vals 0 [(.ar .quo .i64 (.var 0) (.var 1)), (.var 2)]))))
    .stop))
  (.alt
   (.chk 4
   (.leaf (.res [(.var 2)])))
   .stop))))
theorem ex_impl_floor : exB tab [] Try.f155 sg_impl_floor pr_impl_floor = true := by kernel_rfl
abbrev n_impl_floor : Nat := 155
theorem mk_impl_floor  {g : List U → Option (List U)} (hg : ∀ us rs, us.length = 2 → g us = some rs → wpP (fun _ _ => none) pr_impl_floor 0 us fun l η => ∃ es, l = .res es ∧ es.map (E.den η) = rs) : FnOK Try.prog 155 sg_impl_floor g :=
  fn_ok2 tab_ok env_nil mix Try.func155 (by kernel_rfl) ex_impl_floor hg
/-- impl_nearest -/
def sg_impl_nearest : Sig := ⟨[.val false [(.int .i64)], .val false [(.int .i64)]], [(false, [(.int .i64)])]⟩
def pr_impl_nearest : Prog :=
 (.chk 2
 (.join
  (.cond (.cmp .lss (.var 1) (.int 0))
   (.leaf (.vals 0 [(.ar .sub .i64 (.int 0) (.var 0)), (.ar .sub .i64 (.int 0) (.var 1))]))
   (.leaf (.vals 0 [(.var 0), (.var 1)])))
  (.alt
   (.call 155 [(.var 2), (.var 3)] 1
   (.chk 5
   (.join
    (.cond (.cmp .geq (.ar .sub .i64 (.var 2) (.ar .mul .i64 (.var 4) (.var 3))) (.ar .sub .i64 (.var 3) (.ar .sub .i64 (.var 2) (.ar .mul .i64 (.var 4) (.var 3)))))
     (.leaf (.vals 0 [(.ar .add .i64 (.var 4) (.int 1))]))
     (.leaf (.vals 0 [(.var 4)])))
    (.alt
     (.chk 6
     (.leaf (.res [(.var 5)])))
     .stop))))
   .stop)))
theorem ex_impl_nearest : exB tab [(155, sg_impl_floor)] Try.f153 sg_impl_nearest pr_impl_nearest = true := by kernel_rfl
abbrev n_impl_nearest : Nat := 153
theorem mk_impl_nearest {g0 : List U → Option (List U)}  (h0 : FnOK Try.prog 155 sg_impl_floor g0) {g : List U → Option (List U)} (hg : ∀ us rs, us.length = 2 → g us = some rs → wpP (fun k us => if 155 = k then g0 us else none) pr_impl_nearest 0 us fun l η => ∃ es, l = .res es ∧ es.map (E.den η) = rs) : FnOK Try.prog 153 sg_impl_nearest g :=
  fn_ok2 tab_ok (env_cons (f := 155) h0 rfl env_nil) mix Try.func153 (by kernel_rfl) ex_impl_nearest hg
/-- impl_mixed -/
def sg_impl_mixed : Sig := ⟨[.val false [(.int .i64)], .val false [(.int .i64)], .val false [(.int .i64)], .val false [(.int .i64)]], [(false, [(.int .i64)])]⟩
def pr_impl_mixed : Prog :=
 (.chk 4
 (.call 153 [(.ar .mul .i64 (.ar .sub .i64 (.var 1) (.var 0)) (.var 2)), (.var 3)] 1
 (.leaf (.res [(.ar .add .i64 (.var 0) (.var 4))]))))
theorem ex_impl_mixed : exB tab [(153, sg_impl_nearest)] Try.f149 sg_impl_mixed pr_impl_mixed = true := by kernel_rfl
abbrev n_impl_mixed : Nat := 149
theorem mk_impl_mixed {g0 : List U → Option (List U)}  (h0 : FnOK Try.prog 153 sg_impl_nearest g0) {g : List U → Option (List U)} (hg : ∀ us rs, us.length = 4 → g us = some rs → wpP (fun k us => if 153 = k then g0 us else none) pr_impl_mixed 0 us fun l η => ∃ es, l = .res es ∧ es.map (E.den η) = rs) : FnOK Try.prog 149 sg_impl_mixed g :=
  fn_ok2 tab_ok (env_cons (f := 153) h0 rfl env_nil) mix Try.func149 (by kernel_rfl) ex_impl_mixed hg
/-- impl_clipLow -/
def sg_impl_clipLow : Sig := ⟨[.val true [(.int .i64), (.int .i64)], .val true [(.int .i64), (.int .i64)], .val false [(.int .i64)]], [(true, [(.int .i64), (.int .i64)]), (true, [(.int .i64), (.int .i64)]), (false, [.bool])]⟩
def pr_impl_clipLow : Prog :=
 (.chk 5
 (.join
  (.join
   (.cond (.cmp .lss (.var 0) (.var 4))
    (.leaf (.vals 0 [(.cmp .lss (.var 2) (.var 4))]))
    (.leaf (.vals 0 [(.bool false)])))
   (.alt
    (.chk 6
    (.cond (.var 5)
     (.leaf (.vals 1 [(.var 5)]))
     (.cond (.cmp .lss (.var 0) (.var 4))
      (.call 149 [(.var 1), (.var 3), (.ar .sub .i64 (.var 4) (.var 0)), (.ar .sub .i64 (.var 2) (.var 0))] 1
      (.leaf (.vals 0 [(.var 5), (.var 2), (.var 3), (.var 4), (.var 6)])))
      (.cond (.cmp .lss (.var 2) (.var 4))
       (.call 149 [(.var 3), (.var 1), (.ar .sub .i64 (.var 4) (.var 2)), (.ar .sub .i64 (.var 0) (.var 2))] 1
       (.leaf (.vals 0 [(.var 5), (.var 4), (.var 6), (.var 0), (.var 1)])))
       (.leaf (.vals 0 [(.var 5), (.var 2), (.var 3), (.var 0), (.var 1)]))))))
    .stop))
  (.alt
   (.chk 10
   (.leaf (.res [(.var 8), (.var 9), (.var 6), (.var 7), (.bool true)])))
   (.alt
    (.leaf (.res [(.int 0), (.int 0), (.int 0), (.int 0), (.bool false)]))
    .stop))))
theorem ex_impl_clipLow : exB tab [(149, sg_impl_mixed)] Try.f132 sg_impl_clipLow pr_impl_clipLow = true := by kernel_rfl
abbrev n_impl_clipLow : Nat := 132
theorem mk_impl_clipLow {g0 : List U → Option (List U)}  (h0 : FnOK Try.prog 149 sg_impl_mixed g0) {g : List U → Option (List U)} (hg : ∀ us rs, us.length = 5 → g us = some rs → wpP (fun k us => if 149 = k then g0 us else none) pr_impl_clipLow 0 us fun l η => ∃ es, l = .res es ∧ es.map (E.den η) = rs) : FnOK Try.prog 132 sg_impl_clipLow g :=
  fn_ok2 tab_ok (env_cons (f := 149) h0 rfl env_nil) mix Try.func132 (by kernel_rfl) ex_impl_clipLow hg
/-- impl_Point_mirrored -/
def sg_impl_Point_mirrored : Sig := ⟨[.val true [(.int .i64), (.int .i64)]], [(true, [(.int .i64), (.int .i64)])]⟩
def pr_impl_Point_mirrored : Prog :=
 (.chk 2
 (.leaf (.res [(.ar .sub .i64 (.int 0) (.var 0)), (.var 1)])))
theorem ex_impl_Point_mirrored : exB tab [] Try.f133 sg_impl_Point_mirrored pr_impl_Point_mirrored = true := by kernel_rfl
abbrev n_impl_Point_mirrored : Nat := 133
theorem mk_impl_Point_mirrored  {g : List U → Option (List U)} (hg : ∀ us rs, us.length = 2 → g us = some rs → wpP (fun _ _ => none) pr_impl_Point_mirrored 0 us fun l η => ∃ es, l = .res es ∧ es.map (E.den η) = rs) : FnOK Try.prog 133 sg_impl_Point_mirrored g :=
  fn_ok2 tab_ok env_nil mix Try.func133 (by kernel_rfl) ex_impl_Point_mirrored hg
/-- impl_Point_turned -/
def sg_impl_Point_turned : Sig := ⟨[.val true [(.int .i64), (.int .i64)]], [(true, [(.int .i64), (.int .i64)])]⟩
def pr_impl_Point_turned : Prog :=
 (.chk 2
 (.leaf (.res [(.var 1), (.var 0)])))
theorem ex_impl_Point_turned : exB tab [] Try.f134 sg_impl_Point_turned pr_impl_Point_turned = true := by kernel_rfl
abbrev n_impl_Point_turned : Nat := 134
theorem mk_impl_Point_turned  {g : List U → Option (List U)} (hg : ∀ us rs, us.length = 2 → g us = some rs → wpP (fun _ _ => none) pr_impl_Point_turned 0 us fun l η => ∃ es, l = .res es ∧ es.map (E.den η) = rs) : FnOK Try.prog 134 sg_impl_Point_turned g :=
  fn_ok2 tab_ok env_nil mix Try.func134 (by kernel_rfl) ex_impl_Point_turned hg
/-- impl_Face_clip -/
def sg_impl_Face_clip : Sig := ⟨[.val true [(.int .i64), (.int .i64), (.int .i64), (.int .i64)], .val true [(.int .i64), (.int .i64)], .val true [(.int .i64), (.int .i64)]], [(true, [(.int .i64), (.int .i64)]), (true, [(.int .i64), (.int .i64)]), (false, [.bool])]⟩
def pr_impl_Face_clip : Prog :=
 (.chk 8
 (.call 132 [(.var 4), (.var 5), (.var 6), (.var 7), (.var 0)] 5
 (.join
  (.cond (.var 12)
   (.call 133 [(.var 8), (.var 9)] 2
   (.call 133 [(.var 10), (.var 11)] 2
   (.call 132 [(.var 13), (.var 14), (.var 15), (.var 16), (.ar .sub .i64 (.int 0) (.var 2))] 5
   (.call 133 [(.var 17), (.var 18)] 2
   (.call 133 [(.var 19), (.var 20)] 2
   (.leaf (.vals 0 [(.var 21), (.var 24), (.var 25), (.var 22), (.var 23)])))))))
   (.leaf (.vals 0 [(.var 12), (.var 10), (.var 11), (.var 8), (.var 9)])))
  (.alt
   (.join
    (.chk 18
    (.cond (.var 13)
     (.call 134 [(.var 16), (.var 17)] 2
     (.call 134 [(.var 14), (.var 15)] 2
     (.call 132 [(.var 18), (.var 19), (.var 20), (.var 21), (.var 1)] 5
     (.leaf (.vals 0 [(.var 26), (.var 24), (.var 25), (.var 22), (.var 23)])))))
     (.leaf (.vals 0 [(.var 13), (.var 14), (.var 15), (.var 16), (.var 17)]))))
    (.alt
     (.join
      (.chk 23
      (.cond (.var 18)
       (.call 133 [(.var 21), (.var 22)] 2
       (.call 133 [(.var 19), (.var 20)] 2
       (.call 132 [(.var 23), (.var 24), (.var 25), (.var 26), (.ar .sub .i64 (.int 0) (.var 3))] 5
       (.call 133 [(.var 27), (.var 28)] 2
       (.call 134 [(.var 32), (.var 33)] 2
       (.call 133 [(.var 29), (.var 30)] 2
       (.call 134 [(.var 36), (.var 37)] 2
       (.leaf (.vals 0 [(.var 31), (.var 38), (.var 39), (.var 34), (.var 35)])))))))))
       (.leaf (.vals 0 [(.var 18), (.var 19), (.var 20), (.var 21), (.var 22)]))))
      (.alt
       (.chk 28
       (.cond (.not (.var 23))
        (.leaf (.res [(.int 0), (.int 0), (.int 0), (.int 0), (.bool false)]))
        (.leaf (.res [(.var 26), (.var 27), (.var 24), (.var 25), (.bool true)]))))
       .stop))
     .stop))
   .stop))))
theorem ex_impl_Face_clip : exB tab [(132, sg_impl_clipLow), (133, sg_impl_Point_mirrored), (134, sg_impl_Point_turned)] Try.f89 sg_impl_Face_clip pr_impl_Face_clip = true := by kernel_rfl
abbrev n_impl_Face_clip : Nat := 89
theorem mk_impl_Face_clip {g0 g1 g2 : List U → Option (List U)}  (h0 : FnOK Try.prog 132 sg_impl_clipLow g0) (h1 : FnOK Try.prog 133 sg_impl_Point_mirrored g1) (h2 : FnOK Try.prog 134 sg_impl_Point_turned g2) {g : List U → Option (List U)} (hg : ∀ us rs, us.length = 8 → g us = some rs → wpP (fun k us => if 132 = k then g0 us else if 133 = k then g1 us else if 134 = k then g2 us else none) pr_impl_Face_clip 0 us fun l η => ∃ es, l = .res es ∧ es.map (E.den η) = rs) : FnOK Try.prog 89 sg_impl_Face_clip g :=
  fn_ok2 tab_ok (env_cons (f := 132) h0 rfl (env_cons (f := 133) h1 rfl (env_cons (f := 134) h2 rfl env_nil))) mix Try.func89 (by kernel_rfl) ex_impl_Face_clip hg
/-- impl_ClipSegment -/
def sg_impl_ClipSegment : Sig := ⟨[.val true [(.int .i64), (.int .i64), (.int .i64), (.int .i64)], .val true [(.int .i64), (.int .i64)], .val true [(.int .i64), (.int .i64)]], [(true, [(.int .i64), (.int .i64)]), (true, [(.int .i64), (.int .i64)]), (false, [(.int .i64)])]⟩
def pr_impl_ClipSegment : Prog :=
 (.chk 8
 (.call 88 [(.var 0), (.var 1), (.var 2), (.var 3), (.lcons (.rcons (.var 4) (.rcons (.var 5) .rnil)) (.lcons (.rcons (.var 6) (.rcons (.var 7) .rnil)) .lnil))] 1
 (.cond (.cmp .neq (.var 8) (.int 0))
  (.leaf (.res [(.int 0), (.int 0), (.int 0), (.int 0), (.var 8)]))
  (.call 89 [(.var 0), (.var 1), (.var 2), (.var 3), (.var 4), (.var 5), (.var 6), (.var 7)] 5
  (.cond (.not (.var 13))
   (.leaf (.res [(.int 0), (.int 0), (.int 0), (.int 0), (.int 4)]))
   (.leaf (.res [(.var 9), (.var 10), (.var 11), (.var 12), (.int 0)])))))))
theorem ex_impl_ClipSegment : exB tab [(88, sg_impl_faced), (89, sg_impl_Face_clip)] Try.f29 sg_impl_ClipSegment pr_impl_ClipSegment = true := by kernel_rfl
abbrev n_impl_ClipSegment : Nat := 29
theorem mk_impl_ClipSegment {g0 g1 : List U → Option (List U)}  (h0 : FnOK Try.prog 88 sg_impl_faced g0) (h1 : FnOK Try.prog 89 sg_impl_Face_clip g1) {g : List U → Option (List U)} (hg : ∀ us rs, us.length = 8 → g us = some rs → wpP (fun k us => if 88 = k then g0 us else if 89 = k then g1 us else none) pr_impl_ClipSegment 0 us fun l η => ∃ es, l = .res es ∧ es.map (E.den η) = rs) : FnOK Try.prog 29 sg_impl_ClipSegment g :=
  fn_ok2 tab_ok (env_cons (f := 88) h0 rfl (env_cons (f := 89) h1 rfl env_nil)) mix Try.func29 (by kernel_rfl) ex_impl_ClipSegment hg
/-- laws_eqPoint -/
def sg_laws_eqPoint : Sig := ⟨[.val true [(.int .i64), (.int .i64)], .val true [(.int .i64), (.int .i64)]], [(false, [.bool])]⟩
def pr_laws_eqPoint : Prog :=
 (.chk 4
 (.cond (.cmp .neq (.var 0) (.var 2))
  (.leaf (.res [(.bool false)]))
  (.cond (.cmp .neq (.var 1) (.var 3))
   (.leaf (.res [(.bool false)]))
   (.leaf (.res [(.bool true)])))))
theorem ex_laws_eqPoint : exB tab [] Try.f30 sg_laws_eqPoint pr_laws_eqPoint = true := by kernel_rfl
abbrev n_laws_eqPoint : Nat := 30
theorem mk_laws_eqPoint  {g : List U → Option (List U)} (hg : ∀ us rs, us.length = 4 → g us = some rs → wpP (fun _ _ => none) pr_laws_eqPoint 0 us fun l η => ∃ es, l = .res es ∧ es.map (E.den η) = rs) : FnOK Try.prog 30 sg_laws_eqPoint g :=
  fn_ok2 tab_ok env_nil mix Try.func30 (by kernel_rfl) ex_laws_eqPoint hg
/-- laws_FnExactClipSegment -/
def sg_laws_FnExactClipSegment : Sig := ⟨[.val true [(.int .i64), (.int .i64), (.int .i64), (.int .i64)], .val true [(.int .i64), (.int .i64)], .val true [(.int .i64), (.int .i64)]], [(false, [.bool])]⟩
def pr_laws_FnExactClipSegment : Prog :=
 (.chk 8
 (.call 27 [(.var 0), (.var 1), (.var 2), (.var 3)] 4
 (.call 28 [(.var 4), (.var 5)] 2
 (.call 28 [(.var 6), (.var 7)] 2
 (.call 26 [(.var 8), (.var 9), (.var 10), (.var 11), (.var 12), (.var 13), (.var 14), (.var 15)] 5
 (.call 27 [(.var 0), (.var 1), (.var 2), (.var 3)] 4
 (.call 28 [(.var 4), (.var 5)] 2
 (.call 28 [(.var 6), (.var 7)] 2
 (.call 29 [(.var 21), (.var 22), (.var 23), (.var 24), (.var 25), (.var 26), (.var 27), (.var 28)] 5
 (.join
  (.call 30 [(.var 29), (.var 30), (.var 16), (.var 17)] 1
  (.cond (.not (.var 34))
   (.leaf (.vals 0 [(.bool true)]))
   (.call 30 [(.var 31), (.var 32), (.var 18), (.var 19)] 1
   (.cond (.not (.var 35))
    (.leaf (.vals 0 [(.bool true)]))
    (.leaf (.vals 0 [(.cmp .neq (.var 33) (.var 20))]))))))
  (.alt
   (.chk 35
   (.cond (.var 34)
    (.leaf (.res [(.bool false)]))
    (.leaf (.res [(.bool true)]))))
   .stop)))))))))))
theorem ex_laws_FnExactClipSegment : exB tab [(27, sg_laws_toFace), (28, sg_laws_toPoint), (26, sg_spec_ClipSegment), (29, sg_impl_ClipSegment), (30, sg_laws_eqPoint)] Try.f5 sg_laws_FnExactClipSegment pr_laws_FnExactClipSegment = true := by kernel_rfl
abbrev n_laws_FnExactClipSegment : Nat := 5
theorem mk_laws_FnExactClipSegment {g0 g1 g2 g3 g4 : List U → Option (List U)}  (h0 : FnOK Try.prog 27 sg_laws_toFace g0) (h1 : FnOK Try.prog 28 sg_laws_toPoint g1) (h2 : FnOK Try.prog 26 sg_spec_ClipSegment g2) (h3 : FnOK Try.prog 29 sg_impl_ClipSegment g3) (h4 : FnOK Try.prog 30 sg_laws_eqPoint g4) {g : List U → Option (List U)} (hg : ∀ us rs, us.length = 8 → g us = some rs → wpP (fun k us => if 27 = k then g0 us else if 28 = k then g1 us else if 26 = k then g2 us else if 29 = k then g3 us else if 30 = k then g4 us else none) pr_laws_FnExactClipSegment 0 us fun l η => ∃ es, l = .res es ∧ es.map (E.den η) = rs) : FnOK Try.prog 5 sg_laws_FnExactClipSegment g :=
  fn_ok2 tab_ok (env_cons (f := 27) h0 rfl (env_cons (f := 28) h1 rfl (env_cons (f := 26) h2 rfl (env_cons (f := 29) h3 rfl (env_cons (f := 30) h4 rfl env_nil))))) mix Try.func5 (by kernel_rfl) ex_laws_FnExactClipSegment hg
end Go.Proofs.Ytjjnllklhcjomaa.Eng
