/- The functions' programs, printed by a program of ours. No condition. -/
import Derived.Test.YtjjnllklhcjomaaEngW
import Derived.Test.YtjjnllklhcjomaaChecked
import Derived.KernelRfl
namespace Go.Proofs.Ytjjnllklhcjomaa.Eng
open Go Go.Proofs.Ytjjnllklhcjomaa
def tab : Tab := [(2, ⟨1, 8, false, [(.int .i64)], (.int .i64)⟩),
  (3, ⟨1, 8, false, [(.int .i64)], (.int .i64)⟩),
  (4, ⟨1, 1, false, [.bool], .bool⟩),
  (5, ⟨1, 1, false, [(.int .u8)], (.int .u8)⟩),
  (6, ⟨1, 1, false, [(.int .u8)], (.int .u8)⟩),
  (7, ⟨4, 24, true, [(.int .i64), (.int .i64), .bool, (.int .u8)], (.struct [(2, 0), (3, 1), (4, 2), (6, 3)])⟩),
  (8, ⟨4, 24, true, [(.int .i64), (.int .i64), .bool, (.int .u8)], (.struct [(2, 0), (3, 1), (4, 2), (6, 3)])⟩),
  (9, ⟨1, 16, false, [.str], .str⟩),
  (10, ⟨1, 16, false, [.str], .str⟩),
  (11, ⟨1, 16, false, [.str], .str⟩),
  (12, ⟨1, 8, false, [(.int .u64)], (.int .u64)⟩),
  (13, ⟨2, 24, true, [.str, (.int .u64)], (.struct [(9, 0), (12, 1)])⟩),
  (14, ⟨2, 24, true, [.str, (.int .u64)], (.struct [(9, 0), (12, 1)])⟩),
  (21, ⟨1, 4, false, [(.int .i32)], (.int .i32)⟩),
  (22, ⟨1, 24, false, [(.lst 100 [(.int .u8), (.int .i64), (.int .i64)])], (.slice 100)⟩),
  (25, ⟨1, 24, false, [(.lst 98 [(.int .u8), (.int .i64), (.int .i64)])], (.slice 98)⟩),
  (29, ⟨1, 24, false, [(.lst 104 [(.int .i64), (.lst 39 [(.int .i64), (.int .i64)])])], (.slice 104)⟩),
  (32, ⟨1, 24, false, [(.lst 107 [(.int .i64), (.lst 40 [(.int .i64), (.int .i64)])])], (.slice 107)⟩),
  (36, ⟨4, 32, true, [(.int .i64), (.int .i64), (.int .i64), (.int .i64)], (.struct [(2, 0), (2, 1), (2, 2), (2, 3)])⟩),
  (37, ⟨4, 32, true, [(.int .i64), (.int .i64), (.int .i64), (.int .i64)], (.struct [(2, 0), (2, 1), (2, 2), (2, 3)])⟩),
  (38, ⟨2, 16, true, [(.int .i64), (.int .i64)], (.struct [(2, 0), (2, 1)])⟩),
  (39, ⟨2, 16, true, [(.int .i64), (.int .i64)], (.struct [(2, 0), (2, 1)])⟩),
  (40, ⟨2, 16, true, [(.int .i64), (.int .i64)], (.struct [(2, 0), (2, 1)])⟩),
  (43, ⟨4, 32, true, [(.int .i64), (.int .i64), (.int .i64), (.int .i64)], (.struct [(2, 0), (2, 1), (2, 2), (2, 3)])⟩),
  (50, ⟨1, 24, false, [(.lst 2 [(.int .i64)])], (.slice 2)⟩),
  (57, ⟨1, 24, false, [(.lst 5 [(.int .u8)])], (.slice 5)⟩),
  (66, ⟨1, 24, false, [(.lst 39 [(.int .i64), (.int .i64)])], (.slice 39)⟩),
  (68, ⟨1, 24, false, [(.lst 71 [(.lst 40 [(.int .i64), (.int .i64)])])], (.slice 71)⟩),
  (71, ⟨1, 24, false, [(.lst 40 [(.int .i64), (.int .i64)])], (.slice 40)⟩),
  (82, ⟨1, 24, false, [(.lst 132 [(.int .i64), (.int .i64), (.lst 39 [(.int .i64), (.int .i64)])])], (.slice 132)⟩),
  (86, ⟨1, 24, false, [(.lst 135 [(.int .i64), (.int .i64), (.lst 40 [(.int .i64), (.int .i64)])])], (.slice 135)⟩),
  (97, ⟨3, 24, true, [(.int .u8), (.int .i64), (.int .i64)], (.struct [(5, 0), (2, 1), (2, 2)])⟩),
  (98, ⟨3, 24, true, [(.int .u8), (.int .i64), (.int .i64)], (.struct [(5, 0), (2, 1), (2, 2)])⟩),
  (100, ⟨3, 24, true, [(.int .u8), (.int .i64), (.int .i64)], (.struct [(5, 0), (2, 1), (2, 2)])⟩),
  (103, ⟨2, 32, true, [(.int .i64), (.lst 39 [(.int .i64), (.int .i64)])], (.struct [(2, 0), (66, 1)])⟩),
  (104, ⟨2, 32, true, [(.int .i64), (.lst 39 [(.int .i64), (.int .i64)])], (.struct [(2, 0), (66, 1)])⟩),
  (106, ⟨2, 32, true, [(.int .i64), (.lst 40 [(.int .i64), (.int .i64)])], (.struct [(2, 0), (71, 1)])⟩),
  (107, ⟨2, 32, true, [(.int .i64), (.lst 40 [(.int .i64), (.int .i64)])], (.struct [(2, 0), (71, 1)])⟩),
  (131, ⟨3, 40, true, [(.int .i64), (.int .i64), (.lst 39 [(.int .i64), (.int .i64)])], (.struct [(2, 0), (2, 1), (66, 2)])⟩),
  (132, ⟨3, 40, true, [(.int .i64), (.int .i64), (.lst 39 [(.int .i64), (.int .i64)])], (.struct [(2, 0), (2, 1), (66, 2)])⟩),
  (134, ⟨3, 40, true, [(.int .i64), (.int .i64), (.lst 40 [(.int .i64), (.int .i64)])], (.struct [(2, 0), (2, 1), (71, 2)])⟩),
  (135, ⟨3, 40, true, [(.int .i64), (.int .i64), (.lst 40 [(.int .i64), (.int .i64)])], (.struct [(2, 0), (2, 1), (71, 2)])⟩),
  (153, ⟨3, 40, true, [(.lst 5 [(.int .u8)]), (.int .i64), (.int .i64)], (.struct [(57, 0), (3, 1), (2, 2)])⟩),
  (154, ⟨3, 40, true, [(.lst 5 [(.int .u8)]), (.int .i64), (.int .i64)], (.struct [(57, 0), (3, 1), (2, 2)])⟩),
  (169, ⟨1, 4, false, [(.int .u32)], (.int .u32)⟩),
  (170, ⟨1, 1, false, [(.int .u8)], (.int .u8)⟩),
  (171, ⟨1, 1, false, [(.int .u8)], (.int .u8)⟩),
  (174, ⟨1, 4, false, [(.int .i32)], (.int .i32)⟩),
  (175, ⟨1, 4, false, [(.int .i32)], (.int .i32)⟩)]
theorem tabOk' : tabOk Try.prog tab = true := by kernel_rfl
theorem tab_ok : TabOK Try.prog tab := tabOk_sound tabOk'
theorem mix : Try.prog.follows .mixedOrders = true := by kernel_rfl
/-- laws_szCommandS -/
def sg_laws_szCommandS : Sig := ⟨[.val false [(.lst 100 [(.int .u8), (.int .i64), (.int .i64)])], .val false [(.int .i64)]], [(false, [(.int .i64)])]⟩
def pr_laws_szCommandS : Prog :=
 (.chk 2
 (.chk 2
 (.chk 2
 (.chk 2
 (.chk 2
 (.chk 2
 (.cond (.cmp .lss (.ar .sub .i64 (.var 1) (.len (.var 0))) (.int 0))
  (.chk 2
  (.chk 2
  (.leaf (.res [(.int (-1))]))))
  (.chk 2
  (.chk 2
  (.chk 2
  (.leaf (.res [(.ar .sub .i64 (.var 1) (.len (.var 0)))]))))))))))))
theorem ex_laws_szCommandS : progOf tab [] Try.f16 sg_laws_szCommandS = some pr_laws_szCommandS := by kernel_rfl
abbrev n_laws_szCommandS : Nat := 16
theorem mk_laws_szCommandS  {g : List U → Option (List U)} (hg : ∀ us rs, us.length = 2 → g us = some rs → wpP (fun k us => none) pr_laws_szCommandS 0 us fun l η => ∃ es, l = .res es ∧ es.map (E.den η) = rs) : FnOK Try.prog 16 sg_laws_szCommandS g :=
  fn_ok tab_ok env_nil mix Try.func16 (by kernel_rfl) ex_laws_szCommandS hg
/-- laws_toCommand -/
def sg_laws_toCommand : Sig := ⟨[.val true [(.int .u8), (.int .i64), (.int .i64)]], [(true, [(.int .u8), (.int .i64), (.int .i64)])]⟩
def pr_laws_toCommand : Prog :=
 (.chk 3
 (.chk 3
 (.chk 3
 (.chk 3
 (.chk 3
 (.chk 3
 (.chk 3
 (.chk 3
 (.chk 3
 (.chk 3
 (.chk 3
 (.chk 3
 (.leaf (.res [(.var 0), (.var 1), (.var 2)]))))))))))))))
theorem ex_laws_toCommand : progOf tab [] Try.f78 sg_laws_toCommand = some pr_laws_toCommand := by kernel_rfl
abbrev n_laws_toCommand : Nat := 78
theorem mk_laws_toCommand  {g : List U → Option (List U)} (hg : ∀ us rs, us.length = 3 → g us = some rs → wpP (fun k us => none) pr_laws_toCommand 0 us fun l η => ∃ es, l = .res es ∧ es.map (E.den η) = rs) : FnOK Try.prog 78 sg_laws_toCommand g :=
  fn_ok tab_ok env_nil mix Try.func78 (by kernel_rfl) ex_laws_toCommand hg
/-- laws_toCommandS -/
def sg_laws_toCommandS : Sig := ⟨[.val false [(.lst 100 [(.int .u8), (.int .i64), (.int .i64)])]], [(false, [(.lst 98 [(.int .u8), (.int .i64), (.int .i64)])])]⟩
def pr_laws_toCommandS : Prog :=
 (.chk 1
 (.chk 1
 (.guard (.cmp .leq (.int 0) (.len (.var 0))) true
 (.guard (.cmp .leq (.len (.var 0)) (.int 5864062014805)) true
 (.chk 1
 (.chk 1
 (.chk 1
 (.chk 1
 (.loop [(.int 0), (.rep (.len (.var 0)) (.rcons (.int 0) (.rcons (.int 0) (.rcons (.int 0) .rnil))))]
  (.chk 3
  (.chk 3
  (.cond (.cmp .lss (.var 1) (.len (.var 0)))
   (.chk 3
   (.guard (.cmp .leq (.int 0) (.var 1)) true
   (.guard (.cmp .lss (.var 1) (.len (.var 0))) true
   (.call 78 [(.nth (.var 0) (.var 1) 0), (.nth (.var 0) (.var 1) 1), (.nth (.var 0) (.var 1) 2)] 3
   (.guard (.cmp .leq (.int 0) (.var 1)) true
   (.guard (.cmp .lss (.var 1) (.len (.var 2))) true
   (.chk 6
   (.chk 6
   (.chk 6
   (.leaf (.vals 0 [(.ar .add .i64 (.var 1) (.int 1)), (.set (.set (.set (.var 2) (.var 1) 0 (.var 3)) (.var 1) 1 (.var 4)) (.var 1) 2 (.var 5))])))))))))))
   (.leaf (.vals 1 [(.var 1), (.cmp .lss (.var 1) (.len (.var 0))), (.var 2)])))))
  (.alt
   (.chk 4
   (.chk 4
   (.chk 4
   (.leaf (.res [(.var 3)])))))
   .stop))))))))))
theorem ex_laws_toCommandS : progOf tab [(78, sg_laws_toCommand)] Try.f18 sg_laws_toCommandS = some pr_laws_toCommandS := by kernel_rfl
abbrev n_laws_toCommandS : Nat := 18
theorem mk_laws_toCommandS {g0 : List U → Option (List U)} (h0 : FnOK Try.prog 78 sg_laws_toCommand g0) {g : List U → Option (List U)} (hg : ∀ us rs, us.length = 1 → g us = some rs → wpP (fun k us => if 78 = k then g0 us else none) pr_laws_toCommandS 0 us fun l η => ∃ es, l = .res es ∧ es.map (E.den η) = rs) : FnOK Try.prog 18 sg_laws_toCommandS g :=
  fn_ok tab_ok (env_cons h0 env_nil) mix Try.func18 (by kernel_rfl) ex_laws_toCommandS hg
/-- spec_l01In -/
def sg_spec_l01In : Sig := ⟨[.val false [(.int .i64)], .val false [(.int .i64)], .val false [(.int .i64)]], [(false, [.bool])]⟩
def pr_spec_l01In : Prog :=
 (.chk 3
 (.chk 3
 (.join
  (.cond (.cmp .geq (.var 0) (.var 1))
   (.guard (.cmp .geq (.var 0) (.var 1)) true
   (.guard (.cmp .geq (.var 0) (.var 1)) true
   (.guard (.cmp .geq (.var 0) (.var 1)) true
   (.guard (.cmp .geq (.var 0) (.var 1)) true
   (.leaf (.vals 0 [(.cmp .leq (.var 0) (.var 2))]))))))
   (.guard (.cmp .geq (.var 0) (.var 1)) false
   (.guard (.cmp .geq (.var 0) (.var 1)) false
   (.guard (.cmp .geq (.var 0) (.var 1)) false
   (.guard (.cmp .geq (.var 0) (.var 1)) false
   (.leaf (.vals 0 [(.bool false)])))))))
  (.alt
   (.chk 4
   (.leaf (.res [(.var 3)])))
   .stop))))
theorem ex_spec_l01In : progOf tab [] Try.f115 sg_spec_l01In = some pr_spec_l01In := by kernel_rfl
abbrev n_spec_l01In : Nat := 115
theorem mk_spec_l01In  {g : List U → Option (List U)} (hg : ∀ us rs, us.length = 3 → g us = some rs → wpP (fun k us => none) pr_spec_l01In 0 us fun l η => ∃ es, l = .res es ∧ es.map (E.den η) = rs) : FnOK Try.prog 115 sg_spec_l01In g :=
  fn_ok tab_ok env_nil mix Try.func115 (by kernel_rfl) ex_spec_l01In hg
/-- spec_l28Pen -/
def sg_spec_l28Pen : Sig := ⟨[.val false [(.int .i64)]], [(false, [.bool])]⟩
def pr_spec_l28Pen : Prog :=
 (.chk 1
 (.chk 1
 (.call 115 [(.var 0), (.int 1), (.int 8)] 1
 (.chk 2
 (.chk 2
 (.leaf (.res [(.var 1)])))))))
theorem ex_spec_l28Pen : progOf tab [(115, sg_spec_l01In)] Try.f96 sg_spec_l28Pen = some pr_spec_l28Pen := by kernel_rfl
abbrev n_spec_l28Pen : Nat := 96
theorem mk_spec_l28Pen {g0 : List U → Option (List U)} (h0 : FnOK Try.prog 115 sg_spec_l01In g0) {g : List U → Option (List U)} (hg : ∀ us rs, us.length = 1 → g us = some rs → wpP (fun k us => if 115 = k then g0 us else none) pr_spec_l28Pen 0 us fun l η => ∃ es, l = .res es ∧ es.map (E.den η) = rs) : FnOK Try.prog 96 sg_spec_l28Pen g :=
  fn_ok tab_ok (env_cons h0 env_nil) mix Try.func96 (by kernel_rfl) ex_spec_l28Pen hg
/-- spec_l14Point -/
def sg_spec_l14Point : Sig := ⟨[.val false [(.int .i64)], .val false [(.int .i64)]], [(false, [.bool])]⟩
def pr_spec_l14Point : Prog :=
 (.chk 2
 (.chk 2
 (.join
  (.call 115 [(.var 0), (.int (-1000000)), (.int 1000000)] 1
  (.cond (.var 2)
   (.guard (.var 2) true
   (.guard (.var 2) true
   (.call 115 [(.var 1), (.int (-1000000)), (.int 1000000)] 1
   (.guard (.var 2) true
   (.leaf (.vals 0 [(.var 3)]))))))
   (.guard (.var 2) false
   (.guard (.var 2) false
   (.guard (.var 2) false
   (.leaf (.vals 0 [(.bool false)])))))))
  (.alt
   (.chk 3
   (.leaf (.res [(.var 2)])))
   .stop))))
theorem ex_spec_l14Point : progOf tab [(115, sg_spec_l01In)] Try.f104 sg_spec_l14Point = some pr_spec_l14Point := by kernel_rfl
abbrev n_spec_l14Point : Nat := 104
theorem mk_spec_l14Point {g0 : List U → Option (List U)} (h0 : FnOK Try.prog 115 sg_spec_l01In g0) {g : List U → Option (List U)} (hg : ∀ us rs, us.length = 2 → g us = some rs → wpP (fun k us => if 115 = k then g0 us else none) pr_spec_l14Point 0 us fun l η => ∃ es, l = .res es ∧ es.map (E.den η) = rs) : FnOK Try.prog 104 sg_spec_l14Point g :=
  fn_ok tab_ok (env_cons h0 env_nil) mix Try.func104 (by kernel_rfl) ex_spec_l14Point hg
/-- spec_l29Is -/
def sg_spec_l29Is : Sig := ⟨[.val true [(.int .u8), (.int .i64), (.int .i64)]], [(false, [.bool])]⟩
def pr_spec_l29Is : Prog :=
 (.chk 3
 (.chk 3
 (.chk 3
 (.chk 3
 (.chk 3
 (.chk 3
 (.cond (.cmp .eql (.var 0) (.int 80))
  (.join
   (.call 96 [(.var 1)] 1
   (.cond (.var 3)
    (.guard (.var 3) true
    (.guard (.var 3) true
    (.guard (.var 3) true
    (.guard (.var 3) true
    (.leaf (.vals 0 [(.cmp .eql (.var 2) (.int 0))]))))))
    (.guard (.var 3) false
    (.guard (.var 3) false
    (.guard (.var 3) false
    (.guard (.var 3) false
    (.leaf (.vals 0 [(.bool false)]))))))))
   (.alt
    (.chk 4
    (.leaf (.res [(.var 3)])))
    .stop))
  (.join
   (.chk 3
   (.chk 3
   (.cond (.cmp .eql (.var 0) (.int 85))
    (.leaf (.vals 0 [(.cmp .eql (.var 0) (.int 85))]))
    (.chk 3
    (.leaf (.vals 0 [(.cmp .eql (.var 0) (.int 68))]))))))
   (.alt
    (.cond (.var 3)
     (.call 104 [(.var 1), (.var 2)] 1
     (.chk 5
     (.chk 5
     (.leaf (.res [(.var 4)])))))
     (.chk 4
     (.chk 4
     (.chk 4
     (.leaf (.res [(.bool false)]))))))
    .stop)))))))))
theorem ex_spec_l29Is : progOf tab [(96, sg_spec_l28Pen), (104, sg_spec_l14Point)] Try.f126 sg_spec_l29Is = some pr_spec_l29Is := by kernel_rfl
abbrev n_spec_l29Is : Nat := 126
theorem mk_spec_l29Is {g0 g1 : List U → Option (List U)} (h0 : FnOK Try.prog 96 sg_spec_l28Pen g0) (h1 : FnOK Try.prog 104 sg_spec_l14Point g1) {g : List U → Option (List U)} (hg : ∀ us rs, us.length = 3 → g us = some rs → wpP (fun k us => if 96 = k then g0 us else if 104 = k then g1 us else none) pr_spec_l29Is 0 us fun l η => ∃ es, l = .res es ∧ es.map (E.den η) = rs) : FnOK Try.prog 126 sg_spec_l29Is g :=
  fn_ok tab_ok (env_cons h0 (env_cons h1 env_nil)) mix Try.func126 (by kernel_rfl) ex_spec_l29Is hg
/-- spec_l29Code -/
def sg_spec_l29Code : Sig := ⟨[.val false [(.lst 98 [(.int .u8), (.int .i64), (.int .i64)])]], [(false, [(.int .i64)])]⟩
def pr_spec_l29Code : Prog :=
 (.chk 1
 (.chk 1
 (.chk 1
 (.chk 1
 (.loop [(.int 0)]
  (.chk 2
  (.chk 2
  (.cond (.cmp .lss (.var 1) (.len (.var 0)))
   (.chk 2
   (.guard (.cmp .leq (.int 0) (.var 1)) true
   (.guard (.cmp .lss (.var 1) (.len (.var 0))) true
   (.call 126 [(.nth (.var 0) (.var 1) 0), (.nth (.var 0) (.var 1) 1), (.nth (.var 0) (.var 1) 2)] 1
   (.chk 3
   (.chk 3
   (.cond (.not (.var 2))
    (.chk 3
    (.chk 3
    (.leaf (.vals 1 [(.var 1), (.cmp .lss (.var 1) (.len (.var 0))), (.not (.var 2))]))))
    (.chk 3
    (.chk 3
    (.leaf (.vals 0 [(.ar .add .i64 (.var 1) (.int 1))])))))))))))
   (.leaf (.vals 2 [(.var 1), (.cmp .lss (.var 1) (.len (.var 0)))])))))
  (.alt
   (.leaf (.res [(.int 1)]))
   (.alt
    (.chk 3
    (.chk 3
    (.chk 3
    (.cond (.cmp .gtr (.len (.var 0)) (.int 400))
     (.chk 3
     (.chk 3
     (.leaf (.res [(.int 3)]))))
     (.chk 3
     (.chk 3
     (.chk 3
     (.leaf (.res [(.int 0)])))))))))
    .stop)))))))
theorem ex_spec_l29Code : progOf tab [(126, sg_spec_l29Is)] Try.f77 sg_spec_l29Code = some pr_spec_l29Code := by kernel_rfl
abbrev n_spec_l29Code : Nat := 77
theorem mk_spec_l29Code {g0 : List U → Option (List U)} (h0 : FnOK Try.prog 126 sg_spec_l29Is g0) {g : List U → Option (List U)} (hg : ∀ us rs, us.length = 1 → g us = some rs → wpP (fun k us => if 126 = k then g0 us else none) pr_spec_l29Code 0 us fun l η => ∃ es, l = .res es ∧ es.map (E.den η) = rs) : FnOK Try.prog 77 sg_spec_l29Code g :=
  fn_ok tab_ok (env_cons h0 env_nil) mix Try.func77 (by kernel_rfl) ex_spec_l29Code hg
/-- spec_IsProgram -/
def sg_spec_IsProgram : Sig := ⟨[.val false [(.lst 98 [(.int .u8), (.int .i64), (.int .i64)])]], [(false, [.bool])]⟩
def pr_spec_IsProgram : Prog :=
 (.chk 1
 (.chk 1
 (.call 77 [(.var 0)] 1
 (.chk 2
 (.chk 2
 (.leaf (.res [(.cmp .eql (.var 1) (.int 0))])))))))
theorem ex_spec_IsProgram : progOf tab [(77, sg_spec_l29Code)] Try.f17 sg_spec_IsProgram = some pr_spec_IsProgram := by kernel_rfl
abbrev n_spec_IsProgram : Nat := 17
theorem mk_spec_IsProgram {g0 : List U → Option (List U)} (h0 : FnOK Try.prog 77 sg_spec_l29Code g0) {g : List U → Option (List U)} (hg : ∀ us rs, us.length = 1 → g us = some rs → wpP (fun k us => if 77 = k then g0 us else none) pr_spec_IsProgram 0 us fun l η => ∃ es, l = .res es ∧ es.map (E.den η) = rs) : FnOK Try.prog 17 sg_spec_IsProgram g :=
  fn_ok tab_ok (env_cons h0 env_nil) mix Try.func17 (by kernel_rfl) ex_spec_IsProgram hg
/-- impl_in -/
def sg_impl_in : Sig := ⟨[.val false [(.int .i64)], .val false [(.int .i64)], .val false [(.int .i64)]], [(false, [.bool])]⟩
def pr_impl_in : Prog :=
 (.chk 3
 (.chk 3
 (.join
  (.cond (.cmp .geq (.var 0) (.var 1))
   (.guard (.cmp .geq (.var 0) (.var 1)) true
   (.guard (.cmp .geq (.var 0) (.var 1)) true
   (.guard (.cmp .geq (.var 0) (.var 1)) true
   (.guard (.cmp .geq (.var 0) (.var 1)) true
   (.leaf (.vals 0 [(.cmp .leq (.var 0) (.var 2))]))))))
   (.guard (.cmp .geq (.var 0) (.var 1)) false
   (.guard (.cmp .geq (.var 0) (.var 1)) false
   (.guard (.cmp .geq (.var 0) (.var 1)) false
   (.guard (.cmp .geq (.var 0) (.var 1)) false
   (.leaf (.vals 0 [(.bool false)])))))))
  (.alt
   (.chk 4
   (.leaf (.res [(.var 3)])))
   .stop))))
theorem ex_impl_in : progOf tab [] Try.f120 sg_impl_in = some pr_impl_in := by kernel_rfl
abbrev n_impl_in : Nat := 120
theorem mk_impl_in  {g : List U → Option (List U)} (hg : ∀ us rs, us.length = 3 → g us = some rs → wpP (fun k us => none) pr_impl_in 0 us fun l η => ∃ es, l = .res es ∧ es.map (E.den η) = rs) : FnOK Try.prog 120 sg_impl_in g :=
  fn_ok tab_ok env_nil mix Try.func120 (by kernel_rfl) ex_impl_in hg
/-- impl_isPen -/
def sg_impl_isPen : Sig := ⟨[.val false [(.int .i64)]], [(false, [.bool])]⟩
def pr_impl_isPen : Prog :=
 (.chk 1
 (.chk 1
 (.call 120 [(.var 0), (.int 1), (.int 8)] 1
 (.chk 2
 (.chk 2
 (.leaf (.res [(.var 1)])))))))
theorem ex_impl_isPen : progOf tab [(120, sg_impl_in)] Try.f97 sg_impl_isPen = some pr_impl_isPen := by kernel_rfl
abbrev n_impl_isPen : Nat := 97
theorem mk_impl_isPen {g0 : List U → Option (List U)} (h0 : FnOK Try.prog 120 sg_impl_in g0) {g : List U → Option (List U)} (hg : ∀ us rs, us.length = 1 → g us = some rs → wpP (fun k us => if 120 = k then g0 us else none) pr_impl_isPen 0 us fun l η => ∃ es, l = .res es ∧ es.map (E.den η) = rs) : FnOK Try.prog 97 sg_impl_isPen g :=
  fn_ok tab_ok (env_cons h0 env_nil) mix Try.func97 (by kernel_rfl) ex_impl_isPen hg
/-- impl_isSpot -/
def sg_impl_isSpot : Sig := ⟨[.val false [(.int .i64)]], [(false, [.bool])]⟩
def pr_impl_isSpot : Prog :=
 (.chk 1
 (.chk 1
 (.call 120 [(.var 0), (.int (-1000000)), (.int 1000000)] 1
 (.chk 2
 (.chk 2
 (.leaf (.res [(.var 1)])))))))
theorem ex_impl_isSpot : progOf tab [(120, sg_impl_in)] Try.f106 sg_impl_isSpot = some pr_impl_isSpot := by kernel_rfl
abbrev n_impl_isSpot : Nat := 106
theorem mk_impl_isSpot {g0 : List U → Option (List U)} (h0 : FnOK Try.prog 120 sg_impl_in g0) {g : List U → Option (List U)} (hg : ∀ us rs, us.length = 1 → g us = some rs → wpP (fun k us => if 120 = k then g0 us else none) pr_impl_isSpot 0 us fun l η => ∃ es, l = .res es ∧ es.map (E.den η) = rs) : FnOK Try.prog 106 sg_impl_isSpot g :=
  fn_ok tab_ok (env_cons h0 env_nil) mix Try.func106 (by kernel_rfl) ex_impl_isSpot hg
/-- impl_isCommand -/
def sg_impl_isCommand : Sig := ⟨[.val true [(.int .u8), (.int .i64), (.int .i64)]], [(false, [.bool])]⟩
def pr_impl_isCommand : Prog :=
 (.chk 3
 (.chk 3
 (.chk 3
 (.chk 3
 (.chk 3
 (.chk 3
 (.cond (.cmp .eql (.var 0) (.int 80))
  (.join
   (.call 97 [(.var 1)] 1
   (.cond (.var 3)
    (.guard (.var 3) true
    (.guard (.var 3) true
    (.guard (.var 3) true
    (.guard (.var 3) true
    (.leaf (.vals 0 [(.cmp .eql (.var 2) (.int 0))]))))))
    (.guard (.var 3) false
    (.guard (.var 3) false
    (.guard (.var 3) false
    (.guard (.var 3) false
    (.leaf (.vals 0 [(.bool false)]))))))))
   (.alt
    (.chk 4
    (.leaf (.res [(.var 3)])))
    .stop))
  (.join
   (.chk 3
   (.chk 3
   (.cond (.cmp .eql (.var 0) (.int 85))
    (.leaf (.vals 0 [(.cmp .eql (.var 0) (.int 85))]))
    (.chk 3
    (.leaf (.vals 0 [(.cmp .eql (.var 0) (.int 68))]))))))
   (.alt
    (.cond (.var 3)
     (.join
      (.call 106 [(.var 1)] 1
      (.cond (.var 4)
       (.guard (.var 4) true
       (.guard (.var 4) true
       (.guard (.var 4) true
       (.call 106 [(.var 2)] 1
       (.guard (.var 4) true
       (.leaf (.vals 0 [(.var 5)])))))))
       (.guard (.var 4) false
       (.guard (.var 4) false
       (.guard (.var 4) false
       (.guard (.var 4) false
       (.leaf (.vals 0 [(.bool false)]))))))))
      (.alt
       (.chk 5
       (.leaf (.res [(.var 4)])))
       .stop))
     (.chk 4
     (.chk 4
     (.chk 4
     (.leaf (.res [(.bool false)]))))))
    .stop)))))))))
theorem ex_impl_isCommand : progOf tab [(97, sg_impl_isPen), (106, sg_impl_isSpot)] Try.f147 sg_impl_isCommand = some pr_impl_isCommand := by kernel_rfl
abbrev n_impl_isCommand : Nat := 147
theorem mk_impl_isCommand {g0 g1 : List U → Option (List U)} (h0 : FnOK Try.prog 97 sg_impl_isPen g0) (h1 : FnOK Try.prog 106 sg_impl_isSpot g1) {g : List U → Option (List U)} (hg : ∀ us rs, us.length = 3 → g us = some rs → wpP (fun k us => if 97 = k then g0 us else if 106 = k then g1 us else none) pr_impl_isCommand 0 us fun l η => ∃ es, l = .res es ∧ es.map (E.den η) = rs) : FnOK Try.prog 147 sg_impl_isCommand g :=
  fn_ok tab_ok (env_cons h0 (env_cons h1 env_nil)) mix Try.func147 (by kernel_rfl) ex_impl_isCommand hg
/-- impl_areCommands -/
def sg_impl_areCommands : Sig := ⟨[.val false [(.lst 98 [(.int .u8), (.int .i64), (.int .i64)])]], [(false, [.bool])]⟩
def pr_impl_areCommands : Prog :=
 (.chk 1
 (.chk 1
 (.chk 1
 (.chk 1
 (.loop [(.int 0)]
  (.chk 2
  (.chk 2
  (.cond (.cmp .lss (.var 1) (.len (.var 0)))
   (.chk 2
   (.guard (.cmp .leq (.int 0) (.var 1)) true
   (.guard (.cmp .lss (.var 1) (.len (.var 0))) true
   (.chk 2
   (.chk 2
   (.call 147 [(.nth (.var 0) (.var 1) 0), (.nth (.var 0) (.var 1) 1), (.nth (.var 0) (.var 1) 2)] 1
   (.chk 3
   (.chk 3
   (.cond (.not (.var 2))
    (.chk 3
    (.chk 3
    (.leaf (.vals 1 [(.var 1), (.cmp .lss (.var 1) (.len (.var 0))), (.not (.var 2)), (.nth (.var 0) (.var 1) 0), (.nth (.var 0) (.var 1) 1), (.nth (.var 0) (.var 1) 2)]))))
    (.chk 3
    (.chk 3
    (.leaf (.vals 0 [(.ar .add .i64 (.var 1) (.int 1))])))))))))))))
   (.leaf (.vals 2 [(.var 1), (.cmp .lss (.var 1) (.len (.var 0)))])))))
  (.alt
   (.leaf (.res [(.bool false)]))
   (.alt
    (.chk 3
    (.chk 3
    (.chk 3
    (.leaf (.res [(.bool true)])))))
    .stop)))))))
theorem ex_impl_areCommands : progOf tab [(147, sg_impl_isCommand)] Try.f127 sg_impl_areCommands = some pr_impl_areCommands := by kernel_rfl
abbrev n_impl_areCommands : Nat := 127
theorem mk_impl_areCommands {g0 : List U → Option (List U)} (h0 : FnOK Try.prog 147 sg_impl_isCommand g0) {g : List U → Option (List U)} (hg : ∀ us rs, us.length = 1 → g us = some rs → wpP (fun k us => if 147 = k then g0 us else none) pr_impl_areCommands 0 us fun l η => ∃ es, l = .res es ∧ es.map (E.den η) = rs) : FnOK Try.prog 127 sg_impl_areCommands g :=
  fn_ok tab_ok (env_cons h0 env_nil) mix Try.func127 (by kernel_rfl) ex_impl_areCommands hg
/-- impl_program -/
def sg_impl_program : Sig := ⟨[.val false [(.lst 98 [(.int .u8), (.int .i64), (.int .i64)])]], [(false, [(.int .i64)])]⟩
def pr_impl_program : Prog :=
 (.chk 1
 (.chk 1
 (.call 127 [(.var 0)] 1
 (.chk 2
 (.chk 2
 (.cond (.not (.var 1))
  (.chk 2
  (.chk 2
  (.leaf (.res [(.int 1)]))))
  (.chk 2
  (.chk 2
  (.cond (.cmp .gtr (.len (.var 0)) (.int 400))
   (.chk 2
   (.chk 2
   (.leaf (.res [(.int 3)]))))
   (.chk 2
   (.chk 2
   (.chk 2
   (.leaf (.res [(.int 0)]))))))))))))))
theorem ex_impl_program : progOf tab [(127, sg_impl_areCommands)] Try.f79 sg_impl_program = some pr_impl_program := by kernel_rfl
abbrev n_impl_program : Nat := 79
theorem mk_impl_program {g0 : List U → Option (List U)} (h0 : FnOK Try.prog 127 sg_impl_areCommands g0) {g : List U → Option (List U)} (hg : ∀ us rs, us.length = 1 → g us = some rs → wpP (fun k us => if 127 = k then g0 us else none) pr_impl_program 0 us fun l η => ∃ es, l = .res es ∧ es.map (E.den η) = rs) : FnOK Try.prog 79 sg_impl_program g :=
  fn_ok tab_ok (env_cons h0 env_nil) mix Try.func79 (by kernel_rfl) ex_impl_program hg
/-- impl_IsProgram -/
def sg_impl_IsProgram : Sig := ⟨[.val false [(.lst 98 [(.int .u8), (.int .i64), (.int .i64)])]], [(false, [.bool])]⟩
def pr_impl_IsProgram : Prog :=
 (.chk 1
 (.chk 1
 (.call 79 [(.var 0)] 1
 (.chk 2
 (.chk 2
 (.leaf (.res [(.cmp .eql (.var 1) (.int 0))])))))))
theorem ex_impl_IsProgram : progOf tab [(79, sg_impl_program)] Try.f19 sg_impl_IsProgram = some pr_impl_IsProgram := by kernel_rfl
abbrev n_impl_IsProgram : Nat := 19
theorem mk_impl_IsProgram {g0 : List U → Option (List U)} (h0 : FnOK Try.prog 79 sg_impl_program g0) {g : List U → Option (List U)} (hg : ∀ us rs, us.length = 1 → g us = some rs → wpP (fun k us => if 79 = k then g0 us else none) pr_impl_IsProgram 0 us fun l η => ∃ es, l = .res es ∧ es.map (E.den η) = rs) : FnOK Try.prog 19 sg_impl_IsProgram g :=
  fn_ok tab_ok (env_cons h0 env_nil) mix Try.func19 (by kernel_rfl) ex_impl_IsProgram hg
/-- laws_eqCommand -/
def sg_laws_eqCommand : Sig := ⟨[.val true [(.int .u8), (.int .i64), (.int .i64)], .val true [(.int .u8), (.int .i64), (.int .i64)]], [(false, [.bool])]⟩
def pr_laws_eqCommand : Prog :=
 (.chk 6
 (.chk 6
 (.chk 6
 (.chk 6
 (.cond (.cmp .neq (.var 0) (.var 3))
  (.chk 6
  (.chk 6
  (.leaf (.res [(.bool false)]))))
  (.chk 6
  (.chk 6
  (.chk 6
  (.cond (.cmp .neq (.var 1) (.var 4))
   (.chk 6
   (.chk 6
   (.leaf (.res [(.bool false)]))))
   (.chk 6
   (.chk 6
   (.chk 6
   (.cond (.cmp .neq (.var 2) (.var 5))
    (.chk 6
    (.chk 6
    (.leaf (.res [(.bool false)]))))
    (.chk 6
    (.chk 6
    (.chk 6
    (.leaf (.res [(.bool true)]))))))))))))))))))
theorem ex_laws_eqCommand : progOf tab [] Try.f80 sg_laws_eqCommand = some pr_laws_eqCommand := by kernel_rfl
abbrev n_laws_eqCommand : Nat := 80
theorem mk_laws_eqCommand  {g : List U → Option (List U)} (hg : ∀ us rs, us.length = 6 → g us = some rs → wpP (fun k us => none) pr_laws_eqCommand 0 us fun l η => ∃ es, l = .res es ∧ es.map (E.den η) = rs) : FnOK Try.prog 80 sg_laws_eqCommand g :=
  fn_ok tab_ok env_nil mix Try.func80 (by kernel_rfl) ex_laws_eqCommand hg
/-- laws_eqCommandS -/
def sg_laws_eqCommandS : Sig := ⟨[.val false [(.lst 98 [(.int .u8), (.int .i64), (.int .i64)])], .val false [(.lst 98 [(.int .u8), (.int .i64), (.int .i64)])]], [(false, [.bool])]⟩
def pr_laws_eqCommandS : Prog :=
 (.chk 2
 (.chk 2
 (.chk 2
 (.chk 2
 (.cond (.cmp .neq (.len (.var 0)) (.len (.var 1)))
  (.chk 2
  (.chk 2
  (.leaf (.res [(.bool false)]))))
  (.chk 2
  (.chk 2
  (.chk 2
  (.loop [(.int 0)]
   (.chk 3
   (.chk 3
   (.cond (.cmp .lss (.var 2) (.len (.var 0)))
    (.chk 3
    (.guard (.cmp .leq (.int 0) (.var 2)) true
    (.guard (.cmp .lss (.var 2) (.len (.var 0))) true
    (.guard (.cmp .leq (.int 0) (.var 2)) true
    (.guard (.cmp .lss (.var 2) (.len (.var 1))) true
    (.call 80 [(.nth (.var 0) (.var 2) 0), (.nth (.var 0) (.var 2) 1), (.nth (.var 0) (.var 2) 2), (.nth (.var 1) (.var 2) 0), (.nth (.var 1) (.var 2) 1), (.nth (.var 1) (.var 2) 2)] 1
    (.chk 4
    (.chk 4
    (.cond (.not (.var 3))
     (.chk 4
     (.chk 4
     (.leaf (.vals 1 [(.var 2), (.cmp .lss (.var 2) (.len (.var 0))), (.not (.var 3))]))))
     (.chk 4
     (.chk 4
     (.leaf (.vals 0 [(.ar .add .i64 (.var 2) (.int 1))])))))))))))))
    (.leaf (.vals 2 [(.var 2), (.cmp .lss (.var 2) (.len (.var 0)))])))))
   (.alt
    (.leaf (.res [(.bool false)]))
    (.alt
     (.chk 4
     (.chk 4
     (.chk 4
     (.leaf (.res [(.bool true)])))))
     .stop)))))))))))
theorem ex_laws_eqCommandS : progOf tab [(80, sg_laws_eqCommand)] Try.f20 sg_laws_eqCommandS = some pr_laws_eqCommandS := by kernel_rfl
abbrev n_laws_eqCommandS : Nat := 20
theorem mk_laws_eqCommandS {g0 : List U → Option (List U)} (h0 : FnOK Try.prog 80 sg_laws_eqCommand g0) {g : List U → Option (List U)} (hg : ∀ us rs, us.length = 2 → g us = some rs → wpP (fun k us => if 80 = k then g0 us else none) pr_laws_eqCommandS 0 us fun l η => ∃ es, l = .res es ∧ es.map (E.den η) = rs) : FnOK Try.prog 20 sg_laws_eqCommandS g :=
  fn_ok tab_ok (env_cons h0 env_nil) mix Try.func20 (by kernel_rfl) ex_laws_eqCommandS hg
/-- laws_FnExactIsProgram -/
def sg_laws_FnExactIsProgram : Sig := ⟨[.val false [(.lst 100 [(.int .u8), (.int .i64), (.int .i64)])]], [(false, [.bool])]⟩
def pr_laws_FnExactIsProgram : Prog :=
 (.chk 1
 (.chk 1
 (.chk 1
 (.chk 1
 (.call 16 [(.var 0), (.int 1048576)] 1
 (.chk 2
 (.chk 2
 (.chk 2
 (.chk 2
 (.cond (.cmp .lss (.var 1) (.int 0))
  (.chk 2
  (.chk 2
  (.leaf (.res [(.bool true)]))))
  (.chk 2
  (.call 18 [(.var 0)] 1
  (.call 17 [(.var 2)] 1
  (.chk 4
  (.chk 4
  (.call 18 [(.var 0)] 1
  (.chk 5
  (.chk 5
  (.call 19 [(.var 4)] 1
  (.chk 6
  (.chk 6
  (.chk 6
  (.chk 6
  (.cond (.not (.beq (.var 5) (.var 3)))
   (.chk 6
   (.chk 6
   (.leaf (.res [(.bool false)]))))
   (.chk 6
   (.call 18 [(.var 0)] 1
   (.call 20 [(.var 4), (.var 6)] 1
   (.chk 8
   (.chk 8
   (.cond (.not (.var 7))
    (.chk 8
    (.chk 8
    (.leaf (.res [(.bool false)]))))
    (.chk 8
    (.chk 8
    (.chk 8
    (.leaf (.res [(.bool true)])))))))))))))))))))))))))))))))))))
theorem ex_laws_FnExactIsProgram : progOf tab [(16, sg_laws_szCommandS), (18, sg_laws_toCommandS), (17, sg_spec_IsProgram), (19, sg_impl_IsProgram), (20, sg_laws_eqCommandS)] Try.f3 sg_laws_FnExactIsProgram = some pr_laws_FnExactIsProgram := by kernel_rfl
abbrev n_laws_FnExactIsProgram : Nat := 3
theorem mk_laws_FnExactIsProgram {g0 g1 g2 g3 g4 : List U → Option (List U)} (h0 : FnOK Try.prog 16 sg_laws_szCommandS g0) (h1 : FnOK Try.prog 18 sg_laws_toCommandS g1) (h2 : FnOK Try.prog 17 sg_spec_IsProgram g2) (h3 : FnOK Try.prog 19 sg_impl_IsProgram g3) (h4 : FnOK Try.prog 20 sg_laws_eqCommandS g4) {g : List U → Option (List U)} (hg : ∀ us rs, us.length = 1 → g us = some rs → wpP (fun k us => if 16 = k then g0 us else if 18 = k then g1 us else if 17 = k then g2 us else if 19 = k then g3 us else if 20 = k then g4 us else none) pr_laws_FnExactIsProgram 0 us fun l η => ∃ es, l = .res es ∧ es.map (E.den η) = rs) : FnOK Try.prog 3 sg_laws_FnExactIsProgram g :=
  fn_ok tab_ok (env_cons h0 (env_cons h1 (env_cons h2 (env_cons h3 (env_cons h4 env_nil))))) mix Try.func3 (by kernel_rfl) ex_laws_FnExactIsProgram hg
end Go.Proofs.Ytjjnllklhcjomaa.Eng
