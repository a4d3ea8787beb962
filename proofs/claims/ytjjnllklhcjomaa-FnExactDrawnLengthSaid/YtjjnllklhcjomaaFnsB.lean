/- The functions' programs, printed by a program of ours. No condition. -/
import Derived.Test.YtjjnllklhcjomaaEngW
import Derived.Test.YtjjnllklhcjomaaChecked
import Derived.KernelRfl
namespace Go.Proofs.Ytjjnllklhcjomaa.Eng
open Go Go.Proofs.Ytjjnllklhcjomaa
def tab : Tab := [(2, ⟨1, 8, false, [(.int .i64)], (.int .i64)⟩),
  (3, ⟨1, 8, false, [(.int .i64)], (.int .i64)⟩),
  (4, ⟨1, 1, false, [.bool], .bool⟩),
  (5, ⟨1, 1, false, [(.int .u8)], (.int .u8)⟩),
  (6, ⟨1, 1, false, [(.int .u8)], (.int .u8)⟩),
  (7, ⟨4, 24, true, [(.int .i64), (.int .i64), .bool, (.int .u8)], (.struct [(2, 0), (3, 1), (4, 2), (6, 3)])⟩),
  (8, ⟨4, 24, true, [(.int .i64), (.int .i64), .bool, (.int .u8)], (.struct [(2, 0), (3, 1), (4, 2), (6, 3)])⟩),
  (9, ⟨1, 16, false, [.str], .str⟩),
  (10, ⟨1, 16, false, [.str], .str⟩),
  (11, ⟨1, 16, false, [.str], .str⟩),
  (12, ⟨1, 8, false, [(.int .u64)], (.int .u64)⟩),
  (13, ⟨2, 24, true, [.str, (.int .u64)], (.struct [(9, 0), (12, 1)])⟩),
  (14, ⟨2, 24, true, [.str, (.int .u64)], (.struct [(9, 0), (12, 1)])⟩),
  (21, ⟨1, 4, false, [(.int .i32)], (.int .i32)⟩),
  (22, ⟨1, 24, false, [(.lst 100 [(.int .u8), (.int .i64), (.int .i64)])], (.slice 100)⟩),
  (25, ⟨1, 24, false, [(.lst 98 [(.int .u8), (.int .i64), (.int .i64)])], (.slice 98)⟩),
  (29, ⟨1, 24, false, [(.lst 104 [(.int .i64), (.lst 39 [(.int .i64), (.int .i64)])])], (.slice 104)⟩),
  (32, ⟨1, 24, false, [(.lst 107 [(.int .i64), (.lst 40 [(.int .i64), (.int .i64)])])], (.slice 107)⟩),
  (36, ⟨4, 32, true, [(.int .i64), (.int .i64), (.int .i64), (.int .i64)], (.struct [(2, 0), (2, 1), (2, 2), (2, 3)])⟩),
  (37, ⟨4, 32, true, [(.int .i64), (.int .i64), (.int .i64), (.int .i64)], (.struct [(2, 0), (2, 1), (2, 2), (2, 3)])⟩),
  (38, ⟨2, 16, true, [(.int .i64), (.int .i64)], (.struct [(2, 0), (2, 1)])⟩),
  (39, ⟨2, 16, true, [(.int .i64), (.int .i64)], (.struct [(2, 0), (2, 1)])⟩),
  (40, ⟨2, 16, true, [(.int .i64), (.int .i64)], (.struct [(2, 0), (2, 1)])⟩),
  (43, ⟨4, 32, true, [(.int .i64), (.int .i64), (.int .i64), (.int .i64)], (.struct [(2, 0), (2, 1), (2, 2), (2, 3)])⟩),
  (50, ⟨1, 24, false, [(.lst 2 [(.int .i64)])], (.slice 2)⟩),
  (57, ⟨1, 24, false, [(.lst 5 [(.int .u8)])], (.slice 5)⟩),
  (66, ⟨1, 24, false, [(.lst 39 [(.int .i64), (.int .i64)])], (.slice 39)⟩),
  (68, ⟨1, 24, false, [(.lst 71 [(.lst 40 [(.int .i64), (.int .i64)])])], (.slice 71)⟩),
  (71, ⟨1, 24, false, [(.lst 40 [(.int .i64), (.int .i64)])], (.slice 40)⟩),
  (82, ⟨1, 24, false, [(.lst 132 [(.int .i64), (.int .i64), (.lst 39 [(.int .i64), (.int .i64)])])], (.slice 132)⟩),
  (86, ⟨1, 24, false, [(.lst 135 [(.int .i64), (.int .i64), (.lst 40 [(.int .i64), (.int .i64)])])], (.slice 135)⟩),
  (97, ⟨3, 24, true, [(.int .u8), (.int .i64), (.int .i64)], (.struct [(5, 0), (2, 1), (2, 2)])⟩),
  (98, ⟨3, 24, true, [(.int .u8), (.int .i64), (.int .i64)], (.struct [(5, 0), (2, 1), (2, 2)])⟩),
  (100, ⟨3, 24, true, [(.int .u8), (.int .i64), (.int .i64)], (.struct [(5, 0), (2, 1), (2, 2)])⟩),
  (103, ⟨2, 32, true, [(.int .i64), (.lst 39 [(.int .i64), (.int .i64)])], (.struct [(2, 0), (66, 1)])⟩),
  (104, ⟨2, 32, true, [(.int .i64), (.lst 39 [(.int .i64), (.int .i64)])], (.struct [(2, 0), (66, 1)])⟩),
  (106, ⟨2, 32, true, [(.int .i64), (.lst 40 [(.int .i64), (.int .i64)])], (.struct [(2, 0), (71, 1)])⟩),
  (107, ⟨2, 32, true, [(.int .i64), (.lst 40 [(.int .i64), (.int .i64)])], (.struct [(2, 0), (71, 1)])⟩),
  (131, ⟨3, 40, true, [(.int .i64), (.int .i64), (.lst 39 [(.int .i64), (.int .i64)])], (.struct [(2, 0), (2, 1), (66, 2)])⟩),
  (132, ⟨3, 40, true, [(.int .i64), (.int .i64), (.lst 39 [(.int .i64), (.int .i64)])], (.struct [(2, 0), (2, 1), (66, 2)])⟩),
  (134, ⟨3, 40, true, [(.int .i64), (.int .i64), (.lst 40 [(.int .i64), (.int .i64)])], (.struct [(2, 0), (2, 1), (71, 2)])⟩),
  (135, ⟨3, 40, true, [(.int .i64), (.int .i64), (.lst 40 [(.int .i64), (.int .i64)])], (.struct [(2, 0), (2, 1), (71, 2)])⟩),
  (153, ⟨3, 40, true, [(.lst 5 [(.int .u8)]), (.int .i64), (.int .i64)], (.struct [(57, 0), (3, 1), (2, 2)])⟩),
  (154, ⟨3, 40, true, [(.lst 5 [(.int .u8)]), (.int .i64), (.int .i64)], (.struct [(57, 0), (3, 1), (2, 2)])⟩),
  (169, ⟨1, 4, false, [(.int .u32)], (.int .u32)⟩),
  (170, ⟨1, 1, false, [(.int .u8)], (.int .u8)⟩),
  (171, ⟨1, 1, false, [(.int .u8)], (.int .u8)⟩),
  (174, ⟨1, 4, false, [(.int .i32)], (.int .i32)⟩),
  (175, ⟨1, 4, false, [(.int .i32)], (.int .i32)⟩)]
theorem tabOk' : tabOk Try.prog tab = true := by kernel_rfl
theorem tab_ok : TabOK Try.prog tab := tabOk_sound tabOk'
theorem mix : Try.prog.follows .mixedOrders = true := by kernel_rfl
/-- laws_szPointS -/
def sg_laws_szPointS : Sig := ⟨[.val false [(.lst 39 [(.int .i64), (.int .i64)])], .val false [(.int .i64)]], [(false, [(.int .i64)])]⟩
def pr_laws_szPointS : Prog :=
 (.chk 2
 (.chk 2
 (.chk 2
 (.chk 2
 (.chk 2
 (.chk 2
 (.cond (.cmp .lss (.ar .sub .i64 (.var 1) (.len (.var 0))) (.int 0))
  (.chk 2
  (.chk 2
  (.leaf (.res [(.int (-1))]))))
  (.chk 2
  (.chk 2
  (.chk 2
  (.leaf (.res [(.ar .sub .i64 (.var 1) (.len (.var 0)))]))))))))))))
theorem ex_laws_szPointS : progOf tab [] Try.f50 sg_laws_szPointS = some pr_laws_szPointS := by kernel_rfl
abbrev n_laws_szPointS : Nat := 50
theorem mk_laws_szPointS  {g : List U → Option (List U)} (hg : ∀ us rs, us.length = 2 → g us = some rs → wpP (fun _ _ => none) pr_laws_szPointS 0 us fun l η => ∃ es, l = .res es ∧ es.map (E.den η) = rs) : FnOK Try.prog 50 sg_laws_szPointS g :=
  fn_ok tab_ok env_nil mix Try.func50 (by kernel_rfl) ex_laws_szPointS hg
/-- laws_szStroke -/
def sg_laws_szStroke : Sig := ⟨[.val true [(.int .i64), (.lst 39 [(.int .i64), (.int .i64)])], .val false [(.int .i64)]], [(false, [(.int .i64)])]⟩
def pr_laws_szStroke : Prog :=
 (.chk 3
 (.chk 3
 (.call 50 [(.var 1), (.var 2)] 1
 (.chk 4
 (.chk 4
 (.chk 4
 (.chk 4
 (.cond (.cmp .lss (.var 3) (.int 0))
  (.chk 4
  (.chk 4
  (.leaf (.res [(.int (-1))]))))
  (.chk 4
  (.chk 4
  (.chk 4
  (.leaf (.res [(.var 3)])))))))))))))
theorem ex_laws_szStroke : progOf tab [(50, sg_laws_szPointS)] Try.f81 sg_laws_szStroke = some pr_laws_szStroke := by kernel_rfl
abbrev n_laws_szStroke : Nat := 81
theorem mk_laws_szStroke {g0 : List U → Option (List U)}  (h0 : FnOK Try.prog 50 sg_laws_szPointS g0) {g : List U → Option (List U)} (hg : ∀ us rs, us.length = 3 → g us = some rs → wpP (fun k us => if 50 = k then g0 us else none) pr_laws_szStroke 0 us fun l η => ∃ es, l = .res es ∧ es.map (E.den η) = rs) : FnOK Try.prog 81 sg_laws_szStroke g :=
  fn_ok tab_ok (env_cons (f := 50) h0 rfl env_nil) mix Try.func81 (by kernel_rfl) ex_laws_szStroke hg
/-- laws_szStrokeS -/
def sg_laws_szStrokeS : Sig := ⟨[.val false [(.lst 104 [(.int .i64), (.lst 39 [(.int .i64), (.int .i64)])])], .val false [(.int .i64)]], [(false, [(.int .i64)])]⟩
def pr_laws_szStrokeS : Prog :=
 (.chk 2
 (.chk 2
 (.chk 2
 (.chk 2
 (.chk 2
 (.chk 2
 (.cond (.cmp .lss (.ar .sub .i64 (.var 1) (.len (.var 0))) (.int 0))
  (.chk 2
  (.chk 2
  (.leaf (.res [(.int (-1))]))))
  (.chk 2
  (.chk 2
  (.chk 2
  (.loop [(.ar .sub .i64 (.var 1) (.len (.var 0))), (.int 0)]
   (.chk 4
   (.chk 4
   (.cond (.cmp .lss (.var 3) (.len (.var 0)))
    (.chk 4
    (.guard (.cmp .leq (.int 0) (.var 3)) true
    (.guard (.cmp .lss (.var 3) (.len (.var 0))) true
    (.call 81 [(.nth (.var 0) (.var 3) 0), (.nth (.var 0) (.var 3) 1), (.var 2)] 1
    (.chk 5
    (.chk 5
    (.chk 5
    (.chk 5
    (.cond (.cmp .lss (.var 4) (.int 0))
     (.chk 5
     (.chk 5
     (.leaf (.vals 1 [(.var 4), (.var 3), (.cmp .lss (.var 3) (.len (.var 0))), (.cmp .lss (.var 4) (.int 0))]))))
     (.chk 5
     (.chk 5
     (.leaf (.vals 0 [(.var 4), (.ar .add .i64 (.var 3) (.int 1))])))))))))))))
    (.leaf (.vals 2 [(.var 2), (.var 3), (.cmp .lss (.var 3) (.len (.var 0)))])))))
   (.alt
    (.leaf (.res [(.int (-1))]))
    (.alt
     (.chk 5
     (.chk 5
     (.chk 5
     (.leaf (.res [(.var 2)])))))
     .stop)))))))))))))
theorem ex_laws_szStrokeS : progOf tab [(81, sg_laws_szStroke)] Try.f21 sg_laws_szStrokeS = some pr_laws_szStrokeS := by kernel_rfl
abbrev n_laws_szStrokeS : Nat := 21
theorem mk_laws_szStrokeS {g0 : List U → Option (List U)}  (h0 : FnOK Try.prog 81 sg_laws_szStroke g0) {g : List U → Option (List U)} (hg : ∀ us rs, us.length = 2 → g us = some rs → wpP (fun k us => if 81 = k then g0 us else none) pr_laws_szStrokeS 0 us fun l η => ∃ es, l = .res es ∧ es.map (E.den η) = rs) : FnOK Try.prog 21 sg_laws_szStrokeS g :=
  fn_ok tab_ok (env_cons (f := 81) h0 rfl env_nil) mix Try.func21 (by kernel_rfl) ex_laws_szStrokeS hg
/-- laws_toPoint -/
def sg_laws_toPoint : Sig := ⟨[.val true [(.int .i64), (.int .i64)]], [(true, [(.int .i64), (.int .i64)])]⟩
def pr_laws_toPoint : Prog :=
 (.chk 2
 (.chk 2
 (.chk 2
 (.chk 2
 (.chk 2
 (.chk 2
 (.chk 2
 (.chk 2
 (.chk 2
 (.chk 2
 (.leaf (.res [(.var 0), (.var 1)]))))))))))))
theorem ex_laws_toPoint : progOf tab [] Try.f28 sg_laws_toPoint = some pr_laws_toPoint := by kernel_rfl
abbrev n_laws_toPoint : Nat := 28
theorem mk_laws_toPoint  {g : List U → Option (List U)} (hg : ∀ us rs, us.length = 2 → g us = some rs → wpP (fun _ _ => none) pr_laws_toPoint 0 us fun l η => ∃ es, l = .res es ∧ es.map (E.den η) = rs) : FnOK Try.prog 28 sg_laws_toPoint g :=
  fn_ok tab_ok env_nil mix Try.func28 (by kernel_rfl) ex_laws_toPoint hg
/-- laws_toPointS -/
def sg_laws_toPointS : Sig := ⟨[.val false [(.lst 39 [(.int .i64), (.int .i64)])]], [(false, [(.lst 40 [(.int .i64), (.int .i64)])])]⟩
def pr_laws_toPointS : Prog :=
 (.chk 1
 (.chk 1
 (.guard (.cmp .leq (.int 0) (.len (.var 0))) true
 (.guard (.cmp .leq (.len (.var 0)) (.int 8796093022208)) true
 (.chk 1
 (.chk 1
 (.chk 1
 (.chk 1
 (.loop [(.int 0), (.rep (.len (.var 0)) (.rcons (.int 0) (.rcons (.int 0) .rnil)))]
  (.chk 3
  (.chk 3
  (.cond (.cmp .lss (.var 1) (.len (.var 0)))
   (.chk 3
   (.guard (.cmp .leq (.int 0) (.var 1)) true
   (.guard (.cmp .lss (.var 1) (.len (.var 0))) true
   (.call 28 [(.nth (.var 0) (.var 1) 0), (.nth (.var 0) (.var 1) 1)] 2
   (.guard (.cmp .leq (.int 0) (.var 1)) true
   (.guard (.cmp .lss (.var 1) (.len (.var 2))) true
   (.chk 5
   (.chk 5
   (.chk 5
   (.leaf (.vals 0 [(.ar .add .i64 (.var 1) (.int 1)), (.set (.set (.var 2) (.var 1) 0 (.var 3)) (.var 1) 1 (.var 4))])))))))))))
   (.leaf (.vals 1 [(.var 1), (.cmp .lss (.var 1) (.len (.var 0))), (.var 2)])))))
  (.alt
   (.chk 4
   (.chk 4
   (.chk 4
   (.leaf (.res [(.var 3)])))))
   .stop))))))))))
theorem ex_laws_toPointS : progOf tab [(28, sg_laws_toPoint)] Try.f52 sg_laws_toPointS = some pr_laws_toPointS := by kernel_rfl
abbrev n_laws_toPointS : Nat := 52
theorem mk_laws_toPointS {g0 : List U → Option (List U)}  (h0 : FnOK Try.prog 28 sg_laws_toPoint g0) {g : List U → Option (List U)} (hg : ∀ us rs, us.length = 1 → g us = some rs → wpP (fun k us => if 28 = k then g0 us else none) pr_laws_toPointS 0 us fun l η => ∃ es, l = .res es ∧ es.map (E.den η) = rs) : FnOK Try.prog 52 sg_laws_toPointS g :=
  fn_ok tab_ok (env_cons (f := 28) h0 rfl env_nil) mix Try.func52 (by kernel_rfl) ex_laws_toPointS hg
/-- laws_toStroke -/
def sg_laws_toStroke : Sig := ⟨[.val true [(.int .i64), (.lst 39 [(.int .i64), (.int .i64)])]], [(true, [(.int .i64), (.lst 40 [(.int .i64), (.int .i64)])])]⟩
def pr_laws_toStroke : Prog :=
 (.chk 2
 (.chk 2
 (.chk 2
 (.chk 2
 (.chk 2
 (.chk 2
 (.call 52 [(.var 1)] 1
 (.chk 3
 (.chk 3
 (.chk 3
 (.chk 3
 (.leaf (.res [(.var 0), (.var 2)])))))))))))))
theorem ex_laws_toStroke : progOf tab [(52, sg_laws_toPointS)] Try.f83 sg_laws_toStroke = some pr_laws_toStroke := by kernel_rfl
abbrev n_laws_toStroke : Nat := 83
theorem mk_laws_toStroke {g0 : List U → Option (List U)}  (h0 : FnOK Try.prog 52 sg_laws_toPointS g0) {g : List U → Option (List U)} (hg : ∀ us rs, us.length = 2 → g us = some rs → wpP (fun k us => if 52 = k then g0 us else none) pr_laws_toStroke 0 us fun l η => ∃ es, l = .res es ∧ es.map (E.den η) = rs) : FnOK Try.prog 83 sg_laws_toStroke g :=
  fn_ok tab_ok (env_cons (f := 52) h0 rfl env_nil) mix Try.func83 (by kernel_rfl) ex_laws_toStroke hg
/-- laws_toStrokeS -/
def sg_laws_toStrokeS : Sig := ⟨[.val false [(.lst 104 [(.int .i64), (.lst 39 [(.int .i64), (.int .i64)])])]], [(false, [(.lst 107 [(.int .i64), (.lst 40 [(.int .i64), (.int .i64)])])])]⟩
def pr_laws_toStrokeS : Prog :=
 (.chk 1
 (.chk 1
 (.guard (.cmp .leq (.int 0) (.len (.var 0))) true
 (.guard (.cmp .leq (.len (.var 0)) (.int 4398046511104)) true
 (.chk 1
 (.chk 1
 (.chk 1
 (.chk 1
 (.loop [(.int 0), (.rep (.len (.var 0)) (.rcons (.int 0) (.rcons .nil .rnil)))]
  (.chk 3
  (.chk 3
  (.cond (.cmp .lss (.var 1) (.len (.var 0)))
   (.chk 3
   (.guard (.cmp .leq (.int 0) (.var 1)) true
   (.guard (.cmp .lss (.var 1) (.len (.var 0))) true
   (.call 83 [(.nth (.var 0) (.var 1) 0), (.nth (.var 0) (.var 1) 1)] 2
   (.guard (.cmp .leq (.int 0) (.var 1)) true
   (.guard (.cmp .lss (.var 1) (.len (.var 2))) true
   (.chk 5
   (.chk 5
   (.chk 5
   (.leaf (.vals 0 [(.ar .add .i64 (.var 1) (.int 1)), (.set (.set (.var 2) (.var 1) 0 (.var 3)) (.var 1) 1 (.var 4))])))))))))))
   (.leaf (.vals 1 [(.var 1), (.cmp .lss (.var 1) (.len (.var 0))), (.var 2)])))))
  (.alt
   (.chk 4
   (.chk 4
   (.chk 4
   (.leaf (.res [(.var 3)])))))
   .stop))))))))))
theorem ex_laws_toStrokeS : progOf tab [(83, sg_laws_toStroke)] Try.f23 sg_laws_toStrokeS = some pr_laws_toStrokeS := by kernel_rfl
abbrev n_laws_toStrokeS : Nat := 23
theorem mk_laws_toStrokeS {g0 : List U → Option (List U)}  (h0 : FnOK Try.prog 83 sg_laws_toStroke g0) {g : List U → Option (List U)} (hg : ∀ us rs, us.length = 1 → g us = some rs → wpP (fun k us => if 83 = k then g0 us else none) pr_laws_toStrokeS 0 us fun l η => ∃ es, l = .res es ∧ es.map (E.den η) = rs) : FnOK Try.prog 23 sg_laws_toStrokeS g :=
  fn_ok tab_ok (env_cons (f := 83) h0 rfl env_nil) mix Try.func23 (by kernel_rfl) ex_laws_toStrokeS hg
/-- spec_l01In -/
def sg_spec_l01In : Sig := ⟨[.val false [(.int .i64)], .val false [(.int .i64)], .val false [(.int .i64)]], [(false, [.bool])]⟩
def pr_spec_l01In : Prog :=
 (.chk 3
 (.chk 3
 (.join
  (.cond (.cmp .geq (.var 0) (.var 1))
   (.guard (.cmp .geq (.var 0) (.var 1)) true
   (.guard (.cmp .geq (.var 0) (.var 1)) true
   (.guard (.cmp .geq (.var 0) (.var 1)) true
   (.guard (.cmp .geq (.var 0) (.var 1)) true
   (.leaf (.vals 0 [(.cmp .leq (.var 0) (.var 2))]))))))
   (.guard (.cmp .geq (.var 0) (.var 1)) false
   (.guard (.cmp .geq (.var 0) (.var 1)) false
   (.guard (.cmp .geq (.var 0) (.var 1)) false
   (.guard (.cmp .geq (.var 0) (.var 1)) false
   (.leaf (.vals 0 [(.bool false)])))))))
  (.alt
   (.chk 4
   (.leaf (.res [(.var 3)])))
   .stop))))
theorem ex_spec_l01In : progOf tab [] Try.f115 sg_spec_l01In = some pr_spec_l01In := by kernel_rfl
abbrev n_spec_l01In : Nat := 115
theorem mk_spec_l01In  {g : List U → Option (List U)} (hg : ∀ us rs, us.length = 3 → g us = some rs → wpP (fun _ _ => none) pr_spec_l01In 0 us fun l η => ∃ es, l = .res es ∧ es.map (E.den η) = rs) : FnOK Try.prog 115 sg_spec_l01In g :=
  fn_ok tab_ok env_nil mix Try.func115 (by kernel_rfl) ex_spec_l01In hg
/-- spec_l28Pen -/
def sg_spec_l28Pen : Sig := ⟨[.val false [(.int .i64)]], [(false, [.bool])]⟩
def pr_spec_l28Pen : Prog :=
 (.chk 1
 (.chk 1
 (.call 115 [(.var 0), (.int 1), (.int 8)] 1
 (.chk 2
 (.chk 2
 (.leaf (.res [(.var 1)])))))))
theorem ex_spec_l28Pen : progOf tab [(115, sg_spec_l01In)] Try.f96 sg_spec_l28Pen = some pr_spec_l28Pen := by kernel_rfl
abbrev n_spec_l28Pen : Nat := 96
theorem mk_spec_l28Pen {g0 : List U → Option (List U)}  (h0 : FnOK Try.prog 115 sg_spec_l01In g0) {g : List U → Option (List U)} (hg : ∀ us rs, us.length = 1 → g us = some rs → wpP (fun k us => if 115 = k then g0 us else none) pr_spec_l28Pen 0 us fun l η => ∃ es, l = .res es ∧ es.map (E.den η) = rs) : FnOK Try.prog 96 sg_spec_l28Pen g :=
  fn_ok tab_ok (env_cons (f := 115) h0 rfl env_nil) mix Try.func96 (by kernel_rfl) ex_spec_l28Pen hg
/-- spec_l14Point -/
def sg_spec_l14Point : Sig := ⟨[.val false [(.int .i64)], .val false [(.int .i64)]], [(false, [.bool])]⟩
def pr_spec_l14Point : Prog :=
 (.chk 2
 (.chk 2
 (.join
  (.call 115 [(.var 0), (.int (-1000000)), (.int 1000000)] 1
  (.cond (.var 2)
   (.guard (.var 2) true
   (.guard (.var 2) true
   (.call 115 [(.var 1), (.int (-1000000)), (.int 1000000)] 1
   (.guard (.var 2) true
   (.leaf (.vals 0 [(.var 3)]))))))
   (.guard (.var 2) false
   (.guard (.var 2) false
   (.guard (.var 2) false
   (.leaf (.vals 0 [(.bool false)])))))))
  (.alt
   (.chk 3
   (.leaf (.res [(.var 2)])))
   .stop))))
theorem ex_spec_l14Point : progOf tab [(115, sg_spec_l01In)] Try.f104 sg_spec_l14Point = some pr_spec_l14Point := by kernel_rfl
abbrev n_spec_l14Point : Nat := 104
theorem mk_spec_l14Point {g0 : List U → Option (List U)}  (h0 : FnOK Try.prog 115 sg_spec_l01In g0) {g : List U → Option (List U)} (hg : ∀ us rs, us.length = 2 → g us = some rs → wpP (fun k us => if 115 = k then g0 us else none) pr_spec_l14Point 0 us fun l η => ∃ es, l = .res es ∧ es.map (E.den η) = rs) : FnOK Try.prog 104 sg_spec_l14Point g :=
  fn_ok tab_ok (env_cons (f := 115) h0 rfl env_nil) mix Try.func104 (by kernel_rfl) ex_spec_l14Point hg
/-- spec_l16Points -/
def sg_spec_l16Points : Sig := ⟨[.val false [(.lst 40 [(.int .i64), (.int .i64)])]], [(false, [.bool])]⟩
def pr_spec_l16Points : Prog :=
 (.chk 1
 (.chk 1
 (.chk 1
 (.chk 1
 (.loop [(.int 0)]
  (.chk 2
  (.chk 2
  (.cond (.cmp .lss (.var 1) (.len (.var 0)))
   (.chk 2
   (.guard (.cmp .leq (.int 0) (.var 1)) true
   (.guard (.cmp .lss (.var 1) (.len (.var 0))) true
   (.guard (.cmp .leq (.int 0) (.var 1)) true
   (.guard (.cmp .lss (.var 1) (.len (.var 0))) true
   (.call 104 [(.nth (.var 0) (.var 1) 0), (.nth (.var 0) (.var 1) 1)] 1
   (.chk 3
   (.chk 3
   (.cond (.not (.var 2))
    (.chk 3
    (.chk 3
    (.leaf (.vals 1 [(.var 1), (.cmp .lss (.var 1) (.len (.var 0))), (.not (.var 2))]))))
    (.chk 3
    (.chk 3
    (.leaf (.vals 0 [(.ar .add .i64 (.var 1) (.int 1))])))))))))))))
   (.leaf (.vals 2 [(.var 1), (.cmp .lss (.var 1) (.len (.var 0)))])))))
  (.alt
   (.leaf (.res [(.bool false)]))
   (.alt
    (.chk 3
    (.chk 3
    (.chk 3
    (.leaf (.res [(.bool true)])))))
    .stop)))))))
theorem ex_spec_l16Points : progOf tab [(104, sg_spec_l14Point)] Try.f86 sg_spec_l16Points = some pr_spec_l16Points := by kernel_rfl
abbrev n_spec_l16Points : Nat := 86
theorem mk_spec_l16Points {g0 : List U → Option (List U)}  (h0 : FnOK Try.prog 104 sg_spec_l14Point g0) {g : List U → Option (List U)} (hg : ∀ us rs, us.length = 1 → g us = some rs → wpP (fun k us => if 104 = k then g0 us else none) pr_spec_l16Points 0 us fun l η => ∃ es, l = .res es ∧ es.map (E.den η) = rs) : FnOK Try.prog 86 sg_spec_l16Points g :=
  fn_ok tab_ok (env_cons (f := 104) h0 rfl env_nil) mix Try.func86 (by kernel_rfl) ex_spec_l16Points hg
/-- spec_IsLine -/
def sg_spec_IsLine : Sig := ⟨[.val false [(.lst 40 [(.int .i64), (.int .i64)])]], [(false, [.bool])]⟩
def pr_spec_IsLine : Prog :=
 (.chk 1
 (.chk 1
 (.join
  (.cond (.cmp .leq (.len (.var 0)) (.int 200))
   (.guard (.cmp .leq (.len (.var 0)) (.int 200)) true
   (.guard (.cmp .leq (.len (.var 0)) (.int 200)) true
   (.call 86 [(.var 0)] 1
   (.guard (.cmp .leq (.len (.var 0)) (.int 200)) true
   (.leaf (.vals 0 [(.var 1)]))))))
   (.guard (.cmp .leq (.len (.var 0)) (.int 200)) false
   (.guard (.cmp .leq (.len (.var 0)) (.int 200)) false
   (.guard (.cmp .leq (.len (.var 0)) (.int 200)) false
   (.leaf (.vals 0 [(.bool false)]))))))
  (.alt
   (.chk 2
   (.leaf (.res [(.var 1)])))
   .stop))))
theorem ex_spec_IsLine : progOf tab [(86, sg_spec_l16Points)] Try.f128 sg_spec_IsLine = some pr_spec_IsLine := by kernel_rfl
abbrev n_spec_IsLine : Nat := 128
theorem mk_spec_IsLine {g0 : List U → Option (List U)}  (h0 : FnOK Try.prog 86 sg_spec_l16Points g0) {g : List U → Option (List U)} (hg : ∀ us rs, us.length = 1 → g us = some rs → wpP (fun k us => if 86 = k then g0 us else none) pr_spec_IsLine 0 us fun l η => ∃ es, l = .res es ∧ es.map (E.den η) = rs) : FnOK Try.prog 128 sg_spec_IsLine g :=
  fn_ok tab_ok (env_cons (f := 86) h0 rfl env_nil) mix Try.func128 (by kernel_rfl) ex_spec_IsLine hg
/-- spec_l28Code -/
def sg_spec_l28Code : Sig := ⟨[.val false [(.lst 107 [(.int .i64), (.lst 40 [(.int .i64), (.int .i64)])])]], [(false, [(.int .i64)])]⟩
def pr_spec_l28Code : Prog :=
 (.chk 1
 (.chk 1
 (.chk 1
 (.chk 1
 (.loop [(.int 0)]
  (.chk 2
  (.chk 2
  (.cond (.cmp .lss (.var 1) (.len (.var 0)))
   (.chk 2
   (.join
    (.guard (.cmp .leq (.int 0) (.var 1)) true
    (.guard (.cmp .lss (.var 1) (.len (.var 0))) true
    (.call 96 [(.nth (.var 0) (.var 1) 0)] 1
    (.cond (.not (.var 2))
     (.guard (.not (.var 2)) true
     (.guard (.not (.var 2)) true
     (.guard (.not (.var 2)) true
     (.guard (.not (.var 2)) true
     (.guard (.not (.var 2)) true
     (.guard (.not (.var 2)) true
     (.guard (.not (.var 2)) true
     (.guard (.not (.var 2)) true
     (.guard (.bool true) true
     (.guard (.bool true) true
     (.guard (.bool true) true
     (.guard (.bool true) true
     (.guard (.bool true) true
     (.guard (.bool true) true
     (.guard (.bool true) true
     (.guard (.bool true) true
     (.leaf (.vals 0 [(.bool true)]))))))))))))))))))
     (.guard (.not (.var 2)) false
     (.guard (.not (.var 2)) false
     (.guard (.not (.var 2)) false
     (.guard (.cmp .leq (.int 0) (.var 1)) true
     (.guard (.cmp .lss (.var 1) (.len (.var 0))) true
     (.guard (.not (.var 2)) false
     (.guard (.not (.var 2)) false
     (.guard (.not (.var 2)) false
     (.call 128 [(.nth (.var 0) (.var 1) 1)] 1
     (.guard (.not (.var 2)) false
     (.guard (.not (.var 2)) false
     (.cond (.not (.var 3))
      (.guard (.not (.var 3)) true
      (.guard (.not (.var 3)) true
      (.guard (.not (.var 3)) true
      (.guard (.not (.var 3)) true
      (.guard (.not (.var 3)) true
      (.guard (.not (.var 3)) true
      (.guard (.not (.var 3)) true
      (.guard (.not (.var 3)) true
      (.leaf (.vals 0 [(.bool true)]))))))))))
      (.guard (.not (.var 3)) false
      (.guard (.not (.var 3)) false
      (.guard (.not (.var 3)) false
      (.guard (.cmp .leq (.int 0) (.var 1)) true
      (.guard (.cmp .lss (.var 1) (.len (.var 0))) true
      (.guard (.not (.var 3)) false
      (.guard (.not (.var 3)) false
      (.guard (.not (.var 3)) false
      (.guard (.not (.var 3)) false
      (.guard (.not (.var 3)) false
      (.leaf (.vals 0 [(.cmp .lss (.len (.nth (.var 0) (.var 1) 1)) (.int 2))]))))))))))))))))))))))))))))
    (.alt
     (.chk 3
     (.cond (.var 2)
      (.chk 3
      (.chk 3
      (.leaf (.vals 1 [(.var 1), (.cmp .lss (.var 1) (.len (.var 0))), (.var 2)]))))
      (.chk 3
      (.chk 3
      (.leaf (.vals 0 [(.ar .add .i64 (.var 1) (.int 1))]))))))
     .stop)))
   (.leaf (.vals 2 [(.var 1), (.cmp .lss (.var 1) (.len (.var 0)))])))))
  (.alt
   (.leaf (.res [(.int 1)]))
   (.alt
    (.chk 3
    (.chk 3
    (.chk 3
    (.cond (.cmp .gtr (.len (.var 0)) (.int 40))
     (.chk 3
     (.chk 3
     (.leaf (.res [(.int 3)]))))
     (.chk 3
     (.chk 3
     (.chk 3
     (.leaf (.res [(.int 0)])))))))))
    .stop)))))))
theorem ex_spec_l28Code : progOf tab [(96, sg_spec_l28Pen), (128, sg_spec_IsLine)] Try.f82 sg_spec_l28Code = some pr_spec_l28Code := by kernel_rfl
abbrev n_spec_l28Code : Nat := 82
theorem mk_spec_l28Code {g0 g1 : List U → Option (List U)}  (h0 : FnOK Try.prog 96 sg_spec_l28Pen g0) (h1 : FnOK Try.prog 128 sg_spec_IsLine g1) {g : List U → Option (List U)} (hg : ∀ us rs, us.length = 1 → g us = some rs → wpP (fun k us => if 96 = k then g0 us else if 128 = k then g1 us else none) pr_spec_l28Code 0 us fun l η => ∃ es, l = .res es ∧ es.map (E.den η) = rs) : FnOK Try.prog 82 sg_spec_l28Code g :=
  fn_ok tab_ok (env_cons (f := 96) h0 rfl (env_cons (f := 128) h1 rfl env_nil)) mix Try.func82 (by kernel_rfl) ex_spec_l28Code hg
/-- spec_IsDrawing -/
def sg_spec_IsDrawing : Sig := ⟨[.val false [(.lst 107 [(.int .i64), (.lst 40 [(.int .i64), (.int .i64)])])]], [(false, [.bool])]⟩
def pr_spec_IsDrawing : Prog :=
 (.chk 1
 (.chk 1
 (.call 82 [(.var 0)] 1
 (.chk 2
 (.chk 2
 (.leaf (.res [(.cmp .eql (.var 1) (.int 0))])))))))
theorem ex_spec_IsDrawing : progOf tab [(82, sg_spec_l28Code)] Try.f22 sg_spec_IsDrawing = some pr_spec_IsDrawing := by kernel_rfl
abbrev n_spec_IsDrawing : Nat := 22
theorem mk_spec_IsDrawing {g0 : List U → Option (List U)}  (h0 : FnOK Try.prog 82 sg_spec_l28Code g0) {g : List U → Option (List U)} (hg : ∀ us rs, us.length = 1 → g us = some rs → wpP (fun k us => if 82 = k then g0 us else none) pr_spec_IsDrawing 0 us fun l η => ∃ es, l = .res es ∧ es.map (E.den η) = rs) : FnOK Try.prog 22 sg_spec_IsDrawing g :=
  fn_ok tab_ok (env_cons (f := 82) h0 rfl env_nil) mix Try.func22 (by kernel_rfl) ex_spec_IsDrawing hg
/-- impl_in -/
def sg_impl_in : Sig := ⟨[.val false [(.int .i64)], .val false [(.int .i64)], .val false [(.int .i64)]], [(false, [.bool])]⟩
def pr_impl_in : Prog :=
 (.chk 3
 (.chk 3
 (.join
  (.cond (.cmp .geq (.var 0) (.var 1))
   (.guard (.cmp .geq (.var 0) (.var 1)) true
   (.guard (.cmp .geq (.var 0) (.var 1)) true
   (.guard (.cmp .geq (.var 0) (.var 1)) true
   (.guard (.cmp .geq (.var 0) (.var 1)) true
   (.leaf (.vals 0 [(.cmp .leq (.var 0) (.var 2))]))))))
   (.guard (.cmp .geq (.var 0) (.var 1)) false
   (.guard (.cmp .geq (.var 0) (.var 1)) false
   (.guard (.cmp .geq (.var 0) (.var 1)) false
   (.guard (.cmp .geq (.var 0) (.var 1)) false
   (.leaf (.vals 0 [(.bool false)])))))))
  (.alt
   (.chk 4
   (.leaf (.res [(.var 3)])))
   .stop))))
theorem ex_impl_in : progOf tab [] Try.f120 sg_impl_in = some pr_impl_in := by kernel_rfl
abbrev n_impl_in : Nat := 120
theorem mk_impl_in  {g : List U → Option (List U)} (hg : ∀ us rs, us.length = 3 → g us = some rs → wpP (fun _ _ => none) pr_impl_in 0 us fun l η => ∃ es, l = .res es ∧ es.map (E.den η) = rs) : FnOK Try.prog 120 sg_impl_in g :=
  fn_ok tab_ok env_nil mix Try.func120 (by kernel_rfl) ex_impl_in hg
/-- impl_isPen -/
def sg_impl_isPen : Sig := ⟨[.val false [(.int .i64)]], [(false, [.bool])]⟩
def pr_impl_isPen : Prog :=
 (.chk 1
 (.chk 1
 (.call 120 [(.var 0), (.int 1), (.int 8)] 1
 (.chk 2
 (.chk 2
 (.leaf (.res [(.var 1)])))))))
theorem ex_impl_isPen : progOf tab [(120, sg_impl_in)] Try.f97 sg_impl_isPen = some pr_impl_isPen := by kernel_rfl
abbrev n_impl_isPen : Nat := 97
theorem mk_impl_isPen {g0 : List U → Option (List U)}  (h0 : FnOK Try.prog 120 sg_impl_in g0) {g : List U → Option (List U)} (hg : ∀ us rs, us.length = 1 → g us = some rs → wpP (fun k us => if 120 = k then g0 us else none) pr_impl_isPen 0 us fun l η => ∃ es, l = .res es ∧ es.map (E.den η) = rs) : FnOK Try.prog 97 sg_impl_isPen g :=
  fn_ok tab_ok (env_cons (f := 120) h0 rfl env_nil) mix Try.func97 (by kernel_rfl) ex_impl_isPen hg
/-- impl_isSpot -/
def sg_impl_isSpot : Sig := ⟨[.val false [(.int .i64)]], [(false, [.bool])]⟩
def pr_impl_isSpot : Prog :=
 (.chk 1
 (.chk 1
 (.call 120 [(.var 0), (.int (-1000000)), (.int 1000000)] 1
 (.chk 2
 (.chk 2
 (.leaf (.res [(.var 1)])))))))
theorem ex_impl_isSpot : progOf tab [(120, sg_impl_in)] Try.f106 sg_impl_isSpot = some pr_impl_isSpot := by kernel_rfl
abbrev n_impl_isSpot : Nat := 106
theorem mk_impl_isSpot {g0 : List U → Option (List U)}  (h0 : FnOK Try.prog 120 sg_impl_in g0) {g : List U → Option (List U)} (hg : ∀ us rs, us.length = 1 → g us = some rs → wpP (fun k us => if 120 = k then g0 us else none) pr_impl_isSpot 0 us fun l η => ∃ es, l = .res es ∧ es.map (E.den η) = rs) : FnOK Try.prog 106 sg_impl_isSpot g :=
  fn_ok tab_ok (env_cons (f := 120) h0 rfl env_nil) mix Try.func106 (by kernel_rfl) ex_impl_isSpot hg
/-- impl_isPoint -/
def sg_impl_isPoint : Sig := ⟨[.val true [(.int .i64), (.int .i64)]], [(false, [.bool])]⟩
def pr_impl_isPoint : Prog :=
 (.chk 2
 (.chk 2
 (.join
  (.call 106 [(.var 0)] 1
  (.cond (.var 2)
   (.guard (.var 2) true
   (.guard (.var 2) true
   (.guard (.var 2) true
   (.call 106 [(.var 1)] 1
   (.guard (.var 2) true
   (.leaf (.vals 0 [(.var 3)])))))))
   (.guard (.var 2) false
   (.guard (.var 2) false
   (.guard (.var 2) false
   (.guard (.var 2) false
   (.leaf (.vals 0 [(.bool false)]))))))))
  (.alt
   (.chk 3
   (.leaf (.res [(.var 2)])))
   .stop))))
theorem ex_impl_isPoint : progOf tab [(106, sg_impl_isSpot)] Try.f131 sg_impl_isPoint = some pr_impl_isPoint := by kernel_rfl
abbrev n_impl_isPoint : Nat := 131
theorem mk_impl_isPoint {g0 : List U → Option (List U)}  (h0 : FnOK Try.prog 106 sg_impl_isSpot g0) {g : List U → Option (List U)} (hg : ∀ us rs, us.length = 2 → g us = some rs → wpP (fun k us => if 106 = k then g0 us else none) pr_impl_isPoint 0 us fun l η => ∃ es, l = .res es ∧ es.map (E.den η) = rs) : FnOK Try.prog 131 sg_impl_isPoint g :=
  fn_ok tab_ok (env_cons (f := 106) h0 rfl env_nil) mix Try.func131 (by kernel_rfl) ex_impl_isPoint hg
/-- impl_IsLine_1 -/
def sg_impl_IsLine_1 : Sig := ⟨[.val true [(.int .i64), (.int .i64)]], [(false, [.bool])]⟩
def pr_impl_IsLine_1 : Prog :=
 (.chk 2
 (.chk 2
 (.call 131 [(.var 0), (.var 1)] 1
 (.chk 3
 (.chk 3
 (.leaf (.res [(.not (.var 2))])))))))
theorem ex_impl_IsLine_1 : progOf tab [(131, sg_impl_isPoint)] Try.f143 sg_impl_IsLine_1 = some pr_impl_IsLine_1 := by kernel_rfl
abbrev n_impl_IsLine_1 : Nat := 143
theorem mk_impl_IsLine_1 {g0 : List U → Option (List U)}  (h0 : FnOK Try.prog 131 sg_impl_isPoint g0) {g : List U → Option (List U)} (hg : ∀ us rs, us.length = 2 → g us = some rs → wpP (fun k us => if 131 = k then g0 us else none) pr_impl_IsLine_1 0 us fun l η => ∃ es, l = .res es ∧ es.map (E.den η) = rs) : FnOK Try.prog 143 sg_impl_IsLine_1 g :=
  fn_ok tab_ok (env_cons (f := 131) h0 rfl env_nil) mix Try.func143 (by kernel_rfl) ex_impl_IsLine_1 hg
/-- slices_IndexFuncimpl_Pointimpl_Point -/
def sg_slices_IndexFuncimpl_Pointimpl_Point : Sig := ⟨[.val false [(.lst 40 [(.int .i64), (.int .i64)])], .fn 143 0], [(false, [(.int .i64)])]⟩
def pr_slices_IndexFuncimpl_Pointimpl_Point : Prog :=
 (.chk 1
 (.chk 1
 (.chk 1
 (.chk 1
 (.loop [(.int 0)]
  (.chk 2
  (.chk 2
  (.cond (.cmp .lss (.var 1) (.len (.var 0)))
   (.chk 2
   (.chk 2
   (.chk 2
   (.guard (.cmp .leq (.int 0) (.var 1)) true
   (.guard (.cmp .lss (.var 1) (.len (.var 0))) true
   (.call 143 [(.nth (.var 0) (.var 1) 0), (.nth (.var 0) (.var 1) 1)] 1
   (.chk 3
   (.chk 3
   (.cond (.var 2)
    (.chk 3
    (.chk 3
    (.leaf (.vals 1 [(.var 1), (.var 1), (.var 1), (.cmp .lss (.var 1) (.len (.var 0))), (.var 2)]))))
    (.chk 3
    (.chk 3
    (.leaf (.vals 0 [(.ar .add .i64 (.var 1) (.int 1))])))))))))))))
   (.leaf (.vals 2 [(.var 1), (.cmp .lss (.var 1) (.len (.var 0)))])))))
  (.alt
   (.leaf (.res [(.var 1)]))
   (.alt
    (.chk 3
    (.chk 3
    (.chk 3
    (.leaf (.res [(.int (-1))])))))
    .stop)))))))
theorem ex_slices_IndexFuncimpl_Pointimpl_Point : progOf tab [(143, sg_impl_IsLine_1)] Try.f150 sg_slices_IndexFuncimpl_Pointimpl_Point = some pr_slices_IndexFuncimpl_Pointimpl_Point := by kernel_rfl
abbrev n_slices_IndexFuncimpl_Pointimpl_Point : Nat := 150
theorem mk_slices_IndexFuncimpl_Pointimpl_Point {g0 : List U → Option (List U)}  (h0 : FnOK Try.prog 143 sg_impl_IsLine_1 g0) {g : List U → Option (List U)} (hg : ∀ us rs, us.length = 1 → g us = some rs → wpP (fun k us => if 143 = k then g0 us else none) pr_slices_IndexFuncimpl_Pointimpl_Point 0 us fun l η => ∃ es, l = .res es ∧ es.map (E.den η) = rs) : FnOK Try.prog 150 sg_slices_IndexFuncimpl_Pointimpl_Point g :=
  fn_ok tab_ok (env_cons (f := 143) h0 rfl env_nil) mix Try.func150 (by kernel_rfl) ex_slices_IndexFuncimpl_Pointimpl_Point hg
/-- slices_ContainsFuncimpl_Pointimpl_Point -/
def sg_slices_ContainsFuncimpl_Pointimpl_Point : Sig := ⟨[.val false [(.lst 40 [(.int .i64), (.int .i64)])], .fn 143 0], [(false, [.bool])]⟩
def pr_slices_ContainsFuncimpl_Pointimpl_Point : Prog :=
 (.chk 1
 (.chk 1
 (.call 150 [(.var 0)] 1
 (.chk 2
 (.chk 2
 (.leaf (.res [(.cmp .geq (.var 1) (.int 0))])))))))
theorem ex_slices_ContainsFuncimpl_Pointimpl_Point : progOf tab [(150, sg_slices_IndexFuncimpl_Pointimpl_Point)] Try.f142 sg_slices_ContainsFuncimpl_Pointimpl_Point = some pr_slices_ContainsFuncimpl_Pointimpl_Point := by kernel_rfl
abbrev n_slices_ContainsFuncimpl_Pointimpl_Point : Nat := 142
theorem mk_slices_ContainsFuncimpl_Pointimpl_Point {g0 : List U → Option (List U)}  (h0 : FnOK Try.prog 150 sg_slices_IndexFuncimpl_Pointimpl_Point g0) {g : List U → Option (List U)} (hg : ∀ us rs, us.length = 1 → g us = some rs → wpP (fun k us => if 150 = k then g0 us else none) pr_slices_ContainsFuncimpl_Pointimpl_Point 0 us fun l η => ∃ es, l = .res es ∧ es.map (E.den η) = rs) : FnOK Try.prog 142 sg_slices_ContainsFuncimpl_Pointimpl_Point g :=
  fn_ok tab_ok (env_cons (f := 150) h0 rfl env_nil) mix Try.func142 (by kernel_rfl) ex_slices_ContainsFuncimpl_Pointimpl_Point hg
/-- impl_IsLine -/
def sg_impl_IsLine : Sig := ⟨[.val false [(.lst 40 [(.int .i64), (.int .i64)])]], [(false, [.bool])]⟩
def pr_impl_IsLine : Prog :=
 (.chk 1
 (.chk 1
 (.join
  (.cond (.cmp .leq (.len (.var 0)) (.int 200))
   (.guard (.cmp .leq (.len (.var 0)) (.int 200)) true
   (.guard (.cmp .leq (.len (.var 0)) (.int 200)) true
   (.call 142 [(.var 0)] 1
   (.guard (.cmp .leq (.len (.var 0)) (.int 200)) true
   (.guard (.cmp .leq (.len (.var 0)) (.int 200)) true
   (.leaf (.vals 0 [(.not (.var 1))])))))))
   (.guard (.cmp .leq (.len (.var 0)) (.int 200)) false
   (.guard (.cmp .leq (.len (.var 0)) (.int 200)) false
   (.guard (.cmp .leq (.len (.var 0)) (.int 200)) false
   (.guard (.cmp .leq (.len (.var 0)) (.int 200)) false
   (.leaf (.vals 0 [(.bool false)])))))))
  (.alt
   (.chk 2
   (.leaf (.res [(.var 1)])))
   .stop))))
theorem ex_impl_IsLine : progOf tab [(142, sg_slices_ContainsFuncimpl_Pointimpl_Point)] Try.f109 sg_impl_IsLine = some pr_impl_IsLine := by kernel_rfl
abbrev n_impl_IsLine : Nat := 109
theorem mk_impl_IsLine {g0 : List U → Option (List U)}  (h0 : FnOK Try.prog 142 sg_slices_ContainsFuncimpl_Pointimpl_Point g0) {g : List U → Option (List U)} (hg : ∀ us rs, us.length = 1 → g us = some rs → wpP (fun k us => if 142 = k then g0 us else none) pr_impl_IsLine 0 us fun l η => ∃ es, l = .res es ∧ es.map (E.den η) = rs) : FnOK Try.prog 109 sg_impl_IsLine g :=
  fn_ok tab_ok (env_cons (f := 142) h0 rfl env_nil) mix Try.func109 (by kernel_rfl) ex_impl_IsLine hg
/-- impl_drawing -/
def sg_impl_drawing : Sig := ⟨[.val false [(.lst 107 [(.int .i64), (.lst 40 [(.int .i64), (.int .i64)])])]], [(false, [(.int .i64)])]⟩
def pr_impl_drawing : Prog :=
 (.chk 1
 (.chk 1
 (.chk 1
 (.chk 1
 (.loop [(.int 0)]
  (.chk 2
  (.chk 2
  (.cond (.cmp .lss (.var 1) (.len (.var 0)))
   (.chk 2
   (.guard (.cmp .leq (.int 0) (.var 1)) true
   (.guard (.cmp .lss (.var 1) (.len (.var 0))) true
   (.chk 2
   (.chk 2
   (.join
    (.call 97 [(.nth (.var 0) (.var 1) 0)] 1
    (.cond (.not (.var 2))
     (.guard (.not (.var 2)) true
     (.guard (.not (.var 2)) true
     (.guard (.not (.var 2)) true
     (.guard (.not (.var 2)) true
     (.guard (.not (.var 2)) true
     (.guard (.bool true) true
     (.guard (.bool true) true
     (.guard (.bool true) true
     (.guard (.bool true) true
     (.guard (.bool true) true
     (.leaf (.vals 0 [(.bool true)]))))))))))))
     (.guard (.not (.var 2)) false
     (.guard (.not (.var 2)) false
     (.guard (.not (.var 2)) false
     (.call 109 [(.nth (.var 0) (.var 1) 1)] 1
     (.guard (.not (.var 2)) false
     (.guard (.not (.var 2)) false
     (.cond (.not (.var 3))
      (.guard (.not (.var 3)) true
      (.guard (.not (.var 3)) true
      (.guard (.not (.var 3)) true
      (.guard (.not (.var 3)) true
      (.guard (.not (.var 3)) true
      (.leaf (.vals 0 [(.bool true)])))))))
      (.guard (.not (.var 3)) false
      (.guard (.not (.var 3)) false
      (.guard (.not (.var 3)) false
      (.guard (.not (.var 3)) false
      (.guard (.not (.var 3)) false
      (.leaf (.vals 0 [(.cmp .lss (.len (.nth (.var 0) (.var 1) 1)) (.int 2))]))))))))))))))))
    (.alt
     (.chk 3
     (.cond (.var 2)
      (.chk 3
      (.chk 3
      (.leaf (.vals 1 [(.var 1), (.cmp .lss (.var 1) (.len (.var 0))), (.var 2), (.nth (.var 0) (.var 1) 0), (.nth (.var 0) (.var 1) 1)]))))
      (.chk 3
      (.chk 3
      (.leaf (.vals 0 [(.ar .add .i64 (.var 1) (.int 1))]))))))
     .stop)))))))
   (.leaf (.vals 2 [(.var 1), (.cmp .lss (.var 1) (.len (.var 0)))])))))
  (.alt
   (.leaf (.res [(.int 1)]))
   (.alt
    (.chk 3
    (.chk 3
    (.chk 3
    (.cond (.cmp .gtr (.len (.var 0)) (.int 40))
     (.chk 3
     (.chk 3
     (.leaf (.res [(.int 3)]))))
     (.chk 3
     (.chk 3
     (.chk 3
     (.leaf (.res [(.int 0)])))))))))
    .stop)))))))
theorem ex_impl_drawing : progOf tab [(97, sg_impl_isPen), (109, sg_impl_IsLine)] Try.f84 sg_impl_drawing = some pr_impl_drawing := by kernel_rfl
abbrev n_impl_drawing : Nat := 84
theorem mk_impl_drawing {g0 g1 : List U → Option (List U)}  (h0 : FnOK Try.prog 97 sg_impl_isPen g0) (h1 : FnOK Try.prog 109 sg_impl_IsLine g1) {g : List U → Option (List U)} (hg : ∀ us rs, us.length = 1 → g us = some rs → wpP (fun k us => if 97 = k then g0 us else if 109 = k then g1 us else none) pr_impl_drawing 0 us fun l η => ∃ es, l = .res es ∧ es.map (E.den η) = rs) : FnOK Try.prog 84 sg_impl_drawing g :=
  fn_ok tab_ok (env_cons (f := 97) h0 rfl (env_cons (f := 109) h1 rfl env_nil)) mix Try.func84 (by kernel_rfl) ex_impl_drawing hg
/-- impl_IsDrawing -/
def sg_impl_IsDrawing : Sig := ⟨[.val false [(.lst 107 [(.int .i64), (.lst 40 [(.int .i64), (.int .i64)])])]], [(false, [.bool])]⟩
def pr_impl_IsDrawing : Prog :=
 (.chk 1
 (.chk 1
 (.call 84 [(.var 0)] 1
 (.chk 2
 (.chk 2
 (.leaf (.res [(.cmp .eql (.var 1) (.int 0))])))))))
theorem ex_impl_IsDrawing : progOf tab [(84, sg_impl_drawing)] Try.f24 sg_impl_IsDrawing = some pr_impl_IsDrawing := by kernel_rfl
abbrev n_impl_IsDrawing : Nat := 24
theorem mk_impl_IsDrawing {g0 : List U → Option (List U)}  (h0 : FnOK Try.prog 84 sg_impl_drawing g0) {g : List U → Option (List U)} (hg : ∀ us rs, us.length = 1 → g us = some rs → wpP (fun k us => if 84 = k then g0 us else none) pr_impl_IsDrawing 0 us fun l η => ∃ es, l = .res es ∧ es.map (E.den η) = rs) : FnOK Try.prog 24 sg_impl_IsDrawing g :=
  fn_ok tab_ok (env_cons (f := 84) h0 rfl env_nil) mix Try.func24 (by kernel_rfl) ex_impl_IsDrawing hg
/-- laws_eqPoint -/
def sg_laws_eqPoint : Sig := ⟨[.val true [(.int .i64), (.int .i64)], .val true [(.int .i64), (.int .i64)]], [(false, [.bool])]⟩
def pr_laws_eqPoint : Prog :=
 (.chk 4
 (.chk 4
 (.chk 4
 (.chk 4
 (.cond (.cmp .neq (.var 0) (.var 2))
  (.chk 4
  (.chk 4
  (.leaf (.res [(.bool false)]))))
  (.chk 4
  (.chk 4
  (.chk 4
  (.cond (.cmp .neq (.var 1) (.var 3))
   (.chk 4
   (.chk 4
   (.leaf (.res [(.bool false)]))))
   (.chk 4
   (.chk 4
   (.chk 4
   (.leaf (.res [(.bool true)]))))))))))))))
theorem ex_laws_eqPoint : progOf tab [] Try.f30 sg_laws_eqPoint = some pr_laws_eqPoint := by kernel_rfl
abbrev n_laws_eqPoint : Nat := 30
theorem mk_laws_eqPoint  {g : List U → Option (List U)} (hg : ∀ us rs, us.length = 4 → g us = some rs → wpP (fun _ _ => none) pr_laws_eqPoint 0 us fun l η => ∃ es, l = .res es ∧ es.map (E.den η) = rs) : FnOK Try.prog 30 sg_laws_eqPoint g :=
  fn_ok tab_ok env_nil mix Try.func30 (by kernel_rfl) ex_laws_eqPoint hg
/-- laws_eqPointS -/
def sg_laws_eqPointS : Sig := ⟨[.val false [(.lst 40 [(.int .i64), (.int .i64)])], .val false [(.lst 40 [(.int .i64), (.int .i64)])]], [(false, [.bool])]⟩
def pr_laws_eqPointS : Prog :=
 (.chk 2
 (.chk 2
 (.chk 2
 (.chk 2
 (.cond (.cmp .neq (.len (.var 0)) (.len (.var 1)))
  (.chk 2
  (.chk 2
  (.leaf (.res [(.bool false)]))))
  (.chk 2
  (.chk 2
  (.chk 2
  (.loop [(.int 0)]
   (.chk 3
   (.chk 3
   (.cond (.cmp .lss (.var 2) (.len (.var 0)))
    (.chk 3
    (.guard (.cmp .leq (.int 0) (.var 2)) true
    (.guard (.cmp .lss (.var 2) (.len (.var 0))) true
    (.guard (.cmp .leq (.int 0) (.var 2)) true
    (.guard (.cmp .lss (.var 2) (.len (.var 1))) true
    (.call 30 [(.nth (.var 0) (.var 2) 0), (.nth (.var 0) (.var 2) 1), (.nth (.var 1) (.var 2) 0), (.nth (.var 1) (.var 2) 1)] 1
    (.chk 4
    (.chk 4
    (.cond (.not (.var 3))
     (.chk 4
     (.chk 4
     (.leaf (.vals 1 [(.var 2), (.cmp .lss (.var 2) (.len (.var 0))), (.not (.var 3))]))))
     (.chk 4
     (.chk 4
     (.leaf (.vals 0 [(.ar .add .i64 (.var 2) (.int 1))])))))))))))))
    (.leaf (.vals 2 [(.var 2), (.cmp .lss (.var 2) (.len (.var 0)))])))))
   (.alt
    (.leaf (.res [(.bool false)]))
    (.alt
     (.chk 4
     (.chk 4
     (.chk 4
     (.leaf (.res [(.bool true)])))))
     .stop)))))))))))
theorem ex_laws_eqPointS : progOf tab [(30, sg_laws_eqPoint)] Try.f55 sg_laws_eqPointS = some pr_laws_eqPointS := by kernel_rfl
abbrev n_laws_eqPointS : Nat := 55
theorem mk_laws_eqPointS {g0 : List U → Option (List U)}  (h0 : FnOK Try.prog 30 sg_laws_eqPoint g0) {g : List U → Option (List U)} (hg : ∀ us rs, us.length = 2 → g us = some rs → wpP (fun k us => if 30 = k then g0 us else none) pr_laws_eqPointS 0 us fun l η => ∃ es, l = .res es ∧ es.map (E.den η) = rs) : FnOK Try.prog 55 sg_laws_eqPointS g :=
  fn_ok tab_ok (env_cons (f := 30) h0 rfl env_nil) mix Try.func55 (by kernel_rfl) ex_laws_eqPointS hg
/-- laws_eqStroke -/
def sg_laws_eqStroke : Sig := ⟨[.val true [(.int .i64), (.lst 40 [(.int .i64), (.int .i64)])], .val true [(.int .i64), (.lst 40 [(.int .i64), (.int .i64)])]], [(false, [.bool])]⟩
def pr_laws_eqStroke : Prog :=
 (.chk 4
 (.chk 4
 (.chk 4
 (.chk 4
 (.cond (.cmp .neq (.var 0) (.var 2))
  (.chk 4
  (.chk 4
  (.leaf (.res [(.bool false)]))))
  (.chk 4
  (.call 55 [(.var 1), (.var 3)] 1
  (.chk 5
  (.chk 5
  (.cond (.not (.var 4))
   (.chk 5
   (.chk 5
   (.leaf (.res [(.bool false)]))))
   (.chk 5
   (.chk 5
   (.chk 5
   (.leaf (.res [(.bool true)])))))))))))))))
theorem ex_laws_eqStroke : progOf tab [(55, sg_laws_eqPointS)] Try.f85 sg_laws_eqStroke = some pr_laws_eqStroke := by kernel_rfl
abbrev n_laws_eqStroke : Nat := 85
theorem mk_laws_eqStroke {g0 : List U → Option (List U)}  (h0 : FnOK Try.prog 55 sg_laws_eqPointS g0) {g : List U → Option (List U)} (hg : ∀ us rs, us.length = 4 → g us = some rs → wpP (fun k us => if 55 = k then g0 us else none) pr_laws_eqStroke 0 us fun l η => ∃ es, l = .res es ∧ es.map (E.den η) = rs) : FnOK Try.prog 85 sg_laws_eqStroke g :=
  fn_ok tab_ok (env_cons (f := 55) h0 rfl env_nil) mix Try.func85 (by kernel_rfl) ex_laws_eqStroke hg
/-- laws_eqStrokeS -/
def sg_laws_eqStrokeS : Sig := ⟨[.val false [(.lst 107 [(.int .i64), (.lst 40 [(.int .i64), (.int .i64)])])], .val false [(.lst 107 [(.int .i64), (.lst 40 [(.int .i64), (.int .i64)])])]], [(false, [.bool])]⟩
def pr_laws_eqStrokeS : Prog :=
 (.chk 2
 (.chk 2
 (.chk 2
 (.chk 2
 (.cond (.cmp .neq (.len (.var 0)) (.len (.var 1)))
  (.chk 2
  (.chk 2
  (.leaf (.res [(.bool false)]))))
  (.chk 2
  (.chk 2
  (.chk 2
  (.loop [(.int 0)]
   (.chk 3
   (.chk 3
   (.cond (.cmp .lss (.var 2) (.len (.var 0)))
    (.chk 3
    (.guard (.cmp .leq (.int 0) (.var 2)) true
    (.guard (.cmp .lss (.var 2) (.len (.var 0))) true
    (.guard (.cmp .leq (.int 0) (.var 2)) true
    (.guard (.cmp .lss (.var 2) (.len (.var 1))) true
    (.call 85 [(.nth (.var 0) (.var 2) 0), (.nth (.var 0) (.var 2) 1), (.nth (.var 1) (.var 2) 0), (.nth (.var 1) (.var 2) 1)] 1
    (.chk 4
    (.chk 4
    (.cond (.not (.var 3))
     (.chk 4
     (.chk 4
     (.leaf (.vals 1 [(.var 2), (.cmp .lss (.var 2) (.len (.var 0))), (.not (.var 3))]))))
     (.chk 4
     (.chk 4
     (.leaf (.vals 0 [(.ar .add .i64 (.var 2) (.int 1))])))))))))))))
    (.leaf (.vals 2 [(.var 2), (.cmp .lss (.var 2) (.len (.var 0)))])))))
   (.alt
    (.leaf (.res [(.bool false)]))
    (.alt
     (.chk 4
     (.chk 4
     (.chk 4
     (.leaf (.res [(.bool true)])))))
     .stop)))))))))))
theorem ex_laws_eqStrokeS : progOf tab [(85, sg_laws_eqStroke)] Try.f25 sg_laws_eqStrokeS = some pr_laws_eqStrokeS := by kernel_rfl
abbrev n_laws_eqStrokeS : Nat := 25
theorem mk_laws_eqStrokeS {g0 : List U → Option (List U)}  (h0 : FnOK Try.prog 85 sg_laws_eqStroke g0) {g : List U → Option (List U)} (hg : ∀ us rs, us.length = 2 → g us = some rs → wpP (fun k us => if 85 = k then g0 us else none) pr_laws_eqStrokeS 0 us fun l η => ∃ es, l = .res es ∧ es.map (E.den η) = rs) : FnOK Try.prog 25 sg_laws_eqStrokeS g :=
  fn_ok tab_ok (env_cons (f := 85) h0 rfl env_nil) mix Try.func25 (by kernel_rfl) ex_laws_eqStrokeS hg
/-- laws_FnExactIsDrawing -/
def sg_laws_FnExactIsDrawing : Sig := ⟨[.val false [(.lst 104 [(.int .i64), (.lst 39 [(.int .i64), (.int .i64)])])]], [(false, [.bool])]⟩
def pr_laws_FnExactIsDrawing : Prog :=
 (.chk 1
 (.chk 1
 (.chk 1
 (.chk 1
 (.call 21 [(.var 0), (.int 1048576)] 1
 (.chk 2
 (.chk 2
 (.chk 2
 (.chk 2
 (.cond (.cmp .lss (.var 1) (.int 0))
  (.chk 2
  (.chk 2
  (.leaf (.res [(.bool true)]))))
  (.chk 2
  (.call 23 [(.var 0)] 1
  (.call 22 [(.var 2)] 1
  (.chk 4
  (.chk 4
  (.call 23 [(.var 0)] 1
  (.chk 5
  (.chk 5
  (.call 24 [(.var 4)] 1
  (.chk 6
  (.chk 6
  (.chk 6
  (.chk 6
  (.cond (.not (.beq (.var 5) (.var 3)))
   (.chk 6
   (.chk 6
   (.leaf (.res [(.bool false)]))))
   (.chk 6
   (.call 23 [(.var 0)] 1
   (.call 25 [(.var 4), (.var 6)] 1
   (.chk 8
   (.chk 8
   (.cond (.not (.var 7))
    (.chk 8
    (.chk 8
    (.leaf (.res [(.bool false)]))))
    (.chk 8
    (.chk 8
    (.chk 8
    (.leaf (.res [(.bool true)])))))))))))))))))))))))))))))))))))
theorem ex_laws_FnExactIsDrawing : progOf tab [(21, sg_laws_szStrokeS), (23, sg_laws_toStrokeS), (22, sg_spec_IsDrawing), (24, sg_impl_IsDrawing), (25, sg_laws_eqStrokeS)] Try.f4 sg_laws_FnExactIsDrawing = some pr_laws_FnExactIsDrawing := by kernel_rfl
abbrev n_laws_FnExactIsDrawing : Nat := 4
theorem mk_laws_FnExactIsDrawing {g0 g1 g2 g3 g4 : List U → Option (List U)}  (h0 : FnOK Try.prog 21 sg_laws_szStrokeS g0) (h1 : FnOK Try.prog 23 sg_laws_toStrokeS g1) (h2 : FnOK Try.prog 22 sg_spec_IsDrawing g2) (h3 : FnOK Try.prog 24 sg_impl_IsDrawing g3) (h4 : FnOK Try.prog 25 sg_laws_eqStrokeS g4) {g : List U → Option (List U)} (hg : ∀ us rs, us.length = 1 → g us = some rs → wpP (fun k us => if 21 = k then g0 us else if 23 = k then g1 us else if 22 = k then g2 us else if 24 = k then g3 us else if 25 = k then g4 us else none) pr_laws_FnExactIsDrawing 0 us fun l η => ∃ es, l = .res es ∧ es.map (E.den η) = rs) : FnOK Try.prog 4 sg_laws_FnExactIsDrawing g :=
  fn_ok tab_ok (env_cons (f := 21) h0 rfl (env_cons (f := 23) h1 rfl (env_cons (f := 22) h2 rfl (env_cons (f := 24) h3 rfl (env_cons (f := 25) h4 rfl env_nil))))) mix Try.func4 (by kernel_rfl) ex_laws_FnExactIsDrawing hg
/-- spec_l28Changes -/
def sg_spec_l28Changes : Sig := ⟨[.val false [(.lst 107 [(.int .i64), (.lst 40 [(.int .i64), (.int .i64)])])]], [(false, [(.int .i64)])]⟩
def pr_spec_l28Changes : Prog :=
 (.chk 1
 (.chk 1
 (.chk 1
 (.chk 1
 (.chk 1
 (.chk 1
 (.loop [(.int 0), (.int 1)]
  (.chk 3
  (.chk 3
  (.cond (.cmp .lss (.var 2) (.len (.var 0)))
   (.chk 3
   (.join
    (.guard (.cmp .leq (.int 0) (.var 2)) true
    (.guard (.cmp .lss (.var 2) (.len (.var 0))) true
    (.guard (.cmp .leq (.int 0) (.ar .sub .i64 (.var 2) (.int 1))) true
    (.guard (.cmp .lss (.ar .sub .i64 (.var 2) (.int 1)) (.len (.var 0))) true
    (.chk 3
    (.chk 3
    (.cond (.cmp .neq (.nth (.var 0) (.var 2) 0) (.nth (.var 0) (.ar .sub .i64 (.var 2) (.int 1)) 0))
     (.chk 3
     (.leaf (.vals 0 [(.ar .add .i64 (.var 1) (.int 1))])))
     (.leaf (.vals 0 [(.var 1)])))))))))
    (.alt
     (.chk 4
     (.leaf (.vals 0 [(.var 3), (.ar .add .i64 (.var 2) (.int 1))])))
     .stop)))
   (.leaf (.vals 1 [(.var 1), (.var 2), (.cmp .lss (.var 2) (.len (.var 0)))])))))
  (.alt
   (.chk 4
   (.chk 4
   (.chk 4
   (.leaf (.res [(.var 1)])))))
   .stop))))))))
theorem ex_spec_l28Changes : progOf tab [] Try.f90 sg_spec_l28Changes = some pr_spec_l28Changes := by kernel_rfl
abbrev n_spec_l28Changes : Nat := 90
theorem mk_spec_l28Changes  {g : List U → Option (List U)} (hg : ∀ us rs, us.length = 1 → g us = some rs → wpP (fun _ _ => none) pr_spec_l28Changes 0 us fun l η => ∃ es, l = .res es ∧ es.map (E.den η) = rs) : FnOK Try.prog 90 sg_spec_l28Changes g :=
  fn_ok tab_ok env_nil mix Try.func90 (by kernel_rfl) ex_spec_l28Changes hg
/-- spec_PenChanges -/
def sg_spec_PenChanges : Sig := ⟨[.val false [(.lst 107 [(.int .i64), (.lst 40 [(.int .i64), (.int .i64)])])]], [(false, [(.int .i64)]), (false, [(.int .i64)])]⟩
def pr_spec_PenChanges : Prog :=
 (.chk 1
 (.chk 1
 (.call 82 [(.var 0)] 1
 (.chk 2
 (.chk 2
 (.chk 2
 (.chk 2
 (.cond (.cmp .neq (.var 1) (.int 0))
  (.chk 2
  (.chk 2
  (.leaf (.res [(.int 0), (.var 1)]))))
  (.chk 2
  (.call 90 [(.var 0)] 1
  (.chk 3
  (.chk 3
  (.leaf (.res [(.var 2), (.int 0)]))))))))))))))
theorem ex_spec_PenChanges : progOf tab [(82, sg_spec_l28Code), (90, sg_spec_l28Changes)] Try.f31 sg_spec_PenChanges = some pr_spec_PenChanges := by kernel_rfl
abbrev n_spec_PenChanges : Nat := 31
theorem mk_spec_PenChanges {g0 g1 : List U → Option (List U)}  (h0 : FnOK Try.prog 82 sg_spec_l28Code g0) (h1 : FnOK Try.prog 90 sg_spec_l28Changes g1) {g : List U → Option (List U)} (hg : ∀ us rs, us.length = 1 → g us = some rs → wpP (fun k us => if 82 = k then g0 us else if 90 = k then g1 us else none) pr_spec_PenChanges 0 us fun l η => ∃ es, l = .res es ∧ es.map (E.den η) = rs) : FnOK Try.prog 31 sg_spec_PenChanges g :=
  fn_ok tab_ok (env_cons (f := 82) h0 rfl (env_cons (f := 90) h1 rfl env_nil)) mix Try.func31 (by kernel_rfl) ex_spec_PenChanges hg
/-- impl_changes -/
def sg_impl_changes : Sig := ⟨[.val false [(.lst 107 [(.int .i64), (.lst 40 [(.int .i64), (.int .i64)])])]], [(false, [(.int .i64)])]⟩
def pr_impl_changes : Prog :=
 (.chk 1
 (.chk 1
 (.chk 1
 (.chk 1
 (.chk 1
 (.chk 1
 (.loop [(.int 0), (.int 1)]
  (.chk 3
  (.chk 3
  (.cond (.cmp .lss (.var 2) (.len (.var 0)))
   (.chk 3
   (.join
    (.guard (.cmp .leq (.int 0) (.var 2)) true
    (.guard (.cmp .lss (.var 2) (.len (.var 0))) true
    (.guard (.cmp .leq (.int 0) (.ar .sub .i64 (.var 2) (.int 1))) true
    (.guard (.cmp .lss (.ar .sub .i64 (.var 2) (.int 1)) (.len (.var 0))) true
    (.chk 3
    (.chk 3
    (.cond (.cmp .neq (.nth (.var 0) (.var 2) 0) (.nth (.var 0) (.ar .sub .i64 (.var 2) (.int 1)) 0))
     (.chk 3
     (.leaf (.vals 0 [(.ar .add .i64 (.var 1) (.int 1))])))
     (.leaf (.vals 0 [(.var 1)])))))))))
    (.alt
     (.chk 4
     (.leaf (.vals 0 [(.var 3), (.ar .add .i64 (.var 2) (.int 1))])))
     .stop)))
   (.leaf (.vals 1 [(.var 1), (.var 2), (.cmp .lss (.var 2) (.len (.var 0)))])))))
  (.alt
   (.chk 4
   (.chk 4
   (.chk 4
   (.leaf (.res [(.var 1)])))))
   .stop))))))))
theorem ex_impl_changes : progOf tab [] Try.f91 sg_impl_changes = some pr_impl_changes := by kernel_rfl
abbrev n_impl_changes : Nat := 91
theorem mk_impl_changes  {g : List U → Option (List U)} (hg : ∀ us rs, us.length = 1 → g us = some rs → wpP (fun _ _ => none) pr_impl_changes 0 us fun l η => ∃ es, l = .res es ∧ es.map (E.den η) = rs) : FnOK Try.prog 91 sg_impl_changes g :=
  fn_ok tab_ok env_nil mix Try.func91 (by kernel_rfl) ex_impl_changes hg
/-- impl_PenChanges -/
def sg_impl_PenChanges : Sig := ⟨[.val false [(.lst 107 [(.int .i64), (.lst 40 [(.int .i64), (.int .i64)])])]], [(false, [(.int .i64)]), (false, [(.int .i64)])]⟩
def pr_impl_PenChanges : Prog :=
 (.chk 1
 (.chk 1
 (.call 84 [(.var 0)] 1
 (.chk 2
 (.chk 2
 (.chk 2
 (.chk 2
 (.cond (.cmp .neq (.var 1) (.int 0))
  (.chk 2
  (.chk 2
  (.leaf (.res [(.int 0), (.var 1)]))))
  (.chk 2
  (.call 91 [(.var 0)] 1
  (.chk 3
  (.chk 3
  (.leaf (.res [(.var 2), (.int 0)]))))))))))))))
theorem ex_impl_PenChanges : progOf tab [(84, sg_impl_drawing), (91, sg_impl_changes)] Try.f32 sg_impl_PenChanges = some pr_impl_PenChanges := by kernel_rfl
abbrev n_impl_PenChanges : Nat := 32
theorem mk_impl_PenChanges {g0 g1 : List U → Option (List U)}  (h0 : FnOK Try.prog 84 sg_impl_drawing g0) (h1 : FnOK Try.prog 91 sg_impl_changes g1) {g : List U → Option (List U)} (hg : ∀ us rs, us.length = 1 → g us = some rs → wpP (fun k us => if 84 = k then g0 us else if 91 = k then g1 us else none) pr_impl_PenChanges 0 us fun l η => ∃ es, l = .res es ∧ es.map (E.den η) = rs) : FnOK Try.prog 32 sg_impl_PenChanges g :=
  fn_ok tab_ok (env_cons (f := 84) h0 rfl (env_cons (f := 91) h1 rfl env_nil)) mix Try.func32 (by kernel_rfl) ex_impl_PenChanges hg
/-- laws_FnExactPenChanges -/
def sg_laws_FnExactPenChanges : Sig := ⟨[.val false [(.lst 104 [(.int .i64), (.lst 39 [(.int .i64), (.int .i64)])])]], [(false, [.bool])]⟩
def pr_laws_FnExactPenChanges : Prog :=
 (.chk 1
 (.chk 1
 (.chk 1
 (.chk 1
 (.call 21 [(.var 0), (.int 1048576)] 1
 (.chk 2
 (.chk 2
 (.chk 2
 (.chk 2
 (.cond (.cmp .lss (.var 1) (.int 0))
  (.chk 2
  (.chk 2
  (.leaf (.res [(.bool true)]))))
  (.chk 2
  (.call 23 [(.var 0)] 1
  (.call 31 [(.var 2)] 2
  (.chk 5
  (.chk 5
  (.call 23 [(.var 0)] 1
  (.chk 6
  (.chk 6
  (.call 32 [(.var 5)] 2
  (.chk 8
  (.chk 8
  (.join
   (.cond (.cmp .neq (.var 6) (.var 3))
    (.guard (.cmp .neq (.var 6) (.var 3)) true
    (.guard (.cmp .neq (.var 6) (.var 3)) true
    (.guard (.cmp .neq (.var 6) (.var 3)) true
    (.guard (.cmp .neq (.var 6) (.var 3)) true
    (.leaf (.vals 0 [(.bool true)]))))))
    (.guard (.cmp .neq (.var 6) (.var 3)) false
    (.guard (.cmp .neq (.var 6) (.var 3)) false
    (.guard (.cmp .neq (.var 6) (.var 3)) false
    (.guard (.cmp .neq (.var 6) (.var 3)) false
    (.leaf (.vals 0 [(.cmp .neq (.var 7) (.var 4))])))))))
   (.alt
    (.chk 9
    (.cond (.var 8)
     (.chk 9
     (.chk 9
     (.leaf (.res [(.bool false)]))))
     (.chk 9
     (.call 23 [(.var 0)] 1
     (.call 25 [(.var 5), (.var 9)] 1
     (.chk 11
     (.chk 11
     (.cond (.not (.var 10))
      (.chk 11
      (.chk 11
      (.leaf (.res [(.bool false)]))))
      (.chk 11
      (.chk 11
      (.chk 11
      (.leaf (.res [(.bool true)])))))))))))))
    .stop)))))))))))))))))))))))
theorem ex_laws_FnExactPenChanges : progOf tab [(21, sg_laws_szStrokeS), (23, sg_laws_toStrokeS), (31, sg_spec_PenChanges), (32, sg_impl_PenChanges), (25, sg_laws_eqStrokeS)] Try.f6 sg_laws_FnExactPenChanges = some pr_laws_FnExactPenChanges := by kernel_rfl
abbrev n_laws_FnExactPenChanges : Nat := 6
theorem mk_laws_FnExactPenChanges {g0 g1 g2 g3 g4 : List U → Option (List U)}  (h0 : FnOK Try.prog 21 sg_laws_szStrokeS g0) (h1 : FnOK Try.prog 23 sg_laws_toStrokeS g1) (h2 : FnOK Try.prog 31 sg_spec_PenChanges g2) (h3 : FnOK Try.prog 32 sg_impl_PenChanges g3) (h4 : FnOK Try.prog 25 sg_laws_eqStrokeS g4) {g : List U → Option (List U)} (hg : ∀ us rs, us.length = 1 → g us = some rs → wpP (fun k us => if 21 = k then g0 us else if 23 = k then g1 us else if 31 = k then g2 us else if 32 = k then g3 us else if 25 = k then g4 us else none) pr_laws_FnExactPenChanges 0 us fun l η => ∃ es, l = .res es ∧ es.map (E.den η) = rs) : FnOK Try.prog 6 sg_laws_FnExactPenChanges g :=
  fn_ok tab_ok (env_cons (f := 21) h0 rfl (env_cons (f := 23) h1 rfl (env_cons (f := 31) h2 rfl (env_cons (f := 32) h3 rfl (env_cons (f := 25) h4 rfl env_nil))))) mix Try.func6 (by kernel_rfl) ex_laws_FnExactPenChanges hg
/-- spec_l16Square -/
def sg_spec_l16Square : Sig := ⟨[.val true [(.int .i64), (.int .i64)], .val true [(.int .i64), (.int .i64)]], [(false, [(.int .i64)])]⟩
def pr_spec_l16Square : Prog :=
 (.chk 4
 (.chk 4
 (.chk 4
 (.chk 4
 (.leaf (.res [(.ar .add .i64 (.ar .mul .i64 (.ar .sub .i64 (.var 0) (.var 2)) (.ar .sub .i64 (.var 0) (.var 2))) (.ar .mul .i64 (.ar .sub .i64 (.var 1) (.var 3)) (.ar .sub .i64 (.var 1) (.var 3))))]))))))
theorem ex_spec_l16Square : progOf tab [] Try.f136 sg_spec_l16Square = some pr_spec_l16Square := by kernel_rfl
abbrev n_spec_l16Square : Nat := 136
theorem mk_spec_l16Square  {g : List U → Option (List U)} (hg : ∀ us rs, us.length = 4 → g us = some rs → wpP (fun _ _ => none) pr_spec_l16Square 0 us fun l η => ∃ es, l = .res es ∧ es.map (E.den η) = rs) : FnOK Try.prog 136 sg_spec_l16Square g :=
  fn_ok tab_ok env_nil mix Try.func136 (by kernel_rfl) ex_spec_l16Square hg
/-- spec_l01Root -/
def sg_spec_l01Root : Sig := ⟨[.val false [(.int .i64)]], [(false, [(.int .i64)])]⟩
def pr_spec_l01Root : Prog :=
 (.chk 1
 (.chk 1
 (.chk 1
 (.chk 1
 (.loop [(.int 0), (.int 2000000001)]
  (.chk 3
  (.chk 3
  (.cond (.cmp .gtr (.ar .sub .i64 (.var 2) (.var 1)) (.int 1))
   (.chk 3
   (.chk 3
   (.chk 3
   (.chk 3
   (.chk 3
   (.cond (.cmp .leq (.ar .mul .i64 (.ar .quo .i64 (.ar .add .i64 (.var 1) (.var 2)) (.int 2)) (.ar .quo .i64 (.ar .add .i64 (.var 1) (.var 2)) (.int 2))) (.var 0))
    (.chk 3
    (.leaf (.vals 0 [(.ar .quo .i64 (.ar .add .i64 (.var 1) (.var 2)) (.int 2)), (.var 2)])))
    (.chk 3
    (.leaf (.vals 0 [(.var 1), (.ar .quo .i64 (.ar .add .i64 (.var 1) (.var 2)) (.int 2))])))))))))
   (.leaf (.vals 1 [(.var 1), (.var 2), (.cmp .gtr (.ar .sub .i64 (.var 2) (.var 1)) (.int 1))])))))
  (.alt
   (.chk 4
   (.chk 4
   (.chk 4
   (.leaf (.res [(.var 1)])))))
   .stop))))))
theorem ex_spec_l01Root : progOf tab [] Try.f135 sg_spec_l01Root = some pr_spec_l01Root := by kernel_rfl
abbrev n_spec_l01Root : Nat := 135
theorem mk_spec_l01Root  {g : List U → Option (List U)} (hg : ∀ us rs, us.length = 1 → g us = some rs → wpP (fun _ _ => none) pr_spec_l01Root 0 us fun l η => ∃ es, l = .res es ∧ es.map (E.den η) = rs) : FnOK Try.prog 135 sg_spec_l01Root g :=
  fn_ok tab_ok env_nil mix Try.func135 (by kernel_rfl) ex_spec_l01Root hg
/-- spec_l28Idle -/
def sg_spec_l28Idle : Sig := ⟨[.val false [(.lst 107 [(.int .i64), (.lst 40 [(.int .i64), (.int .i64)])])]], [(false, [(.int .i64)])]⟩
def pr_spec_l28Idle : Prog :=
 (.chk 1
 (.chk 1
 (.chk 1
 (.chk 1
 (.chk 1
 (.chk 1
 (.chk 1
 (.chk 1
 (.loop [(.int 0), (.int 0), (.int 0), (.int 0)]
  (.chk 5
  (.chk 5
  (.cond (.cmp .lss (.var 2) (.len (.var 0)))
   (.chk 5
   (.guard (.cmp .leq (.int 0) (.var 2)) true
   (.guard (.cmp .lss (.var 2) (.len (.var 0))) true
   (.chk 5
   (.chk 5
   (.guard (.cmp .leq (.int 0) (.int 0)) true
   (.guard (.cmp .lss (.int 0) (.len (.nth (.var 0) (.var 2) 1))) true
   (.call 136 [(.var 3), (.var 4), (.nth (.nth (.var 0) (.var 2) 1) (.int 0) 0), (.nth (.nth (.var 0) (.var 2) 1) (.int 0) 1)] 1
   (.call 135 [(.var 5)] 1
   (.chk 7
   (.chk 7
   (.guard (.cmp .leq (.int 0) (.ar .sub .i64 (.len (.nth (.var 0) (.var 2) 1)) (.int 1))) true
   (.guard (.cmp .lss (.ar .sub .i64 (.len (.nth (.var 0) (.var 2) 1)) (.int 1)) (.len (.nth (.var 0) (.var 2) 1))) true
   (.chk 7
   (.chk 7
   (.chk 7
   (.leaf (.vals 0 [(.ar .add .i64 (.var 1) (.var 6)), (.ar .add .i64 (.var 2) (.int 1)), (.nth (.nth (.var 0) (.var 2) 1) (.ar .sub .i64 (.len (.nth (.var 0) (.var 2) 1)) (.int 1)) 0), (.nth (.nth (.var 0) (.var 2) 1) (.ar .sub .i64 (.len (.nth (.var 0) (.var 2) 1)) (.int 1)) 1)]))))))))))))))))))
   (.leaf (.vals 1 [(.var 1), (.var 2), (.cmp .lss (.var 2) (.len (.var 0))), (.var 3), (.var 4)])))))
  (.alt
   (.chk 6
   (.chk 6
   (.chk 6
   (.leaf (.res [(.var 1)])))))
   .stop))))))))))
theorem ex_spec_l28Idle : progOf tab [(136, sg_spec_l16Square), (135, sg_spec_l01Root)] Try.f92 sg_spec_l28Idle = some pr_spec_l28Idle := by kernel_rfl
abbrev n_spec_l28Idle : Nat := 92
theorem mk_spec_l28Idle {g0 g1 : List U → Option (List U)}  (h0 : FnOK Try.prog 136 sg_spec_l16Square g0) (h1 : FnOK Try.prog 135 sg_spec_l01Root g1) {g : List U → Option (List U)} (hg : ∀ us rs, us.length = 1 → g us = some rs → wpP (fun k us => if 136 = k then g0 us else if 135 = k then g1 us else none) pr_spec_l28Idle 0 us fun l η => ∃ es, l = .res es ∧ es.map (E.den η) = rs) : FnOK Try.prog 92 sg_spec_l28Idle g :=
  fn_ok tab_ok (env_cons (f := 136) h0 rfl (env_cons (f := 135) h1 rfl env_nil)) mix Try.func92 (by kernel_rfl) ex_spec_l28Idle hg
/-- spec_IdleWay -/
def sg_spec_IdleWay : Sig := ⟨[.val false [(.lst 107 [(.int .i64), (.lst 40 [(.int .i64), (.int .i64)])])]], [(false, [(.int .i64)]), (false, [(.int .i64)])]⟩
def pr_spec_IdleWay : Prog :=
 (.chk 1
 (.chk 1
 (.call 82 [(.var 0)] 1
 (.chk 2
 (.chk 2
 (.chk 2
 (.chk 2
 (.cond (.cmp .neq (.var 1) (.int 0))
  (.chk 2
  (.chk 2
  (.leaf (.res [(.int 0), (.var 1)]))))
  (.chk 2
  (.call 92 [(.var 0)] 1
  (.chk 3
  (.chk 3
  (.leaf (.res [(.var 2), (.int 0)]))))))))))))))
theorem ex_spec_IdleWay : progOf tab [(82, sg_spec_l28Code), (92, sg_spec_l28Idle)] Try.f33 sg_spec_IdleWay = some pr_spec_IdleWay := by kernel_rfl
abbrev n_spec_IdleWay : Nat := 33
theorem mk_spec_IdleWay {g0 g1 : List U → Option (List U)}  (h0 : FnOK Try.prog 82 sg_spec_l28Code g0) (h1 : FnOK Try.prog 92 sg_spec_l28Idle g1) {g : List U → Option (List U)} (hg : ∀ us rs, us.length = 1 → g us = some rs → wpP (fun k us => if 82 = k then g0 us else if 92 = k then g1 us else none) pr_spec_IdleWay 0 us fun l η => ∃ es, l = .res es ∧ es.map (E.den η) = rs) : FnOK Try.prog 33 sg_spec_IdleWay g :=
  fn_ok tab_ok (env_cons (f := 82) h0 rfl (env_cons (f := 92) h1 rfl env_nil)) mix Try.func33 (by kernel_rfl) ex_spec_IdleWay hg
/-- impl_Stroke_first -/
def sg_impl_Stroke_first : Sig := ⟨[.val true [(.int .i64), (.lst 40 [(.int .i64), (.int .i64)])]], [(true, [(.int .i64), (.int .i64)])]⟩
def pr_impl_Stroke_first : Prog :=
 (.chk 2
 (.chk 2
 (.guard (.cmp .leq (.int 0) (.int 0)) true
 (.guard (.cmp .lss (.int 0) (.len (.var 1))) true
 (.chk 2
 (.chk 2
 (.leaf (.res [(.nth (.var 1) (.int 0) 0), (.nth (.var 1) (.int 0) 1)]))))))))
theorem ex_impl_Stroke_first : progOf tab [] Try.f138 sg_impl_Stroke_first = some pr_impl_Stroke_first := by kernel_rfl
abbrev n_impl_Stroke_first : Nat := 138
theorem mk_impl_Stroke_first  {g : List U → Option (List U)} (hg : ∀ us rs, us.length = 2 → g us = some rs → wpP (fun _ _ => none) pr_impl_Stroke_first 0 us fun l η => ∃ es, l = .res es ∧ es.map (E.den η) = rs) : FnOK Try.prog 138 sg_impl_Stroke_first g :=
  fn_ok tab_ok env_nil mix Try.func138 (by kernel_rfl) ex_impl_Stroke_first hg
/-- impl_Point_square -/
def sg_impl_Point_square : Sig := ⟨[.val true [(.int .i64), (.int .i64)], .val true [(.int .i64), (.int .i64)]], [(false, [(.int .i64)])]⟩
def pr_impl_Point_square : Prog :=
 (.chk 4
 (.chk 4
 (.chk 4
 (.chk 4
 (.leaf (.res [(.ar .add .i64 (.ar .mul .i64 (.ar .sub .i64 (.var 0) (.var 2)) (.ar .sub .i64 (.var 0) (.var 2))) (.ar .mul .i64 (.ar .sub .i64 (.var 1) (.var 3)) (.ar .sub .i64 (.var 1) (.var 3))))]))))))
theorem ex_impl_Point_square : progOf tab [] Try.f141 sg_impl_Point_square = some pr_impl_Point_square := by kernel_rfl
abbrev n_impl_Point_square : Nat := 141
theorem mk_impl_Point_square  {g : List U → Option (List U)} (hg : ∀ us rs, us.length = 4 → g us = some rs → wpP (fun _ _ => none) pr_impl_Point_square 0 us fun l η => ∃ es, l = .res es ∧ es.map (E.den η) = rs) : FnOK Try.prog 141 sg_impl_Point_square g :=
  fn_ok tab_ok env_nil mix Try.func141 (by kernel_rfl) ex_impl_Point_square hg
/-- impl_root -/
def sg_impl_root : Sig := ⟨[.val false [(.int .i64)]], [(false, [(.int .i64)])]⟩
def pr_impl_root : Prog :=
 (.chk 1
 (.chk 1
 (.chk 1
 (.chk 1
 (.loop [(.int 0), (.int 2000000001)]
  (.chk 3
  (.chk 3
  (.cond (.cmp .gtr (.ar .sub .i64 (.var 2) (.var 1)) (.int 1))
   (.chk 3
   (.chk 3
   (.chk 3
   (.chk 3
   (.chk 3
   (.cond (.cmp .leq (.ar .mul .i64 (.ar .quo .i64 (.ar .add .i64 (.var 1) (.var 2)) (.int 2)) (.ar .quo .i64 (.ar .add .i64 (.var 1) (.var 2)) (.int 2))) (.var 0))
    (.chk 3
    (.leaf (.vals 0 [(.ar .quo .i64 (.ar .add .i64 (.var 1) (.var 2)) (.int 2)), (.var 2)])))
    (.chk 3
    (.leaf (.vals 0 [(.var 1), (.ar .quo .i64 (.ar .add .i64 (.var 1) (.var 2)) (.int 2))])))))))))
   (.leaf (.vals 1 [(.var 1), (.var 2), (.cmp .gtr (.ar .sub .i64 (.var 2) (.var 1)) (.int 1))])))))
  (.alt
   (.chk 4
   (.chk 4
   (.chk 4
   (.leaf (.res [(.var 1)])))))
   .stop))))))
theorem ex_impl_root : progOf tab [] Try.f140 sg_impl_root = some pr_impl_root := by kernel_rfl
abbrev n_impl_root : Nat := 140
theorem mk_impl_root  {g : List U → Option (List U)} (hg : ∀ us rs, us.length = 1 → g us = some rs → wpP (fun _ _ => none) pr_impl_root 0 us fun l η => ∃ es, l = .res es ∧ es.map (E.den η) = rs) : FnOK Try.prog 140 sg_impl_root g :=
  fn_ok tab_ok env_nil mix Try.func140 (by kernel_rfl) ex_impl_root hg
/-- impl_distance -/
def sg_impl_distance : Sig := ⟨[.val true [(.int .i64), (.int .i64)], .val true [(.int .i64), (.int .i64)]], [(false, [(.int .i64)])]⟩
def pr_impl_distance : Prog :=
 (.chk 4
 (.chk 4
 (.call 141 [(.var 0), (.var 1), (.var 2), (.var 3)] 1
 (.call 140 [(.var 4)] 1
 (.chk 6
 (.chk 6
 (.leaf (.res [(.var 5)]))))))))
theorem ex_impl_distance : progOf tab [(141, sg_impl_Point_square), (140, sg_impl_root)] Try.f137 sg_impl_distance = some pr_impl_distance := by kernel_rfl
abbrev n_impl_distance : Nat := 137
theorem mk_impl_distance {g0 g1 : List U → Option (List U)}  (h0 : FnOK Try.prog 141 sg_impl_Point_square g0) (h1 : FnOK Try.prog 140 sg_impl_root g1) {g : List U → Option (List U)} (hg : ∀ us rs, us.length = 4 → g us = some rs → wpP (fun k us => if 141 = k then g0 us else if 140 = k then g1 us else none) pr_impl_distance 0 us fun l η => ∃ es, l = .res es ∧ es.map (E.den η) = rs) : FnOK Try.prog 137 sg_impl_distance g :=
  fn_ok tab_ok (env_cons (f := 141) h0 rfl (env_cons (f := 140) h1 rfl env_nil)) mix Try.func137 (by kernel_rfl) ex_impl_distance hg
/-- impl_Stroke_last -/
def sg_impl_Stroke_last : Sig := ⟨[.val true [(.int .i64), (.lst 40 [(.int .i64), (.int .i64)])]], [(true, [(.int .i64), (.int .i64)])]⟩
def pr_impl_Stroke_last : Prog :=
 (.chk 2
 (.chk 2
 (.guard (.cmp .leq (.int 0) (.ar .sub .i64 (.len (.var 1)) (.int 1))) true
 (.guard (.cmp .lss (.ar .sub .i64 (.len (.var 1)) (.int 1)) (.len (.var 1))) true
 (.chk 2
 (.chk 2
 (.leaf (.res [(.nth (.var 1) (.ar .sub .i64 (.len (.var 1)) (.int 1)) 0), (.nth (.var 1) (.ar .sub .i64 (.len (.var 1)) (.int 1)) 1)]))))))))
theorem ex_impl_Stroke_last : progOf tab [] Try.f139 sg_impl_Stroke_last = some pr_impl_Stroke_last := by kernel_rfl
abbrev n_impl_Stroke_last : Nat := 139
theorem mk_impl_Stroke_last  {g : List U → Option (List U)} (hg : ∀ us rs, us.length = 2 → g us = some rs → wpP (fun _ _ => none) pr_impl_Stroke_last 0 us fun l η => ∃ es, l = .res es ∧ es.map (E.den η) = rs) : FnOK Try.prog 139 sg_impl_Stroke_last g :=
  fn_ok tab_ok env_nil mix Try.func139 (by kernel_rfl) ex_impl_Stroke_last hg
/-- impl_idle -/
def sg_impl_idle : Sig := ⟨[.val false [(.lst 107 [(.int .i64), (.lst 40 [(.int .i64), (.int .i64)])])]], [(false, [(.int .i64)])]⟩
def pr_impl_idle : Prog :=
 (.chk 1
 (.chk 1
 (.chk 1
 (.chk 1
 (.chk 1
 (.chk 1
 (.loop [(.int 0), (.int 0), (.int 0), (.int 0)]
  (.chk 5
  (.chk 5
  (.cond (.cmp .lss (.var 2) (.len (.var 0)))
   (.chk 5
   (.guard (.cmp .leq (.int 0) (.var 2)) true
   (.guard (.cmp .lss (.var 2) (.len (.var 0))) true
   (.chk 5
   (.chk 5
   (.call 138 [(.nth (.var 0) (.var 2) 0), (.nth (.var 0) (.var 2) 1)] 2
   (.call 137 [(.var 3), (.var 4), (.var 5), (.var 6)] 1
   (.chk 8
   (.chk 8
   (.call 139 [(.nth (.var 0) (.var 2) 0), (.nth (.var 0) (.var 2) 1)] 2
   (.chk 10
   (.chk 10
   (.chk 10
   (.leaf (.vals 0 [(.ar .add .i64 (.var 1) (.var 7)), (.ar .add .i64 (.var 2) (.int 1)), (.var 8), (.var 9)])))))))))))))))
   (.leaf (.vals 1 [(.var 1), (.var 2), (.cmp .lss (.var 2) (.len (.var 0))), (.var 3), (.var 4)])))))
  (.alt
   (.chk 6
   (.chk 6
   (.chk 6
   (.leaf (.res [(.var 1)])))))
   .stop))))))))
theorem ex_impl_idle : progOf tab [(138, sg_impl_Stroke_first), (137, sg_impl_distance), (139, sg_impl_Stroke_last)] Try.f93 sg_impl_idle = some pr_impl_idle := by kernel_rfl
abbrev n_impl_idle : Nat := 93
theorem mk_impl_idle {g0 g1 g2 : List U → Option (List U)}  (h0 : FnOK Try.prog 138 sg_impl_Stroke_first g0) (h1 : FnOK Try.prog 137 sg_impl_distance g1) (h2 : FnOK Try.prog 139 sg_impl_Stroke_last g2) {g : List U → Option (List U)} (hg : ∀ us rs, us.length = 1 → g us = some rs → wpP (fun k us => if 138 = k then g0 us else if 137 = k then g1 us else if 139 = k then g2 us else none) pr_impl_idle 0 us fun l η => ∃ es, l = .res es ∧ es.map (E.den η) = rs) : FnOK Try.prog 93 sg_impl_idle g :=
  fn_ok tab_ok (env_cons (f := 138) h0 rfl (env_cons (f := 137) h1 rfl (env_cons (f := 139) h2 rfl env_nil))) mix Try.func93 (by kernel_rfl) ex_impl_idle hg
/-- impl_IdleWay -/
def sg_impl_IdleWay : Sig := ⟨[.val false [(.lst 107 [(.int .i64), (.lst 40 [(.int .i64), (.int .i64)])])]], [(false, [(.int .i64)]), (false, [(.int .i64)])]⟩
def pr_impl_IdleWay : Prog :=
 (.chk 1
 (.chk 1
 (.call 84 [(.var 0)] 1
 (.chk 2
 (.chk 2
 (.chk 2
 (.chk 2
 (.cond (.cmp .neq (.var 1) (.int 0))
  (.chk 2
  (.chk 2
  (.leaf (.res [(.int 0), (.var 1)]))))
  (.chk 2
  (.call 93 [(.var 0)] 1
  (.chk 3
  (.chk 3
  (.leaf (.res [(.var 2), (.int 0)]))))))))))))))
theorem ex_impl_IdleWay : progOf tab [(84, sg_impl_drawing), (93, sg_impl_idle)] Try.f34 sg_impl_IdleWay = some pr_impl_IdleWay := by kernel_rfl
abbrev n_impl_IdleWay : Nat := 34
theorem mk_impl_IdleWay {g0 g1 : List U → Option (List U)}  (h0 : FnOK Try.prog 84 sg_impl_drawing g0) (h1 : FnOK Try.prog 93 sg_impl_idle g1) {g : List U → Option (List U)} (hg : ∀ us rs, us.length = 1 → g us = some rs → wpP (fun k us => if 84 = k then g0 us else if 93 = k then g1 us else none) pr_impl_IdleWay 0 us fun l η => ∃ es, l = .res es ∧ es.map (E.den η) = rs) : FnOK Try.prog 34 sg_impl_IdleWay g :=
  fn_ok tab_ok (env_cons (f := 84) h0 rfl (env_cons (f := 93) h1 rfl env_nil)) mix Try.func34 (by kernel_rfl) ex_impl_IdleWay hg
/-- laws_FnExactIdleWay -/
def sg_laws_FnExactIdleWay : Sig := ⟨[.val false [(.lst 104 [(.int .i64), (.lst 39 [(.int .i64), (.int .i64)])])]], [(false, [.bool])]⟩
def pr_laws_FnExactIdleWay : Prog :=
 (.chk 1
 (.chk 1
 (.chk 1
 (.chk 1
 (.call 21 [(.var 0), (.int 1048576)] 1
 (.chk 2
 (.chk 2
 (.chk 2
 (.chk 2
 (.cond (.cmp .lss (.var 1) (.int 0))
  (.chk 2
  (.chk 2
  (.leaf (.res [(.bool true)]))))
  (.chk 2
  (.call 23 [(.var 0)] 1
  (.call 33 [(.var 2)] 2
  (.chk 5
  (.chk 5
  (.call 23 [(.var 0)] 1
  (.chk 6
  (.chk 6
  (.call 34 [(.var 5)] 2
  (.chk 8
  (.chk 8
  (.join
   (.cond (.cmp .neq (.var 6) (.var 3))
    (.guard (.cmp .neq (.var 6) (.var 3)) true
    (.guard (.cmp .neq (.var 6) (.var 3)) true
    (.guard (.cmp .neq (.var 6) (.var 3)) true
    (.guard (.cmp .neq (.var 6) (.var 3)) true
    (.leaf (.vals 0 [(.bool true)]))))))
    (.guard (.cmp .neq (.var 6) (.var 3)) false
    (.guard (.cmp .neq (.var 6) (.var 3)) false
    (.guard (.cmp .neq (.var 6) (.var 3)) false
    (.guard (.cmp .neq (.var 6) (.var 3)) false
    (.leaf (.vals 0 [(.cmp .neq (.var 7) (.var 4))])))))))
   (.alt
    (.chk 9
    (.cond (.var 8)
     (.chk 9
     (.chk 9
     (.leaf (.res [(.bool false)]))))
     (.chk 9
     (.call 23 [(.var 0)] 1
     (.call 25 [(.var 5), (.var 9)] 1
     (.chk 11
     (.chk 11
     (.cond (.not (.var 10))
      (.chk 11
      (.chk 11
      (.leaf (.res [(.bool false)]))))
      (.chk 11
      (.chk 11
      (.chk 11
      (.leaf (.res [(.bool true)])))))))))))))
    .stop)))))))))))))))))))))))
theorem ex_laws_FnExactIdleWay : progOf tab [(21, sg_laws_szStrokeS), (23, sg_laws_toStrokeS), (33, sg_spec_IdleWay), (34, sg_impl_IdleWay), (25, sg_laws_eqStrokeS)] Try.f7 sg_laws_FnExactIdleWay = some pr_laws_FnExactIdleWay := by kernel_rfl
abbrev n_laws_FnExactIdleWay : Nat := 7
theorem mk_laws_FnExactIdleWay {g0 g1 g2 g3 g4 : List U → Option (List U)}  (h0 : FnOK Try.prog 21 sg_laws_szStrokeS g0) (h1 : FnOK Try.prog 23 sg_laws_toStrokeS g1) (h2 : FnOK Try.prog 33 sg_spec_IdleWay g2) (h3 : FnOK Try.prog 34 sg_impl_IdleWay g3) (h4 : FnOK Try.prog 25 sg_laws_eqStrokeS g4) {g : List U → Option (List U)} (hg : ∀ us rs, us.length = 1 → g us = some rs → wpP (fun k us => if 21 = k then g0 us else if 23 = k then g1 us else if 33 = k then g2 us else if 34 = k then g3 us else if 25 = k then g4 us else none) pr_laws_FnExactIdleWay 0 us fun l η => ∃ es, l = .res es ∧ es.map (E.den η) = rs) : FnOK Try.prog 7 sg_laws_FnExactIdleWay g :=
  fn_ok tab_ok (env_cons (f := 21) h0 rfl (env_cons (f := 23) h1 rfl (env_cons (f := 33) h2 rfl (env_cons (f := 34) h3 rfl (env_cons (f := 25) h4 rfl env_nil))))) mix Try.func7 (by kernel_rfl) ex_laws_FnExactIdleWay hg
/-- spec_LineLength -/
def sg_spec_LineLength : Sig := ⟨[.val false [(.lst 40 [(.int .i64), (.int .i64)])]], [(false, [(.int .i64)]), (false, [(.int .i64)])]⟩
def pr_spec_LineLength : Prog :=
 (.chk 1
 (.chk 1
 (.call 128 [(.var 0)] 1
 (.chk 2
 (.chk 2
 (.cond (.not (.var 1))
  (.chk 2
  (.chk 2
  (.leaf (.res [(.int 0), (.int 1)]))))
  (.chk 2
  (.chk 2
  (.chk 2
  (.chk 2
  (.chk 2
  (.loop [(.int 0), (.int 1)]
   (.chk 4
   (.chk 4
   (.cond (.cmp .lss (.var 3) (.len (.var 0)))
    (.chk 4
    (.guard (.cmp .leq (.int 0) (.ar .sub .i64 (.var 3) (.int 1))) true
    (.guard (.cmp .lss (.ar .sub .i64 (.var 3) (.int 1)) (.len (.var 0))) true
    (.guard (.cmp .leq (.int 0) (.var 3)) true
    (.guard (.cmp .lss (.var 3) (.len (.var 0))) true
    (.call 136 [(.nth (.var 0) (.ar .sub .i64 (.var 3) (.int 1)) 0), (.nth (.var 0) (.ar .sub .i64 (.var 3) (.int 1)) 1), (.nth (.var 0) (.var 3) 0), (.nth (.var 0) (.var 3) 1)] 1
    (.call 135 [(.var 4)] 1
    (.chk 6
    (.chk 6
    (.chk 6
    (.leaf (.vals 0 [(.ar .add .i64 (.var 2) (.var 5)), (.ar .add .i64 (.var 3) (.int 1))]))))))))))))
    (.leaf (.vals 1 [(.var 2), (.var 3), (.cmp .lss (.var 3) (.len (.var 0)))])))))
   (.alt
    (.chk 5
    (.chk 5
    (.chk 5
    (.leaf (.res [(.var 2), (.int 0)])))))
    .stop)))))))))))))
theorem ex_spec_LineLength : progOf tab [(128, sg_spec_IsLine), (136, sg_spec_l16Square), (135, sg_spec_l01Root)] Try.f94 sg_spec_LineLength = some pr_spec_LineLength := by kernel_rfl
abbrev n_spec_LineLength : Nat := 94
theorem mk_spec_LineLength {g0 g1 g2 : List U → Option (List U)}  (h0 : FnOK Try.prog 128 sg_spec_IsLine g0) (h1 : FnOK Try.prog 136 sg_spec_l16Square g1) (h2 : FnOK Try.prog 135 sg_spec_l01Root g2) {g : List U → Option (List U)} (hg : ∀ us rs, us.length = 1 → g us = some rs → wpP (fun k us => if 128 = k then g0 us else if 136 = k then g1 us else if 135 = k then g2 us else none) pr_spec_LineLength 0 us fun l η => ∃ es, l = .res es ∧ es.map (E.den η) = rs) : FnOK Try.prog 94 sg_spec_LineLength g :=
  fn_ok tab_ok (env_cons (f := 128) h0 rfl (env_cons (f := 136) h1 rfl (env_cons (f := 135) h2 rfl env_nil))) mix Try.func94 (by kernel_rfl) ex_spec_LineLength hg
/-- spec_DrawnLength -/
def sg_spec_DrawnLength : Sig := ⟨[.val false [(.lst 107 [(.int .i64), (.lst 40 [(.int .i64), (.int .i64)])])]], [(false, [(.int .i64)]), (false, [(.int .i64)])]⟩
def pr_spec_DrawnLength : Prog :=
 (.chk 1
 (.chk 1
 (.call 82 [(.var 0)] 1
 (.chk 2
 (.chk 2
 (.chk 2
 (.chk 2
 (.cond (.cmp .neq (.var 1) (.int 0))
  (.chk 2
  (.chk 2
  (.leaf (.res [(.int 0), (.var 1)]))))
  (.chk 2
  (.chk 2
  (.chk 2
  (.chk 2
  (.chk 2
  (.loop [(.int 0), (.int 0)]
   (.chk 4
   (.chk 4
   (.cond (.cmp .lss (.var 3) (.len (.var 0)))
    (.chk 4
    (.guard (.cmp .leq (.int 0) (.var 3)) true
    (.guard (.cmp .lss (.var 3) (.len (.var 0))) true
    (.call 94 [(.nth (.var 0) (.var 3) 1)] 2
    (.chk 6
    (.chk 6
    (.chk 6
    (.chk 6
    (.chk 6
    (.leaf (.vals 0 [(.ar .add .i64 (.var 2) (.var 4)), (.ar .add .i64 (.var 3) (.int 1))])))))))))))
    (.leaf (.vals 1 [(.var 2), (.var 3), (.cmp .lss (.var 3) (.len (.var 0)))])))))
   (.alt
    (.chk 5
    (.chk 5
    (.chk 5
    (.leaf (.res [(.var 2), (.int 0)])))))
    .stop)))))))))))))))
theorem ex_spec_DrawnLength : progOf tab [(82, sg_spec_l28Code), (94, sg_spec_LineLength)] Try.f35 sg_spec_DrawnLength = some pr_spec_DrawnLength := by kernel_rfl
abbrev n_spec_DrawnLength : Nat := 35
theorem mk_spec_DrawnLength {g0 g1 : List U → Option (List U)}  (h0 : FnOK Try.prog 82 sg_spec_l28Code g0) (h1 : FnOK Try.prog 94 sg_spec_LineLength g1) {g : List U → Option (List U)} (hg : ∀ us rs, us.length = 1 → g us = some rs → wpP (fun k us => if 82 = k then g0 us else if 94 = k then g1 us else none) pr_spec_DrawnLength 0 us fun l η => ∃ es, l = .res es ∧ es.map (E.den η) = rs) : FnOK Try.prog 35 sg_spec_DrawnLength g :=
  fn_ok tab_ok (env_cons (f := 82) h0 rfl (env_cons (f := 94) h1 rfl env_nil)) mix Try.func35 (by kernel_rfl) ex_spec_DrawnLength hg
/-- impl_length -/
def sg_impl_length : Sig := ⟨[.val false [(.lst 40 [(.int .i64), (.int .i64)])]], [(false, [(.int .i64)])]⟩
def pr_impl_length : Prog :=
 (.chk 1
 (.chk 1
 (.chk 1
 (.chk 1
 (.chk 1
 (.chk 1
 (.loop [(.int 0), (.int 1)]
  (.chk 3
  (.chk 3
  (.cond (.cmp .lss (.var 2) (.len (.var 0)))
   (.chk 3
   (.guard (.cmp .leq (.int 0) (.ar .sub .i64 (.var 2) (.int 1))) true
   (.guard (.cmp .lss (.ar .sub .i64 (.var 2) (.int 1)) (.len (.var 0))) true
   (.guard (.cmp .leq (.int 0) (.var 2)) true
   (.guard (.cmp .lss (.var 2) (.len (.var 0))) true
   (.call 141 [(.nth (.var 0) (.ar .sub .i64 (.var 2) (.int 1)) 0), (.nth (.var 0) (.ar .sub .i64 (.var 2) (.int 1)) 1), (.nth (.var 0) (.var 2) 0), (.nth (.var 0) (.var 2) 1)] 1
   (.call 140 [(.var 3)] 1
   (.chk 5
   (.chk 5
   (.chk 5
   (.leaf (.vals 0 [(.ar .add .i64 (.var 1) (.var 4)), (.ar .add .i64 (.var 2) (.int 1))]))))))))))))
   (.leaf (.vals 1 [(.var 1), (.var 2), (.cmp .lss (.var 2) (.len (.var 0)))])))))
  (.alt
   (.chk 4
   (.chk 4
   (.chk 4
   (.leaf (.res [(.var 1)])))))
   .stop))))))))
theorem ex_impl_length : progOf tab [(141, sg_impl_Point_square), (140, sg_impl_root)] Try.f95 sg_impl_length = some pr_impl_length := by kernel_rfl
abbrev n_impl_length : Nat := 95
theorem mk_impl_length {g0 g1 : List U → Option (List U)}  (h0 : FnOK Try.prog 141 sg_impl_Point_square g0) (h1 : FnOK Try.prog 140 sg_impl_root g1) {g : List U → Option (List U)} (hg : ∀ us rs, us.length = 1 → g us = some rs → wpP (fun k us => if 141 = k then g0 us else if 140 = k then g1 us else none) pr_impl_length 0 us fun l η => ∃ es, l = .res es ∧ es.map (E.den η) = rs) : FnOK Try.prog 95 sg_impl_length g :=
  fn_ok tab_ok (env_cons (f := 141) h0 rfl (env_cons (f := 140) h1 rfl env_nil)) mix Try.func95 (by kernel_rfl) ex_impl_length hg
/-- impl_DrawnLength -/
def sg_impl_DrawnLength : Sig := ⟨[.val false [(.lst 107 [(.int .i64), (.lst 40 [(.int .i64), (.int .i64)])])]], [(false, [(.int .i64)]), (false, [(.int .i64)])]⟩
def pr_impl_DrawnLength : Prog :=
 (.chk 1
 (.chk 1
 (.call 84 [(.var 0)] 1
 (.chk 2
 (.chk 2
 (.chk 2
 (.chk 2
 (.cond (.cmp .neq (.var 1) (.int 0))
  (.chk 2
  (.chk 2
  (.leaf (.res [(.int 0), (.var 1)]))))
  (.chk 2
  (.chk 2
  (.chk 2
  (.chk 2
  (.chk 2
  (.loop [(.int 0), (.int 0)]
   (.chk 4
   (.chk 4
   (.cond (.cmp .lss (.var 3) (.len (.var 0)))
    (.chk 4
    (.guard (.cmp .leq (.int 0) (.var 3)) true
    (.guard (.cmp .lss (.var 3) (.len (.var 0))) true
    (.chk 4
    (.chk 4
    (.call 95 [(.nth (.var 0) (.var 3) 1)] 1
    (.chk 5
    (.chk 5
    (.chk 5
    (.leaf (.vals 0 [(.ar .add .i64 (.var 2) (.var 4)), (.ar .add .i64 (.var 3) (.int 1))])))))))))))
    (.leaf (.vals 1 [(.var 2), (.var 3), (.cmp .lss (.var 3) (.len (.var 0)))])))))
   (.alt
    (.chk 5
    (.chk 5
    (.chk 5
    (.leaf (.res [(.var 2), (.int 0)])))))
    .stop)))))))))))))))
theorem ex_impl_DrawnLength : progOf tab [(84, sg_impl_drawing), (95, sg_impl_length)] Try.f36 sg_impl_DrawnLength = some pr_impl_DrawnLength := by kernel_rfl
abbrev n_impl_DrawnLength : Nat := 36
theorem mk_impl_DrawnLength {g0 g1 : List U → Option (List U)}  (h0 : FnOK Try.prog 84 sg_impl_drawing g0) (h1 : FnOK Try.prog 95 sg_impl_length g1) {g : List U → Option (List U)} (hg : ∀ us rs, us.length = 1 → g us = some rs → wpP (fun k us => if 84 = k then g0 us else if 95 = k then g1 us else none) pr_impl_DrawnLength 0 us fun l η => ∃ es, l = .res es ∧ es.map (E.den η) = rs) : FnOK Try.prog 36 sg_impl_DrawnLength g :=
  fn_ok tab_ok (env_cons (f := 84) h0 rfl (env_cons (f := 95) h1 rfl env_nil)) mix Try.func36 (by kernel_rfl) ex_impl_DrawnLength hg
/-- laws_FnExactDrawnLength -/
def sg_laws_FnExactDrawnLength : Sig := ⟨[.val false [(.lst 104 [(.int .i64), (.lst 39 [(.int .i64), (.int .i64)])])]], [(false, [.bool])]⟩
def pr_laws_FnExactDrawnLength : Prog :=
 (.chk 1
 (.chk 1
 (.chk 1
 (.chk 1
 (.call 21 [(.var 0), (.int 1048576)] 1
 (.chk 2
 (.chk 2
 (.chk 2
 (.chk 2
 (.cond (.cmp .lss (.var 1) (.int 0))
  (.chk 2
  (.chk 2
  (.leaf (.res [(.bool true)]))))
  (.chk 2
  (.call 23 [(.var 0)] 1
  (.call 35 [(.var 2)] 2
  (.chk 5
  (.chk 5
  (.call 23 [(.var 0)] 1
  (.chk 6
  (.chk 6
  (.call 36 [(.var 5)] 2
  (.chk 8
  (.chk 8
  (.join
   (.cond (.cmp .neq (.var 6) (.var 3))
    (.guard (.cmp .neq (.var 6) (.var 3)) true
    (.guard (.cmp .neq (.var 6) (.var 3)) true
    (.guard (.cmp .neq (.var 6) (.var 3)) true
    (.guard (.cmp .neq (.var 6) (.var 3)) true
    (.leaf (.vals 0 [(.bool true)]))))))
    (.guard (.cmp .neq (.var 6) (.var 3)) false
    (.guard (.cmp .neq (.var 6) (.var 3)) false
    (.guard (.cmp .neq (.var 6) (.var 3)) false
    (.guard (.cmp .neq (.var 6) (.var 3)) false
    (.leaf (.vals 0 [(.cmp .neq (.var 7) (.var 4))])))))))
   (.alt
    (.chk 9
    (.cond (.var 8)
     (.chk 9
     (.chk 9
     (.leaf (.res [(.bool false)]))))
     (.chk 9
     (.call 23 [(.var 0)] 1
     (.call 25 [(.var 5), (.var 9)] 1
     (.chk 11
     (.chk 11
     (.cond (.not (.var 10))
      (.chk 11
      (.chk 11
      (.leaf (.res [(.bool false)]))))
      (.chk 11
      (.chk 11
      (.chk 11
      (.leaf (.res [(.bool true)])))))))))))))
    .stop)))))))))))))))))))))))
theorem ex_laws_FnExactDrawnLength : progOf tab [(21, sg_laws_szStrokeS), (23, sg_laws_toStrokeS), (35, sg_spec_DrawnLength), (36, sg_impl_DrawnLength), (25, sg_laws_eqStrokeS)] Try.f8 sg_laws_FnExactDrawnLength = some pr_laws_FnExactDrawnLength := by kernel_rfl
abbrev n_laws_FnExactDrawnLength : Nat := 8
theorem mk_laws_FnExactDrawnLength {g0 g1 g2 g3 g4 : List U → Option (List U)}  (h0 : FnOK Try.prog 21 sg_laws_szStrokeS g0) (h1 : FnOK Try.prog 23 sg_laws_toStrokeS g1) (h2 : FnOK Try.prog 35 sg_spec_DrawnLength g2) (h3 : FnOK Try.prog 36 sg_impl_DrawnLength g3) (h4 : FnOK Try.prog 25 sg_laws_eqStrokeS g4) {g : List U → Option (List U)} (hg : ∀ us rs, us.length = 1 → g us = some rs → wpP (fun k us => if 21 = k then g0 us else if 23 = k then g1 us else if 35 = k then g2 us else if 36 = k then g3 us else if 25 = k then g4 us else none) pr_laws_FnExactDrawnLength 0 us fun l η => ∃ es, l = .res es ∧ es.map (E.den η) = rs) : FnOK Try.prog 8 sg_laws_FnExactDrawnLength g :=
  fn_ok tab_ok (env_cons (f := 21) h0 rfl (env_cons (f := 23) h1 rfl (env_cons (f := 35) h2 rfl (env_cons (f := 36) h3 rfl (env_cons (f := 25) h4 rfl env_nil))))) mix Try.func8 (by kernel_rfl) ex_laws_FnExactDrawnLength hg
end Go.Proofs.Ytjjnllklhcjomaa.Eng
