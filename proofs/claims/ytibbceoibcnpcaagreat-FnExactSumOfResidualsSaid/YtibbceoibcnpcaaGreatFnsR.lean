/- The functions' programs, printed by a program of ours. No condition. -/
import Derived.Test.YtibbceoibcnpcaaGreatEngY
import Derived.Test.YtibbceoibcnpcaaGreatChecked
import Derived.KernelRfl
namespace Go.Proofs.YtibbceoibcnpcaaGreat.Eng
open Go Go.Proofs.YtibbceoibcnpcaaGreat
def tab : Tab := [(2, ⟨1, 8, false, [(.int .i64)], (.int .i64)⟩),
  (3, ⟨1, 8, false, [(.int .i64)], (.int .i64)⟩),
  (4, ⟨1, 1, false, [.bool], .bool⟩),
  (5, ⟨1, 1, false, [(.int .u8)], (.int .u8)⟩),
  (6, ⟨1, 1, false, [(.int .u8)], (.int .u8)⟩),
  (7, ⟨4, 24, true, [(.int .i64), (.int .i64), .bool, (.int .u8)], (.struct [(2, 0), (3, 1), (4, 2), (6, 3)])⟩),
  (8, ⟨4, 24, true, [(.int .i64), (.int .i64), .bool, (.int .u8)], (.struct [(2, 0), (3, 1), (4, 2), (6, 3)])⟩),
  (9, ⟨1, 16, false, [.str], .str⟩),
  (10, ⟨1, 16, false, [.str], .str⟩),
  (11, ⟨1, 16, false, [.str], .str⟩),
  (12, ⟨1, 8, false, [(.int .u64)], (.int .u64)⟩),
  (13, ⟨2, 24, true, [.str, (.int .u64)], (.struct [(9, 0), (12, 1)])⟩),
  (14, ⟨2, 24, true, [.str, (.int .u64)], (.struct [(9, 0), (12, 1)])⟩),
  (21, ⟨1, 4, false, [(.int .i32)], (.int .i32)⟩),
  (22, ⟨1, 24, false, [(.lst 5 [(.int .u8)])], (.slice 5)⟩),
  (24, ⟨2, 16, true, [(.int .i64), (.int .i64)], (.struct [(2, 0), (2, 1)])⟩),
  (25, ⟨2, 16, true, [(.int .i64), (.int .i64)], (.struct [(2, 0), (2, 1)])⟩),
  (26, ⟨4, 32, true, [(.int .i64), (.int .i64), (.int .i64), (.int .i64)], (.struct [(2, 0), (25, 1), (2, 3)])⟩),
  (27, ⟨4, 32, true, [(.int .i64), (.int .i64), (.int .i64), (.int .i64)], (.struct [(2, 0), (25, 1), (2, 3)])⟩),
  (28, ⟨2, 16, true, [(.int .i64), (.int .i64)], (.struct [(2, 0), (2, 1)])⟩),
  (29, ⟨2, 16, true, [(.int .i64), (.int .i64)], (.struct [(2, 0), (2, 1)])⟩),
  (32, ⟨1, 24, false, [(.lst 2 [(.int .i64)])], (.slice 2)⟩),
  (38, ⟨1, 8, false, [(.int .u64)], (.int .u64)⟩),
  (40, ⟨2, 16, true, [(.int .i64), (.int .i64)], (.struct [(2, 0), (2, 1)])⟩),
  (41, ⟨2, 16, true, [(.int .i64), (.int .i64)], (.struct [(2, 0), (2, 1)])⟩),
  (42, ⟨4, 32, true, [(.int .i64), (.int .i64), (.int .i64), (.int .i64)], (.struct [(41, 0), (41, 2)])⟩),
  (43, ⟨4, 32, true, [(.int .i64), (.int .i64), (.int .i64), (.int .i64)], (.struct [(41, 0), (41, 2)])⟩),
  (49, ⟨2, 16, true, [(.int .i64), (.int .i64)], (.struct [(2, 0), (2, 1)])⟩),
  (50, ⟨4, 32, true, [(.int .i64), (.int .i64), (.int .i64), (.int .i64)], (.struct [(2, 0), (49, 1), (2, 3)])⟩),
  (51, ⟨4, 32, true, [(.int .i64), (.int .i64), (.int .i64), (.int .i64)], (.struct [(2, 0), (49, 1), (2, 3)])⟩),
  (52, ⟨1, 24, false, [(.lst 129 [(.int .i64), (.int .i64), (.int .i64), (.int .i64)])], (.slice 129)⟩),
  (57, ⟨1, 24, false, [(.lst 104 [(.int .i64), (.int .i64), (.int .i64), (.int .i64)])], (.slice 104)⟩),
  (73, ⟨1, 24, false, [(.lst 43 [(.int .i64), (.int .i64), (.int .i64), (.int .i64)])], (.slice 43)⟩),
  (87, ⟨5, 40, true, [(.int .i64), (.int .i64), (.int .i64), (.int .i64), (.int .i64)], (.struct [(49, 0), (49, 2), (2, 4)])⟩),
  (88, ⟨5, 40, true, [(.int .i64), (.int .i64), (.int .i64), (.int .i64), (.int .i64)], (.struct [(49, 0), (49, 2), (2, 4)])⟩),
  (90, ⟨5, 40, true, [(.int .i64), (.int .i64), (.int .i64), (.int .i64), (.int .i64)], (.struct [(25, 0), (25, 2), (2, 4)])⟩),
  (91, ⟨5, 40, true, [(.int .i64), (.int .i64), (.int .i64), (.int .i64), (.int .i64)], (.struct [(25, 0), (25, 2), (2, 4)])⟩),
  (97, ⟨6, 48, true, [(.int .i64), (.int .i64), (.int .i64), (.int .i64), (.int .i64), (.int .i64)], (.struct [(41, 0), (41, 2), (41, 4)])⟩),
  (98, ⟨6, 48, true, [(.int .i64), (.int .i64), (.int .i64), (.int .i64), (.int .i64), (.int .i64)], (.struct [(41, 0), (41, 2), (41, 4)])⟩),
  (103, ⟨4, 32, true, [(.int .i64), (.int .i64), (.int .i64), (.int .i64)], (.struct [(2, 0), (2, 1), (29, 2)])⟩),
  (104, ⟨4, 32, true, [(.int .i64), (.int .i64), (.int .i64), (.int .i64)], (.struct [(2, 0), (2, 1), (29, 2)])⟩),
  (119, ⟨3, 40, true, [(.lst 5 [(.int .u8)]), (.int .i64), (.int .u64)], (.struct [(22, 0), (3, 1), (38, 2)])⟩),
  (120, ⟨3, 40, true, [(.lst 5 [(.int .u8)]), (.int .i64), (.int .u64)], (.struct [(22, 0), (3, 1), (38, 2)])⟩),
  (121, ⟨1, 8, false, [(.int .u64)], (.int .u64)⟩),
  (127, ⟨2, 16, true, [(.int .i64), (.int .i64)], (.struct [(2, 0), (2, 1)])⟩),
  (128, ⟨4, 32, true, [(.int .i64), (.int .i64), (.int .i64), (.int .i64)], (.struct [(2, 0), (2, 1), (127, 2)])⟩),
  (129, ⟨4, 32, true, [(.int .i64), (.int .i64), (.int .i64), (.int .i64)], (.struct [(2, 0), (2, 1), (127, 2)])⟩),
  (137, ⟨1, 24, false, [(.lst 25 [(.int .i64), (.int .i64)])], (.slice 25)⟩),
  (152, ⟨1, 24, false, [(.lst 98 [(.int .i64), (.int .i64), (.int .i64), (.int .i64), (.int .i64), (.int .i64)])], (.slice 98)⟩),
  (153, ⟨7, 72, true, [(.int .i64), (.int .i64), (.int .i64), (.int .i64), (.int .i64), (.int .i64), (.lst 98 [(.int .i64), (.int .i64), (.int .i64), (.int .i64), (.int .i64), (.int .i64)])], (.struct [(27, 0), (41, 4), (152, 6)])⟩),
  (154, ⟨7, 72, true, [(.int .i64), (.int .i64), (.int .i64), (.int .i64), (.int .i64), (.int .i64), (.lst 98 [(.int .i64), (.int .i64), (.int .i64), (.int .i64), (.int .i64), (.int .i64)])], (.struct [(27, 0), (41, 4), (152, 6)])⟩),
  (164, ⟨1, 24, false, [(.lst 4 [.bool])], (.slice 4)⟩),
  (173, ⟨1, 24, false, [(.lst 41 [(.int .i64), (.int .i64)])], (.slice 41)⟩),
  (186, ⟨3, 24, true, [(.int .i64), (.int .i64), (.int .i64)], (.struct [(2, 0), (2, 1), (2, 2)])⟩),
  (187, ⟨3, 24, true, [(.int .i64), (.int .i64), (.int .i64)], (.struct [(2, 0), (2, 1), (2, 2)])⟩),
  (194, ⟨3, 40, true, [(.lst 5 [(.int .u8)]), (.int .i64), (.int .i64)], (.struct [(22, 0), (3, 1), (2, 2)])⟩),
  (195, ⟨3, 40, true, [(.lst 5 [(.int .u8)]), (.int .i64), (.int .i64)], (.struct [(22, 0), (3, 1), (2, 2)])⟩),
  (234, ⟨1, 4, false, [(.int .u32)], (.int .u32)⟩),
  (235, ⟨1, 1, false, [(.int .u8)], (.int .u8)⟩),
  (236, ⟨1, 1, false, [(.int .u8)], (.int .u8)⟩),
  (239, ⟨1, 4, false, [(.int .i32)], (.int .i32)⟩),
  (240, ⟨1, 4, false, [(.int .i32)], (.int .i32)⟩)]
theorem tabOk' : tabOk Tryz.prog tab = true := by kernel_rfl
theorem tab_ok : TabOK Tryz.prog tab := tabOk_sound tabOk'
theorem mix : Tryz.prog.follows .mixedOrders = true := by kernel_rfl
/-- laws_szObservationS -/
def sg_laws_szObservationS : Sig := ⟨[.val false [(.lst 129 [(.int .i64), (.int .i64), (.int .i64), (.int .i64)])], .val false [(.int .i64)]], [(false, [(.int .i64)])]⟩
def pr_laws_szObservationS : Prog :=
 (.chk 2
 (.cond (.cmp .lss (.ar .sub .i64 (.var 1) (.len (.var 0))) (.int 0))
  (.leaf (.res [(.int (-1))]))
  (.leaf (.res [(.ar .sub .i64 (.var 1) (.len (.var 0)))]))))
theorem ex_laws_szObservationS : exB tab [] Tryz.f25 sg_laws_szObservationS pr_laws_szObservationS = true := by kernel_rfl
abbrev n_laws_szObservationS : Nat := 25
theorem mk_laws_szObservationS  {g : List U → Option (List U)} (hg : ∀ us rs, us.length = 2 → g us = some rs → wpP (fun _ _ => none) pr_laws_szObservationS 0 us fun l η => ∃ es, l = .res es ∧ es.map (E.den η) = rs) : FnOK Tryz.prog 25 sg_laws_szObservationS g :=
  fn_ok2 tab_ok env_nil mix Tryz.func25 (by kernel_rfl) ex_laws_szObservationS hg
/-- laws_toWall -/
def sg_laws_toWall : Sig := ⟨[.val true [(.int .i64), (.int .i64)]], [(true, [(.int .i64), (.int .i64)])]⟩
def pr_laws_toWall : Prog :=
 (.chk 2
 (.leaf (.res [(.var 0), (.var 1)])))
theorem ex_laws_toWall : exB tab [] Tryz.f32 sg_laws_toWall pr_laws_toWall = true := by kernel_rfl
abbrev n_laws_toWall : Nat := 32
theorem mk_laws_toWall  {g : List U → Option (List U)} (hg : ∀ us rs, us.length = 2 → g us = some rs → wpP (fun _ _ => none) pr_laws_toWall 0 us fun l η => ∃ es, l = .res es ∧ es.map (E.den η) = rs) : FnOK Tryz.prog 32 sg_laws_toWall g :=
  fn_ok2 tab_ok env_nil mix Tryz.func32 (by kernel_rfl) ex_laws_toWall hg
/-- laws_toDial -/
def sg_laws_toDial : Sig := ⟨[.val true [(.int .i64), (.int .i64), (.int .i64), (.int .i64)]], [(true, [(.int .i64), (.int .i64), (.int .i64), (.int .i64)])]⟩
def pr_laws_toDial : Prog :=
 (.chk 4
 (.call 32 [(.var 1), (.var 2)] 2
 (.leaf (.res [(.var 0), (.var 4), (.var 5), (.var 3)]))))
theorem ex_laws_toDial : exB tab [(32, sg_laws_toWall)] Tryz.f27 sg_laws_toDial pr_laws_toDial = true := by kernel_rfl
abbrev n_laws_toDial : Nat := 27
theorem mk_laws_toDial {g0 : List U → Option (List U)}  (h0 : FnOK Tryz.prog 32 sg_laws_toWall g0) {g : List U → Option (List U)} (hg : ∀ us rs, us.length = 4 → g us = some rs → wpP (fun k us => if 32 = k then g0 us else none) pr_laws_toDial 0 us fun l η => ∃ es, l = .res es ∧ es.map (E.den η) = rs) : FnOK Tryz.prog 27 sg_laws_toDial g :=
  fn_ok2 tab_ok (env_cons (f := 32) h0 rfl env_nil) mix Tryz.func27 (by kernel_rfl) ex_laws_toDial hg
/-- laws_toPoint -/
def sg_laws_toPoint : Sig := ⟨[.val true [(.int .i64), (.int .i64)]], [(true, [(.int .i64), (.int .i64)])]⟩
def pr_laws_toPoint : Prog :=
 (.chk 2
 (.leaf (.res [(.var 0), (.var 1)])))
theorem ex_laws_toPoint : exB tab [] Tryz.f163 sg_laws_toPoint pr_laws_toPoint = true := by kernel_rfl
abbrev n_laws_toPoint : Nat := 163
theorem mk_laws_toPoint  {g : List U → Option (List U)} (hg : ∀ us rs, us.length = 2 → g us = some rs → wpP (fun _ _ => none) pr_laws_toPoint 0 us fun l η => ∃ es, l = .res es ∧ es.map (E.den η) = rs) : FnOK Tryz.prog 163 sg_laws_toPoint g :=
  fn_ok2 tab_ok env_nil mix Tryz.func163 (by kernel_rfl) ex_laws_toPoint hg
/-- laws_toObservation -/
def sg_laws_toObservation : Sig := ⟨[.val true [(.int .i64), (.int .i64), (.int .i64), (.int .i64)]], [(true, [(.int .i64), (.int .i64), (.int .i64), (.int .i64)])]⟩
def pr_laws_toObservation : Prog :=
 (.chk 4
 (.call 163 [(.var 2), (.var 3)] 2
 (.leaf (.res [(.var 0), (.var 1), (.var 4), (.var 5)]))))
theorem ex_laws_toObservation : exB tab [(163, sg_laws_toPoint)] Tryz.f96 sg_laws_toObservation pr_laws_toObservation = true := by kernel_rfl
abbrev n_laws_toObservation : Nat := 96
theorem mk_laws_toObservation {g0 : List U → Option (List U)}  (h0 : FnOK Tryz.prog 163 sg_laws_toPoint g0) {g : List U → Option (List U)} (hg : ∀ us rs, us.length = 4 → g us = some rs → wpP (fun k us => if 163 = k then g0 us else none) pr_laws_toObservation 0 us fun l η => ∃ es, l = .res es ∧ es.map (E.den η) = rs) : FnOK Tryz.prog 96 sg_laws_toObservation g :=
  fn_ok2 tab_ok (env_cons (f := 163) h0 rfl env_nil) mix Tryz.func96 (by kernel_rfl) ex_laws_toObservation hg
/-- laws_toObservationS -/
def sg_laws_toObservationS : Sig := ⟨[.val false [(.lst 129 [(.int .i64), (.int .i64), (.int .i64), (.int .i64)])]], [(false, [(.lst 104 [(.int .i64), (.int .i64), (.int .i64), (.int .i64)])])]⟩
def pr_laws_toObservationS : Prog :=
 (.chk 1
 (.guard (.cmp .leq (.int 0) (.len (.var 0))) true
 (.guard (.cmp .leq (.len (.var 0)) (.int 4398046511104)) true
 (.loop [(.int 0), (.rep (.len (.var 0)) (.rcons (.int 0) (.rcons (.int 0) (.rcons (.int 0) (.rcons (.int 0) .rnil)))))]
  (.chk 3
  (.cond (.cmp .lss (.var 1) (.len (.var 0)))
   (.guard (.cmp .leq (.int 0) (.var 1)) true
   (.call 96 [(.nth (.var 0) (.var 1) 0), (.nth (.var 0) (.var 1) 1), (.nth (.var 0) (.var 1) 2), (.nth (.var 0) (.var 1) 3)] 4
   (.guard (.cmp .lss (.var 1) (.len (.var 2))) true
   (.leaf (.vals 0 [(.ar .add .i64 (.var 1) (.int 1)), (.set (.set (.set (.set (.var 2) (.var 1) 0 (.var 3)) (.var 1) 1 (.var 4)) (.var 1) 2 (.var 5)) (.var 1) 3 (.var 6))])))))
   (.leaf (.vals 1 [(.var 1), (.cmp .lss (.var 1) (.len (.var 0))), (.var 2)]))))
  (.alt
   (.chk 4
   (.leaf (.res [(.var 3)])))
   .stop)))))
theorem ex_laws_toObservationS : exB tab [(96, sg_laws_toObservation)] Tryz.f28 sg_laws_toObservationS pr_laws_toObservationS = true := by kernel_rfl
abbrev n_laws_toObservationS : Nat := 28
theorem mk_laws_toObservationS {g0 : List U → Option (List U)}  (h0 : FnOK Tryz.prog 96 sg_laws_toObservation g0) {g : List U → Option (List U)} (hg : ∀ us rs, us.length = 1 → g us = some rs → wpP (fun k us => if 96 = k then g0 us else none) pr_laws_toObservationS 0 us fun l η => ∃ es, l = .res es ∧ es.map (E.den η) = rs) : FnOK Tryz.prog 28 sg_laws_toObservationS g :=
  fn_ok2 tab_ok (env_cons (f := 96) h0 rfl env_nil) mix Tryz.func28 (by kernel_rfl) ex_laws_toObservationS hg
/-- spec_l01In -/
def sg_spec_l01In : Sig := ⟨[.val false [(.int .i64)], .val false [(.int .i64)], .val false [(.int .i64)]], [(false, [.bool])]⟩
def pr_spec_l01In : Prog :=
 (.chk 3
 (.join
  (.cond (.cmp .geq (.var 0) (.var 1))
   (.leaf (.vals 0 [(.cmp .leq (.var 0) (.var 2))]))
   (.leaf (.vals 0 [(.bool false)])))
  (.alt
   (.chk 4
   (.leaf (.res [(.var 3)])))
   .stop)))
theorem ex_spec_l01In : exB tab [] Tryz.f118 sg_spec_l01In pr_spec_l01In = true := by kernel_rfl
abbrev n_spec_l01In : Nat := 118
theorem mk_spec_l01In  {g : List U → Option (List U)} (hg : ∀ us rs, us.length = 3 → g us = some rs → wpP (fun _ _ => none) pr_spec_l01In 0 us fun l η => ∃ es, l = .res es ∧ es.map (E.den η) = rs) : FnOK Tryz.prog 118 sg_spec_l01In g :=
  fn_ok2 tab_ok env_nil mix Tryz.func118 (by kernel_rfl) ex_spec_l01In hg
/-- spec_l09Latitude -/
def sg_spec_l09Latitude : Sig := ⟨[.val false [(.int .i64)]], [(false, [.bool])]⟩
def pr_spec_l09Latitude : Prog :=
 (.chk 1
 (.call 118 [(.var 0), (.int (-324000)), (.int 324000)] 1
 (.leaf (.res [(.var 1)]))))
theorem ex_spec_l09Latitude : exB tab [(118, sg_spec_l01In)] Tryz.f140 sg_spec_l09Latitude pr_spec_l09Latitude = true := by kernel_rfl
abbrev n_spec_l09Latitude : Nat := 140
theorem mk_spec_l09Latitude {g0 : List U → Option (List U)}  (h0 : FnOK Tryz.prog 118 sg_spec_l01In g0) {g : List U → Option (List U)} (hg : ∀ us rs, us.length = 1 → g us = some rs → wpP (fun k us => if 118 = k then g0 us else none) pr_spec_l09Latitude 0 us fun l η => ∃ es, l = .res es ∧ es.map (E.den η) = rs) : FnOK Tryz.prog 140 sg_spec_l09Latitude g :=
  fn_ok2 tab_ok (env_cons (f := 118) h0 rfl env_nil) mix Tryz.func140 (by kernel_rfl) ex_spec_l09Latitude hg
/-- spec_IsWall -/
def sg_spec_IsWall : Sig := ⟨[.val true [(.int .i64), (.int .i64)]], [(false, [.bool])]⟩
def pr_spec_IsWall : Prog :=
 (.chk 2
 (.join
  (.call 118 [(.var 0), (.int 0), (.int 1295999)] 1
  (.cond (.var 2)
   (.call 140 [(.var 1)] 1
   (.leaf (.vals 0 [(.var 3)])))
   (.leaf (.vals 0 [(.bool false)]))))
  (.alt
   (.chk 3
   (.leaf (.res [(.var 2)])))
   .stop)))
theorem ex_spec_IsWall : exB tab [(118, sg_spec_l01In), (140, sg_spec_l09Latitude)] Tryz.f141 sg_spec_IsWall pr_spec_IsWall = true := by kernel_rfl
abbrev n_spec_IsWall : Nat := 141
theorem mk_spec_IsWall {g0 g1 : List U → Option (List U)}  (h0 : FnOK Tryz.prog 118 sg_spec_l01In g0) (h1 : FnOK Tryz.prog 140 sg_spec_l09Latitude g1) {g : List U → Option (List U)} (hg : ∀ us rs, us.length = 2 → g us = some rs → wpP (fun k us => if 118 = k then g0 us else if 140 = k then g1 us else none) pr_spec_IsWall 0 us fun l η => ∃ es, l = .res es ∧ es.map (E.den η) = rs) : FnOK Tryz.prog 141 sg_spec_IsWall g :=
  fn_ok2 tab_ok (env_cons (f := 118) h0 rfl (env_cons (f := 140) h1 rfl env_nil)) mix Tryz.func141 (by kernel_rfl) ex_spec_IsWall hg
/-- spec_l14Height -/
def sg_spec_l14Height : Sig := ⟨[.val false [(.int .i64)]], [(false, [.bool])]⟩
def pr_spec_l14Height : Prog :=
 (.chk 1
 (.call 118 [(.var 0), (.int 1), (.int 10000)] 1
 (.leaf (.res [(.var 1)]))))
theorem ex_spec_l14Height : exB tab [(118, sg_spec_l01In)] Tryz.f110 sg_spec_l14Height pr_spec_l14Height = true := by kernel_rfl
abbrev n_spec_l14Height : Nat := 110
theorem mk_spec_l14Height {g0 : List U → Option (List U)}  (h0 : FnOK Tryz.prog 118 sg_spec_l01In g0) {g : List U → Option (List U)} (hg : ∀ us rs, us.length = 1 → g us = some rs → wpP (fun k us => if 118 = k then g0 us else none) pr_spec_l14Height 0 us fun l η => ∃ es, l = .res es ∧ es.map (E.den η) = rs) : FnOK Tryz.prog 110 sg_spec_l14Height g :=
  fn_ok2 tab_ok (env_cons (f := 118) h0 rfl env_nil) mix Tryz.func110 (by kernel_rfl) ex_spec_l14Height hg
/-- spec_IsDial -/
def sg_spec_IsDial : Sig := ⟨[.val true [(.int .i64), (.int .i64), (.int .i64), (.int .i64)]], [(false, [.bool])]⟩
def pr_spec_IsDial : Prog :=
 (.chk 4
 (.join
  (.call 140 [(.var 0)] 1
  (.cond (.var 4)
   (.call 141 [(.var 1), (.var 2)] 1
   (.cond (.var 5)
    (.call 110 [(.var 3)] 1
    (.leaf (.vals 0 [(.var 6)])))
    (.leaf (.vals 0 [(.bool false)]))))
   (.leaf (.vals 0 [(.bool false)]))))
  (.alt
   (.chk 5
   (.leaf (.res [(.var 4)])))
   .stop)))
theorem ex_spec_IsDial : exB tab [(140, sg_spec_l09Latitude), (141, sg_spec_IsWall), (110, sg_spec_l14Height)] Tryz.f67 sg_spec_IsDial pr_spec_IsDial = true := by kernel_rfl
abbrev n_spec_IsDial : Nat := 67
theorem mk_spec_IsDial {g0 g1 g2 : List U → Option (List U)}  (h0 : FnOK Tryz.prog 140 sg_spec_l09Latitude g0) (h1 : FnOK Tryz.prog 141 sg_spec_IsWall g1) (h2 : FnOK Tryz.prog 110 sg_spec_l14Height g2) {g : List U → Option (List U)} (hg : ∀ us rs, us.length = 4 → g us = some rs → wpP (fun k us => if 140 = k then g0 us else if 141 = k then g1 us else if 110 = k then g2 us else none) pr_spec_IsDial 0 us fun l η => ∃ es, l = .res es ∧ es.map (E.den η) = rs) : FnOK Tryz.prog 67 sg_spec_IsDial g :=
  fn_ok2 tab_ok (env_cons (f := 140) h0 rfl (env_cons (f := 141) h1 rfl (env_cons (f := 110) h2 rfl env_nil))) mix Tryz.func67 (by kernel_rfl) ex_spec_IsDial hg
/-- spec_l01Floor -/
def sg_spec_l01Floor : Sig := ⟨[.val false [(.int .i64)], .val false [(.int .i64)]], [(false, [(.int .i64)])]⟩
def pr_spec_l01Floor : Prog :=
 (.chk 2
 (.join
  (.cond (.cmp .lss (.var 1) (.int 0))
   (.leaf (.vals 0 [(.ar .sub .i64 (.int 0) (.var 0)), (.ar .sub .i64 (.int 0) (.var 1))]))
   (.leaf (.vals 0 [(.var 0), (.var 1)])))
  (.alt
   (.guard (.cmp .neq (.var 3) (.int 0)) true
   (.chk 4
   (.join
    (.guard (.cmp .neq (.var 3) (.int 0)) true
    (.cond (.cmp .lss (.ar .rem .i64 (.var 2) (.var 3)) (.int 0))
     (.leaf (.vals 0 [(.ar .sub .i64 (.ar .quo .i64 (.var 2) (.var 3)) (.int 1))]))
     (.leaf (.vals 0 [(.ar .quo .i64 (.var 2) (.var 3))]))))
    (.alt
     (.chk 5
     (.leaf (.res [(.var 4)])))
     .stop))))
   .stop)))
theorem ex_spec_l01Floor : exB tab [] Tryz.f174 sg_spec_l01Floor pr_spec_l01Floor = true := by kernel_rfl
abbrev n_spec_l01Floor : Nat := 174
theorem mk_spec_l01Floor  {g : List U → Option (List U)} (hg : ∀ us rs, us.length = 2 → g us = some rs → wpP (fun _ _ => none) pr_spec_l01Floor 0 us fun l η => ∃ es, l = .res es ∧ es.map (E.den η) = rs) : FnOK Tryz.prog 174 sg_spec_l01Floor g :=
  fn_ok2 tab_ok env_nil mix Tryz.func174 (by kernel_rfl) ex_spec_l01Floor hg
/-- spec_l01Ceil -/
def sg_spec_l01Ceil : Sig := ⟨[.val false [(.int .i64)], .val false [(.int .i64)]], [(false, [(.int .i64)])]⟩
def pr_spec_l01Ceil : Prog :=
 (.chk 2
 (.call 174 [(.ar .sub .i64 (.int 0) (.var 0)), (.var 1)] 1
 (.leaf (.res [(.ar .sub .i64 (.int 0) (.var 2))]))))
theorem ex_spec_l01Ceil : exB tab [(174, sg_spec_l01Floor)] Tryz.f204 sg_spec_l01Ceil pr_spec_l01Ceil = true := by kernel_rfl
abbrev n_spec_l01Ceil : Nat := 204
theorem mk_spec_l01Ceil {g0 : List U → Option (List U)}  (h0 : FnOK Tryz.prog 174 sg_spec_l01Floor g0) {g : List U → Option (List U)} (hg : ∀ us rs, us.length = 2 → g us = some rs → wpP (fun k us => if 174 = k then g0 us else none) pr_spec_l01Ceil 0 us fun l η => ∃ es, l = .res es ∧ es.map (E.den η) = rs) : FnOK Tryz.prog 204 sg_spec_l01Ceil g :=
  fn_ok2 tab_ok (env_cons (f := 174) h0 rfl env_nil) mix Tryz.func204 (by kernel_rfl) ex_spec_l01Ceil hg
/-- spec_l07Year -/
def sg_spec_l07Year : Sig := ⟨[.val false [(.int .i64)]], [(false, [(.int .i64)])]⟩
def pr_spec_l07Year : Prog :=
 (.chk 1
 (.call 204 [(.ar .sub .i64 (.var 0) (.int 2000)), (.int 4)] 1
 (.leaf (.res [(.ar .add .i64 (.ar .mul .i64 (.int 365) (.ar .sub .i64 (.var 0) (.int 2000))) (.var 1))]))))
theorem ex_spec_l07Year : exB tab [(204, sg_spec_l01Ceil)] Tryz.f166 sg_spec_l07Year pr_spec_l07Year = true := by kernel_rfl
abbrev n_spec_l07Year : Nat := 166
theorem mk_spec_l07Year {g0 : List U → Option (List U)}  (h0 : FnOK Tryz.prog 204 sg_spec_l01Ceil g0) {g : List U → Option (List U)} (hg : ∀ us rs, us.length = 1 → g us = some rs → wpP (fun k us => if 204 = k then g0 us else none) pr_spec_l07Year 0 us fun l η => ∃ es, l = .res es ∧ es.map (E.den η) = rs) : FnOK Tryz.prog 166 sg_spec_l07Year g :=
  fn_ok2 tab_ok (env_cons (f := 204) h0 rfl env_nil) mix Tryz.func166 (by kernel_rfl) ex_spec_l07Year hg
/-- spec_l07Has -/
def sg_spec_l07Has : Sig := ⟨[.val false [(.int .i64)]], [(false, [.bool])]⟩
def pr_spec_l07Has : Prog :=
 (.chk 1
 (.call 166 [(.int 1901)] 1
 (.call 166 [(.int 2100)] 1
 (.call 118 [(.var 0), (.var 1), (.ar .sub .i64 (.var 2) (.int 1))] 1
 (.leaf (.res [(.var 3)]))))))
theorem ex_spec_l07Has : exB tab [(166, sg_spec_l07Year), (118, sg_spec_l01In)] Tryz.f117 sg_spec_l07Has pr_spec_l07Has = true := by kernel_rfl
abbrev n_spec_l07Has : Nat := 117
theorem mk_spec_l07Has {g0 g1 : List U → Option (List U)}  (h0 : FnOK Tryz.prog 166 sg_spec_l07Year g0) (h1 : FnOK Tryz.prog 118 sg_spec_l01In g1) {g : List U → Option (List U)} (hg : ∀ us rs, us.length = 1 → g us = some rs → wpP (fun k us => if 166 = k then g0 us else if 118 = k then g1 us else none) pr_spec_l07Has 0 us fun l η => ∃ es, l = .res es ∧ es.map (E.den η) = rs) : FnOK Tryz.prog 117 sg_spec_l07Has g :=
  fn_ok2 tab_ok (env_cons (f := 166) h0 rfl (env_cons (f := 118) h1 rfl env_nil)) mix Tryz.func117 (by kernel_rfl) ex_spec_l07Has hg
/-- spec_l09Minute -/
def sg_spec_l09Minute : Sig := ⟨[.val false [(.int .i64)]], [(false, [.bool])]⟩
def pr_spec_l09Minute : Prog :=
 (.chk 1
 (.call 118 [(.var 0), (.int 0), (.int 1439)] 1
 (.leaf (.res [(.var 1)]))))
theorem ex_spec_l09Minute : exB tab [(118, sg_spec_l01In)] Tryz.f116 sg_spec_l09Minute pr_spec_l09Minute = true := by kernel_rfl
abbrev n_spec_l09Minute : Nat := 116
theorem mk_spec_l09Minute {g0 : List U → Option (List U)}  (h0 : FnOK Tryz.prog 118 sg_spec_l01In g0) {g : List U → Option (List U)} (hg : ∀ us rs, us.length = 1 → g us = some rs → wpP (fun k us => if 118 = k then g0 us else none) pr_spec_l09Minute 0 us fun l η => ∃ es, l = .res es ∧ es.map (E.den η) = rs) : FnOK Tryz.prog 116 sg_spec_l09Minute g :=
  fn_ok2 tab_ok (env_cons (f := 118) h0 rfl env_nil) mix Tryz.func116 (by kernel_rfl) ex_spec_l09Minute hg
/-- spec_l14Point -/
def sg_spec_l14Point : Sig := ⟨[.val false [(.int .i64)], .val false [(.int .i64)]], [(false, [.bool])]⟩
def pr_spec_l14Point : Prog :=
 (.chk 2
 (.join
  (.call 118 [(.var 0), (.int (-1000000)), (.int 1000000)] 1
  (.cond (.var 2)
   (.call 118 [(.var 1), (.int (-1000000)), (.int 1000000)] 1
   (.leaf (.vals 0 [(.var 3)])))
   (.leaf (.vals 0 [(.bool false)]))))
  (.alt
   (.chk 3
   (.leaf (.res [(.var 2)])))
   .stop)))
theorem ex_spec_l14Point : exB tab [(118, sg_spec_l01In)] Tryz.f158 sg_spec_l14Point pr_spec_l14Point = true := by kernel_rfl
abbrev n_spec_l14Point : Nat := 158
theorem mk_spec_l14Point {g0 : List U → Option (List U)}  (h0 : FnOK Tryz.prog 118 sg_spec_l01In g0) {g : List U → Option (List U)} (hg : ∀ us rs, us.length = 2 → g us = some rs → wpP (fun k us => if 118 = k then g0 us else none) pr_spec_l14Point 0 us fun l η => ∃ es, l = .res es ∧ es.map (E.den η) = rs) : FnOK Tryz.prog 158 sg_spec_l14Point g :=
  fn_ok2 tab_ok (env_cons (f := 118) h0 rfl env_nil) mix Tryz.func158 (by kernel_rfl) ex_spec_l14Point hg
/-- spec_l25Is -/
def sg_spec_l25Is : Sig := ⟨[.val true [(.int .i64), (.int .i64), (.int .i64), (.int .i64)]], [(false, [.bool])]⟩
def pr_spec_l25Is : Prog :=
 (.chk 4
 (.join
  (.call 117 [(.var 0)] 1
  (.cond (.var 4)
   (.call 116 [(.var 1)] 1
   (.cond (.var 5)
    (.call 158 [(.var 2), (.var 3)] 1
    (.leaf (.vals 0 [(.var 6)])))
    (.leaf (.vals 0 [(.bool false)]))))
   (.leaf (.vals 0 [(.bool false)]))))
  (.alt
   (.chk 5
   (.leaf (.res [(.var 4)])))
   .stop)))
theorem ex_spec_l25Is : exB tab [(117, sg_spec_l07Has), (116, sg_spec_l09Minute), (158, sg_spec_l14Point)] Tryz.f149 sg_spec_l25Is pr_spec_l25Is = true := by kernel_rfl
abbrev n_spec_l25Is : Nat := 149
theorem mk_spec_l25Is {g0 g1 g2 : List U → Option (List U)}  (h0 : FnOK Tryz.prog 117 sg_spec_l07Has g0) (h1 : FnOK Tryz.prog 116 sg_spec_l09Minute g1) (h2 : FnOK Tryz.prog 158 sg_spec_l14Point g2) {g : List U → Option (List U)} (hg : ∀ us rs, us.length = 4 → g us = some rs → wpP (fun k us => if 117 = k then g0 us else if 116 = k then g1 us else if 158 = k then g2 us else none) pr_spec_l25Is 0 us fun l η => ∃ es, l = .res es ∧ es.map (E.den η) = rs) : FnOK Tryz.prog 149 sg_spec_l25Is g :=
  fn_ok2 tab_ok (env_cons (f := 117) h0 rfl (env_cons (f := 116) h1 rfl (env_cons (f := 158) h2 rfl env_nil))) mix Tryz.func149 (by kernel_rfl) ex_spec_l25Is hg
/-- spec_l25Code -/
def sg_spec_l25Code : Sig := ⟨[.val false [(.lst 104 [(.int .i64), (.int .i64), (.int .i64), (.int .i64)])]], [(false, [(.int .i64)])]⟩
def pr_spec_l25Code : Prog :=
 (.chk 1
 (.loop [(.int 0)]
  (.chk 2
  (.cond (.cmp .lss (.var 1) (.len (.var 0)))
   (.guard (.cmp .leq (.int 0) (.var 1)) true
   (.call 149 [(.nth (.var 0) (.var 1) 0), (.nth (.var 0) (.var 1) 1), (.nth (.var 0) (.var 1) 2), (.nth (.var 0) (.var 1) 3)] 1
   (.cond (.not (.var 2))
    (.leaf (.vals 1 [(.var 1), (.cmp .lss (.var 1) (.len (.var 0))), (.not (.var 2))]))
    (.leaf (.vals 0 [(.ar .add .i64 (.var 1) (.int 1))])))))
   (.leaf (.vals 2 [(.var 1), (.cmp .lss (.var 1) (.len (.var 0)))]))))
  (.alt
   (.leaf (.res [(.int 1)]))
   (.alt
    (.chk 3
    (.cond (.cmp .gtr (.len (.var 0)) (.int 10))
     (.leaf (.res [(.int 3)]))
     (.leaf (.res [(.int 0)]))))
    .stop))))
theorem ex_spec_l25Code : exB tab [(149, sg_spec_l25Is)] Tryz.f162 sg_spec_l25Code pr_spec_l25Code = true := by kernel_rfl
abbrev n_spec_l25Code : Nat := 162
theorem mk_spec_l25Code {g0 : List U → Option (List U)}  (h0 : FnOK Tryz.prog 149 sg_spec_l25Is g0) {g : List U → Option (List U)} (hg : ∀ us rs, us.length = 1 → g us = some rs → wpP (fun k us => if 149 = k then g0 us else none) pr_spec_l25Code 0 us fun l η => ∃ es, l = .res es ∧ es.map (E.den η) = rs) : FnOK Tryz.prog 162 sg_spec_l25Code g :=
  fn_ok2 tab_ok (env_cons (f := 149) h0 rfl env_nil) mix Tryz.func162 (by kernel_rfl) ex_spec_l25Code hg
/-- spec_l25Dial -/
def sg_spec_l25Dial : Sig := ⟨[.val true [(.int .i64), (.int .i64), (.int .i64), (.int .i64)], .val false [(.lst 104 [(.int .i64), (.int .i64), (.int .i64), (.int .i64)])]], [(false, [(.int .i64)])]⟩
def pr_spec_l25Dial : Prog :=
 (.chk 5
 (.call 67 [(.var 0), (.var 1), (.var 2), (.var 3)] 1
 (.cond (.not (.var 5))
  (.leaf (.res [(.int 1)]))
  (.call 162 [(.var 4)] 1
  (.leaf (.res [(.var 6)]))))))
theorem ex_spec_l25Dial : exB tab [(67, sg_spec_IsDial), (162, sg_spec_l25Code)] Tryz.f94 sg_spec_l25Dial pr_spec_l25Dial = true := by kernel_rfl
abbrev n_spec_l25Dial : Nat := 94
theorem mk_spec_l25Dial {g0 g1 : List U → Option (List U)}  (h0 : FnOK Tryz.prog 67 sg_spec_IsDial g0) (h1 : FnOK Tryz.prog 162 sg_spec_l25Code g1) {g : List U → Option (List U)} (hg : ∀ us rs, us.length = 5 → g us = some rs → wpP (fun k us => if 67 = k then g0 us else if 162 = k then g1 us else none) pr_spec_l25Dial 0 us fun l η => ∃ es, l = .res es ∧ es.map (E.den η) = rs) : FnOK Tryz.prog 94 sg_spec_l25Dial g :=
  fn_ok2 tab_ok (env_cons (f := 67) h0 rfl (env_cons (f := 162) h1 rfl env_nil)) mix Tryz.func94 (by kernel_rfl) ex_spec_l25Dial hg
/-- spec_l01Mod -/
def sg_spec_l01Mod : Sig := ⟨[.val false [(.int .i64)], .val false [(.int .i64)]], [(false, [(.int .i64)])]⟩
def pr_spec_l01Mod : Prog :=
 (.chk 2
 (.guard (.cmp .neq (.var 1) (.int 0)) true
 (.leaf (.res [(.ar .rem .i64 (.ar .add .i64 (.ar .rem .i64 (.var 0) (.var 1)) (.var 1)) (.var 1))]))))
theorem ex_spec_l01Mod : exB tab [] Tryz.f218 sg_spec_l01Mod pr_spec_l01Mod = true := by kernel_rfl
abbrev n_spec_l01Mod : Nat := 218
theorem mk_spec_l01Mod  {g : List U → Option (List U)} (hg : ∀ us rs, us.length = 2 → g us = some rs → wpP (fun _ _ => none) pr_spec_l01Mod 0 us fun l η => ∃ es, l = .res es ∧ es.map (E.den η) = rs) : FnOK Tryz.prog 218 sg_spec_l01Mod g :=
  fn_ok2 tab_ok env_nil mix Tryz.func218 (by kernel_rfl) ex_spec_l01Mod hg
/-- spec_l03Plain -/
def sg_spec_l03Plain : Sig := ⟨[.val false [(.int .i64)]], [(false, [(.int .i64)])]⟩
def pr_spec_l03Plain : Prog :=
 (.chk 1
 (.call 218 [(.var 0), (.int 1296000)] 1
 (.leaf (.res [(.var 1)]))))
theorem ex_spec_l03Plain : exB tab [(218, sg_spec_l01Mod)] Tryz.f175 sg_spec_l03Plain pr_spec_l03Plain = true := by kernel_rfl
abbrev n_spec_l03Plain : Nat := 175
theorem mk_spec_l03Plain {g0 : List U → Option (List U)}  (h0 : FnOK Tryz.prog 218 sg_spec_l01Mod g0) {g : List U → Option (List U)} (hg : ∀ us rs, us.length = 1 → g us = some rs → wpP (fun k us => if 218 = k then g0 us else none) pr_spec_l03Plain 0 us fun l η => ∃ es, l = .res es ∧ es.map (E.den η) = rs) : FnOK Tryz.prog 175 sg_spec_l03Plain g :=
  fn_ok2 tab_ok (env_cons (f := 218) h0 rfl env_nil) mix Tryz.func175 (by kernel_rfl) ex_spec_l03Plain hg
/-- spec_l04Arc -/
def sg_spec_l04Arc : Sig := ⟨[.val false [(.int .i64)]], [(false, [(.int .i64)]), (false, [(.int .i64)])]⟩
def pr_spec_l04Arc : Prog :=
 (.chk 1
 (.leaf (.res [(.ar .quo .i64 (.ar .mul .i64 (.var 0) (.int 48481368)) (.int 10000)), (.ar .quo .i64 (.ar .mul .i64 (.ar .quo .i64 (.ar .mul .i64 (.var 0) (.int 48481368)) (.int 10000)) (.ar .quo .i64 (.ar .mul .i64 (.var 0) (.int 48481368)) (.int 10000))) (.int 1000000000))])))
theorem ex_spec_l04Arc : exB tab [] Tryz.f257 sg_spec_l04Arc pr_spec_l04Arc = true := by kernel_rfl
abbrev n_spec_l04Arc : Nat := 257
theorem mk_spec_l04Arc  {g : List U → Option (List U)} (hg : ∀ us rs, us.length = 1 → g us = some rs → wpP (fun _ _ => none) pr_spec_l04Arc 0 us fun l η => ∃ es, l = .res es ∧ es.map (E.den η) = rs) : FnOK Tryz.prog 257 sg_spec_l04Arc g :=
  fn_ok2 tab_ok env_nil mix Tryz.func257 (by kernel_rfl) ex_spec_l04Arc hg
/-- spec_l04P -/
def sg_spec_l04P : Sig := ⟨[.val false [(.int .i64)]], [(false, [(.int .i64)])]⟩
def pr_spec_l04P : Prog :=
 (.chk 1
 (.call 257 [(.var 0)] 2
 (.leaf (.res [(.ar .add .i64 (.ar .sub .i64 (.ar .add .i64 (.ar .sub .i64 (.var 1) (.ar .quo .i64 (.ar .quo .i64 (.ar .mul .i64 (.var 1) (.var 2)) (.int 1000000000)) (.int 6))) (.ar .quo .i64 (.ar .quo .i64 (.ar .mul .i64 (.ar .quo .i64 (.ar .quo .i64 (.ar .mul .i64 (.var 1) (.var 2)) (.int 1000000000)) (.int 6)) (.var 2)) (.int 1000000000)) (.int 20))) (.ar .quo .i64 (.ar .quo .i64 (.ar .mul .i64 (.ar .quo .i64 (.ar .quo .i64 (.ar .mul .i64 (.ar .quo .i64 (.ar .quo .i64 (.ar .mul .i64 (.var 1) (.var 2)) (.int 1000000000)) (.int 6)) (.var 2)) (.int 1000000000)) (.int 20)) (.var 2)) (.int 1000000000)) (.int 42))) (.ar .quo .i64 (.ar .quo .i64 (.ar .mul .i64 (.ar .quo .i64 (.ar .quo .i64 (.ar .mul .i64 (.ar .quo .i64 (.ar .quo .i64 (.ar .mul .i64 (.ar .quo .i64 (.ar .quo .i64 (.ar .mul .i64 (.var 1) (.var 2)) (.int 1000000000)) (.int 6)) (.var 2)) (.int 1000000000)) (.int 20)) (.var 2)) (.int 1000000000)) (.int 42)) (.var 2)) (.int 1000000000)) (.int 72)))]))))
theorem ex_spec_l04P : exB tab [(257, sg_spec_l04Arc)] Tryz.f255 sg_spec_l04P pr_spec_l04P = true := by kernel_rfl
abbrev n_spec_l04P : Nat := 255
theorem mk_spec_l04P {g0 : List U → Option (List U)}  (h0 : FnOK Tryz.prog 257 sg_spec_l04Arc g0) {g : List U → Option (List U)} (hg : ∀ us rs, us.length = 1 → g us = some rs → wpP (fun k us => if 257 = k then g0 us else none) pr_spec_l04P 0 us fun l η => ∃ es, l = .res es ∧ es.map (E.den η) = rs) : FnOK Tryz.prog 255 sg_spec_l04P g :=
  fn_ok2 tab_ok (env_cons (f := 257) h0 rfl env_nil) mix Tryz.func255 (by kernel_rfl) ex_spec_l04P hg
/-- spec_l04Q -/
def sg_spec_l04Q : Sig := ⟨[.val false [(.int .i64)]], [(false, [(.int .i64)])]⟩
def pr_spec_l04Q : Prog :=
 (.chk 1
 (.call 257 [(.var 0)] 2
 (.leaf (.res [(.ar .sub .i64 (.ar .add .i64 (.ar .sub .i64 (.ar .add .i64 (.ar .sub .i64 (.int 1000000000) (.ar .quo .i64 (.var 2) (.int 2))) (.ar .quo .i64 (.ar .quo .i64 (.ar .mul .i64 (.ar .quo .i64 (.var 2) (.int 2)) (.var 2)) (.int 1000000000)) (.int 12))) (.ar .quo .i64 (.ar .quo .i64 (.ar .mul .i64 (.ar .quo .i64 (.ar .quo .i64 (.ar .mul .i64 (.ar .quo .i64 (.var 2) (.int 2)) (.var 2)) (.int 1000000000)) (.int 12)) (.var 2)) (.int 1000000000)) (.int 30))) (.ar .quo .i64 (.ar .quo .i64 (.ar .mul .i64 (.ar .quo .i64 (.ar .quo .i64 (.ar .mul .i64 (.ar .quo .i64 (.ar .quo .i64 (.ar .mul .i64 (.ar .quo .i64 (.var 2) (.int 2)) (.var 2)) (.int 1000000000)) (.int 12)) (.var 2)) (.int 1000000000)) (.int 30)) (.var 2)) (.int 1000000000)) (.int 56))) (.ar .quo .i64 (.ar .quo .i64 (.ar .mul .i64 (.ar .quo .i64 (.ar .quo .i64 (.ar .mul .i64 (.ar .quo .i64 (.ar .quo .i64 (.ar .mul .i64 (.ar .quo .i64 (.ar .quo .i64 (.ar .mul .i64 (.ar .quo .i64 (.var 2) (.int 2)) (.var 2)) (.int 1000000000)) (.int 12)) (.var 2)) (.int 1000000000)) (.int 30)) (.var 2)) (.int 1000000000)) (.int 56)) (.var 2)) (.int 1000000000)) (.int 90)))]))))
theorem ex_spec_l04Q : exB tab [(257, sg_spec_l04Arc)] Tryz.f256 sg_spec_l04Q pr_spec_l04Q = true := by kernel_rfl
abbrev n_spec_l04Q : Nat := 256
theorem mk_spec_l04Q {g0 : List U → Option (List U)}  (h0 : FnOK Tryz.prog 257 sg_spec_l04Arc g0) {g : List U → Option (List U)} (hg : ∀ us rs, us.length = 1 → g us = some rs → wpP (fun k us => if 257 = k then g0 us else none) pr_spec_l04Q 0 us fun l η => ∃ es, l = .res es ∧ es.map (E.den η) = rs) : FnOK Tryz.prog 256 sg_spec_l04Q g :=
  fn_ok2 tab_ok (env_cons (f := 257) h0 rfl env_nil) mix Tryz.func256 (by kernel_rfl) ex_spec_l04Q hg
/-- spec_l04Sine -/
def sg_spec_l04Sine : Sig := ⟨[.val false [(.int .i64)]], [(false, [(.int .i64)])]⟩
def pr_spec_l04Sine : Prog :=
 (.chk 1
 (.call 175 [(.var 0)] 1
 (.join
  (.cond (.cmp .eql (.ar .rem .i64 (.ar .quo .i64 (.var 1) (.int 324000)) (.int 2)) (.int 1))
   (.leaf (.vals 0 [(.ar .sub .i64 (.int 324000) (.ar .rem .i64 (.var 1) (.int 324000)))]))
   (.leaf (.vals 0 [(.ar .rem .i64 (.var 1) (.int 324000))])))
  (.alt
   (.chk 3
   (.join
    (.cond (.cmp .leq (.var 2) (.int 162000))
     (.call 255 [(.var 2)] 1
     (.leaf (.vals 0 [(.var 3)])))
     (.call 256 [(.ar .sub .i64 (.int 324000) (.var 2))] 1
     (.leaf (.vals 0 [(.var 3)]))))
    (.alt
     (.chk 4
     (.cond (.cmp .geq (.ar .quo .i64 (.var 1) (.int 324000)) (.int 2))
      (.leaf (.res [(.ar .sub .i64 (.int 0) (.var 3))]))
      (.leaf (.res [(.var 3)]))))
     .stop)))
   .stop))))
theorem ex_spec_l04Sine : exB tab [(175, sg_spec_l03Plain), (255, sg_spec_l04P), (256, sg_spec_l04Q)] Tryz.f237 sg_spec_l04Sine pr_spec_l04Sine = true := by kernel_rfl
abbrev n_spec_l04Sine : Nat := 237
theorem mk_spec_l04Sine {g0 g1 g2 : List U → Option (List U)}  (h0 : FnOK Tryz.prog 175 sg_spec_l03Plain g0) (h1 : FnOK Tryz.prog 255 sg_spec_l04P g1) (h2 : FnOK Tryz.prog 256 sg_spec_l04Q g2) {g : List U → Option (List U)} (hg : ∀ us rs, us.length = 1 → g us = some rs → wpP (fun k us => if 175 = k then g0 us else if 255 = k then g1 us else if 256 = k then g2 us else none) pr_spec_l04Sine 0 us fun l η => ∃ es, l = .res es ∧ es.map (E.den η) = rs) : FnOK Tryz.prog 237 sg_spec_l04Sine g :=
  fn_ok2 tab_ok (env_cons (f := 175) h0 rfl (env_cons (f := 255) h1 rfl (env_cons (f := 256) h2 rfl env_nil))) mix Tryz.func237 (by kernel_rfl) ex_spec_l04Sine hg
/-- spec_l04Interval -/
def sg_spec_l04Interval : Sig := ⟨[.val false [(.int .i64)]], [(true, [(.int .i64), (.int .i64)])]⟩
def pr_spec_l04Interval : Prog :=
 (.chk 1
 (.call 174 [(.ar .sub .i64 (.var 0) (.int 60)), (.int 1000)] 1
 (.call 204 [(.ar .add .i64 (.var 0) (.int 60)), (.int 1000)] 1
 (.leaf (.res [(.var 1), (.var 2)])))))
theorem ex_spec_l04Interval : exB tab [(174, sg_spec_l01Floor), (204, sg_spec_l01Ceil)] Tryz.f236 sg_spec_l04Interval pr_spec_l04Interval = true := by kernel_rfl
abbrev n_spec_l04Interval : Nat := 236
theorem mk_spec_l04Interval {g0 g1 : List U → Option (List U)}  (h0 : FnOK Tryz.prog 174 sg_spec_l01Floor g0) (h1 : FnOK Tryz.prog 204 sg_spec_l01Ceil g1) {g : List U → Option (List U)} (hg : ∀ us rs, us.length = 1 → g us = some rs → wpP (fun k us => if 174 = k then g0 us else if 204 = k then g1 us else none) pr_spec_l04Interval 0 us fun l η => ∃ es, l = .res es ∧ es.map (E.den η) = rs) : FnOK Tryz.prog 236 sg_spec_l04Interval g :=
  fn_ok2 tab_ok (env_cons (f := 174) h0 rfl (env_cons (f := 204) h1 rfl env_nil)) mix Tryz.func236 (by kernel_rfl) ex_spec_l04Interval hg
/-- spec_l04Sin -/
def sg_spec_l04Sin : Sig := ⟨[.val false [(.int .i64)]], [(true, [(.int .i64), (.int .i64)])]⟩
def pr_spec_l04Sin : Prog :=
 (.chk 1
 (.call 237 [(.var 0)] 1
 (.call 236 [(.var 1)] 2
 (.leaf (.res [(.var 2), (.var 3)])))))
theorem ex_spec_l04Sin : exB tab [(237, sg_spec_l04Sine), (236, sg_spec_l04Interval)] Tryz.f207 sg_spec_l04Sin pr_spec_l04Sin = true := by kernel_rfl
abbrev n_spec_l04Sin : Nat := 207
theorem mk_spec_l04Sin {g0 g1 : List U → Option (List U)}  (h0 : FnOK Tryz.prog 237 sg_spec_l04Sine g0) (h1 : FnOK Tryz.prog 236 sg_spec_l04Interval g1) {g : List U → Option (List U)} (hg : ∀ us rs, us.length = 1 → g us = some rs → wpP (fun k us => if 237 = k then g0 us else if 236 = k then g1 us else none) pr_spec_l04Sin 0 us fun l η => ∃ es, l = .res es ∧ es.map (E.den η) = rs) : FnOK Tryz.prog 207 sg_spec_l04Sin g :=
  fn_ok2 tab_ok (env_cons (f := 237) h0 rfl (env_cons (f := 236) h1 rfl env_nil)) mix Tryz.func207 (by kernel_rfl) ex_spec_l04Sin hg
/-- spec_l08Mean -/
def sg_spec_l08Mean : Sig := ⟨[.val false [(.int .i64)]], [(false, [(.int .i64)])]⟩
def pr_spec_l08Mean : Prog :=
 (.chk 1
 (.call 174 [(.ar .mul .i64 (.var 0) (.int 354833064)), (.int 100000)] 1
 (.call 175 [(.ar .add .i64 (.int 1009656) (.var 1))] 1
 (.leaf (.res [(.var 2)])))))
theorem ex_spec_l08Mean : exB tab [(174, sg_spec_l01Floor), (175, sg_spec_l03Plain)] Tryz.f238 sg_spec_l08Mean pr_spec_l08Mean = true := by kernel_rfl
abbrev n_spec_l08Mean : Nat := 238
theorem mk_spec_l08Mean {g0 g1 : List U → Option (List U)}  (h0 : FnOK Tryz.prog 174 sg_spec_l01Floor g0) (h1 : FnOK Tryz.prog 175 sg_spec_l03Plain g1) {g : List U → Option (List U)} (hg : ∀ us rs, us.length = 1 → g us = some rs → wpP (fun k us => if 174 = k then g0 us else if 175 = k then g1 us else none) pr_spec_l08Mean 0 us fun l η => ∃ es, l = .res es ∧ es.map (E.den η) = rs) : FnOK Tryz.prog 238 sg_spec_l08Mean g :=
  fn_ok2 tab_ok (env_cons (f := 174) h0 rfl (env_cons (f := 175) h1 rfl env_nil)) mix Tryz.func238 (by kernel_rfl) ex_spec_l08Mean hg
/-- spec_l01Nearest -/
def sg_spec_l01Nearest : Sig := ⟨[.val false [(.int .i64)], .val false [(.int .i64)]], [(false, [(.int .i64)])]⟩
def pr_spec_l01Nearest : Prog :=
 (.chk 2
 (.call 174 [(.ar .add .i64 (.ar .mul .i64 (.int 2) (.var 0)) (.var 1)), (.ar .mul .i64 (.int 2) (.var 1))] 1
 (.leaf (.res [(.var 2)]))))
theorem ex_spec_l01Nearest : exB tab [(174, sg_spec_l01Floor)] Tryz.f239 sg_spec_l01Nearest pr_spec_l01Nearest = true := by kernel_rfl
abbrev n_spec_l01Nearest : Nat := 239
theorem mk_spec_l01Nearest {g0 : List U → Option (List U)}  (h0 : FnOK Tryz.prog 174 sg_spec_l01Floor g0) {g : List U → Option (List U)} (hg : ∀ us rs, us.length = 2 → g us = some rs → wpP (fun k us => if 174 = k then g0 us else none) pr_spec_l01Nearest 0 us fun l η => ∃ es, l = .res es ∧ es.map (E.den η) = rs) : FnOK Tryz.prog 239 sg_spec_l01Nearest g :=
  fn_ok2 tab_ok (env_cons (f := 174) h0 rfl env_nil) mix Tryz.func239 (by kernel_rfl) ex_spec_l01Nearest hg
/-- spec_l08Longitude -/
def sg_spec_l08Longitude : Sig := ⟨[.val false [(.int .i64)]], [(false, [(.int .i64)])]⟩
def pr_spec_l08Longitude : Prog :=
 (.chk 1
 (.call 174 [(.ar .mul .i64 (.var 0) (.int 354816108)), (.int 100000)] 1
 (.call 175 [(.ar .add .i64 (.int 1287101) (.var 1))] 1
 (.call 238 [(.var 0)] 1
 (.call 237 [(.var 2)] 1
 (.call 237 [(.ar .mul .i64 (.int 2) (.var 2))] 1
 (.call 239 [(.ar .add .i64 (.ar .mul .i64 (.int 6894) (.var 4)) (.ar .mul .i64 (.int 72) (.var 5))), (.int 1000000000)] 1
 (.call 175 [(.ar .add .i64 (.var 3) (.var 6))] 1
 (.leaf (.res [(.var 7)]))))))))))
theorem ex_spec_l08Longitude : exB tab [(174, sg_spec_l01Floor), (175, sg_spec_l03Plain), (238, sg_spec_l08Mean), (237, sg_spec_l04Sine), (239, sg_spec_l01Nearest)] Tryz.f208 sg_spec_l08Longitude pr_spec_l08Longitude = true := by kernel_rfl
abbrev n_spec_l08Longitude : Nat := 208
theorem mk_spec_l08Longitude {g0 g1 g2 g3 g4 : List U → Option (List U)}  (h0 : FnOK Tryz.prog 174 sg_spec_l01Floor g0) (h1 : FnOK Tryz.prog 175 sg_spec_l03Plain g1) (h2 : FnOK Tryz.prog 238 sg_spec_l08Mean g2) (h3 : FnOK Tryz.prog 237 sg_spec_l04Sine g3) (h4 : FnOK Tryz.prog 239 sg_spec_l01Nearest g4) {g : List U → Option (List U)} (hg : ∀ us rs, us.length = 1 → g us = some rs → wpP (fun k us => if 174 = k then g0 us else if 175 = k then g1 us else if 238 = k then g2 us else if 237 = k then g3 us else if 239 = k then g4 us else none) pr_spec_l08Longitude 0 us fun l η => ∃ es, l = .res es ∧ es.map (E.den η) = rs) : FnOK Tryz.prog 208 sg_spec_l08Longitude g :=
  fn_ok2 tab_ok (env_cons (f := 174) h0 rfl (env_cons (f := 175) h1 rfl (env_cons (f := 238) h2 rfl (env_cons (f := 237) h3 rfl (env_cons (f := 239) h4 rfl env_nil))))) mix Tryz.func208 (by kernel_rfl) ex_spec_l08Longitude hg
/-- spec_l02Mul -/
def sg_spec_l02Mul : Sig := ⟨[.val true [(.int .i64), (.int .i64)], .val true [(.int .i64), (.int .i64)]], [(true, [(.int .i64), (.int .i64)])]⟩
def pr_spec_l02Mul : Prog :=
 (.chk 4
 (.call 174 [(.mn (.mn (.mn (.ar .mul .i64 (.var 0) (.var 2)) (.ar .mul .i64 (.var 0) (.var 3))) (.ar .mul .i64 (.var 1) (.var 2))) (.ar .mul .i64 (.var 1) (.var 3))), (.int 1000000)] 1
 (.call 204 [(.mx (.mx (.mx (.ar .mul .i64 (.var 0) (.var 2)) (.ar .mul .i64 (.var 0) (.var 3))) (.ar .mul .i64 (.var 1) (.var 2))) (.ar .mul .i64 (.var 1) (.var 3))), (.int 1000000)] 1
 (.leaf (.res [(.var 4), (.var 5)])))))
theorem ex_spec_l02Mul : exB tab [(174, sg_spec_l01Floor), (204, sg_spec_l01Ceil)] Tryz.f206 sg_spec_l02Mul pr_spec_l02Mul = true := by kernel_rfl
abbrev n_spec_l02Mul : Nat := 206
theorem mk_spec_l02Mul {g0 g1 : List U → Option (List U)}  (h0 : FnOK Tryz.prog 174 sg_spec_l01Floor g0) (h1 : FnOK Tryz.prog 204 sg_spec_l01Ceil g1) {g : List U → Option (List U)} (hg : ∀ us rs, us.length = 4 → g us = some rs → wpP (fun k us => if 174 = k then g0 us else if 204 = k then g1 us else none) pr_spec_l02Mul 0 us fun l η => ∃ es, l = .res es ∧ es.map (E.den η) = rs) : FnOK Tryz.prog 206 sg_spec_l02Mul g :=
  fn_ok2 tab_ok (env_cons (f := 174) h0 rfl (env_cons (f := 204) h1 rfl env_nil)) mix Tryz.func206 (by kernel_rfl) ex_spec_l02Mul hg
/-- spec_l01Is -/
def sg_spec_l01Is : Sig := ⟨[.val false [(.int .i64)]], [(false, [.bool])]⟩
def pr_spec_l01Is : Prog :=
 (.chk 1
 (.call 118 [(.var 0), (.int (-1000000000000)), (.int 1000000000000)] 1
 (.leaf (.res [(.var 1)]))))
theorem ex_spec_l01Is : exB tab [(118, sg_spec_l01In)] Tryz.f251 sg_spec_l01Is pr_spec_l01Is = true := by kernel_rfl
abbrev n_spec_l01Is : Nat := 251
theorem mk_spec_l01Is {g0 : List U → Option (List U)}  (h0 : FnOK Tryz.prog 118 sg_spec_l01In g0) {g : List U → Option (List U)} (hg : ∀ us rs, us.length = 1 → g us = some rs → wpP (fun k us => if 118 = k then g0 us else none) pr_spec_l01Is 0 us fun l η => ∃ es, l = .res es ∧ es.map (E.den η) = rs) : FnOK Tryz.prog 251 sg_spec_l01Is g :=
  fn_ok2 tab_ok (env_cons (f := 118) h0 rfl env_nil) mix Tryz.func251 (by kernel_rfl) ex_spec_l01Is hg
/-- spec_IsInterval -/
def sg_spec_IsInterval : Sig := ⟨[.val true [(.int .i64), (.int .i64)]], [(false, [.bool])]⟩
def pr_spec_IsInterval : Prog :=
 (.chk 2
 (.join
  (.call 251 [(.var 0)] 1
  (.cond (.var 2)
   (.call 251 [(.var 1)] 1
   (.cond (.var 3)
    (.leaf (.vals 0 [(.cmp .leq (.var 0) (.var 1))]))
    (.leaf (.vals 0 [(.bool false)]))))
   (.leaf (.vals 0 [(.bool false)]))))
  (.alt
   (.chk 3
   (.leaf (.res [(.var 2)])))
   .stop)))
theorem ex_spec_IsInterval : exB tab [(251, sg_spec_l01Is)] Tryz.f233 sg_spec_IsInterval pr_spec_IsInterval = true := by kernel_rfl
abbrev n_spec_IsInterval : Nat := 233
theorem mk_spec_IsInterval {g0 : List U → Option (List U)}  (h0 : FnOK Tryz.prog 251 sg_spec_l01Is g0) {g : List U → Option (List U)} (hg : ∀ us rs, us.length = 2 → g us = some rs → wpP (fun k us => if 251 = k then g0 us else none) pr_spec_IsInterval 0 us fun l η => ∃ es, l = .res es ∧ es.map (E.den η) = rs) : FnOK Tryz.prog 233 sg_spec_IsInterval g :=
  fn_ok2 tab_ok (env_cons (f := 251) h0 rfl env_nil) mix Tryz.func233 (by kernel_rfl) ex_spec_IsInterval hg
/-- spec_l02Meet -/
def sg_spec_l02Meet : Sig := ⟨[.val true [(.int .i64), (.int .i64)], .val true [(.int .i64), (.int .i64)]], [(true, [(.int .i64), (.int .i64)]), (false, [.bool])]⟩
def pr_spec_l02Meet : Prog :=
 (.chk 4
 (.leaf (.res [(.mx (.var 0) (.var 2)), (.mn (.var 1) (.var 3)), (.cmp .leq (.mx (.var 0) (.var 2)) (.mn (.var 1) (.var 3)))])))
theorem ex_spec_l02Meet : exB tab [] Tryz.f234 sg_spec_l02Meet pr_spec_l02Meet = true := by kernel_rfl
abbrev n_spec_l02Meet : Nat := 234
theorem mk_spec_l02Meet  {g : List U → Option (List U)} (hg : ∀ us rs, us.length = 4 → g us = some rs → wpP (fun _ _ => none) pr_spec_l02Meet 0 us fun l η => ∃ es, l = .res es ∧ es.map (E.den η) = rs) : FnOK Tryz.prog 234 sg_spec_l02Meet g :=
  fn_ok2 tab_ok env_nil mix Tryz.func234 (by kernel_rfl) ex_spec_l02Meet hg
/-- spec_l05Low -/
def sg_spec_l05Low : Sig := ⟨[.val false [(.int .i64)]], [(false, [(.int .i64)])]⟩
def pr_spec_l05Low : Prog :=
 (.chk 1
 (.loop [(.int (-324001)), (.int 324001)]
  (.chk 3
  (.cond (.cmp .gtr (.ar .sub .i64 (.var 2) (.var 1)) (.int 1))
   (.call 174 [(.ar .add .i64 (.var 1) (.var 2)), (.int 2)] 1
   (.call 207 [(.var 3)] 2
   (.cond (.cmp .lss (.var 5) (.var 0))
    (.leaf (.vals 0 [(.var 3), (.var 2)]))
    (.leaf (.vals 0 [(.var 1), (.var 3)])))))
   (.leaf (.vals 1 [(.var 1), (.var 2), (.cmp .gtr (.ar .sub .i64 (.var 2) (.var 1)) (.int 1))]))))
  (.alt
   (.chk 4
   (.leaf (.res [(.var 1)])))
   .stop)))
theorem ex_spec_l05Low : exB tab [(174, sg_spec_l01Floor), (207, sg_spec_l04Sin)] Tryz.f253 sg_spec_l05Low pr_spec_l05Low = true := by kernel_rfl
abbrev n_spec_l05Low : Nat := 253
theorem mk_spec_l05Low {g0 g1 : List U → Option (List U)}  (h0 : FnOK Tryz.prog 174 sg_spec_l01Floor g0) (h1 : FnOK Tryz.prog 207 sg_spec_l04Sin g1) {g : List U → Option (List U)} (hg : ∀ us rs, us.length = 1 → g us = some rs → wpP (fun k us => if 174 = k then g0 us else if 207 = k then g1 us else none) pr_spec_l05Low 0 us fun l η => ∃ es, l = .res es ∧ es.map (E.den η) = rs) : FnOK Tryz.prog 253 sg_spec_l05Low g :=
  fn_ok2 tab_ok (env_cons (f := 174) h0 rfl (env_cons (f := 207) h1 rfl env_nil)) mix Tryz.func253 (by kernel_rfl) ex_spec_l05Low hg
/-- spec_l05Keep -/
def sg_spec_l05Keep : Sig := ⟨[.val false [(.int .i64)]], [(false, [(.int .i64)])]⟩
def pr_spec_l05Keep : Prog :=
 (.chk 1
 (.leaf (.res [(.mx (.int (-324000)) (.mn (.int 324000) (.var 0)))])))
theorem ex_spec_l05Keep : exB tab [] Tryz.f252 sg_spec_l05Keep pr_spec_l05Keep = true := by kernel_rfl
abbrev n_spec_l05Keep : Nat := 252
theorem mk_spec_l05Keep  {g : List U → Option (List U)} (hg : ∀ us rs, us.length = 1 → g us = some rs → wpP (fun _ _ => none) pr_spec_l05Keep 0 us fun l η => ∃ es, l = .res es ∧ es.map (E.den η) = rs) : FnOK Tryz.prog 252 sg_spec_l05Keep g :=
  fn_ok2 tab_ok env_nil mix Tryz.func252 (by kernel_rfl) ex_spec_l05Keep hg
/-- spec_l05High -/
def sg_spec_l05High : Sig := ⟨[.val false [(.int .i64)]], [(false, [(.int .i64)])]⟩
def pr_spec_l05High : Prog :=
 (.chk 1
 (.loop [(.int (-324001)), (.int 324001)]
  (.chk 3
  (.cond (.cmp .gtr (.ar .sub .i64 (.var 2) (.var 1)) (.int 1))
   (.call 174 [(.ar .add .i64 (.var 1) (.var 2)), (.int 2)] 1
   (.call 207 [(.var 3)] 2
   (.cond (.cmp .leq (.var 4) (.var 0))
    (.leaf (.vals 0 [(.var 3), (.var 2)]))
    (.leaf (.vals 0 [(.var 1), (.var 3)])))))
   (.leaf (.vals 1 [(.var 1), (.var 2), (.cmp .gtr (.ar .sub .i64 (.var 2) (.var 1)) (.int 1))]))))
  (.alt
   (.chk 4
   (.leaf (.res [(.var 1)])))
   .stop)))
theorem ex_spec_l05High : exB tab [(174, sg_spec_l01Floor), (207, sg_spec_l04Sin)] Tryz.f254 sg_spec_l05High pr_spec_l05High = true := by kernel_rfl
abbrev n_spec_l05High : Nat := 254
theorem mk_spec_l05High {g0 g1 : List U → Option (List U)}  (h0 : FnOK Tryz.prog 174 sg_spec_l01Floor g0) (h1 : FnOK Tryz.prog 207 sg_spec_l04Sin g1) {g : List U → Option (List U)} (hg : ∀ us rs, us.length = 1 → g us = some rs → wpP (fun k us => if 174 = k then g0 us else if 207 = k then g1 us else none) pr_spec_l05High 0 us fun l η => ∃ es, l = .res es ∧ es.map (E.den η) = rs) : FnOK Tryz.prog 254 sg_spec_l05High g :=
  fn_ok2 tab_ok (env_cons (f := 174) h0 rfl (env_cons (f := 207) h1 rfl env_nil)) mix Tryz.func254 (by kernel_rfl) ex_spec_l05High hg
/-- spec_l05Arc -/
def sg_spec_l05Arc : Sig := ⟨[.val false [(.int .i64)]], [(true, [(.int .i64), (.int .i64)])]⟩
def pr_spec_l05Arc : Prog :=
 (.chk 1
 (.call 253 [(.var 0)] 1
 (.call 252 [(.var 1)] 1
 (.call 254 [(.var 0)] 1
 (.call 252 [(.ar .add .i64 (.int 1) (.var 3))] 1
 (.leaf (.res [(.var 2), (.var 4)])))))))
theorem ex_spec_l05Arc : exB tab [(253, sg_spec_l05Low), (252, sg_spec_l05Keep), (254, sg_spec_l05High)] Tryz.f235 sg_spec_l05Arc pr_spec_l05Arc = true := by kernel_rfl
abbrev n_spec_l05Arc : Nat := 235
theorem mk_spec_l05Arc {g0 g1 g2 : List U → Option (List U)}  (h0 : FnOK Tryz.prog 253 sg_spec_l05Low g0) (h1 : FnOK Tryz.prog 252 sg_spec_l05Keep g1) (h2 : FnOK Tryz.prog 254 sg_spec_l05High g2) {g : List U → Option (List U)} (hg : ∀ us rs, us.length = 1 → g us = some rs → wpP (fun k us => if 253 = k then g0 us else if 252 = k then g1 us else if 254 = k then g2 us else none) pr_spec_l05Arc 0 us fun l η => ∃ es, l = .res es ∧ es.map (E.den η) = rs) : FnOK Tryz.prog 235 sg_spec_l05Arc g :=
  fn_ok2 tab_ok (env_cons (f := 253) h0 rfl (env_cons (f := 252) h1 rfl (env_cons (f := 254) h2 rfl env_nil))) mix Tryz.func235 (by kernel_rfl) ex_spec_l05Arc hg
/-- spec_ArcSineRange -/
def sg_spec_ArcSineRange : Sig := ⟨[.val true [(.int .i64), (.int .i64)]], [(true, [(.int .i64), (.int .i64)]), (false, [(.int .i64)])]⟩
def pr_spec_ArcSineRange : Prog :=
 (.chk 2
 (.call 233 [(.var 0), (.var 1)] 1
 (.cond (.not (.var 2))
  (.leaf (.res [(.int 0), (.int 0), (.int 1)]))
  (.call 234 [(.var 0), (.var 1), (.int (-1000000)), (.int 1000000)] 3
  (.cond (.not (.var 5))
   (.leaf (.res [(.int 0), (.int 0), (.int 4)]))
   (.call 235 [(.var 3)] 2
   (.call 235 [(.var 4)] 2
   (.leaf (.res [(.var 6), (.var 9), (.int 0)])))))))))
theorem ex_spec_ArcSineRange : exB tab [(233, sg_spec_IsInterval), (234, sg_spec_l02Meet), (235, sg_spec_l05Arc)] Tryz.f205 sg_spec_ArcSineRange pr_spec_ArcSineRange = true := by kernel_rfl
abbrev n_spec_ArcSineRange : Nat := 205
theorem mk_spec_ArcSineRange {g0 g1 g2 : List U → Option (List U)}  (h0 : FnOK Tryz.prog 233 sg_spec_IsInterval g0) (h1 : FnOK Tryz.prog 234 sg_spec_l02Meet g1) (h2 : FnOK Tryz.prog 235 sg_spec_l05Arc g2) {g : List U → Option (List U)} (hg : ∀ us rs, us.length = 2 → g us = some rs → wpP (fun k us => if 233 = k then g0 us else if 234 = k then g1 us else if 235 = k then g2 us else none) pr_spec_ArcSineRange 0 us fun l η => ∃ es, l = .res es ∧ es.map (E.den η) = rs) : FnOK Tryz.prog 205 sg_spec_ArcSineRange g :=
  fn_ok2 tab_ok (env_cons (f := 233) h0 rfl (env_cons (f := 234) h1 rfl (env_cons (f := 235) h2 rfl env_nil))) mix Tryz.func205 (by kernel_rfl) ex_spec_ArcSineRange hg
/-- spec_l08Declination -/
def sg_spec_l08Declination : Sig := ⟨[.val false [(.int .i64)]], [(true, [(.int .i64), (.int .i64)])]⟩
def pr_spec_l08Declination : Prog :=
 (.chk 1
 (.call 207 [(.int 84380)] 2
 (.call 208 [(.var 0)] 1
 (.call 207 [(.var 3)] 2
 (.call 206 [(.var 1), (.var 2), (.var 4), (.var 5)] 2
 (.call 205 [(.var 6), (.var 7)] 3
 (.leaf (.res [(.ar .sub .i64 (.var 8) (.int 60)), (.ar .add .i64 (.var 9) (.int 60))]))))))))
theorem ex_spec_l08Declination : exB tab [(207, sg_spec_l04Sin), (208, sg_spec_l08Longitude), (206, sg_spec_l02Mul), (205, sg_spec_ArcSineRange)] Tryz.f168 sg_spec_l08Declination pr_spec_l08Declination = true := by kernel_rfl
abbrev n_spec_l08Declination : Nat := 168
theorem mk_spec_l08Declination {g0 g1 g2 g3 : List U → Option (List U)}  (h0 : FnOK Tryz.prog 207 sg_spec_l04Sin g0) (h1 : FnOK Tryz.prog 208 sg_spec_l08Longitude g1) (h2 : FnOK Tryz.prog 206 sg_spec_l02Mul g2) (h3 : FnOK Tryz.prog 205 sg_spec_ArcSineRange g3) {g : List U → Option (List U)} (hg : ∀ us rs, us.length = 1 → g us = some rs → wpP (fun k us => if 207 = k then g0 us else if 208 = k then g1 us else if 206 = k then g2 us else if 205 = k then g3 us else none) pr_spec_l08Declination 0 us fun l η => ∃ es, l = .res es ∧ es.map (E.den η) = rs) : FnOK Tryz.prog 168 sg_spec_l08Declination g :=
  fn_ok2 tab_ok (env_cons (f := 207) h0 rfl (env_cons (f := 208) h1 rfl (env_cons (f := 206) h2 rfl (env_cons (f := 205) h3 rfl env_nil)))) mix Tryz.func168 (by kernel_rfl) ex_spec_l08Declination hg
/-- spec_l04Cosine -/
def sg_spec_l04Cosine : Sig := ⟨[.val false [(.int .i64)]], [(false, [(.int .i64)])]⟩
def pr_spec_l04Cosine : Prog :=
 (.chk 1
 (.call 237 [(.ar .add .i64 (.var 0) (.int 324000))] 1
 (.leaf (.res [(.var 1)]))))
theorem ex_spec_l04Cosine : exB tab [(237, sg_spec_l04Sine)] Tryz.f241 sg_spec_l04Cosine pr_spec_l04Cosine = true := by kernel_rfl
abbrev n_spec_l04Cosine : Nat := 241
theorem mk_spec_l04Cosine {g0 : List U → Option (List U)}  (h0 : FnOK Tryz.prog 237 sg_spec_l04Sine g0) {g : List U → Option (List U)} (hg : ∀ us rs, us.length = 1 → g us = some rs → wpP (fun k us => if 237 = k then g0 us else none) pr_spec_l04Cosine 0 us fun l η => ∃ es, l = .res es ∧ es.map (E.den η) = rs) : FnOK Tryz.prog 241 sg_spec_l04Cosine g :=
  fn_ok2 tab_ok (env_cons (f := 237) h0 rfl env_nil) mix Tryz.func241 (by kernel_rfl) ex_spec_l04Cosine hg
/-- spec_l04Cos -/
def sg_spec_l04Cos : Sig := ⟨[.val false [(.int .i64)]], [(true, [(.int .i64), (.int .i64)])]⟩
def pr_spec_l04Cos : Prog :=
 (.chk 1
 (.call 241 [(.var 0)] 1
 (.call 236 [(.var 1)] 2
 (.leaf (.res [(.var 2), (.var 3)])))))
theorem ex_spec_l04Cos : exB tab [(241, sg_spec_l04Cosine), (236, sg_spec_l04Interval)] Tryz.f212 sg_spec_l04Cos pr_spec_l04Cos = true := by kernel_rfl
abbrev n_spec_l04Cos : Nat := 212
theorem mk_spec_l04Cos {g0 g1 : List U → Option (List U)}  (h0 : FnOK Tryz.prog 241 sg_spec_l04Cosine g0) (h1 : FnOK Tryz.prog 236 sg_spec_l04Interval g1) {g : List U → Option (List U)} (hg : ∀ us rs, us.length = 1 → g us = some rs → wpP (fun k us => if 241 = k then g0 us else if 236 = k then g1 us else none) pr_spec_l04Cos 0 us fun l η => ∃ es, l = .res es ∧ es.map (E.den η) = rs) : FnOK Tryz.prog 212 sg_spec_l04Cos g :=
  fn_ok2 tab_ok (env_cons (f := 241) h0 rfl (env_cons (f := 236) h1 rfl env_nil)) mix Tryz.func212 (by kernel_rfl) ex_spec_l04Cos hg
/-- spec_l06To -/
def sg_spec_l06To : Sig := ⟨[.val false [(.int .i64)], .val false [(.int .i64)]], [(true, [(.int .i64), (.int .i64), (.int .i64), (.int .i64), (.int .i64), (.int .i64)])]⟩
def pr_spec_l06To : Prog :=
 (.chk 2
 (.call 212 [(.var 1)] 2
 (.call 207 [(.var 0)] 2
 (.call 206 [(.var 4), (.var 5), (.var 2), (.var 3)] 2
 (.call 212 [(.var 0)] 2
 (.call 206 [(.var 8), (.var 9), (.var 2), (.var 3)] 2
 (.call 207 [(.var 1)] 2
 (.leaf (.res [(.var 6), (.var 7), (.var 10), (.var 11), (.var 12), (.var 13)])))))))))
theorem ex_spec_l06To : exB tab [(212, sg_spec_l04Cos), (207, sg_spec_l04Sin), (206, sg_spec_l02Mul)] Tryz.f209 sg_spec_l06To pr_spec_l06To = true := by kernel_rfl
abbrev n_spec_l06To : Nat := 209
theorem mk_spec_l06To {g0 g1 g2 : List U → Option (List U)}  (h0 : FnOK Tryz.prog 212 sg_spec_l04Cos g0) (h1 : FnOK Tryz.prog 207 sg_spec_l04Sin g1) (h2 : FnOK Tryz.prog 206 sg_spec_l02Mul g2) {g : List U → Option (List U)} (hg : ∀ us rs, us.length = 2 → g us = some rs → wpP (fun k us => if 212 = k then g0 us else if 207 = k then g1 us else if 206 = k then g2 us else none) pr_spec_l06To 0 us fun l η => ∃ es, l = .res es ∧ es.map (E.den η) = rs) : FnOK Tryz.prog 209 sg_spec_l06To g :=
  fn_ok2 tab_ok (env_cons (f := 212) h0 rfl (env_cons (f := 207) h1 rfl (env_cons (f := 206) h2 rfl env_nil))) mix Tryz.func209 (by kernel_rfl) ex_spec_l06To hg
/-- spec_l13Axes -/
def sg_spec_l13Axes : Sig := ⟨[.val true [(.int .i64), (.int .i64)]], [(false, [(.lst 98 [(.int .i64), (.int .i64), (.int .i64), (.int .i64), (.int .i64), (.int .i64)])])]⟩
def pr_spec_l13Axes : Prog :=
 (.chk 2
 (.call 209 [(.ar .sub .i64 (.var 0) (.int 324000)), (.int 0)] 6
 (.call 209 [(.var 0), (.ar .add .i64 (.var 1) (.int 324000))] 6
 (.call 209 [(.var 0), (.var 1)] 6
 (.leaf (.res [(.lcons (.rcons (.var 2) (.rcons (.var 3) (.rcons (.var 4) (.rcons (.var 5) (.rcons (.var 6) (.rcons (.var 7) .rnil)))))) (.lcons (.rcons (.var 8) (.rcons (.var 9) (.rcons (.var 10) (.rcons (.var 11) (.rcons (.var 12) (.rcons (.var 13) .rnil)))))) (.lcons (.rcons (.var 14) (.rcons (.var 15) (.rcons (.var 16) (.rcons (.var 17) (.rcons (.var 18) (.rcons (.var 19) .rnil)))))) .lnil)))]))))))
theorem ex_spec_l13Axes : exB tab [(209, sg_spec_l06To)] Tryz.f169 sg_spec_l13Axes pr_spec_l13Axes = true := by kernel_rfl
abbrev n_spec_l13Axes : Nat := 169
theorem mk_spec_l13Axes {g0 : List U → Option (List U)}  (h0 : FnOK Tryz.prog 209 sg_spec_l06To g0) {g : List U → Option (List U)} (hg : ∀ us rs, us.length = 2 → g us = some rs → wpP (fun k us => if 209 = k then g0 us else none) pr_spec_l13Axes 0 us fun l η => ∃ es, l = .res es ∧ es.map (E.den η) = rs) : FnOK Tryz.prog 169 sg_spec_l13Axes g :=
  fn_ok2 tab_ok (env_cons (f := 209) h0 rfl env_nil) mix Tryz.func169 (by kernel_rfl) ex_spec_l13Axes hg
/-- spec_l15Make -/
def sg_spec_l15Make : Sig := ⟨[.val true [(.int .i64), (.int .i64), (.int .i64), (.int .i64)], .val false [(.int .i64)]], [(true, [(.int .i64), (.int .i64), (.int .i64), (.int .i64), (.int .i64), (.int .i64), (.lst 98 [(.int .i64), (.int .i64), (.int .i64), (.int .i64), (.int .i64), (.int .i64)])])]⟩
def pr_spec_l15Make : Prog :=
 (.chk 5
 (.call 168 [(.var 4)] 2
 (.call 169 [(.var 1), (.var 2)] 1
 (.leaf (.res [(.var 0), (.var 1), (.var 2), (.var 3), (.var 5), (.var 6), (.var 7)])))))
theorem ex_spec_l15Make : exB tab [(168, sg_spec_l08Declination), (169, sg_spec_l13Axes)] Tryz.f123 sg_spec_l15Make pr_spec_l15Make = true := by kernel_rfl
abbrev n_spec_l15Make : Nat := 123
theorem mk_spec_l15Make {g0 g1 : List U → Option (List U)}  (h0 : FnOK Tryz.prog 168 sg_spec_l08Declination g0) (h1 : FnOK Tryz.prog 169 sg_spec_l13Axes g1) {g : List U → Option (List U)} (hg : ∀ us rs, us.length = 5 → g us = some rs → wpP (fun k us => if 168 = k then g0 us else if 169 = k then g1 us else none) pr_spec_l15Make 0 us fun l η => ∃ es, l = .res es ∧ es.map (E.den η) = rs) : FnOK Tryz.prog 123 sg_spec_l15Make g :=
  fn_ok2 tab_ok (env_cons (f := 168) h0 rfl (env_cons (f := 169) h1 rfl env_nil)) mix Tryz.func123 (by kernel_rfl) ex_spec_l15Make hg
/-- spec_l02Hull -/
def sg_spec_l02Hull : Sig := ⟨[.val true [(.int .i64), (.int .i64)], .val true [(.int .i64), (.int .i64)]], [(true, [(.int .i64), (.int .i64)])]⟩
def pr_spec_l02Hull : Prog :=
 (.chk 4
 (.leaf (.res [(.mn (.var 0) (.var 2)), (.mx (.var 1) (.var 3))])))
theorem ex_spec_l02Hull : exB tab [] Tryz.f240 sg_spec_l02Hull pr_spec_l02Hull = true := by kernel_rfl
abbrev n_spec_l02Hull : Nat := 240
theorem mk_spec_l02Hull  {g : List U → Option (List U)} (hg : ∀ us rs, us.length = 4 → g us = some rs → wpP (fun _ _ => none) pr_spec_l02Hull 0 us fun l η => ∃ es, l = .res es ∧ es.map (E.den η) = rs) : FnOK Tryz.prog 240 sg_spec_l02Hull g :=
  fn_ok2 tab_ok env_nil mix Tryz.func240 (by kernel_rfl) ex_spec_l02Hull hg
/-- spec_l04Range -/
def sg_spec_l04Range : Sig := ⟨[.val true [(.int .i64), (.int .i64)]], [(true, [(.int .i64), (.int .i64)])]⟩
def pr_spec_l04Range : Prog :=
 (.chk 2
 (.call 207 [(.var 0)] 2
 (.call 207 [(.var 1)] 2
 (.call 240 [(.var 2), (.var 3), (.var 4), (.var 5)] 2
 (.join
  (.call 175 [(.ar .sub .i64 (.int 324000) (.var 0))] 1
  (.cond (.cmp .leq (.var 8) (.ar .sub .i64 (.var 1) (.var 0)))
   (.call 240 [(.var 6), (.var 7), (.int 1000000), (.int 1000000)] 2
   (.leaf (.vals 0 [(.cmp .leq (.var 8) (.ar .sub .i64 (.var 1) (.var 0))), (.var 9), (.var 10)])))
   (.leaf (.vals 0 [(.cmp .leq (.var 8) (.ar .sub .i64 (.var 1) (.var 0))), (.var 6), (.var 7)]))))
  (.alt
   (.join
    (.call 175 [(.ar .sub .i64 (.int (-324000)) (.var 0))] 1
    (.chk 12
    (.cond (.cmp .leq (.var 11) (.ar .sub .i64 (.var 1) (.var 0)))
     (.call 240 [(.var 9), (.var 10), (.int (-1000000)), (.int (-1000000))] 2
     (.leaf (.vals 0 [(.cmp .leq (.var 11) (.ar .sub .i64 (.var 1) (.var 0))), (.var 12), (.var 13)])))
     (.leaf (.vals 0 [(.cmp .leq (.var 11) (.ar .sub .i64 (.var 1) (.var 0))), (.var 9), (.var 10)])))))
    (.alt
     (.chk 14
     (.leaf (.res [(.var 12), (.var 13)])))
     .stop))
   .stop))))))
theorem ex_spec_l04Range : exB tab [(207, sg_spec_l04Sin), (240, sg_spec_l02Hull), (175, sg_spec_l03Plain)] Tryz.f210 sg_spec_l04Range pr_spec_l04Range = true := by kernel_rfl
abbrev n_spec_l04Range : Nat := 210
theorem mk_spec_l04Range {g0 g1 g2 : List U → Option (List U)}  (h0 : FnOK Tryz.prog 207 sg_spec_l04Sin g0) (h1 : FnOK Tryz.prog 240 sg_spec_l02Hull g1) (h2 : FnOK Tryz.prog 175 sg_spec_l03Plain g2) {g : List U → Option (List U)} (hg : ∀ us rs, us.length = 2 → g us = some rs → wpP (fun k us => if 207 = k then g0 us else if 240 = k then g1 us else if 175 = k then g2 us else none) pr_spec_l04Range 0 us fun l η => ∃ es, l = .res es ∧ es.map (E.den η) = rs) : FnOK Tryz.prog 210 sg_spec_l04Range g :=
  fn_ok2 tab_ok (env_cons (f := 207) h0 rfl (env_cons (f := 240) h1 rfl (env_cons (f := 175) h2 rfl env_nil))) mix Tryz.func210 (by kernel_rfl) ex_spec_l04Range hg
/-- spec_l09Hour -/
def sg_spec_l09Hour : Sig := ⟨[.val false [(.int .i64)]], [(false, [(.int .i64)])]⟩
def pr_spec_l09Hour : Prog :=
 (.chk 1
 (.leaf (.res [(.ar .mul .i64 (.ar .sub .i64 (.var 0) (.int 720)) (.int 900))])))
theorem ex_spec_l09Hour : exB tab [] Tryz.f211 sg_spec_l09Hour pr_spec_l09Hour = true := by kernel_rfl
abbrev n_spec_l09Hour : Nat := 211
theorem mk_spec_l09Hour  {g : List U → Option (List U)} (hg : ∀ us rs, us.length = 1 → g us = some rs → wpP (fun _ _ => none) pr_spec_l09Hour 0 us fun l η => ∃ es, l = .res es ∧ es.map (E.den η) = rs) : FnOK Tryz.prog 211 sg_spec_l09Hour g :=
  fn_ok2 tab_ok env_nil mix Tryz.func211 (by kernel_rfl) ex_spec_l09Hour hg
/-- spec_l02Sub -/
def sg_spec_l02Sub : Sig := ⟨[.val true [(.int .i64), (.int .i64)], .val true [(.int .i64), (.int .i64)]], [(true, [(.int .i64), (.int .i64)])]⟩
def pr_spec_l02Sub : Prog :=
 (.chk 4
 (.leaf (.res [(.ar .sub .i64 (.var 0) (.var 3)), (.ar .sub .i64 (.var 1) (.var 2))])))
theorem ex_spec_l02Sub : exB tab [] Tryz.f213 sg_spec_l02Sub pr_spec_l02Sub = true := by kernel_rfl
abbrev n_spec_l02Sub : Nat := 213
theorem mk_spec_l02Sub  {g : List U → Option (List U)} (hg : ∀ us rs, us.length = 4 → g us = some rs → wpP (fun _ _ => none) pr_spec_l02Sub 0 us fun l η => ∃ es, l = .res es ∧ es.map (E.den η) = rs) : FnOK Tryz.prog 213 sg_spec_l02Sub g :=
  fn_ok2 tab_ok env_nil mix Tryz.func213 (by kernel_rfl) ex_spec_l02Sub hg
/-- spec_l02Add -/
def sg_spec_l02Add : Sig := ⟨[.val true [(.int .i64), (.int .i64)], .val true [(.int .i64), (.int .i64)]], [(true, [(.int .i64), (.int .i64)])]⟩
def pr_spec_l02Add : Prog :=
 (.chk 4
 (.leaf (.res [(.ar .add .i64 (.var 0) (.var 2)), (.ar .add .i64 (.var 1) (.var 3))])))
theorem ex_spec_l02Add : exB tab [] Tryz.f214 sg_spec_l02Add pr_spec_l02Add = true := by kernel_rfl
abbrev n_spec_l02Add : Nat := 214
theorem mk_spec_l02Add  {g : List U → Option (List U)} (hg : ∀ us rs, us.length = 4 → g us = some rs → wpP (fun _ _ => none) pr_spec_l02Add 0 us fun l η => ∃ es, l = .res es ∧ es.map (E.den η) = rs) : FnOK Tryz.prog 214 sg_spec_l02Add g :=
  fn_ok2 tab_ok env_nil mix Tryz.func214 (by kernel_rfl) ex_spec_l02Add hg
/-- spec_l09Sun -/
def sg_spec_l09Sun : Sig := ⟨[.val false [(.int .i64)], .val true [(.int .i64), (.int .i64)], .val false [(.int .i64)]], [(true, [(.int .i64), (.int .i64), (.int .i64), (.int .i64), (.int .i64), (.int .i64)])]⟩
def pr_spec_l09Sun : Prog :=
 (.chk 4
 (.call 210 [(.var 1), (.var 2)] 2
 (.call 210 [(.ar .add .i64 (.var 1) (.int 324000)), (.ar .add .i64 (.var 2) (.int 324000))] 2
 (.call 211 [(.var 3)] 1
 (.call 207 [(.var 8)] 2
 (.call 211 [(.var 3)] 1
 (.call 212 [(.var 11)] 2
 (.call 207 [(.var 0)] 2
 (.call 212 [(.var 0)] 2
 (.call 206 [(.var 6), (.var 7), (.var 12), (.var 13)] 2
 (.call 206 [(.var 6), (.var 7), (.var 9), (.var 10)] 2
 (.call 213 [(.int 0), (.int 0), (.var 20), (.var 21)] 2
 (.call 206 [(.var 4), (.var 5), (.var 16), (.var 17)] 2
 (.call 206 [(.var 18), (.var 19), (.var 14), (.var 15)] 2
 (.call 213 [(.var 24), (.var 25), (.var 26), (.var 27)] 2
 (.call 206 [(.var 4), (.var 5), (.var 14), (.var 15)] 2
 (.call 206 [(.var 18), (.var 19), (.var 16), (.var 17)] 2
 (.call 214 [(.var 30), (.var 31), (.var 32), (.var 33)] 2
 (.leaf (.res [(.var 22), (.var 23), (.var 28), (.var 29), (.var 34), (.var 35)]))))))))))))))))))))
theorem ex_spec_l09Sun : exB tab [(210, sg_spec_l04Range), (211, sg_spec_l09Hour), (207, sg_spec_l04Sin), (212, sg_spec_l04Cos), (206, sg_spec_l02Mul), (213, sg_spec_l02Sub), (214, sg_spec_l02Add)] Tryz.f170 sg_spec_l09Sun pr_spec_l09Sun = true := by kernel_rfl
abbrev n_spec_l09Sun : Nat := 170
theorem mk_spec_l09Sun {g0 g1 g2 g3 g4 g5 g6 : List U → Option (List U)}  (h0 : FnOK Tryz.prog 210 sg_spec_l04Range g0) (h1 : FnOK Tryz.prog 211 sg_spec_l09Hour g1) (h2 : FnOK Tryz.prog 207 sg_spec_l04Sin g2) (h3 : FnOK Tryz.prog 212 sg_spec_l04Cos g3) (h4 : FnOK Tryz.prog 206 sg_spec_l02Mul g4) (h5 : FnOK Tryz.prog 213 sg_spec_l02Sub g5) (h6 : FnOK Tryz.prog 214 sg_spec_l02Add g6) {g : List U → Option (List U)} (hg : ∀ us rs, us.length = 4 → g us = some rs → wpP (fun k us => if 210 = k then g0 us else if 211 = k then g1 us else if 207 = k then g2 us else if 212 = k then g3 us else if 206 = k then g4 us else if 213 = k then g5 us else if 214 = k then g6 us else none) pr_spec_l09Sun 0 us fun l η => ∃ es, l = .res es ∧ es.map (E.den η) = rs) : FnOK Tryz.prog 170 sg_spec_l09Sun g :=
  fn_ok2 tab_ok (env_cons (f := 210) h0 rfl (env_cons (f := 211) h1 rfl (env_cons (f := 207) h2 rfl (env_cons (f := 212) h3 rfl (env_cons (f := 206) h4 rfl (env_cons (f := 213) h5 rfl (env_cons (f := 214) h6 rfl env_nil))))))) mix Tryz.func170 (by kernel_rfl) ex_spec_l09Sun hg
/-- spec_l06Dot -/
def sg_spec_l06Dot : Sig := ⟨[.val true [(.int .i64), (.int .i64), (.int .i64), (.int .i64), (.int .i64), (.int .i64)], .val true [(.int .i64), (.int .i64), (.int .i64), (.int .i64), (.int .i64), (.int .i64)]], [(true, [(.int .i64), (.int .i64)])]⟩
def pr_spec_l06Dot : Prog :=
 (.chk 12
 (.call 206 [(.var 0), (.var 1), (.var 6), (.var 7)] 2
 (.call 206 [(.var 2), (.var 3), (.var 8), (.var 9)] 2
 (.call 214 [(.var 12), (.var 13), (.var 14), (.var 15)] 2
 (.call 206 [(.var 4), (.var 5), (.var 10), (.var 11)] 2
 (.call 214 [(.var 16), (.var 17), (.var 18), (.var 19)] 2
 (.leaf (.res [(.var 20), (.var 21)]))))))))
theorem ex_spec_l06Dot : exB tab [(206, sg_spec_l02Mul), (214, sg_spec_l02Add)] Tryz.f215 sg_spec_l06Dot pr_spec_l06Dot = true := by kernel_rfl
abbrev n_spec_l06Dot : Nat := 215
theorem mk_spec_l06Dot {g0 g1 : List U → Option (List U)}  (h0 : FnOK Tryz.prog 206 sg_spec_l02Mul g0) (h1 : FnOK Tryz.prog 214 sg_spec_l02Add g1) {g : List U → Option (List U)} (hg : ∀ us rs, us.length = 12 → g us = some rs → wpP (fun k us => if 206 = k then g0 us else if 214 = k then g1 us else none) pr_spec_l06Dot 0 us fun l η => ∃ es, l = .res es ∧ es.map (E.den η) = rs) : FnOK Tryz.prog 215 sg_spec_l06Dot g :=
  fn_ok2 tab_ok (env_cons (f := 206) h0 rfl (env_cons (f := 214) h1 rfl env_nil)) mix Tryz.func215 (by kernel_rfl) ex_spec_l06Dot hg
/-- spec_l13Parts -/
def sg_spec_l13Parts : Sig := ⟨[.val false [(.lst 98 [(.int .i64), (.int .i64), (.int .i64), (.int .i64), (.int .i64), (.int .i64)])], .val true [(.int .i64), (.int .i64), (.int .i64), (.int .i64), (.int .i64), (.int .i64)]], [(false, [(.lst 41 [(.int .i64), (.int .i64)])])]⟩
def pr_spec_l13Parts : Prog :=
 (.chk 7
 (.guard (.cmp .leq (.int 0) (.int 0)) true
 (.guard (.cmp .lss (.int 0) (.len (.var 0))) true
 (.call 215 [(.nth (.var 0) (.int 0) 0), (.nth (.var 0) (.int 0) 1), (.nth (.var 0) (.int 0) 2), (.nth (.var 0) (.int 0) 3), (.nth (.var 0) (.int 0) 4), (.nth (.var 0) (.int 0) 5), (.var 1), (.var 2), (.var 3), (.var 4), (.var 5), (.var 6)] 2
 (.guard (.cmp .leq (.int 0) (.int 1)) true
 (.guard (.cmp .lss (.int 1) (.len (.var 0))) true
 (.call 215 [(.nth (.var 0) (.int 1) 0), (.nth (.var 0) (.int 1) 1), (.nth (.var 0) (.int 1) 2), (.nth (.var 0) (.int 1) 3), (.nth (.var 0) (.int 1) 4), (.nth (.var 0) (.int 1) 5), (.var 1), (.var 2), (.var 3), (.var 4), (.var 5), (.var 6)] 2
 (.guard (.cmp .leq (.int 0) (.int 2)) true
 (.guard (.cmp .lss (.int 2) (.len (.var 0))) true
 (.call 215 [(.nth (.var 0) (.int 2) 0), (.nth (.var 0) (.int 2) 1), (.nth (.var 0) (.int 2) 2), (.nth (.var 0) (.int 2) 3), (.nth (.var 0) (.int 2) 4), (.nth (.var 0) (.int 2) 5), (.var 1), (.var 2), (.var 3), (.var 4), (.var 5), (.var 6)] 2
 (.leaf (.res [(.lcons (.rcons (.var 7) (.rcons (.var 8) .rnil)) (.lcons (.rcons (.var 9) (.rcons (.var 10) .rnil)) (.lcons (.rcons (.var 11) (.rcons (.var 12) .rnil)) .lnil)))]))))))))))))
theorem ex_spec_l13Parts : exB tab [(215, sg_spec_l06Dot)] Tryz.f171 sg_spec_l13Parts pr_spec_l13Parts = true := by kernel_rfl
abbrev n_spec_l13Parts : Nat := 171
theorem mk_spec_l13Parts {g0 : List U → Option (List U)}  (h0 : FnOK Tryz.prog 215 sg_spec_l06Dot g0) {g : List U → Option (List U)} (hg : ∀ us rs, us.length = 7 → g us = some rs → wpP (fun k us => if 215 = k then g0 us else none) pr_spec_l13Parts 0 us fun l η => ∃ es, l = .res es ∧ es.map (E.den η) = rs) : FnOK Tryz.prog 171 sg_spec_l13Parts g :=
  fn_ok2 tab_ok (env_cons (f := 215) h0 rfl env_nil) mix Tryz.func171 (by kernel_rfl) ex_spec_l13Parts hg
/-- spec_l02Div -/
def sg_spec_l02Div : Sig := ⟨[.val true [(.int .i64), (.int .i64)], .val true [(.int .i64), (.int .i64)]], [(true, [(.int .i64), (.int .i64)])]⟩
def pr_spec_l02Div : Prog :=
 (.chk 4
 (.call 174 [(.ar .mul .i64 (.var 0) (.int 1000000)), (.var 2)] 1
 (.call 174 [(.ar .mul .i64 (.var 0) (.int 1000000)), (.var 3)] 1
 (.call 174 [(.ar .mul .i64 (.var 1) (.int 1000000)), (.var 2)] 1
 (.call 174 [(.ar .mul .i64 (.var 1) (.int 1000000)), (.var 3)] 1
 (.call 204 [(.ar .mul .i64 (.var 0) (.int 1000000)), (.var 2)] 1
 (.call 204 [(.ar .mul .i64 (.var 0) (.int 1000000)), (.var 3)] 1
 (.call 204 [(.ar .mul .i64 (.var 1) (.int 1000000)), (.var 2)] 1
 (.call 204 [(.ar .mul .i64 (.var 1) (.int 1000000)), (.var 3)] 1
 (.leaf (.res [(.mn (.mn (.mn (.var 4) (.var 5)) (.var 6)) (.var 7)), (.mx (.mx (.mx (.var 8) (.var 9)) (.var 10)) (.var 11))])))))))))))
theorem ex_spec_l02Div : exB tab [(174, sg_spec_l01Floor), (204, sg_spec_l01Ceil)] Tryz.f242 sg_spec_l02Div pr_spec_l02Div = true := by kernel_rfl
abbrev n_spec_l02Div : Nat := 242
theorem mk_spec_l02Div {g0 g1 : List U → Option (List U)}  (h0 : FnOK Tryz.prog 174 sg_spec_l01Floor g0) (h1 : FnOK Tryz.prog 204 sg_spec_l01Ceil g1) {g : List U → Option (List U)} (hg : ∀ us rs, us.length = 4 → g us = some rs → wpP (fun k us => if 174 = k then g0 us else if 204 = k then g1 us else none) pr_spec_l02Div 0 us fun l η => ∃ es, l = .res es ∧ es.map (E.den η) = rs) : FnOK Tryz.prog 242 sg_spec_l02Div g :=
  fn_ok2 tab_ok (env_cons (f := 174) h0 rfl (env_cons (f := 204) h1 rfl env_nil)) mix Tryz.func242 (by kernel_rfl) ex_spec_l02Div hg
/-- spec_l14Far -/
def sg_spec_l14Far : Sig := ⟨[.val false [(.int .i64)], .val true [(.int .i64), (.int .i64)], .val true [(.int .i64), (.int .i64)]], [(true, [(.int .i64), (.int .i64)])]⟩
def pr_spec_l14Far : Prog :=
 (.chk 5
 (.call 242 [(.var 1), (.var 2), (.var 3), (.var 4)] 2
 (.call 174 [(.ar .mul .i64 (.ar .sub .i64 (.int 0) (.var 0)) (.var 6)), (.int 1000000)] 1
 (.call 204 [(.ar .mul .i64 (.ar .sub .i64 (.int 0) (.var 0)) (.var 5)), (.int 1000000)] 1
 (.leaf (.res [(.var 7), (.var 8)]))))))
theorem ex_spec_l14Far : exB tab [(242, sg_spec_l02Div), (174, sg_spec_l01Floor), (204, sg_spec_l01Ceil)] Tryz.f216 sg_spec_l14Far pr_spec_l14Far = true := by kernel_rfl
abbrev n_spec_l14Far : Nat := 216
theorem mk_spec_l14Far {g0 g1 g2 : List U → Option (List U)}  (h0 : FnOK Tryz.prog 242 sg_spec_l02Div g0) (h1 : FnOK Tryz.prog 174 sg_spec_l01Floor g1) (h2 : FnOK Tryz.prog 204 sg_spec_l01Ceil g2) {g : List U → Option (List U)} (hg : ∀ us rs, us.length = 5 → g us = some rs → wpP (fun k us => if 242 = k then g0 us else if 174 = k then g1 us else if 204 = k then g2 us else none) pr_spec_l14Far 0 us fun l η => ∃ es, l = .res es ∧ es.map (E.den η) = rs) : FnOK Tryz.prog 216 sg_spec_l14Far g :=
  fn_ok2 tab_ok (env_cons (f := 242) h0 rfl (env_cons (f := 174) h1 rfl (env_cons (f := 204) h2 rfl env_nil))) mix Tryz.func216 (by kernel_rfl) ex_spec_l14Far hg
/-- spec_l14Place -/
def sg_spec_l14Place : Sig := ⟨[.val false [(.int .i64)], .val false [(.lst 41 [(.int .i64), (.int .i64)])]], [(true, [(.int .i64), (.int .i64), (.int .i64), (.int .i64)])]⟩
def pr_spec_l14Place : Prog :=
 (.chk 2
 (.guard (.cmp .leq (.int 0) (.int 0)) true
 (.guard (.cmp .lss (.int 0) (.len (.var 1))) true
 (.guard (.cmp .leq (.int 0) (.int 2)) true
 (.guard (.cmp .lss (.int 2) (.len (.var 1))) true
 (.call 216 [(.var 0), (.nth (.var 1) (.int 0) 0), (.nth (.var 1) (.int 0) 1), (.nth (.var 1) (.int 2) 0), (.nth (.var 1) (.int 2) 1)] 2
 (.guard (.cmp .leq (.int 0) (.int 1)) true
 (.guard (.cmp .lss (.int 1) (.len (.var 1))) true
 (.call 216 [(.var 0), (.nth (.var 1) (.int 1) 0), (.nth (.var 1) (.int 1) 1), (.nth (.var 1) (.int 2) 0), (.nth (.var 1) (.int 2) 1)] 2
 (.leaf (.res [(.var 2), (.var 3), (.var 4), (.var 5)])))))))))))
theorem ex_spec_l14Place : exB tab [(216, sg_spec_l14Far)] Tryz.f172 sg_spec_l14Place pr_spec_l14Place = true := by kernel_rfl
abbrev n_spec_l14Place : Nat := 172
theorem mk_spec_l14Place {g0 : List U → Option (List U)}  (h0 : FnOK Tryz.prog 216 sg_spec_l14Far g0) {g : List U → Option (List U)} (hg : ∀ us rs, us.length = 2 → g us = some rs → wpP (fun k us => if 216 = k then g0 us else none) pr_spec_l14Place 0 us fun l η => ∃ es, l = .res es ∧ es.map (E.den η) = rs) : FnOK Tryz.prog 172 sg_spec_l14Place g :=
  fn_ok2 tab_ok (env_cons (f := 216) h0 rfl env_nil) mix Tryz.func172 (by kernel_rfl) ex_spec_l14Place hg
/-- spec_l14Coordinate -/
def sg_spec_l14Coordinate : Sig := ⟨[.val true [(.int .i64), (.int .i64)]], [(false, [.bool])]⟩
def pr_spec_l14Coordinate : Prog :=
 (.chk 2
 (.join
  (.call 118 [(.var 0), (.int (-1000000)), (.var 1)] 1
  (.cond (.var 2)
   (.call 118 [(.var 1), (.int (-1000000)), (.int 1000000)] 1
   (.leaf (.vals 0 [(.var 3)])))
   (.leaf (.vals 0 [(.bool false)]))))
  (.alt
   (.chk 3
   (.leaf (.res [(.var 2)])))
   .stop)))
theorem ex_spec_l14Coordinate : exB tab [(118, sg_spec_l01In)] Tryz.f217 sg_spec_l14Coordinate pr_spec_l14Coordinate = true := by kernel_rfl
abbrev n_spec_l14Coordinate : Nat := 217
theorem mk_spec_l14Coordinate {g0 : List U → Option (List U)}  (h0 : FnOK Tryz.prog 118 sg_spec_l01In g0) {g : List U → Option (List U)} (hg : ∀ us rs, us.length = 2 → g us = some rs → wpP (fun k us => if 118 = k then g0 us else none) pr_spec_l14Coordinate 0 us fun l η => ∃ es, l = .res es ∧ es.map (E.den η) = rs) : FnOK Tryz.prog 217 sg_spec_l14Coordinate g :=
  fn_ok2 tab_ok (env_cons (f := 118) h0 rfl env_nil) mix Tryz.func217 (by kernel_rfl) ex_spec_l14Coordinate hg
/-- spec_IsPlace -/
def sg_spec_IsPlace : Sig := ⟨[.val true [(.int .i64), (.int .i64), (.int .i64), (.int .i64)]], [(false, [.bool])]⟩
def pr_spec_IsPlace : Prog :=
 (.chk 4
 (.join
  (.call 217 [(.var 0), (.var 1)] 1
  (.cond (.var 4)
   (.call 217 [(.var 2), (.var 3)] 1
   (.leaf (.vals 0 [(.var 5)])))
   (.leaf (.vals 0 [(.bool false)]))))
  (.alt
   (.chk 5
   (.leaf (.res [(.var 4)])))
   .stop)))
theorem ex_spec_IsPlace : exB tab [(217, sg_spec_l14Coordinate)] Tryz.f173 sg_spec_IsPlace pr_spec_IsPlace = true := by kernel_rfl
abbrev n_spec_IsPlace : Nat := 173
theorem mk_spec_IsPlace {g0 : List U → Option (List U)}  (h0 : FnOK Tryz.prog 217 sg_spec_l14Coordinate g0) {g : List U → Option (List U)} (hg : ∀ us rs, us.length = 4 → g us = some rs → wpP (fun k us => if 217 = k then g0 us else none) pr_spec_IsPlace 0 us fun l η => ∃ es, l = .res es ∧ es.map (E.den η) = rs) : FnOK Tryz.prog 173 sg_spec_IsPlace g :=
  fn_ok2 tab_ok (env_cons (f := 217) h0 rfl env_nil) mix Tryz.func173 (by kernel_rfl) ex_spec_IsPlace hg
/-- spec_l15Shadow -/
def sg_spec_l15Shadow : Sig := ⟨[.val true [(.int .i64), (.int .i64), (.int .i64), (.int .i64), (.int .i64), (.int .i64), (.lst 98 [(.int .i64), (.int .i64), (.int .i64), (.int .i64), (.int .i64), (.int .i64)])], .val false [(.int .i64)]], [(true, [(.int .i64), (.int .i64), (.int .i64), (.int .i64)]), (false, [.bool])]⟩
def pr_spec_l15Shadow : Prog :=
 (.chk 8
 (.call 170 [(.var 0), (.var 4), (.var 5), (.var 7)] 6
 (.call 171 [(.var 6), (.var 8), (.var 9), (.var 10), (.var 11), (.var 12), (.var 13)] 1
 (.join
  (.cond (.cmp .leq (.var 12) (.int 0))
   (.leaf (.vals 0 [(.bool true)]))
   (.guard (.cmp .leq (.int 0) (.int 2)) true
   (.guard (.cmp .lss (.int 2) (.len (.var 14))) true
   (.leaf (.vals 0 [(.cmp .leq (.nth (.var 14) (.int 2) 0) (.int 0))])))))
  (.alt
   (.chk 16
   (.cond (.var 15)
    (.leaf (.res [(.int 0), (.int 0), (.int 0), (.int 0), (.bool false)]))
    (.call 172 [(.var 3), (.var 14)] 4
    (.call 173 [(.var 16), (.var 17), (.var 18), (.var 19)] 1
    (.leaf (.res [(.var 16), (.var 17), (.var 18), (.var 19), (.var 20)]))))))
   .stop)))))
theorem ex_spec_l15Shadow : exB tab [(170, sg_spec_l09Sun), (171, sg_spec_l13Parts), (172, sg_spec_l14Place), (173, sg_spec_IsPlace)] Tryz.f124 sg_spec_l15Shadow pr_spec_l15Shadow = true := by kernel_rfl
abbrev n_spec_l15Shadow : Nat := 124
theorem mk_spec_l15Shadow {g0 g1 g2 g3 : List U → Option (List U)}  (h0 : FnOK Tryz.prog 170 sg_spec_l09Sun g0) (h1 : FnOK Tryz.prog 171 sg_spec_l13Parts g1) (h2 : FnOK Tryz.prog 172 sg_spec_l14Place g2) (h3 : FnOK Tryz.prog 173 sg_spec_IsPlace g3) {g : List U → Option (List U)} (hg : ∀ us rs, us.length = 8 → g us = some rs → wpP (fun k us => if 170 = k then g0 us else if 171 = k then g1 us else if 172 = k then g2 us else if 173 = k then g3 us else none) pr_spec_l15Shadow 0 us fun l η => ∃ es, l = .res es ∧ es.map (E.den η) = rs) : FnOK Tryz.prog 124 sg_spec_l15Shadow g :=
  fn_ok2 tab_ok (env_cons (f := 170) h0 rfl (env_cons (f := 171) h1 rfl (env_cons (f := 172) h2 rfl (env_cons (f := 173) h3 rfl env_nil)))) mix Tryz.func124 (by kernel_rfl) ex_spec_l15Shadow hg
/-- spec_l14Middle -/
def sg_spec_l14Middle : Sig := ⟨[.val true [(.int .i64), (.int .i64), (.int .i64), (.int .i64)]], [(false, [(.int .i64)]), (false, [(.int .i64)])]⟩
def pr_spec_l14Middle : Prog :=
 (.chk 4
 (.call 174 [(.ar .add .i64 (.var 0) (.var 1)), (.int 2)] 1
 (.call 174 [(.ar .add .i64 (.var 2) (.var 3)), (.int 2)] 1
 (.leaf (.res [(.var 4), (.var 5)])))))
theorem ex_spec_l14Middle : exB tab [(174, sg_spec_l01Floor)] Tryz.f125 sg_spec_l14Middle pr_spec_l14Middle = true := by kernel_rfl
abbrev n_spec_l14Middle : Nat := 125
theorem mk_spec_l14Middle {g0 : List U → Option (List U)}  (h0 : FnOK Tryz.prog 174 sg_spec_l01Floor g0) {g : List U → Option (List U)} (hg : ∀ us rs, us.length = 4 → g us = some rs → wpP (fun k us => if 174 = k then g0 us else none) pr_spec_l14Middle 0 us fun l η => ∃ es, l = .res es ∧ es.map (E.den η) = rs) : FnOK Tryz.prog 125 sg_spec_l14Middle g :=
  fn_ok2 tab_ok (env_cons (f := 174) h0 rfl env_nil) mix Tryz.func125 (by kernel_rfl) ex_spec_l14Middle hg
/-- spec_l16Square -/
def sg_spec_l16Square : Sig := ⟨[.val true [(.int .i64), (.int .i64)], .val true [(.int .i64), (.int .i64)]], [(false, [(.int .i64)])]⟩
def pr_spec_l16Square : Prog :=
 (.chk 4
 (.leaf (.res [(.ar .add .i64 (.ar .mul .i64 (.ar .sub .i64 (.var 0) (.var 2)) (.ar .sub .i64 (.var 0) (.var 2))) (.ar .mul .i64 (.ar .sub .i64 (.var 1) (.var 3)) (.ar .sub .i64 (.var 1) (.var 3))))])))
theorem ex_spec_l16Square : exB tab [] Tryz.f197 sg_spec_l16Square pr_spec_l16Square = true := by kernel_rfl
abbrev n_spec_l16Square : Nat := 197
theorem mk_spec_l16Square  {g : List U → Option (List U)} (hg : ∀ us rs, us.length = 4 → g us = some rs → wpP (fun _ _ => none) pr_spec_l16Square 0 us fun l η => ∃ es, l = .res es ∧ es.map (E.den η) = rs) : FnOK Tryz.prog 197 sg_spec_l16Square g :=
  fn_ok2 tab_ok env_nil mix Tryz.func197 (by kernel_rfl) ex_spec_l16Square hg
/-- spec_l25Residual -/
def sg_spec_l25Residual : Sig := ⟨[.val true [(.int .i64), (.int .i64), (.int .i64), (.int .i64)], .val true [(.int .i64), (.int .i64), (.int .i64), (.int .i64)]], [(false, [(.int .i64)])]⟩
def pr_spec_l25Residual : Prog :=
 (.chk 8
 (.call 123 [(.var 0), (.var 1), (.var 2), (.var 3), (.var 4)] 7
 (.call 124 [(.var 8), (.var 9), (.var 10), (.var 11), (.var 12), (.var 13), (.var 14), (.var 5)] 5
 (.cond (.not (.var 19))
  (.leaf (.res [(.int (-1))]))
  (.call 125 [(.var 15), (.var 16), (.var 17), (.var 18)] 2
  (.call 197 [(.var 20), (.var 21), (.var 6), (.var 7)] 1
  (.leaf (.res [(.var 22)]))))))))
theorem ex_spec_l25Residual : exB tab [(123, sg_spec_l15Make), (124, sg_spec_l15Shadow), (125, sg_spec_l14Middle), (197, sg_spec_l16Square)] Tryz.f152 sg_spec_l25Residual pr_spec_l25Residual = true := by kernel_rfl
abbrev n_spec_l25Residual : Nat := 152
theorem mk_spec_l25Residual {g0 g1 g2 g3 : List U → Option (List U)}  (h0 : FnOK Tryz.prog 123 sg_spec_l15Make g0) (h1 : FnOK Tryz.prog 124 sg_spec_l15Shadow g1) (h2 : FnOK Tryz.prog 125 sg_spec_l14Middle g2) (h3 : FnOK Tryz.prog 197 sg_spec_l16Square g3) {g : List U → Option (List U)} (hg : ∀ us rs, us.length = 8 → g us = some rs → wpP (fun k us => if 123 = k then g0 us else if 124 = k then g1 us else if 125 = k then g2 us else if 197 = k then g3 us else none) pr_spec_l25Residual 0 us fun l η => ∃ es, l = .res es ∧ es.map (E.den η) = rs) : FnOK Tryz.prog 152 sg_spec_l25Residual g :=
  fn_ok2 tab_ok (env_cons (f := 123) h0 rfl (env_cons (f := 124) h1 rfl (env_cons (f := 125) h2 rfl (env_cons (f := 197) h3 rfl env_nil)))) mix Tryz.func152 (by kernel_rfl) ex_spec_l25Residual hg
/-- spec_l25Sum -/
def sg_spec_l25Sum : Sig := ⟨[.val true [(.int .i64), (.int .i64), (.int .i64), (.int .i64)], .val false [(.lst 104 [(.int .i64), (.int .i64), (.int .i64), (.int .i64)])]], [(false, [(.int .i64)])]⟩
def pr_spec_l25Sum : Prog :=
 (.chk 5
 (.loop [(.int 0), (.int 0)]
  (.chk 7
  (.cond (.cmp .lss (.var 6) (.len (.var 4)))
   (.guard (.cmp .leq (.int 0) (.var 6)) true
   (.call 152 [(.var 0), (.var 1), (.var 2), (.var 3), (.nth (.var 4) (.var 6) 0), (.nth (.var 4) (.var 6) 1), (.nth (.var 4) (.var 6) 2), (.nth (.var 4) (.var 6) 3)] 1
   (.cond (.cmp .lss (.var 7) (.int 0))
    (.leaf (.vals 1 [(.var 5), (.var 6), (.var 7), (.cmp .lss (.var 6) (.len (.var 4))), (.cmp .lss (.var 7) (.int 0))]))
    (.leaf (.vals 0 [(.ar .add .i64 (.var 5) (.var 7)), (.ar .add .i64 (.var 6) (.int 1))])))))
   (.leaf (.vals 2 [(.var 5), (.var 6), (.cmp .lss (.var 6) (.len (.var 4)))]))))
  (.alt
   (.leaf (.res [(.int (-1))]))
   (.alt
    (.chk 8
    (.leaf (.res [(.var 5)])))
    .stop))))
theorem ex_spec_l25Sum : exB tab [(152, sg_spec_l25Residual)] Tryz.f95 sg_spec_l25Sum pr_spec_l25Sum = true := by kernel_rfl
abbrev n_spec_l25Sum : Nat := 95
theorem mk_spec_l25Sum {g0 : List U → Option (List U)}  (h0 : FnOK Tryz.prog 152 sg_spec_l25Residual g0) {g : List U → Option (List U)} (hg : ∀ us rs, us.length = 5 → g us = some rs → wpP (fun k us => if 152 = k then g0 us else none) pr_spec_l25Sum 0 us fun l η => ∃ es, l = .res es ∧ es.map (E.den η) = rs) : FnOK Tryz.prog 95 sg_spec_l25Sum g :=
  fn_ok2 tab_ok (env_cons (f := 152) h0 rfl env_nil) mix Tryz.func95 (by kernel_rfl) ex_spec_l25Sum hg
/-- spec_SumOfResiduals -/
def sg_spec_SumOfResiduals : Sig := ⟨[.val true [(.int .i64), (.int .i64), (.int .i64), (.int .i64)], .val false [(.lst 104 [(.int .i64), (.int .i64), (.int .i64), (.int .i64)])]], [(false, [(.int .i64)]), (false, [(.int .i64)])]⟩
def pr_spec_SumOfResiduals : Prog :=
 (.chk 5
 (.call 94 [(.var 0), (.var 1), (.var 2), (.var 3), (.var 4)] 1
 (.cond (.cmp .neq (.var 5) (.int 0))
  (.leaf (.res [(.int 0), (.var 5)]))
  (.call 95 [(.var 0), (.var 1), (.var 2), (.var 3), (.var 4)] 1
  (.cond (.cmp .lss (.var 6) (.int 0))
   (.leaf (.res [(.int 0), (.int 4)]))
   (.leaf (.res [(.var 6), (.int 0)])))))))
theorem ex_spec_SumOfResiduals : exB tab [(94, sg_spec_l25Dial), (95, sg_spec_l25Sum)] Tryz.f26 sg_spec_SumOfResiduals pr_spec_SumOfResiduals = true := by kernel_rfl
abbrev n_spec_SumOfResiduals : Nat := 26
theorem mk_spec_SumOfResiduals {g0 g1 : List U → Option (List U)}  (h0 : FnOK Tryz.prog 94 sg_spec_l25Dial g0) (h1 : FnOK Tryz.prog 95 sg_spec_l25Sum g1) {g : List U → Option (List U)} (hg : ∀ us rs, us.length = 5 → g us = some rs → wpP (fun k us => if 94 = k then g0 us else if 95 = k then g1 us else none) pr_spec_SumOfResiduals 0 us fun l η => ∃ es, l = .res es ∧ es.map (E.den η) = rs) : FnOK Tryz.prog 26 sg_spec_SumOfResiduals g :=
  fn_ok2 tab_ok (env_cons (f := 94) h0 rfl (env_cons (f := 95) h1 rfl env_nil)) mix Tryz.func26 (by kernel_rfl) ex_spec_SumOfResiduals hg
/-- impl_in -/
def sg_impl_in : Sig := ⟨[.val false [(.int .i64)], .val false [(.int .i64)], .val false [(.int .i64)]], [(false, [.bool])]⟩
def pr_impl_in : Prog :=
 (.chk 3
 (.join
  (.cond (.cmp .geq (.var 0) (.var 1))
   (.leaf (.vals 0 [(.cmp .leq (.var 0) (.var 2))]))
   (.leaf (.vals 0 [(.bool false)])))
  (.alt
   (.chk 4
   (.leaf (.res [(.var 3)])))
   .stop)))
theorem ex_impl_in : exB tab [] Tryz.f114 sg_impl_in pr_impl_in = true := by kernel_rfl
abbrev n_impl_in : Nat := 114
theorem mk_impl_in  {g : List U → Option (List U)} (hg : ∀ us rs, us.length = 3 → g us = some rs → wpP (fun _ _ => none) pr_impl_in 0 us fun l η => ∃ es, l = .res es ∧ es.map (E.den η) = rs) : FnOK Tryz.prog 114 sg_impl_in g :=
  fn_ok2 tab_ok env_nil mix Tryz.func114 (by kernel_rfl) ex_impl_in hg
/-- impl_isLatitude -/
def sg_impl_isLatitude : Sig := ⟨[.val false [(.int .i64)]], [(false, [.bool])]⟩
def pr_impl_isLatitude : Prog :=
 (.chk 1
 (.call 114 [(.var 0), (.int (-324000)), (.int 324000)] 1
 (.leaf (.res [(.var 1)]))))
theorem ex_impl_isLatitude : exB tab [(114, sg_impl_in)] Tryz.f139 sg_impl_isLatitude pr_impl_isLatitude = true := by kernel_rfl
abbrev n_impl_isLatitude : Nat := 139
theorem mk_impl_isLatitude {g0 : List U → Option (List U)}  (h0 : FnOK Tryz.prog 114 sg_impl_in g0) {g : List U → Option (List U)} (hg : ∀ us rs, us.length = 1 → g us = some rs → wpP (fun k us => if 114 = k then g0 us else none) pr_impl_isLatitude 0 us fun l η => ∃ es, l = .res es ∧ es.map (E.den η) = rs) : FnOK Tryz.prog 139 sg_impl_isLatitude g :=
  fn_ok2 tab_ok (env_cons (f := 114) h0 rfl env_nil) mix Tryz.func139 (by kernel_rfl) ex_impl_isLatitude hg
/-- impl_IsWall -/
def sg_impl_IsWall : Sig := ⟨[.val true [(.int .i64), (.int .i64)]], [(false, [.bool])]⟩
def pr_impl_IsWall : Prog :=
 (.chk 2
 (.join
  (.call 114 [(.var 0), (.int 0), (.int 1295999)] 1
  (.cond (.var 2)
   (.call 114 [(.var 1), (.int (-324000)), (.int 324000)] 1
   (.leaf (.vals 0 [(.var 3)])))
   (.leaf (.vals 0 [(.bool false)]))))
  (.alt
   (.chk 3
   (.leaf (.res [(.var 2)])))
   .stop)))
theorem ex_impl_IsWall : exB tab [(114, sg_impl_in)] Tryz.f103 sg_impl_IsWall pr_impl_IsWall = true := by kernel_rfl
abbrev n_impl_IsWall : Nat := 103
theorem mk_impl_IsWall {g0 : List U → Option (List U)}  (h0 : FnOK Tryz.prog 114 sg_impl_in g0) {g : List U → Option (List U)} (hg : ∀ us rs, us.length = 2 → g us = some rs → wpP (fun k us => if 114 = k then g0 us else none) pr_impl_IsWall 0 us fun l η => ∃ es, l = .res es ∧ es.map (E.den η) = rs) : FnOK Tryz.prog 103 sg_impl_IsWall g :=
  fn_ok2 tab_ok (env_cons (f := 114) h0 rfl env_nil) mix Tryz.func103 (by kernel_rfl) ex_impl_IsWall hg
/-- impl_isHeight -/
def sg_impl_isHeight : Sig := ⟨[.val false [(.int .i64)]], [(false, [.bool])]⟩
def pr_impl_isHeight : Prog :=
 (.chk 1
 (.call 114 [(.var 0), (.int 1), (.int 10000)] 1
 (.leaf (.res [(.var 1)]))))
theorem ex_impl_isHeight : exB tab [(114, sg_impl_in)] Tryz.f111 sg_impl_isHeight pr_impl_isHeight = true := by kernel_rfl
abbrev n_impl_isHeight : Nat := 111
theorem mk_impl_isHeight {g0 : List U → Option (List U)}  (h0 : FnOK Tryz.prog 114 sg_impl_in g0) {g : List U → Option (List U)} (hg : ∀ us rs, us.length = 1 → g us = some rs → wpP (fun k us => if 114 = k then g0 us else none) pr_impl_isHeight 0 us fun l η => ∃ es, l = .res es ∧ es.map (E.den η) = rs) : FnOK Tryz.prog 111 sg_impl_isHeight g :=
  fn_ok2 tab_ok (env_cons (f := 114) h0 rfl env_nil) mix Tryz.func111 (by kernel_rfl) ex_impl_isHeight hg
/-- impl_IsDial -/
def sg_impl_IsDial : Sig := ⟨[.val true [(.int .i64), (.int .i64), (.int .i64), (.int .i64)]], [(false, [.bool])]⟩
def pr_impl_IsDial : Prog :=
 (.chk 4
 (.join
  (.call 139 [(.var 0)] 1
  (.cond (.var 4)
   (.call 103 [(.var 1), (.var 2)] 1
   (.cond (.var 5)
    (.call 111 [(.var 3)] 1
    (.leaf (.vals 0 [(.var 6)])))
    (.leaf (.vals 0 [(.bool false)]))))
   (.leaf (.vals 0 [(.bool false)]))))
  (.alt
   (.chk 5
   (.leaf (.res [(.var 4)])))
   .stop)))
theorem ex_impl_IsDial : exB tab [(139, sg_impl_isLatitude), (103, sg_impl_IsWall), (111, sg_impl_isHeight)] Tryz.f66 sg_impl_IsDial pr_impl_IsDial = true := by kernel_rfl
abbrev n_impl_IsDial : Nat := 66
theorem mk_impl_IsDial {g0 g1 g2 : List U → Option (List U)}  (h0 : FnOK Tryz.prog 139 sg_impl_isLatitude g0) (h1 : FnOK Tryz.prog 103 sg_impl_IsWall g1) (h2 : FnOK Tryz.prog 111 sg_impl_isHeight g2) {g : List U → Option (List U)} (hg : ∀ us rs, us.length = 4 → g us = some rs → wpP (fun k us => if 139 = k then g0 us else if 103 = k then g1 us else if 111 = k then g2 us else none) pr_impl_IsDial 0 us fun l η => ∃ es, l = .res es ∧ es.map (E.den η) = rs) : FnOK Tryz.prog 66 sg_impl_IsDial g :=
  fn_ok2 tab_ok (env_cons (f := 139) h0 rfl (env_cons (f := 103) h1 rfl (env_cons (f := 111) h2 rfl env_nil))) mix Tryz.func66 (by kernel_rfl) ex_impl_IsDial hg
/-- impl_daysInMonth -/
def sg_impl_daysInMonth : Sig := ⟨[.val false [(.int .i64)], .val false [(.int .i64)]], [(false, [(.int .i64)])]⟩
def pr_impl_daysInMonth : Prog :=
 (.chk 2
 (.join
  (.cond (.cmp .eql (.var 1) (.int 4))
   (.leaf (.vals 0 [(.cmp .eql (.var 1) (.int 4))]))
   (.cond (.cmp .eql (.var 1) (.int 6))
    (.leaf (.vals 0 [(.cmp .eql (.var 1) (.int 6))]))
    (.cond (.cmp .eql (.var 1) (.int 9))
     (.leaf (.vals 0 [(.cmp .eql (.var 1) (.int 9))]))
     (.leaf (.vals 0 [(.cmp .eql (.var 1) (.int 11))])))))
  (.alt
   (.cond (.var 2)
    (.chk 3
    (.leaf (.res [(.int 30)])))
    (.chk 3
    (.cond (.cmp .eql (.var 1) (.int 2))
     (.cond (.cmp .eql (.ar .rem .i64 (.var 0) (.int 4)) (.int 0))
      (.leaf (.res [(.int 29)]))
      (.leaf (.res [(.int 28)])))
     (.leaf (.res [(.int 31)])))))
   .stop)))
theorem ex_impl_daysInMonth : exB tab [] Tryz.f200 sg_impl_daysInMonth pr_impl_daysInMonth = true := by kernel_rfl
abbrev n_impl_daysInMonth : Nat := 200
theorem mk_impl_daysInMonth  {g : List U → Option (List U)} (hg : ∀ us rs, us.length = 2 → g us = some rs → wpP (fun _ _ => none) pr_impl_daysInMonth 0 us fun l η => ∃ es, l = .res es ∧ es.map (E.den η) = rs) : FnOK Tryz.prog 200 sg_impl_daysInMonth g :=
  fn_ok2 tab_ok env_nil mix Tryz.func200 (by kernel_rfl) ex_impl_daysInMonth hg
/-- impl_dayNumber -/
def sg_impl_dayNumber : Sig := ⟨[.val true [(.int .i64), (.int .i64), (.int .i64)]], [(false, [(.int .i64)])]⟩
def pr_impl_dayNumber : Prog :=
 (.chk 3
 (.loop [(.ar .sub .i64 (.ar .add .i64 (.ar .add .i64 (.ar .add .i64 (.int (-36159)) (.ar .mul .i64 (.int 365) (.ar .sub .i64 (.var 0) (.int 1901)))) (.ar .quo .i64 (.ar .sub .i64 (.var 0) (.int 1901)) (.int 4))) (.var 2)) (.int 1)), (.int 1)]
  (.chk 5
  (.cond (.cmp .lss (.var 4) (.var 1))
   (.call 200 [(.var 0), (.var 4)] 1
   (.leaf (.vals 0 [(.ar .add .i64 (.var 3) (.var 5)), (.ar .add .i64 (.var 4) (.int 1))])))
   (.leaf (.vals 1 [(.var 3), (.var 4), (.cmp .lss (.var 4) (.var 1))]))))
  (.alt
   (.chk 6
   (.leaf (.res [(.var 3)])))
   .stop)))
theorem ex_impl_dayNumber : exB tab [(200, sg_impl_daysInMonth)] Tryz.f156 sg_impl_dayNumber pr_impl_dayNumber = true := by kernel_rfl
abbrev n_impl_dayNumber : Nat := 156
theorem mk_impl_dayNumber {g0 : List U → Option (List U)}  (h0 : FnOK Tryz.prog 200 sg_impl_daysInMonth g0) {g : List U → Option (List U)} (hg : ∀ us rs, us.length = 3 → g us = some rs → wpP (fun k us => if 200 = k then g0 us else none) pr_impl_dayNumber 0 us fun l η => ∃ es, l = .res es ∧ es.map (E.den η) = rs) : FnOK Tryz.prog 156 sg_impl_dayNumber g :=
  fn_ok2 tab_ok (env_cons (f := 200) h0 rfl env_nil) mix Tryz.func156 (by kernel_rfl) ex_impl_dayNumber hg
/-- impl_isDayNumber -/
def sg_impl_isDayNumber : Sig := ⟨[.val false [(.int .i64)]], [(false, [.bool])]⟩
def pr_impl_isDayNumber : Prog :=
 (.chk 1
 (.call 156 [(.int 1901), (.int 1), (.int 1)] 1
 (.call 156 [(.int 2099), (.int 12), (.int 31)] 1
 (.call 114 [(.var 0), (.var 1), (.var 2)] 1
 (.leaf (.res [(.var 3)]))))))
theorem ex_impl_isDayNumber : exB tab [(156, sg_impl_dayNumber), (114, sg_impl_in)] Tryz.f83 sg_impl_isDayNumber pr_impl_isDayNumber = true := by kernel_rfl
abbrev n_impl_isDayNumber : Nat := 83
theorem mk_impl_isDayNumber {g0 g1 : List U → Option (List U)}  (h0 : FnOK Tryz.prog 156 sg_impl_dayNumber g0) (h1 : FnOK Tryz.prog 114 sg_impl_in g1) {g : List U → Option (List U)} (hg : ∀ us rs, us.length = 1 → g us = some rs → wpP (fun k us => if 156 = k then g0 us else if 114 = k then g1 us else none) pr_impl_isDayNumber 0 us fun l η => ∃ es, l = .res es ∧ es.map (E.den η) = rs) : FnOK Tryz.prog 83 sg_impl_isDayNumber g :=
  fn_ok2 tab_ok (env_cons (f := 156) h0 rfl (env_cons (f := 114) h1 rfl env_nil)) mix Tryz.func83 (by kernel_rfl) ex_impl_isDayNumber hg
/-- impl_isMinute -/
def sg_impl_isMinute : Sig := ⟨[.val false [(.int .i64)]], [(false, [.bool])]⟩
def pr_impl_isMinute : Prog :=
 (.chk 1
 (.call 114 [(.var 0), (.int 0), (.int 1439)] 1
 (.leaf (.res [(.var 1)]))))
theorem ex_impl_isMinute : exB tab [(114, sg_impl_in)] Tryz.f89 sg_impl_isMinute pr_impl_isMinute = true := by kernel_rfl
abbrev n_impl_isMinute : Nat := 89
theorem mk_impl_isMinute {g0 : List U → Option (List U)}  (h0 : FnOK Tryz.prog 114 sg_impl_in g0) {g : List U → Option (List U)} (hg : ∀ us rs, us.length = 1 → g us = some rs → wpP (fun k us => if 114 = k then g0 us else none) pr_impl_isMinute 0 us fun l η => ∃ es, l = .res es ∧ es.map (E.den η) = rs) : FnOK Tryz.prog 89 sg_impl_isMinute g :=
  fn_ok2 tab_ok (env_cons (f := 114) h0 rfl env_nil) mix Tryz.func89 (by kernel_rfl) ex_impl_isMinute hg
/-- impl_isSpot -/
def sg_impl_isSpot : Sig := ⟨[.val false [(.int .i64)]], [(false, [.bool])]⟩
def pr_impl_isSpot : Prog :=
 (.chk 1
 (.call 114 [(.var 0), (.int (-1000000)), (.int 1000000)] 1
 (.leaf (.res [(.var 1)]))))
theorem ex_impl_isSpot : exB tab [(114, sg_impl_in)] Tryz.f92 sg_impl_isSpot pr_impl_isSpot = true := by kernel_rfl
abbrev n_impl_isSpot : Nat := 92
theorem mk_impl_isSpot {g0 : List U → Option (List U)}  (h0 : FnOK Tryz.prog 114 sg_impl_in g0) {g : List U → Option (List U)} (hg : ∀ us rs, us.length = 1 → g us = some rs → wpP (fun k us => if 114 = k then g0 us else none) pr_impl_isSpot 0 us fun l η => ∃ es, l = .res es ∧ es.map (E.den η) = rs) : FnOK Tryz.prog 92 sg_impl_isSpot g :=
  fn_ok2 tab_ok (env_cons (f := 114) h0 rfl env_nil) mix Tryz.func92 (by kernel_rfl) ex_impl_isSpot hg
/-- impl_isPoint -/
def sg_impl_isPoint : Sig := ⟨[.val true [(.int .i64), (.int .i64)]], [(false, [.bool])]⟩
def pr_impl_isPoint : Prog :=
 (.chk 2
 (.join
  (.call 92 [(.var 0)] 1
  (.cond (.var 2)
   (.call 92 [(.var 1)] 1
   (.leaf (.vals 0 [(.var 3)])))
   (.leaf (.vals 0 [(.bool false)]))))
  (.alt
   (.chk 3
   (.leaf (.res [(.var 2)])))
   .stop)))
theorem ex_impl_isPoint : exB tab [(92, sg_impl_isSpot)] Tryz.f84 sg_impl_isPoint pr_impl_isPoint = true := by kernel_rfl
abbrev n_impl_isPoint : Nat := 84
theorem mk_impl_isPoint {g0 : List U → Option (List U)}  (h0 : FnOK Tryz.prog 92 sg_impl_isSpot g0) {g : List U → Option (List U)} (hg : ∀ us rs, us.length = 2 → g us = some rs → wpP (fun k us => if 92 = k then g0 us else none) pr_impl_isPoint 0 us fun l η => ∃ es, l = .res es ∧ es.map (E.den η) = rs) : FnOK Tryz.prog 84 sg_impl_isPoint g :=
  fn_ok2 tab_ok (env_cons (f := 92) h0 rfl env_nil) mix Tryz.func84 (by kernel_rfl) ex_impl_isPoint hg
/-- impl_isObservation -/
def sg_impl_isObservation : Sig := ⟨[.val true [(.int .i64), (.int .i64), (.int .i64), (.int .i64)]], [(false, [.bool])]⟩
def pr_impl_isObservation : Prog :=
 (.chk 4
 (.join
  (.call 83 [(.var 0)] 1
  (.cond (.var 4)
   (.call 89 [(.var 1)] 1
   (.cond (.var 5)
    (.call 84 [(.var 2), (.var 3)] 1
    (.leaf (.vals 0 [(.var 6)])))
    (.leaf (.vals 0 [(.bool false)]))))
   (.leaf (.vals 0 [(.bool false)]))))
  (.alt
   (.chk 5
   (.leaf (.res [(.var 4)])))
   .stop)))
theorem ex_impl_isObservation : exB tab [(83, sg_impl_isDayNumber), (89, sg_impl_isMinute), (84, sg_impl_isPoint)] Tryz.f148 sg_impl_isObservation pr_impl_isObservation = true := by kernel_rfl
abbrev n_impl_isObservation : Nat := 148
theorem mk_impl_isObservation {g0 g1 g2 : List U → Option (List U)}  (h0 : FnOK Tryz.prog 83 sg_impl_isDayNumber g0) (h1 : FnOK Tryz.prog 89 sg_impl_isMinute g1) (h2 : FnOK Tryz.prog 84 sg_impl_isPoint g2) {g : List U → Option (List U)} (hg : ∀ us rs, us.length = 4 → g us = some rs → wpP (fun k us => if 83 = k then g0 us else if 89 = k then g1 us else if 84 = k then g2 us else none) pr_impl_isObservation 0 us fun l η => ∃ es, l = .res es ∧ es.map (E.den η) = rs) : FnOK Tryz.prog 148 sg_impl_isObservation g :=
  fn_ok2 tab_ok (env_cons (f := 83) h0 rfl (env_cons (f := 89) h1 rfl (env_cons (f := 84) h2 rfl env_nil))) mix Tryz.func148 (by kernel_rfl) ex_impl_isObservation hg
/-- impl_allObservations_1 -/
def sg_impl_allObservations_1 : Sig := ⟨[.val true [(.int .i64), (.int .i64), (.int .i64), (.int .i64)]], [(false, [.bool])]⟩
def pr_impl_allObservations_1 : Prog :=
 (.chk 4
 (.call 148 [(.var 0), (.var 1), (.var 2), (.var 3)] 1
 (.leaf (.res [(.not (.var 4))]))))
theorem ex_impl_allObservations_1 : exB tab [(148, sg_impl_isObservation)] Tryz.f199 sg_impl_allObservations_1 pr_impl_allObservations_1 = true := by kernel_rfl
abbrev n_impl_allObservations_1 : Nat := 199
theorem mk_impl_allObservations_1 {g0 : List U → Option (List U)}  (h0 : FnOK Tryz.prog 148 sg_impl_isObservation g0) {g : List U → Option (List U)} (hg : ∀ us rs, us.length = 4 → g us = some rs → wpP (fun k us => if 148 = k then g0 us else none) pr_impl_allObservations_1 0 us fun l η => ∃ es, l = .res es ∧ es.map (E.den η) = rs) : FnOK Tryz.prog 199 sg_impl_allObservations_1 g :=
  fn_ok2 tab_ok (env_cons (f := 148) h0 rfl env_nil) mix Tryz.func199 (by kernel_rfl) ex_impl_allObservations_1 hg
/-- slices_IndexFuncimpl_Observationimpl_Observation -/
def sg_slices_IndexFuncimpl_Observationimpl_Observation : Sig := ⟨[.val false [(.lst 104 [(.int .i64), (.int .i64), (.int .i64), (.int .i64)])], .fn 199 0], [(false, [(.int .i64)])]⟩
def pr_slices_IndexFuncimpl_Observationimpl_Observation : Prog :=
 (.chk 1
 (.loop [(.int 0)]
  (.chk 2
  (.cond (.cmp .lss (.var 1) (.len (.var 0)))
   (.guard (.cmp .leq (.int 0) (.var 1)) true
   (.call 199 [(.nth (.var 0) (.var 1) 0), (.nth (.var 0) (.var 1) 1), (.nth (.var 0) (.var 1) 2), (.nth (.var 0) (.var 1) 3)] 1
   (.cond (.var 2)
    (.leaf (.vals 1 [(.var 1), (.var 1), (.var 1), (.cmp .lss (.var 1) (.len (.var 0))), (.var 2)]))
    (.leaf (.vals 0 [(.ar .add .i64 (.var 1) (.int 1))])))))
   (.leaf (.vals 2 [(.var 1), (.cmp .lss (.var 1) (.len (.var 0)))]))))
  (.alt
   (.leaf (.res [(.var 1)]))
   (.alt
    (.chk 3
    (.leaf (.res [(.int (-1))])))
    .stop))))
theorem ex_slices_IndexFuncimpl_Observationimpl_Observation : exB tab [(199, sg_impl_allObservations_1)] Tryz.f232 sg_slices_IndexFuncimpl_Observationimpl_Observation pr_slices_IndexFuncimpl_Observationimpl_Observation = true := by kernel_rfl
abbrev n_slices_IndexFuncimpl_Observationimpl_Observation : Nat := 232
theorem mk_slices_IndexFuncimpl_Observationimpl_Observation {g0 : List U → Option (List U)}  (h0 : FnOK Tryz.prog 199 sg_impl_allObservations_1 g0) {g : List U → Option (List U)} (hg : ∀ us rs, us.length = 1 → g us = some rs → wpP (fun k us => if 199 = k then g0 us else none) pr_slices_IndexFuncimpl_Observationimpl_Observation 0 us fun l η => ∃ es, l = .res es ∧ es.map (E.den η) = rs) : FnOK Tryz.prog 232 sg_slices_IndexFuncimpl_Observationimpl_Observation g :=
  fn_ok2 tab_ok (env_cons (f := 199) h0 rfl env_nil) mix Tryz.func232 (by kernel_rfl) ex_slices_IndexFuncimpl_Observationimpl_Observation hg
/-- slices_ContainsFuncimpl_Observationimpl_Observation -/
def sg_slices_ContainsFuncimpl_Observationimpl_Observation : Sig := ⟨[.val false [(.lst 104 [(.int .i64), (.int .i64), (.int .i64), (.int .i64)])], .fn 199 0], [(false, [.bool])]⟩
def pr_slices_ContainsFuncimpl_Observationimpl_Observation : Prog :=
 (.chk 1
 (.call 232 [(.var 0)] 1
 (.leaf (.res [(.cmp .geq (.var 1) (.int 0))]))))
theorem ex_slices_ContainsFuncimpl_Observationimpl_Observation : exB tab [(232, sg_slices_IndexFuncimpl_Observationimpl_Observation)] Tryz.f198 sg_slices_ContainsFuncimpl_Observationimpl_Observation pr_slices_ContainsFuncimpl_Observationimpl_Observation = true := by kernel_rfl
abbrev n_slices_ContainsFuncimpl_Observationimpl_Observation : Nat := 198
theorem mk_slices_ContainsFuncimpl_Observationimpl_Observation {g0 : List U → Option (List U)}  (h0 : FnOK Tryz.prog 232 sg_slices_IndexFuncimpl_Observationimpl_Observation g0) {g : List U → Option (List U)} (hg : ∀ us rs, us.length = 1 → g us = some rs → wpP (fun k us => if 232 = k then g0 us else none) pr_slices_ContainsFuncimpl_Observationimpl_Observation 0 us fun l η => ∃ es, l = .res es ∧ es.map (E.den η) = rs) : FnOK Tryz.prog 198 sg_slices_ContainsFuncimpl_Observationimpl_Observation g :=
  fn_ok2 tab_ok (env_cons (f := 232) h0 rfl env_nil) mix Tryz.func198 (by kernel_rfl) ex_slices_ContainsFuncimpl_Observationimpl_Observation hg
/-- impl_allObservations -/
def sg_impl_allObservations : Sig := ⟨[.val false [(.lst 104 [(.int .i64), (.int .i64), (.int .i64), (.int .i64)])]], [(false, [.bool])]⟩
def pr_impl_allObservations : Prog :=
 (.chk 1
 (.call 198 [(.var 0)] 1
 (.leaf (.res [(.not (.var 1))]))))
theorem ex_impl_allObservations : exB tab [(198, sg_slices_ContainsFuncimpl_Observationimpl_Observation)] Tryz.f153 sg_impl_allObservations pr_impl_allObservations = true := by kernel_rfl
abbrev n_impl_allObservations : Nat := 153
theorem mk_impl_allObservations {g0 : List U → Option (List U)}  (h0 : FnOK Tryz.prog 198 sg_slices_ContainsFuncimpl_Observationimpl_Observation g0) {g : List U → Option (List U)} (hg : ∀ us rs, us.length = 1 → g us = some rs → wpP (fun k us => if 198 = k then g0 us else none) pr_impl_allObservations 0 us fun l η => ∃ es, l = .res es ∧ es.map (E.den η) = rs) : FnOK Tryz.prog 153 sg_impl_allObservations g :=
  fn_ok2 tab_ok (env_cons (f := 198) h0 rfl env_nil) mix Tryz.func153 (by kernel_rfl) ex_impl_allObservations hg
/-- impl_observed -/
def sg_impl_observed : Sig := ⟨[.val true [(.int .i64), (.int .i64), (.int .i64), (.int .i64)], .val false [(.lst 104 [(.int .i64), (.int .i64), (.int .i64), (.int .i64)])]], [(false, [(.int .i64)])]⟩
def pr_impl_observed : Prog :=
 (.chk 5
 (.join
  (.call 66 [(.var 0), (.var 1), (.var 2), (.var 3)] 1
  (.cond (.not (.var 5))
   (.leaf (.vals 0 [(.bool true)]))
   (.call 153 [(.var 4)] 1
   (.leaf (.vals 0 [(.not (.var 6))])))))
  (.alt
   (.chk 6
   (.cond (.var 5)
    (.leaf (.res [(.int 1)]))
    (.cond (.cmp .gtr (.len (.var 4)) (.int 10))
     (.leaf (.res [(.int 3)]))
     (.leaf (.res [(.int 0)])))))
   .stop)))
theorem ex_impl_observed : exB tab [(66, sg_impl_IsDial), (153, sg_impl_allObservations)] Tryz.f97 sg_impl_observed pr_impl_observed = true := by kernel_rfl
abbrev n_impl_observed : Nat := 97
theorem mk_impl_observed {g0 g1 : List U → Option (List U)}  (h0 : FnOK Tryz.prog 66 sg_impl_IsDial g0) (h1 : FnOK Tryz.prog 153 sg_impl_allObservations g1) {g : List U → Option (List U)} (hg : ∀ us rs, us.length = 5 → g us = some rs → wpP (fun k us => if 66 = k then g0 us else if 153 = k then g1 us else none) pr_impl_observed 0 us fun l η => ∃ es, l = .res es ∧ es.map (E.den η) = rs) : FnOK Tryz.prog 97 sg_impl_observed g :=
  fn_ok2 tab_ok (env_cons (f := 66) h0 rfl (env_cons (f := 153) h1 rfl env_nil)) mix Tryz.func97 (by kernel_rfl) ex_impl_observed hg
/-- impl_floor -/
def sg_impl_floor : Sig := ⟨[.val false [(.int .i64)], .val false [(.int .i64)]], [(false, [(.int .i64)])]⟩
def pr_impl_floor : Prog :=
 (.chk 2
 (.guard (.cmp .neq (.var 1) (.int 0)) true
 (.join
  (.join
   (.cond (.cmp .neq (.ar .rem .i64 (.var 0) (.var 1)) (.int 0))
    (.leaf (.vals 0 [(.not (.beq (.cmp .lss (.ar .rem .i64 (.var 0) (.var 1)) (.int 0)) (.cmp .lss (.var 1) (.int 0))))]))
    (.leaf (.vals 0 [(.bool false)])))
   (.alt
    (.chk 3
    (.cond (.var 2)
     (.leaf (.vals 0 [(.ar .sub .i64 (.ar .quo .i64 (.var 0) (.var 1)) (.int 1)), (.var 2)]))
     (.leaf (.vals 0 [(.ar .quo .i64 (.var 0) (.var 1)), (.var 2)]))))
    .stop))
  (.alt
   (.chk 4
   (.leaf (.res [(.var 2)])))
   .stop))))
theorem ex_impl_floor : exB tab [] Tryz.f167 sg_impl_floor pr_impl_floor = true := by kernel_rfl
abbrev n_impl_floor : Nat := 167
theorem mk_impl_floor  {g : List U → Option (List U)} (hg : ∀ us rs, us.length = 2 → g us = some rs → wpP (fun _ _ => none) pr_impl_floor 0 us fun l η => ∃ es, l = .res es ∧ es.map (E.den η) = rs) : FnOK Tryz.prog 167 sg_impl_floor g :=
  fn_ok2 tab_ok env_nil mix Tryz.func167 (by kernel_rfl) ex_impl_floor hg
/-- impl_mod -/
def sg_impl_mod : Sig := ⟨[.val false [(.int .i64)], .val false [(.int .i64)]], [(false, [(.int .i64)])]⟩
def pr_impl_mod : Prog :=
 (.chk 2
 (.call 167 [(.var 0), (.var 1)] 1
 (.leaf (.res [(.ar .sub .i64 (.var 0) (.ar .mul .i64 (.var 2) (.var 1)))]))))
theorem ex_impl_mod : exB tab [(167, sg_impl_floor)] Tryz.f219 sg_impl_mod pr_impl_mod = true := by kernel_rfl
abbrev n_impl_mod : Nat := 219
theorem mk_impl_mod {g0 : List U → Option (List U)}  (h0 : FnOK Tryz.prog 167 sg_impl_floor g0) {g : List U → Option (List U)} (hg : ∀ us rs, us.length = 2 → g us = some rs → wpP (fun k us => if 167 = k then g0 us else none) pr_impl_mod 0 us fun l η => ∃ es, l = .res es ∧ es.map (E.den η) = rs) : FnOK Tryz.prog 219 sg_impl_mod g :=
  fn_ok2 tab_ok (env_cons (f := 167) h0 rfl env_nil) mix Tryz.func219 (by kernel_rfl) ex_impl_mod hg
/-- impl_plain -/
def sg_impl_plain : Sig := ⟨[.val false [(.int .i64)]], [(false, [(.int .i64)])]⟩
def pr_impl_plain : Prog :=
 (.chk 1
 (.call 219 [(.var 0), (.int 1296000)] 1
 (.leaf (.res [(.var 1)]))))
theorem ex_impl_plain : exB tab [(219, sg_impl_mod)] Tryz.f176 sg_impl_plain pr_impl_plain = true := by kernel_rfl
abbrev n_impl_plain : Nat := 176
theorem mk_impl_plain {g0 : List U → Option (List U)}  (h0 : FnOK Tryz.prog 219 sg_impl_mod g0) {g : List U → Option (List U)} (hg : ∀ us rs, us.length = 1 → g us = some rs → wpP (fun k us => if 219 = k then g0 us else none) pr_impl_plain 0 us fun l η => ∃ es, l = .res es ∧ es.map (E.den η) = rs) : FnOK Tryz.prog 176 sg_impl_plain g :=
  fn_ok2 tab_ok (env_cons (f := 219) h0 rfl env_nil) mix Tryz.func176 (by kernel_rfl) ex_impl_plain hg
/-- impl_polynomials -/
def sg_impl_polynomials : Sig := ⟨[.val false [(.int .i64)]], [(false, [(.int .i64)]), (false, [(.int .i64)])]⟩
def pr_impl_polynomials : Prog :=
 (.chk 1
 (.leaf (.res [(.ar .add .i64 (.ar .sub .i64 (.ar .add .i64 (.ar .sub .i64 (.ar .quo .i64 (.ar .mul .i64 (.var 0) (.int 48481368)) (.int 10000)) (.ar .quo .i64 (.ar .quo .i64 (.ar .mul .i64 (.ar .quo .i64 (.ar .mul .i64 (.var 0) (.int 48481368)) (.int 10000)) (.ar .quo .i64 (.ar .mul .i64 (.ar .quo .i64 (.ar .mul .i64 (.var 0) (.int 48481368)) (.int 10000)) (.ar .quo .i64 (.ar .mul .i64 (.var 0) (.int 48481368)) (.int 10000))) (.int 1000000000))) (.int 1000000000)) (.int 6))) (.ar .quo .i64 (.ar .quo .i64 (.ar .mul .i64 (.ar .quo .i64 (.ar .quo .i64 (.ar .mul .i64 (.ar .quo .i64 (.ar .mul .i64 (.var 0) (.int 48481368)) (.int 10000)) (.ar .quo .i64 (.ar .mul .i64 (.ar .quo .i64 (.ar .mul .i64 (.var 0) (.int 48481368)) (.int 10000)) (.ar .quo .i64 (.ar .mul .i64 (.var 0) (.int 48481368)) (.int 10000))) (.int 1000000000))) (.int 1000000000)) (.int 6)) (.ar .quo .i64 (.ar .mul .i64 (.ar .quo .i64 (.ar .mul .i64 (.var 0) (.int 48481368)) (.int 10000)) (.ar .quo .i64 (.ar .mul .i64 (.var 0) (.int 48481368)) (.int 10000))) (.int 1000000000))) (.int 1000000000)) (.int 20))) (.ar .quo .i64 (.ar .quo .i64 (.ar .mul .i64 (.ar .quo .i64 (.ar .quo .i64 (.ar .mul .i64 (.ar .quo .i64 (.ar .quo .i64 (.ar .mul .i64 (.ar .quo .i64 (.ar .mul .i64 (.var 0) (.int 48481368)) (.int 10000)) (.ar .quo .i64 (.ar .mul .i64 (.ar .quo .i64 (.ar .mul .i64 (.var 0) (.int 48481368)) (.int 10000)) (.ar .quo .i64 (.ar .mul .i64 (.var 0) (.int 48481368)) (.int 10000))) (.int 1000000000))) (.int 1000000000)) (.int 6)) (.ar .quo .i64 (.ar .mul .i64 (.ar .quo .i64 (.ar .mul .i64 (.var 0) (.int 48481368)) (.int 10000)) (.ar .quo .i64 (.ar .mul .i64 (.var 0) (.int 48481368)) (.int 10000))) (.int 1000000000))) (.int 1000000000)) (.int 20)) (.ar .quo .i64 (.ar .mul .i64 (.ar .quo .i64 (.ar .mul .i64 (.var 0) (.int 48481368)) (.int 10000)) (.ar .quo .i64 (.ar .mul .i64 (.var 0) (.int 48481368)) (.int 10000))) (.int 1000000000))) (.int 1000000000)) (.int 42))) (.ar .quo .i64 (.ar .quo .i64 (.ar .mul .i64 (.ar .quo .i64 (.ar .quo .i64 (.ar .mul .i64 (.ar .quo .i64 (.ar .quo .i64 (.ar .mul .i64 (.ar .quo .i64 (.ar .quo .i64 (.ar .mul .i64 (.ar .quo .i64 (.ar .mul .i64 (.var 0) (.int 48481368)) (.int 10000)) (.ar .quo .i64 (.ar .mul .i64 (.ar .quo .i64 (.ar .mul .i64 (.var 0) (.int 48481368)) (.int 10000)) (.ar .quo .i64 (.ar .mul .i64 (.var 0) (.int 48481368)) (.int 10000))) (.int 1000000000))) (.int 1000000000)) (.int 6)) (.ar .quo .i64 (.ar .mul .i64 (.ar .quo .i64 (.ar .mul .i64 (.var 0) (.int 48481368)) (.int 10000)) (.ar .quo .i64 (.ar .mul .i64 (.var 0) (.int 48481368)) (.int 10000))) (.int 1000000000))) (.int 1000000000)) (.int 20)) (.ar .quo .i64 (.ar .mul .i64 (.ar .quo .i64 (.ar .mul .i64 (.var 0) (.int 48481368)) (.int 10000)) (.ar .quo .i64 (.ar .mul .i64 (.var 0) (.int 48481368)) (.int 10000))) (.int 1000000000))) (.int 1000000000)) (.int 42)) (.ar .quo .i64 (.ar .mul .i64 (.ar .quo .i64 (.ar .mul .i64 (.var 0) (.int 48481368)) (.int 10000)) (.ar .quo .i64 (.ar .mul .i64 (.var 0) (.int 48481368)) (.int 10000))) (.int 1000000000))) (.int 1000000000)) (.int 72))), (.ar .sub .i64 (.ar .add .i64 (.ar .sub .i64 (.ar .add .i64 (.ar .sub .i64 (.int 1000000000) (.ar .quo .i64 (.ar .quo .i64 (.ar .mul .i64 (.ar .quo .i64 (.ar .mul .i64 (.var 0) (.int 48481368)) (.int 10000)) (.ar .quo .i64 (.ar .mul .i64 (.var 0) (.int 48481368)) (.int 10000))) (.int 1000000000)) (.int 2))) (.ar .quo .i64 (.ar .quo .i64 (.ar .mul .i64 (.ar .quo .i64 (.ar .quo .i64 (.ar .mul .i64 (.ar .quo .i64 (.ar .mul .i64 (.var 0) (.int 48481368)) (.int 10000)) (.ar .quo .i64 (.ar .mul .i64 (.var 0) (.int 48481368)) (.int 10000))) (.int 1000000000)) (.int 2)) (.ar .quo .i64 (.ar .mul .i64 (.ar .quo .i64 (.ar .mul .i64 (.var 0) (.int 48481368)) (.int 10000)) (.ar .quo .i64 (.ar .mul .i64 (.var 0) (.int 48481368)) (.int 10000))) (.int 1000000000))) (.int 1000000000)) (.int 12))) (.ar .quo .i64 (.ar .quo .i64 (.ar .mul .i64 (.ar .quo .i64 (.ar .quo .i64 (.ar .mul .i64 (.ar .quo .i64 (.ar .quo .i64 (.ar .mul .i64 (.ar .quo .i64 (.ar .mul .i64 (.var 0) (.int 48481368)) (.int 10000)) (.ar .quo .i64 (.ar .mul .i64 (.var 0) (.int 48481368)) (.int 10000))) (.int 1000000000)) (.int 2)) (.ar .quo .i64 (.ar .mul .i64 (.ar .quo .i64 (.ar .mul .i64 (.var 0) (.int 48481368)) (.int 10000)) (.ar .quo .i64 (.ar .mul .i64 (.var 0) (.int 48481368)) (.int 10000))) (.int 1000000000))) (.int 1000000000)) (.int 12)) (.ar .quo .i64 (.ar .mul .i64 (.ar .quo .i64 (.ar .mul .i64 (.var 0) (.int 48481368)) (.int 10000)) (.ar .quo .i64 (.ar .mul .i64 (.var 0) (.int 48481368)) (.int 10000))) (.int 1000000000))) (.int 1000000000)) (.int 30))) (.ar .quo .i64 (.ar .quo .i64 (.ar .mul .i64 (.ar .quo .i64 (.ar .quo .i64 (.ar .mul .i64 (.ar .quo .i64 (.ar .quo .i64 (.ar .mul .i64 (.ar .quo .i64 (.ar .quo .i64 (.ar .mul .i64 (.ar .quo .i64 (.ar .mul .i64 (.var 0) (.int 48481368)) (.int 10000)) (.ar .quo .i64 (.ar .mul .i64 (.var 0) (.int 48481368)) (.int 10000))) (.int 1000000000)) (.int 2)) (.ar .quo .i64 (.ar .mul .i64 (.ar .quo .i64 (.ar .mul .i64 (.var 0) (.int 48481368)) (.int 10000)) (.ar .quo .i64 (.ar .mul .i64 (.var 0) (.int 48481368)) (.int 10000))) (.int 1000000000))) (.int 1000000000)) (.int 12)) (.ar .quo .i64 (.ar .mul .i64 (.ar .quo .i64 (.ar .mul .i64 (.var 0) (.int 48481368)) (.int 10000)) (.ar .quo .i64 (.ar .mul .i64 (.var 0) (.int 48481368)) (.int 10000))) (.int 1000000000))) (.int 1000000000)) (.int 30)) (.ar .quo .i64 (.ar .mul .i64 (.ar .quo .i64 (.ar .mul .i64 (.var 0) (.int 48481368)) (.int 10000)) (.ar .quo .i64 (.ar .mul .i64 (.var 0) (.int 48481368)) (.int 10000))) (.int 1000000000))) (.int 1000000000)) (.int 56))) (.ar .quo .i64 (.ar .quo .i64 (.ar .mul .i64 (.ar .quo .i64 (.ar .quo .i64 (.ar .mul .i64 (.ar .quo .i64 (.ar .quo .i64 (.ar .mul .i64 (.ar .quo .i64 (.ar .quo .i64 (.ar .mul .i64 (.ar .quo .i64 (.ar .quo .i64 (.ar .mul .i64 (.ar .quo .i64 (.ar .mul .i64 (.var 0) (.int 48481368)) (.int 10000)) (.ar .quo .i64 (.ar .mul .i64 (.var 0) (.int 48481368)) (.int 10000))) (.int 1000000000)) (.int 2)) (.ar .quo .i64 (.ar .mul .i64 (.ar .quo .i64 (.ar .mul .i64 (.var 0) (.int 48481368)) (.int 10000)) (.ar .quo .i64 (.ar .mul .i64 (.var 0) (.int 48481368)) (.int 10000))) (.int 1000000000))) (.int 1000000000)) (.int 12)) (.ar .quo .i64 (.ar .mul .i64 (.ar .quo .i64 (.ar .mul .i64 (.var 0) (.int 48481368)) (.int 10000)) (.ar .quo .i64 (.ar .mul .i64 (.var 0) (.int 48481368)) (.int 10000))) (.int 1000000000))) (.int 1000000000)) (.int 30)) (.ar .quo .i64 (.ar .mul .i64 (.ar .quo .i64 (.ar .mul .i64 (.var 0) (.int 48481368)) (.int 10000)) (.ar .quo .i64 (.ar .mul .i64 (.var 0) (.int 48481368)) (.int 10000))) (.int 1000000000))) (.int 1000000000)) (.int 56)) (.ar .quo .i64 (.ar .mul .i64 (.ar .quo .i64 (.ar .mul .i64 (.var 0) (.int 48481368)) (.int 10000)) (.ar .quo .i64 (.ar .mul .i64 (.var 0) (.int 48481368)) (.int 10000))) (.int 1000000000))) (.int 1000000000)) (.int 90)))])))
theorem ex_impl_polynomials : exB tab [] Tryz.f243 sg_impl_polynomials pr_impl_polynomials = true := by kernel_rfl
abbrev n_impl_polynomials : Nat := 243
theorem mk_impl_polynomials  {g : List U → Option (List U)} (hg : ∀ us rs, us.length = 1 → g us = some rs → wpP (fun _ _ => none) pr_impl_polynomials 0 us fun l η => ∃ es, l = .res es ∧ es.map (E.den η) = rs) : FnOK Tryz.prog 243 sg_impl_polynomials g :=
  fn_ok2 tab_ok env_nil mix Tryz.func243 (by kernel_rfl) ex_impl_polynomials hg
/-- impl_nanoSine -/
def sg_impl_nanoSine : Sig := ⟨[.val false [(.int .i64)]], [(false, [(.int .i64)])]⟩
def pr_impl_nanoSine : Prog :=
 (.chk 1
 (.call 176 [(.var 0)] 1
 (.join
  (.cond (.cmp .eql (.ar .rem .i64 (.ar .quo .i64 (.var 1) (.int 324000)) (.int 2)) (.int 1))
   (.leaf (.vals 0 [(.ar .sub .i64 (.int 324000) (.ar .rem .i64 (.var 1) (.int 324000)))]))
   (.leaf (.vals 0 [(.ar .rem .i64 (.var 1) (.int 324000))])))
  (.alt
   (.chk 3
   (.join
    (.cond (.cmp .leq (.var 2) (.int 162000))
     (.call 243 [(.var 2)] 2
     (.leaf (.vals 0 [(.var 3)])))
     (.call 243 [(.ar .sub .i64 (.int 324000) (.var 2))] 2
     (.leaf (.vals 0 [(.var 4)]))))
    (.alt
     (.chk 4
     (.cond (.cmp .lss (.ar .quo .i64 (.var 1) (.int 324000)) (.int 2))
      (.leaf (.res [(.var 3)]))
      (.leaf (.res [(.ar .sub .i64 (.int 0) (.var 3))]))))
     .stop)))
   .stop))))
theorem ex_impl_nanoSine : exB tab [(176, sg_impl_plain), (243, sg_impl_polynomials)] Tryz.f224 sg_impl_nanoSine pr_impl_nanoSine = true := by kernel_rfl
abbrev n_impl_nanoSine : Nat := 224
theorem mk_impl_nanoSine {g0 g1 : List U → Option (List U)}  (h0 : FnOK Tryz.prog 176 sg_impl_plain g0) (h1 : FnOK Tryz.prog 243 sg_impl_polynomials g1) {g : List U → Option (List U)} (hg : ∀ us rs, us.length = 1 → g us = some rs → wpP (fun k us => if 176 = k then g0 us else if 243 = k then g1 us else none) pr_impl_nanoSine 0 us fun l η => ∃ es, l = .res es ∧ es.map (E.den η) = rs) : FnOK Tryz.prog 224 sg_impl_nanoSine g :=
  fn_ok2 tab_ok (env_cons (f := 176) h0 rfl (env_cons (f := 243) h1 rfl env_nil)) mix Tryz.func224 (by kernel_rfl) ex_impl_nanoSine hg
/-- impl_ceil -/
def sg_impl_ceil : Sig := ⟨[.val false [(.int .i64)], .val false [(.int .i64)]], [(false, [(.int .i64)])]⟩
def pr_impl_ceil : Prog :=
 (.chk 2
 (.call 167 [(.ar .sub .i64 (.int 0) (.var 0)), (.var 1)] 1
 (.leaf (.res [(.ar .sub .i64 (.int 0) (.var 2))]))))
theorem ex_impl_ceil : exB tab [(167, sg_impl_floor)] Tryz.f225 sg_impl_ceil pr_impl_ceil = true := by kernel_rfl
abbrev n_impl_ceil : Nat := 225
theorem mk_impl_ceil {g0 : List U → Option (List U)}  (h0 : FnOK Tryz.prog 167 sg_impl_floor g0) {g : List U → Option (List U)} (hg : ∀ us rs, us.length = 2 → g us = some rs → wpP (fun k us => if 167 = k then g0 us else none) pr_impl_ceil 0 us fun l η => ∃ es, l = .res es ∧ es.map (E.den η) = rs) : FnOK Tryz.prog 225 sg_impl_ceil g :=
  fn_ok2 tab_ok (env_cons (f := 167) h0 rfl env_nil) mix Tryz.func225 (by kernel_rfl) ex_impl_ceil hg
/-- impl_sine -/
def sg_impl_sine : Sig := ⟨[.val false [(.int .i64)]], [(true, [(.int .i64), (.int .i64)])]⟩
def pr_impl_sine : Prog :=
 (.chk 1
 (.call 224 [(.var 0)] 1
 (.call 167 [(.ar .sub .i64 (.var 1) (.int 60)), (.int 1000)] 1
 (.call 225 [(.ar .add .i64 (.var 1) (.int 60)), (.int 1000)] 1
 (.leaf (.res [(.var 2), (.var 3)]))))))
theorem ex_impl_sine : exB tab [(224, sg_impl_nanoSine), (167, sg_impl_floor), (225, sg_impl_ceil)] Tryz.f185 sg_impl_sine pr_impl_sine = true := by kernel_rfl
abbrev n_impl_sine : Nat := 185
theorem mk_impl_sine {g0 g1 g2 : List U → Option (List U)}  (h0 : FnOK Tryz.prog 224 sg_impl_nanoSine g0) (h1 : FnOK Tryz.prog 167 sg_impl_floor g1) (h2 : FnOK Tryz.prog 225 sg_impl_ceil g2) {g : List U → Option (List U)} (hg : ∀ us rs, us.length = 1 → g us = some rs → wpP (fun k us => if 224 = k then g0 us else if 167 = k then g1 us else if 225 = k then g2 us else none) pr_impl_sine 0 us fun l η => ∃ es, l = .res es ∧ es.map (E.den η) = rs) : FnOK Tryz.prog 185 sg_impl_sine g :=
  fn_ok2 tab_ok (env_cons (f := 224) h0 rfl (env_cons (f := 167) h1 rfl (env_cons (f := 225) h2 rfl env_nil))) mix Tryz.func185 (by kernel_rfl) ex_impl_sine hg
/-- impl_meanLongitude -/
def sg_impl_meanLongitude : Sig := ⟨[.val false [(.int .i64)]], [(false, [(.int .i64)])]⟩
def pr_impl_meanLongitude : Prog :=
 (.chk 1
 (.call 167 [(.ar .mul .i64 (.var 0) (.int 354833064)), (.int 100000)] 1
 (.call 176 [(.ar .add .i64 (.int 1009656) (.var 1))] 1
 (.leaf (.res [(.var 2)])))))
theorem ex_impl_meanLongitude : exB tab [(167, sg_impl_floor), (176, sg_impl_plain)] Tryz.f228 sg_impl_meanLongitude pr_impl_meanLongitude = true := by kernel_rfl
abbrev n_impl_meanLongitude : Nat := 228
theorem mk_impl_meanLongitude {g0 g1 : List U → Option (List U)}  (h0 : FnOK Tryz.prog 167 sg_impl_floor g0) (h1 : FnOK Tryz.prog 176 sg_impl_plain g1) {g : List U → Option (List U)} (hg : ∀ us rs, us.length = 1 → g us = some rs → wpP (fun k us => if 167 = k then g0 us else if 176 = k then g1 us else none) pr_impl_meanLongitude 0 us fun l η => ∃ es, l = .res es ∧ es.map (E.den η) = rs) : FnOK Tryz.prog 228 sg_impl_meanLongitude g :=
  fn_ok2 tab_ok (env_cons (f := 167) h0 rfl (env_cons (f := 176) h1 rfl env_nil)) mix Tryz.func228 (by kernel_rfl) ex_impl_meanLongitude hg
/-- impl_nearest -/
def sg_impl_nearest : Sig := ⟨[.val false [(.int .i64)], .val false [(.int .i64)]], [(false, [(.int .i64)])]⟩
def pr_impl_nearest : Prog :=
 (.chk 2
 (.join
  (.cond (.cmp .lss (.var 1) (.int 0))
   (.leaf (.vals 0 [(.ar .sub .i64 (.int 0) (.var 0)), (.ar .sub .i64 (.int 0) (.var 1))]))
   (.leaf (.vals 0 [(.var 0), (.var 1)])))
  (.alt
   (.call 167 [(.var 2), (.var 3)] 1
   (.chk 5
   (.join
    (.cond (.cmp .geq (.ar .sub .i64 (.var 2) (.ar .mul .i64 (.var 4) (.var 3))) (.ar .sub .i64 (.var 3) (.ar .sub .i64 (.var 2) (.ar .mul .i64 (.var 4) (.var 3)))))
     (.leaf (.vals 0 [(.ar .add .i64 (.var 4) (.int 1))]))
     (.leaf (.vals 0 [(.var 4)])))
    (.alt
     (.chk 6
     (.leaf (.res [(.var 5)])))
     .stop))))
   .stop)))
theorem ex_impl_nearest : exB tab [(167, sg_impl_floor)] Tryz.f229 sg_impl_nearest pr_impl_nearest = true := by kernel_rfl
abbrev n_impl_nearest : Nat := 229
theorem mk_impl_nearest {g0 : List U → Option (List U)}  (h0 : FnOK Tryz.prog 167 sg_impl_floor g0) {g : List U → Option (List U)} (hg : ∀ us rs, us.length = 2 → g us = some rs → wpP (fun k us => if 167 = k then g0 us else none) pr_impl_nearest 0 us fun l η => ∃ es, l = .res es ∧ es.map (E.den η) = rs) : FnOK Tryz.prog 229 sg_impl_nearest g :=
  fn_ok2 tab_ok (env_cons (f := 167) h0 rfl env_nil) mix Tryz.func229 (by kernel_rfl) ex_impl_nearest hg
/-- impl_sunLongitude -/
def sg_impl_sunLongitude : Sig := ⟨[.val false [(.int .i64)]], [(false, [(.int .i64)])]⟩
def pr_impl_sunLongitude : Prog :=
 (.chk 1
 (.call 167 [(.ar .mul .i64 (.var 0) (.int 354816108)), (.int 100000)] 1
 (.call 176 [(.ar .add .i64 (.int 1287101) (.var 1))] 1
 (.call 228 [(.var 0)] 1
 (.call 224 [(.var 2)] 1
 (.call 224 [(.ar .mul .i64 (.int 2) (.var 2))] 1
 (.call 229 [(.ar .add .i64 (.ar .mul .i64 (.int 6894) (.var 4)) (.ar .mul .i64 (.int 72) (.var 5))), (.int 1000000000)] 1
 (.call 176 [(.ar .add .i64 (.var 3) (.var 6))] 1
 (.leaf (.res [(.var 7)]))))))))))
theorem ex_impl_sunLongitude : exB tab [(167, sg_impl_floor), (176, sg_impl_plain), (228, sg_impl_meanLongitude), (224, sg_impl_nanoSine), (229, sg_impl_nearest)] Tryz.f191 sg_impl_sunLongitude pr_impl_sunLongitude = true := by kernel_rfl
abbrev n_impl_sunLongitude : Nat := 191
theorem mk_impl_sunLongitude {g0 g1 g2 g3 g4 : List U → Option (List U)}  (h0 : FnOK Tryz.prog 167 sg_impl_floor g0) (h1 : FnOK Tryz.prog 176 sg_impl_plain g1) (h2 : FnOK Tryz.prog 228 sg_impl_meanLongitude g2) (h3 : FnOK Tryz.prog 224 sg_impl_nanoSine g3) (h4 : FnOK Tryz.prog 229 sg_impl_nearest g4) {g : List U → Option (List U)} (hg : ∀ us rs, us.length = 1 → g us = some rs → wpP (fun k us => if 167 = k then g0 us else if 176 = k then g1 us else if 228 = k then g2 us else if 224 = k then g3 us else if 229 = k then g4 us else none) pr_impl_sunLongitude 0 us fun l η => ∃ es, l = .res es ∧ es.map (E.den η) = rs) : FnOK Tryz.prog 191 sg_impl_sunLongitude g :=
  fn_ok2 tab_ok (env_cons (f := 167) h0 rfl (env_cons (f := 176) h1 rfl (env_cons (f := 228) h2 rfl (env_cons (f := 224) h3 rfl (env_cons (f := 229) h4 rfl env_nil))))) mix Tryz.func191 (by kernel_rfl) ex_impl_sunLongitude hg
/-- impl_Interval_times -/
def sg_impl_Interval_times : Sig := ⟨[.val true [(.int .i64), (.int .i64)], .val true [(.int .i64), (.int .i64)]], [(true, [(.int .i64), (.int .i64)])]⟩
def pr_impl_Interval_times : Prog :=
 (.chk 4
 (.call 167 [(.mn (.mn (.mn (.ar .mul .i64 (.var 0) (.var 2)) (.ar .mul .i64 (.var 0) (.var 3))) (.ar .mul .i64 (.var 1) (.var 2))) (.ar .mul .i64 (.var 1) (.var 3))), (.int 1000000)] 1
 (.call 225 [(.mx (.mx (.mx (.ar .mul .i64 (.var 0) (.var 2)) (.ar .mul .i64 (.var 0) (.var 3))) (.ar .mul .i64 (.var 1) (.var 2))) (.ar .mul .i64 (.var 1) (.var 3))), (.int 1000000)] 1
 (.leaf (.res [(.var 4), (.var 5)])))))
theorem ex_impl_Interval_times : exB tab [(167, sg_impl_floor), (225, sg_impl_ceil)] Tryz.f187 sg_impl_Interval_times pr_impl_Interval_times = true := by kernel_rfl
abbrev n_impl_Interval_times : Nat := 187
theorem mk_impl_Interval_times {g0 g1 : List U → Option (List U)}  (h0 : FnOK Tryz.prog 167 sg_impl_floor g0) (h1 : FnOK Tryz.prog 225 sg_impl_ceil g1) {g : List U → Option (List U)} (hg : ∀ us rs, us.length = 4 → g us = some rs → wpP (fun k us => if 167 = k then g0 us else if 225 = k then g1 us else none) pr_impl_Interval_times 0 us fun l η => ∃ es, l = .res es ∧ es.map (E.den η) = rs) : FnOK Tryz.prog 187 sg_impl_Interval_times g :=
  fn_ok2 tab_ok (env_cons (f := 167) h0 rfl (env_cons (f := 225) h1 rfl env_nil)) mix Tryz.func187 (by kernel_rfl) ex_impl_Interval_times hg
/-- impl_isValue -/
def sg_impl_isValue : Sig := ⟨[.val false [(.int .i64)]], [(false, [.bool])]⟩
def pr_impl_isValue : Prog :=
 (.chk 1
 (.call 114 [(.var 0), (.int (-1000000000000)), (.int 1000000000000)] 1
 (.leaf (.res [(.var 1)]))))
theorem ex_impl_isValue : exB tab [(114, sg_impl_in)] Tryz.f244 sg_impl_isValue pr_impl_isValue = true := by kernel_rfl
abbrev n_impl_isValue : Nat := 244
theorem mk_impl_isValue {g0 : List U → Option (List U)}  (h0 : FnOK Tryz.prog 114 sg_impl_in g0) {g : List U → Option (List U)} (hg : ∀ us rs, us.length = 1 → g us = some rs → wpP (fun k us => if 114 = k then g0 us else none) pr_impl_isValue 0 us fun l η => ∃ es, l = .res es ∧ es.map (E.den η) = rs) : FnOK Tryz.prog 244 sg_impl_isValue g :=
  fn_ok2 tab_ok (env_cons (f := 114) h0 rfl env_nil) mix Tryz.func244 (by kernel_rfl) ex_impl_isValue hg
/-- impl_IsInterval -/
def sg_impl_IsInterval : Sig := ⟨[.val true [(.int .i64), (.int .i64)]], [(false, [.bool])]⟩
def pr_impl_IsInterval : Prog :=
 (.chk 2
 (.join
  (.call 244 [(.var 0)] 1
  (.cond (.var 2)
   (.call 244 [(.var 1)] 1
   (.cond (.var 3)
    (.leaf (.vals 0 [(.cmp .leq (.var 0) (.var 1))]))
    (.leaf (.vals 0 [(.bool false)]))))
   (.leaf (.vals 0 [(.bool false)]))))
  (.alt
   (.chk 3
   (.leaf (.res [(.var 2)])))
   .stop)))
theorem ex_impl_IsInterval : exB tab [(244, sg_impl_isValue)] Tryz.f226 sg_impl_IsInterval pr_impl_IsInterval = true := by kernel_rfl
abbrev n_impl_IsInterval : Nat := 226
theorem mk_impl_IsInterval {g0 : List U → Option (List U)}  (h0 : FnOK Tryz.prog 244 sg_impl_isValue g0) {g : List U → Option (List U)} (hg : ∀ us rs, us.length = 2 → g us = some rs → wpP (fun k us => if 244 = k then g0 us else none) pr_impl_IsInterval 0 us fun l η => ∃ es, l = .res es ∧ es.map (E.den η) = rs) : FnOK Tryz.prog 226 sg_impl_IsInterval g :=
  fn_ok2 tab_ok (env_cons (f := 244) h0 rfl env_nil) mix Tryz.func226 (by kernel_rfl) ex_impl_IsInterval hg
/-- impl_arcSine_1 -/
def sg_impl_arcSine_1 : Sig := ⟨[.val false [(.int .i64)], .box [(.int .i64)]], [(false, [.bool])]⟩
def pr_impl_arcSine_1 : Prog :=
 (.chk 2
 (.call 185 [(.var 0)] 2
 (.leaf (.res [(.cmp .lss (.var 3) (.var 1)), (.var 1)]))))
theorem ex_impl_arcSine_1 : exB tab [(185, sg_impl_sine)] Tryz.f246 sg_impl_arcSine_1 pr_impl_arcSine_1 = true := by kernel_rfl
abbrev n_impl_arcSine_1 : Nat := 246
theorem mk_impl_arcSine_1 {g0 : List U → Option (List U)}  (h0 : FnOK Tryz.prog 185 sg_impl_sine g0) {g : List U → Option (List U)} (hg : ∀ us rs, us.length = 2 → g us = some rs → wpP (fun k us => if 185 = k then g0 us else none) pr_impl_arcSine_1 0 us fun l η => ∃ es, l = .res es ∧ es.map (E.den η) = rs) : FnOK Tryz.prog 246 sg_impl_arcSine_1 g :=
  fn_ok2 tab_ok (env_cons (f := 185) h0 rfl env_nil) mix Tryz.func246 (by kernel_rfl) ex_impl_arcSine_1 hg
/-- impl_halve -/
def sg_impl_halve : Sig := ⟨[.val false [(.int .i64)], .val false [(.int .i64)], .fn 246 1, .box [(.int .i64)]], [(false, [(.int .i64)])]⟩
def pr_impl_halve : Prog :=
 (.chk 3
 (.loop [(.var 0), (.var 1), (.var 2)]
  (.chk 6
  (.cond (.cmp .gtr (.ar .sub .i64 (.var 4) (.var 3)) (.int 1))
   (.call 167 [(.ar .add .i64 (.var 3) (.var 4)), (.int 2)] 1
   (.call 246 [(.var 6), (.var 5)] 2
   (.cond (.var 7)
    (.leaf (.vals 0 [(.var 6), (.var 4), (.var 8)]))
    (.leaf (.vals 0 [(.var 3), (.var 6), (.var 8)])))))
   (.leaf (.vals 1 [(.var 3), (.var 4), (.cmp .gtr (.ar .sub .i64 (.var 4) (.var 3)) (.int 1)), (.var 5)]))))
  (.alt
   (.chk 7
   (.leaf (.res [(.var 3), (.var 6)])))
   .stop)))
theorem ex_impl_halve : exB tab [(167, sg_impl_floor), (246, sg_impl_arcSine_1)] Tryz.f245 sg_impl_halve pr_impl_halve = true := by kernel_rfl
abbrev n_impl_halve : Nat := 245
theorem mk_impl_halve {g0 g1 : List U → Option (List U)}  (h0 : FnOK Tryz.prog 167 sg_impl_floor g0) (h1 : FnOK Tryz.prog 246 sg_impl_arcSine_1 g1) {g : List U → Option (List U)} (hg : ∀ us rs, us.length = 3 → g us = some rs → wpP (fun k us => if 167 = k then g0 us else if 246 = k then g1 us else none) pr_impl_halve 0 us fun l η => ∃ es, l = .res es ∧ es.map (E.den η) = rs) : FnOK Tryz.prog 245 sg_impl_halve g :=
  fn_ok2 tab_ok (env_cons (f := 167) h0 rfl (env_cons (f := 246) h1 rfl env_nil)) mix Tryz.func245 (by kernel_rfl) ex_impl_halve hg
/-- impl_arcSine_2 -/
def sg_impl_arcSine_2 : Sig := ⟨[.val false [(.int .i64)], .box [(.int .i64)]], [(false, [.bool])]⟩
def pr_impl_arcSine_2 : Prog :=
 (.chk 2
 (.call 185 [(.var 0)] 2
 (.leaf (.res [(.cmp .leq (.var 2) (.var 1)), (.var 1)]))))
theorem ex_impl_arcSine_2 : exB tab [(185, sg_impl_sine)] Tryz.f247 sg_impl_arcSine_2 pr_impl_arcSine_2 = true := by kernel_rfl
abbrev n_impl_arcSine_2 : Nat := 247
theorem mk_impl_arcSine_2 {g0 : List U → Option (List U)}  (h0 : FnOK Tryz.prog 185 sg_impl_sine g0) {g : List U → Option (List U)} (hg : ∀ us rs, us.length = 2 → g us = some rs → wpP (fun k us => if 185 = k then g0 us else none) pr_impl_arcSine_2 0 us fun l η => ∃ es, l = .res es ∧ es.map (E.den η) = rs) : FnOK Tryz.prog 247 sg_impl_arcSine_2 g :=
  fn_ok2 tab_ok (env_cons (f := 185) h0 rfl env_nil) mix Tryz.func247 (by kernel_rfl) ex_impl_arcSine_2 hg
/-- impl_halve_v1 -/
def sg_impl_halve_v1 : Sig := ⟨[.val false [(.int .i64)], .val false [(.int .i64)], .fn 247 1, .box [(.int .i64)]], [(false, [(.int .i64)])]⟩
def pr_impl_halve_v1 : Prog :=
 (.chk 3
 (.loop [(.var 0), (.var 1), (.var 2)]
  (.chk 6
  (.cond (.cmp .gtr (.ar .sub .i64 (.var 4) (.var 3)) (.int 1))
   (.call 167 [(.ar .add .i64 (.var 3) (.var 4)), (.int 2)] 1
   (.call 247 [(.var 6), (.var 5)] 2
   (.cond (.var 7)
    (.leaf (.vals 0 [(.var 6), (.var 4), (.var 8)]))
    (.leaf (.vals 0 [(.var 3), (.var 6), (.var 8)])))))
   (.leaf (.vals 1 [(.var 3), (.var 4), (.cmp .gtr (.ar .sub .i64 (.var 4) (.var 3)) (.int 1)), (.var 5)]))))
  (.alt
   (.chk 7
   (.leaf (.res [(.var 3), (.var 6)])))
   .stop)))
theorem ex_impl_halve_v1 : exB tab [(167, sg_impl_floor), (247, sg_impl_arcSine_2)] Tryz.f245 sg_impl_halve_v1 pr_impl_halve_v1 = true := by kernel_rfl
abbrev n_impl_halve_v1 : Nat := 1000245
theorem mk_impl_halve_v1 {g0 g1 : List U → Option (List U)}  (h0 : FnOK Tryz.prog 167 sg_impl_floor g0) (h1 : FnOK Tryz.prog 247 sg_impl_arcSine_2 g1) {g : List U → Option (List U)} (hg : ∀ us rs, us.length = 3 → g us = some rs → wpP (fun k us => if 167 = k then g0 us else if 247 = k then g1 us else none) pr_impl_halve_v1 0 us fun l η => ∃ es, l = .res es ∧ es.map (E.den η) = rs) : FnOK Tryz.prog 245 sg_impl_halve_v1 g :=
  fn_ok2 tab_ok (env_cons (f := 167) h0 rfl (env_cons (f := 247) h1 rfl env_nil)) mix Tryz.func245 (by kernel_rfl) ex_impl_halve_v1 hg
/-- impl_kept -/
def sg_impl_kept : Sig := ⟨[.val false [(.int .i64)]], [(false, [(.int .i64)])]⟩
def pr_impl_kept : Prog :=
 (.chk 1
 (.leaf (.res [(.mn (.mx (.var 0) (.int (-324000))) (.int 324000))])))
theorem ex_impl_kept : exB tab [] Tryz.f248 sg_impl_kept pr_impl_kept = true := by kernel_rfl
abbrev n_impl_kept : Nat := 248
theorem mk_impl_kept  {g : List U → Option (List U)} (hg : ∀ us rs, us.length = 1 → g us = some rs → wpP (fun _ _ => none) pr_impl_kept 0 us fun l η => ∃ es, l = .res es ∧ es.map (E.den η) = rs) : FnOK Tryz.prog 248 sg_impl_kept g :=
  fn_ok2 tab_ok env_nil mix Tryz.func248 (by kernel_rfl) ex_impl_kept hg
/-- impl_arcSine -/
def sg_impl_arcSine : Sig := ⟨[.val false [(.int .i64)]], [(true, [(.int .i64), (.int .i64)])]⟩
def pr_impl_arcSine : Prog :=
 (.chk 1
 (.call 245 [(.int (-324001)), (.int 324001), (.var 0)] 2
 (.call 1000245 [(.int (-324001)), (.int 324001), (.var 2)] 2
 (.call 248 [(.var 1)] 1
 (.call 248 [(.ar .add .i64 (.int 1) (.var 3))] 1
 (.leaf (.res [(.var 5), (.var 6)])))))))
theorem ex_impl_arcSine : exB tab [(245, sg_impl_halve), (1000245, sg_impl_halve_v1), (248, sg_impl_kept)] Tryz.f227 sg_impl_arcSine pr_impl_arcSine = true := by kernel_rfl
abbrev n_impl_arcSine : Nat := 227
theorem mk_impl_arcSine {g0 g1 g2 : List U → Option (List U)}  (h0 : FnOK Tryz.prog 245 sg_impl_halve g0) (h1 : FnOK Tryz.prog 245 sg_impl_halve_v1 g1) (h2 : FnOK Tryz.prog 248 sg_impl_kept g2) {g : List U → Option (List U)} (hg : ∀ us rs, us.length = 1 → g us = some rs → wpP (fun k us => if 245 = k then g0 us else if 1000245 = k then g1 us else if 248 = k then g2 us else none) pr_impl_arcSine 0 us fun l η => ∃ es, l = .res es ∧ es.map (E.den η) = rs) : FnOK Tryz.prog 227 sg_impl_arcSine g :=
  fn_ok2 tab_ok (env_cons (f := 245) h0 rfl (env_cons (f := 1000245) h1 rfl (env_cons (f := 248) h2 rfl env_nil))) mix Tryz.func227 (by kernel_rfl) ex_impl_arcSine hg
/-- impl_ArcSineRange -/
def sg_impl_ArcSineRange : Sig := ⟨[.val true [(.int .i64), (.int .i64)]], [(true, [(.int .i64), (.int .i64)]), (false, [(.int .i64)])]⟩
def pr_impl_ArcSineRange : Prog :=
 (.chk 2
 (.call 226 [(.var 0), (.var 1)] 1
 (.cond (.not (.var 2))
  (.leaf (.res [(.int 0), (.int 0), (.int 1)]))
  (.join
   (.cond (.cmp .gtr (.var 0) (.int 1000000))
    (.leaf (.vals 0 [(.bool true)]))
    (.leaf (.vals 0 [(.cmp .lss (.var 1) (.int (-1000000)))])))
   (.alt
    (.chk 4
    (.cond (.var 3)
     (.leaf (.res [(.int 0), (.int 0), (.int 4)]))
     (.call 227 [(.mx (.var 0) (.int (-1000000)))] 2
     (.call 227 [(.mn (.var 1) (.int 1000000))] 2
     (.leaf (.res [(.var 4), (.var 7), (.int 0)]))))))
    .stop)))))
theorem ex_impl_ArcSineRange : exB tab [(226, sg_impl_IsInterval), (227, sg_impl_arcSine)] Tryz.f190 sg_impl_ArcSineRange pr_impl_ArcSineRange = true := by kernel_rfl
abbrev n_impl_ArcSineRange : Nat := 190
theorem mk_impl_ArcSineRange {g0 g1 : List U → Option (List U)}  (h0 : FnOK Tryz.prog 226 sg_impl_IsInterval g0) (h1 : FnOK Tryz.prog 227 sg_impl_arcSine g1) {g : List U → Option (List U)} (hg : ∀ us rs, us.length = 2 → g us = some rs → wpP (fun k us => if 226 = k then g0 us else if 227 = k then g1 us else none) pr_impl_ArcSineRange 0 us fun l η => ∃ es, l = .res es ∧ es.map (E.den η) = rs) : FnOK Tryz.prog 190 sg_impl_ArcSineRange g :=
  fn_ok2 tab_ok (env_cons (f := 226) h0 rfl (env_cons (f := 227) h1 rfl env_nil)) mix Tryz.func190 (by kernel_rfl) ex_impl_ArcSineRange hg
/-- impl_declination -/
def sg_impl_declination : Sig := ⟨[.val false [(.int .i64)]], [(true, [(.int .i64), (.int .i64)])]⟩
def pr_impl_declination : Prog :=
 (.chk 1
 (.call 185 [(.int 84380)] 2
 (.call 191 [(.var 0)] 1
 (.call 185 [(.var 3)] 2
 (.call 187 [(.var 1), (.var 2), (.var 4), (.var 5)] 2
 (.call 190 [(.var 6), (.var 7)] 3
 (.leaf (.res [(.ar .sub .i64 (.var 8) (.int 60)), (.ar .add .i64 (.var 9) (.int 60))]))))))))
theorem ex_impl_declination : exB tab [(185, sg_impl_sine), (191, sg_impl_sunLongitude), (187, sg_impl_Interval_times), (190, sg_impl_ArcSineRange)] Tryz.f143 sg_impl_declination pr_impl_declination = true := by kernel_rfl
abbrev n_impl_declination : Nat := 143
theorem mk_impl_declination {g0 g1 g2 g3 : List U → Option (List U)}  (h0 : FnOK Tryz.prog 185 sg_impl_sine g0) (h1 : FnOK Tryz.prog 191 sg_impl_sunLongitude g1) (h2 : FnOK Tryz.prog 187 sg_impl_Interval_times g2) (h3 : FnOK Tryz.prog 190 sg_impl_ArcSineRange g3) {g : List U → Option (List U)} (hg : ∀ us rs, us.length = 1 → g us = some rs → wpP (fun k us => if 185 = k then g0 us else if 191 = k then g1 us else if 187 = k then g2 us else if 190 = k then g3 us else none) pr_impl_declination 0 us fun l η => ∃ es, l = .res es ∧ es.map (E.den η) = rs) : FnOK Tryz.prog 143 sg_impl_declination g :=
  fn_ok2 tab_ok (env_cons (f := 185) h0 rfl (env_cons (f := 191) h1 rfl (env_cons (f := 187) h2 rfl (env_cons (f := 190) h3 rfl env_nil)))) mix Tryz.func143 (by kernel_rfl) ex_impl_declination hg
/-- impl_Interval_hull -/
def sg_impl_Interval_hull : Sig := ⟨[.val true [(.int .i64), (.int .i64)], .val true [(.int .i64), (.int .i64)]], [(true, [(.int .i64), (.int .i64)])]⟩
def pr_impl_Interval_hull : Prog :=
 (.chk 4
 (.leaf (.res [(.mn (.var 0) (.var 2)), (.mx (.var 1) (.var 3))])))
theorem ex_impl_Interval_hull : exB tab [] Tryz.f221 sg_impl_Interval_hull pr_impl_Interval_hull = true := by kernel_rfl
abbrev n_impl_Interval_hull : Nat := 221
theorem mk_impl_Interval_hull  {g : List U → Option (List U)} (hg : ∀ us rs, us.length = 4 → g us = some rs → wpP (fun _ _ => none) pr_impl_Interval_hull 0 us fun l η => ∃ es, l = .res es ∧ es.map (E.den η) = rs) : FnOK Tryz.prog 221 sg_impl_Interval_hull g :=
  fn_ok2 tab_ok env_nil mix Tryz.func221 (by kernel_rfl) ex_impl_Interval_hull hg
/-- impl_sineRange_1 -/
def sg_impl_sineRange_1 : Sig := ⟨[.val false [(.int .i64)], .ro [(.int .i64), (.int .i64)]], [(false, [(.int .i64)])]⟩
def pr_impl_sineRange_1 : Prog :=
 (.chk 3
 (.call 176 [(.ar .sub .i64 (.var 0) (.var 1))] 1
 (.leaf (.res [(.ar .add .i64 (.var 1) (.var 3))]))))
theorem ex_impl_sineRange_1 : exB tab [(176, sg_impl_plain)] Tryz.f222 sg_impl_sineRange_1 pr_impl_sineRange_1 = true := by kernel_rfl
abbrev n_impl_sineRange_1 : Nat := 222
theorem mk_impl_sineRange_1 {g0 : List U → Option (List U)}  (h0 : FnOK Tryz.prog 176 sg_impl_plain g0) {g : List U → Option (List U)} (hg : ∀ us rs, us.length = 3 → g us = some rs → wpP (fun k us => if 176 = k then g0 us else none) pr_impl_sineRange_1 0 us fun l η => ∃ es, l = .res es ∧ es.map (E.den η) = rs) : FnOK Tryz.prog 222 sg_impl_sineRange_1 g :=
  fn_ok2 tab_ok (env_cons (f := 176) h0 rfl env_nil) mix Tryz.func222 (by kernel_rfl) ex_impl_sineRange_1 hg
/-- impl_sineRange -/
def sg_impl_sineRange : Sig := ⟨[.val true [(.int .i64), (.int .i64)]], [(true, [(.int .i64), (.int .i64)])]⟩
def pr_impl_sineRange : Prog :=
 (.chk 2
 (.call 185 [(.var 0)] 2
 (.call 185 [(.var 1)] 2
 (.call 221 [(.var 2), (.var 3), (.var 4), (.var 5)] 2
 (.join
  (.call 222 [(.int 324000), (.var 0), (.var 1)] 1
  (.cond (.cmp .leq (.var 8) (.var 1))
   (.call 221 [(.var 6), (.var 7), (.int 1000000), (.int 1000000)] 2
   (.leaf (.vals 0 [(.cmp .leq (.var 8) (.var 1)), (.var 9), (.var 10)])))
   (.leaf (.vals 0 [(.cmp .leq (.var 8) (.var 1)), (.var 6), (.var 7)]))))
  (.alt
   (.join
    (.call 222 [(.int (-324000)), (.var 0), (.var 1)] 1
    (.chk 12
    (.cond (.cmp .leq (.var 11) (.var 1))
     (.call 221 [(.var 9), (.var 10), (.int (-1000000)), (.int (-1000000))] 2
     (.leaf (.vals 0 [(.cmp .leq (.var 11) (.var 1)), (.var 12), (.var 13)])))
     (.leaf (.vals 0 [(.cmp .leq (.var 11) (.var 1)), (.var 9), (.var 10)])))))
    (.alt
     (.chk 14
     (.leaf (.res [(.var 12), (.var 13)])))
     .stop))
   .stop))))))
theorem ex_impl_sineRange : exB tab [(185, sg_impl_sine), (221, sg_impl_Interval_hull), (222, sg_impl_sineRange_1)] Tryz.f183 sg_impl_sineRange pr_impl_sineRange = true := by kernel_rfl
abbrev n_impl_sineRange : Nat := 183
theorem mk_impl_sineRange {g0 g1 g2 : List U → Option (List U)}  (h0 : FnOK Tryz.prog 185 sg_impl_sine g0) (h1 : FnOK Tryz.prog 221 sg_impl_Interval_hull g1) (h2 : FnOK Tryz.prog 222 sg_impl_sineRange_1 g2) {g : List U → Option (List U)} (hg : ∀ us rs, us.length = 2 → g us = some rs → wpP (fun k us => if 185 = k then g0 us else if 221 = k then g1 us else if 222 = k then g2 us else none) pr_impl_sineRange 0 us fun l η => ∃ es, l = .res es ∧ es.map (E.den η) = rs) : FnOK Tryz.prog 183 sg_impl_sineRange g :=
  fn_ok2 tab_ok (env_cons (f := 185) h0 rfl (env_cons (f := 221) h1 rfl (env_cons (f := 222) h2 rfl env_nil))) mix Tryz.func183 (by kernel_rfl) ex_impl_sineRange hg
/-- impl_Interval_shifted -/
def sg_impl_Interval_shifted : Sig := ⟨[.val true [(.int .i64), (.int .i64)], .val false [(.int .i64)]], [(true, [(.int .i64), (.int .i64)])]⟩
def pr_impl_Interval_shifted : Prog :=
 (.chk 3
 (.leaf (.res [(.ar .add .i64 (.var 0) (.var 2)), (.ar .add .i64 (.var 1) (.var 2))])))
theorem ex_impl_Interval_shifted : exB tab [] Tryz.f223 sg_impl_Interval_shifted pr_impl_Interval_shifted = true := by kernel_rfl
abbrev n_impl_Interval_shifted : Nat := 223
theorem mk_impl_Interval_shifted  {g : List U → Option (List U)} (hg : ∀ us rs, us.length = 3 → g us = some rs → wpP (fun _ _ => none) pr_impl_Interval_shifted 0 us fun l η => ∃ es, l = .res es ∧ es.map (E.den η) = rs) : FnOK Tryz.prog 223 sg_impl_Interval_shifted g :=
  fn_ok2 tab_ok env_nil mix Tryz.func223 (by kernel_rfl) ex_impl_Interval_shifted hg
/-- impl_cosineRange -/
def sg_impl_cosineRange : Sig := ⟨[.val true [(.int .i64), (.int .i64)]], [(true, [(.int .i64), (.int .i64)])]⟩
def pr_impl_cosineRange : Prog :=
 (.chk 2
 (.call 223 [(.var 0), (.var 1), (.int 324000)] 2
 (.call 183 [(.var 2), (.var 3)] 2
 (.leaf (.res [(.var 4), (.var 5)])))))
theorem ex_impl_cosineRange : exB tab [(223, sg_impl_Interval_shifted), (183, sg_impl_sineRange)] Tryz.f184 sg_impl_cosineRange pr_impl_cosineRange = true := by kernel_rfl
abbrev n_impl_cosineRange : Nat := 184
theorem mk_impl_cosineRange {g0 g1 : List U → Option (List U)}  (h0 : FnOK Tryz.prog 223 sg_impl_Interval_shifted g0) (h1 : FnOK Tryz.prog 183 sg_impl_sineRange g1) {g : List U → Option (List U)} (hg : ∀ us rs, us.length = 2 → g us = some rs → wpP (fun k us => if 223 = k then g0 us else if 183 = k then g1 us else none) pr_impl_cosineRange 0 us fun l η => ∃ es, l = .res es ∧ es.map (E.den η) = rs) : FnOK Tryz.prog 184 sg_impl_cosineRange g :=
  fn_ok2 tab_ok (env_cons (f := 223) h0 rfl (env_cons (f := 183) h1 rfl env_nil)) mix Tryz.func184 (by kernel_rfl) ex_impl_cosineRange hg
/-- impl_cosine -/
def sg_impl_cosine : Sig := ⟨[.val false [(.int .i64)]], [(true, [(.int .i64), (.int .i64)])]⟩
def pr_impl_cosine : Prog :=
 (.chk 1
 (.call 185 [(.ar .add .i64 (.var 0) (.int 324000))] 2
 (.leaf (.res [(.var 1), (.var 2)]))))
theorem ex_impl_cosine : exB tab [(185, sg_impl_sine)] Tryz.f186 sg_impl_cosine pr_impl_cosine = true := by kernel_rfl
abbrev n_impl_cosine : Nat := 186
theorem mk_impl_cosine {g0 : List U → Option (List U)}  (h0 : FnOK Tryz.prog 185 sg_impl_sine g0) {g : List U → Option (List U)} (hg : ∀ us rs, us.length = 1 → g us = some rs → wpP (fun k us => if 185 = k then g0 us else none) pr_impl_cosine 0 us fun l η => ∃ es, l = .res es ∧ es.map (E.den η) = rs) : FnOK Tryz.prog 186 sg_impl_cosine g :=
  fn_ok2 tab_ok (env_cons (f := 185) h0 rfl env_nil) mix Tryz.func186 (by kernel_rfl) ex_impl_cosine hg
/-- impl_Interval_minus -/
def sg_impl_Interval_minus : Sig := ⟨[.val true [(.int .i64), (.int .i64)], .val true [(.int .i64), (.int .i64)]], [(true, [(.int .i64), (.int .i64)])]⟩
def pr_impl_Interval_minus : Prog :=
 (.chk 4
 (.leaf (.res [(.ar .sub .i64 (.var 0) (.var 3)), (.ar .sub .i64 (.var 1) (.var 2))])))
theorem ex_impl_Interval_minus : exB tab [] Tryz.f188 sg_impl_Interval_minus pr_impl_Interval_minus = true := by kernel_rfl
abbrev n_impl_Interval_minus : Nat := 188
theorem mk_impl_Interval_minus  {g : List U → Option (List U)} (hg : ∀ us rs, us.length = 4 → g us = some rs → wpP (fun _ _ => none) pr_impl_Interval_minus 0 us fun l η => ∃ es, l = .res es ∧ es.map (E.den η) = rs) : FnOK Tryz.prog 188 sg_impl_Interval_minus g :=
  fn_ok2 tab_ok env_nil mix Tryz.func188 (by kernel_rfl) ex_impl_Interval_minus hg
/-- impl_Interval_plus -/
def sg_impl_Interval_plus : Sig := ⟨[.val true [(.int .i64), (.int .i64)], .val true [(.int .i64), (.int .i64)]], [(true, [(.int .i64), (.int .i64)])]⟩
def pr_impl_Interval_plus : Prog :=
 (.chk 4
 (.leaf (.res [(.ar .add .i64 (.var 0) (.var 2)), (.ar .add .i64 (.var 1) (.var 3))])))
theorem ex_impl_Interval_plus : exB tab [] Tryz.f189 sg_impl_Interval_plus pr_impl_Interval_plus = true := by kernel_rfl
abbrev n_impl_Interval_plus : Nat := 189
theorem mk_impl_Interval_plus  {g : List U → Option (List U)} (hg : ∀ us rs, us.length = 4 → g us = some rs → wpP (fun _ _ => none) pr_impl_Interval_plus 0 us fun l η => ∃ es, l = .res es ∧ es.map (E.den η) = rs) : FnOK Tryz.prog 189 sg_impl_Interval_plus g :=
  fn_ok2 tab_ok env_nil mix Tryz.func189 (by kernel_rfl) ex_impl_Interval_plus hg
/-- impl_sunAt -/
def sg_impl_sunAt : Sig := ⟨[.val false [(.int .i64)], .val true [(.int .i64), (.int .i64)], .val false [(.int .i64)]], [(true, [(.int .i64), (.int .i64), (.int .i64), (.int .i64), (.int .i64), (.int .i64)])]⟩
def pr_impl_sunAt : Prog :=
 (.chk 4
 (.call 183 [(.var 1), (.var 2)] 2
 (.call 184 [(.var 1), (.var 2)] 2
 (.call 185 [(.var 0)] 2
 (.call 186 [(.var 0)] 2
 (.call 186 [(.ar .mul .i64 (.ar .sub .i64 (.var 3) (.int 720)) (.int 900))] 2
 (.call 187 [(.var 6), (.var 7), (.var 12), (.var 13)] 2
 (.call 185 [(.ar .mul .i64 (.ar .sub .i64 (.var 3) (.int 720)) (.int 900))] 2
 (.call 187 [(.var 6), (.var 7), (.var 16), (.var 17)] 2
 (.call 188 [(.int 0), (.int 0), (.var 18), (.var 19)] 2
 (.call 187 [(.var 4), (.var 5), (.var 10), (.var 11)] 2
 (.call 187 [(.var 14), (.var 15), (.var 8), (.var 9)] 2
 (.call 188 [(.var 22), (.var 23), (.var 24), (.var 25)] 2
 (.call 187 [(.var 4), (.var 5), (.var 8), (.var 9)] 2
 (.call 187 [(.var 14), (.var 15), (.var 10), (.var 11)] 2
 (.call 189 [(.var 28), (.var 29), (.var 30), (.var 31)] 2
 (.leaf (.res [(.var 20), (.var 21), (.var 26), (.var 27), (.var 32), (.var 33)]))))))))))))))))))
theorem ex_impl_sunAt : exB tab [(183, sg_impl_sineRange), (184, sg_impl_cosineRange), (185, sg_impl_sine), (186, sg_impl_cosine), (187, sg_impl_Interval_times), (188, sg_impl_Interval_minus), (189, sg_impl_Interval_plus)] Tryz.f142 sg_impl_sunAt pr_impl_sunAt = true := by kernel_rfl
abbrev n_impl_sunAt : Nat := 142
theorem mk_impl_sunAt {g0 g1 g2 g3 g4 g5 g6 : List U → Option (List U)}  (h0 : FnOK Tryz.prog 183 sg_impl_sineRange g0) (h1 : FnOK Tryz.prog 184 sg_impl_cosineRange g1) (h2 : FnOK Tryz.prog 185 sg_impl_sine g2) (h3 : FnOK Tryz.prog 186 sg_impl_cosine g3) (h4 : FnOK Tryz.prog 187 sg_impl_Interval_times g4) (h5 : FnOK Tryz.prog 188 sg_impl_Interval_minus g5) (h6 : FnOK Tryz.prog 189 sg_impl_Interval_plus g6) {g : List U → Option (List U)} (hg : ∀ us rs, us.length = 4 → g us = some rs → wpP (fun k us => if 183 = k then g0 us else if 184 = k then g1 us else if 185 = k then g2 us else if 186 = k then g3 us else if 187 = k then g4 us else if 188 = k then g5 us else if 189 = k then g6 us else none) pr_impl_sunAt 0 us fun l η => ∃ es, l = .res es ∧ es.map (E.den η) = rs) : FnOK Tryz.prog 142 sg_impl_sunAt g :=
  fn_ok2 tab_ok (env_cons (f := 183) h0 rfl (env_cons (f := 184) h1 rfl (env_cons (f := 185) h2 rfl (env_cons (f := 186) h3 rfl (env_cons (f := 187) h4 rfl (env_cons (f := 188) h5 rfl (env_cons (f := 189) h6 rfl env_nil))))))) mix Tryz.func142 (by kernel_rfl) ex_impl_sunAt hg
/-- impl_Interval_within -/
def sg_impl_Interval_within : Sig := ⟨[.val true [(.int .i64), (.int .i64)], .val false [(.int .i64)]], [(false, [.bool])]⟩
def pr_impl_Interval_within : Prog :=
 (.chk 3
 (.join
  (.call 114 [(.var 0), (.ar .sub .i64 (.int 0) (.var 2)), (.var 2)] 1
  (.cond (.var 3)
   (.call 114 [(.var 1), (.ar .sub .i64 (.int 0) (.var 2)), (.var 2)] 1
   (.leaf (.vals 0 [(.var 4)])))
   (.leaf (.vals 0 [(.bool false)]))))
  (.alt
   (.chk 4
   (.leaf (.res [(.var 3)])))
   .stop)))
theorem ex_impl_Interval_within : exB tab [(114, sg_impl_in)] Tryz.f161 sg_impl_Interval_within pr_impl_Interval_within = true := by kernel_rfl
abbrev n_impl_Interval_within : Nat := 161
theorem mk_impl_Interval_within {g0 : List U → Option (List U)}  (h0 : FnOK Tryz.prog 114 sg_impl_in g0) {g : List U → Option (List U)} (hg : ∀ us rs, us.length = 3 → g us = some rs → wpP (fun k us => if 114 = k then g0 us else none) pr_impl_Interval_within 0 us fun l η => ∃ es, l = .res es ∧ es.map (E.den η) = rs) : FnOK Tryz.prog 161 sg_impl_Interval_within g :=
  fn_ok2 tab_ok (env_cons (f := 114) h0 rfl env_nil) mix Tryz.func161 (by kernel_rfl) ex_impl_Interval_within hg
/-- impl_isPart -/
def sg_impl_isPart : Sig := ⟨[.val true [(.int .i64), (.int .i64)]], [(false, [.bool])]⟩
def pr_impl_isPart : Prog :=
 (.chk 2
 (.join
  (.call 226 [(.var 0), (.var 1)] 1
  (.cond (.var 2)
   (.call 161 [(.var 0), (.var 1), (.int 10000000)] 1
   (.leaf (.vals 0 [(.var 3)])))
   (.leaf (.vals 0 [(.bool false)]))))
  (.alt
   (.chk 3
   (.leaf (.res [(.var 2)])))
   .stop)))
theorem ex_impl_isPart : exB tab [(226, sg_impl_IsInterval), (161, sg_impl_Interval_within)] Tryz.f192 sg_impl_isPart pr_impl_isPart = true := by kernel_rfl
abbrev n_impl_isPart : Nat := 192
theorem mk_impl_isPart {g0 g1 : List U → Option (List U)}  (h0 : FnOK Tryz.prog 226 sg_impl_IsInterval g0) (h1 : FnOK Tryz.prog 161 sg_impl_Interval_within g1) {g : List U → Option (List U)} (hg : ∀ us rs, us.length = 2 → g us = some rs → wpP (fun k us => if 226 = k then g0 us else if 161 = k then g1 us else none) pr_impl_isPart 0 us fun l η => ∃ es, l = .res es ∧ es.map (E.den η) = rs) : FnOK Tryz.prog 192 sg_impl_isPart g :=
  fn_ok2 tab_ok (env_cons (f := 226) h0 rfl (env_cons (f := 161) h1 rfl env_nil)) mix Tryz.func192 (by kernel_rfl) ex_impl_isPart hg
/-- impl_IsVector -/
def sg_impl_IsVector : Sig := ⟨[.val true [(.int .i64), (.int .i64), (.int .i64), (.int .i64), (.int .i64), (.int .i64)]], [(false, [.bool])]⟩
def pr_impl_IsVector : Prog :=
 (.chk 6
 (.join
  (.call 192 [(.var 0), (.var 1)] 1
  (.cond (.var 6)
   (.call 192 [(.var 2), (.var 3)] 1
   (.cond (.var 7)
    (.call 192 [(.var 4), (.var 5)] 1
    (.leaf (.vals 0 [(.var 8)])))
    (.leaf (.vals 0 [(.bool false)]))))
   (.leaf (.vals 0 [(.bool false)]))))
  (.alt
   (.chk 7
   (.leaf (.res [(.var 6)])))
   .stop)))
theorem ex_impl_IsVector : exB tab [(192, sg_impl_isPart)] Tryz.f145 sg_impl_IsVector pr_impl_IsVector = true := by kernel_rfl
abbrev n_impl_IsVector : Nat := 145
theorem mk_impl_IsVector {g0 : List U → Option (List U)}  (h0 : FnOK Tryz.prog 192 sg_impl_isPart g0) {g : List U → Option (List U)} (hg : ∀ us rs, us.length = 6 → g us = some rs → wpP (fun k us => if 192 = k then g0 us else none) pr_impl_IsVector 0 us fun l η => ∃ es, l = .res es ∧ es.map (E.den η) = rs) : FnOK Tryz.prog 145 sg_impl_IsVector g :=
  fn_ok2 tab_ok (env_cons (f := 192) h0 rfl env_nil) mix Tryz.func145 (by kernel_rfl) ex_impl_IsVector hg
/-- impl_direction -/
def sg_impl_direction : Sig := ⟨[.val false [(.int .i64)], .val false [(.int .i64)]], [(true, [(.int .i64), (.int .i64), (.int .i64), (.int .i64), (.int .i64), (.int .i64)])]⟩
def pr_impl_direction : Prog :=
 (.chk 2
 (.call 186 [(.var 1)] 2
 (.call 185 [(.var 0)] 2
 (.call 187 [(.var 4), (.var 5), (.var 2), (.var 3)] 2
 (.call 186 [(.var 0)] 2
 (.call 187 [(.var 8), (.var 9), (.var 2), (.var 3)] 2
 (.call 185 [(.var 1)] 2
 (.leaf (.res [(.var 6), (.var 7), (.var 10), (.var 11), (.var 12), (.var 13)])))))))))
theorem ex_impl_direction : exB tab [(186, sg_impl_cosine), (185, sg_impl_sine), (187, sg_impl_Interval_times)] Tryz.f230 sg_impl_direction pr_impl_direction = true := by kernel_rfl
abbrev n_impl_direction : Nat := 230
theorem mk_impl_direction {g0 g1 g2 : List U → Option (List U)}  (h0 : FnOK Tryz.prog 186 sg_impl_cosine g0) (h1 : FnOK Tryz.prog 185 sg_impl_sine g1) (h2 : FnOK Tryz.prog 187 sg_impl_Interval_times g2) {g : List U → Option (List U)} (hg : ∀ us rs, us.length = 2 → g us = some rs → wpP (fun k us => if 186 = k then g0 us else if 185 = k then g1 us else if 187 = k then g2 us else none) pr_impl_direction 0 us fun l η => ∃ es, l = .res es ∧ es.map (E.den η) = rs) : FnOK Tryz.prog 230 sg_impl_direction g :=
  fn_ok2 tab_ok (env_cons (f := 186) h0 rfl (env_cons (f := 185) h1 rfl (env_cons (f := 187) h2 rfl env_nil))) mix Tryz.func230 (by kernel_rfl) ex_impl_direction hg
/-- impl_Wall_axes -/
def sg_impl_Wall_axes : Sig := ⟨[.val true [(.int .i64), (.int .i64)]], [(false, [(.lst 98 [(.int .i64), (.int .i64), (.int .i64), (.int .i64), (.int .i64), (.int .i64)])])]⟩
def pr_impl_Wall_axes : Prog :=
 (.chk 2
 (.call 230 [(.ar .sub .i64 (.var 0) (.int 324000)), (.int 0)] 6
 (.call 230 [(.var 0), (.ar .add .i64 (.var 1) (.int 324000))] 6
 (.call 230 [(.var 0), (.var 1)] 6
 (.leaf (.res [(.lcons (.rcons (.var 2) (.rcons (.var 3) (.rcons (.var 4) (.rcons (.var 5) (.rcons (.var 6) (.rcons (.var 7) .rnil)))))) (.lcons (.rcons (.var 8) (.rcons (.var 9) (.rcons (.var 10) (.rcons (.var 11) (.rcons (.var 12) (.rcons (.var 13) .rnil)))))) (.lcons (.rcons (.var 14) (.rcons (.var 15) (.rcons (.var 16) (.rcons (.var 17) (.rcons (.var 18) (.rcons (.var 19) .rnil)))))) .lnil)))]))))))
theorem ex_impl_Wall_axes : exB tab [(230, sg_impl_direction)] Tryz.f193 sg_impl_Wall_axes pr_impl_Wall_axes = true := by kernel_rfl
abbrev n_impl_Wall_axes : Nat := 193
theorem mk_impl_Wall_axes {g0 : List U → Option (List U)}  (h0 : FnOK Tryz.prog 230 sg_impl_direction g0) {g : List U → Option (List U)} (hg : ∀ us rs, us.length = 2 → g us = some rs → wpP (fun k us => if 230 = k then g0 us else none) pr_impl_Wall_axes 0 us fun l η => ∃ es, l = .res es ∧ es.map (E.den η) = rs) : FnOK Tryz.prog 193 sg_impl_Wall_axes g :=
  fn_ok2 tab_ok (env_cons (f := 230) h0 rfl env_nil) mix Tryz.func193 (by kernel_rfl) ex_impl_Wall_axes hg
/-- impl_Vector_dot -/
def sg_impl_Vector_dot : Sig := ⟨[.val true [(.int .i64), (.int .i64), (.int .i64), (.int .i64), (.int .i64), (.int .i64)], .val true [(.int .i64), (.int .i64), (.int .i64), (.int .i64), (.int .i64), (.int .i64)]], [(true, [(.int .i64), (.int .i64)])]⟩
def pr_impl_Vector_dot : Prog :=
 (.chk 12
 (.call 187 [(.var 0), (.var 1), (.var 6), (.var 7)] 2
 (.call 187 [(.var 2), (.var 3), (.var 8), (.var 9)] 2
 (.call 189 [(.var 12), (.var 13), (.var 14), (.var 15)] 2
 (.call 187 [(.var 4), (.var 5), (.var 10), (.var 11)] 2
 (.call 189 [(.var 16), (.var 17), (.var 18), (.var 19)] 2
 (.leaf (.res [(.var 20), (.var 21)]))))))))
theorem ex_impl_Vector_dot : exB tab [(187, sg_impl_Interval_times), (189, sg_impl_Interval_plus)] Tryz.f194 sg_impl_Vector_dot pr_impl_Vector_dot = true := by kernel_rfl
abbrev n_impl_Vector_dot : Nat := 194
theorem mk_impl_Vector_dot {g0 g1 : List U → Option (List U)}  (h0 : FnOK Tryz.prog 187 sg_impl_Interval_times g0) (h1 : FnOK Tryz.prog 189 sg_impl_Interval_plus g1) {g : List U → Option (List U)} (hg : ∀ us rs, us.length = 12 → g us = some rs → wpP (fun k us => if 187 = k then g0 us else if 189 = k then g1 us else none) pr_impl_Vector_dot 0 us fun l η => ∃ es, l = .res es ∧ es.map (E.den η) = rs) : FnOK Tryz.prog 194 sg_impl_Vector_dot g :=
  fn_ok2 tab_ok (env_cons (f := 187) h0 rfl (env_cons (f := 189) h1 rfl env_nil)) mix Tryz.func194 (by kernel_rfl) ex_impl_Vector_dot hg
/-- impl_Wall_parts -/
def sg_impl_Wall_parts : Sig := ⟨[.val true [(.int .i64), (.int .i64)], .val true [(.int .i64), (.int .i64), (.int .i64), (.int .i64), (.int .i64), (.int .i64)]], [(false, [(.lst 41 [(.int .i64), (.int .i64)])])]⟩
def pr_impl_Wall_parts : Prog :=
 (.chk 8
 (.call 193 [(.var 0), (.var 1)] 1
 (.loop [(.int 0), .lnil]
  (.chk 11
  (.cond (.cmp .lss (.var 9) (.len (.var 8)))
   (.guard (.cmp .leq (.int 0) (.var 9)) true
   (.call 194 [(.var 2), (.var 3), (.var 4), (.var 5), (.var 6), (.var 7), (.nth (.var 8) (.var 9) 0), (.nth (.var 8) (.var 9) 1), (.nth (.var 8) (.var 9) 2), (.nth (.var 8) (.var 9) 3), (.nth (.var 8) (.var 9) 4), (.nth (.var 8) (.var 9) 5)] 2
   (.guard (.cmp .leq (.len (.cat (.var 10) (.lcons (.rcons (.var 11) (.rcons (.var 12) .rnil)) .lnil))) (.int 8796093022208)) true
   (.leaf (.vals 0 [(.ar .add .i64 (.var 9) (.int 1)), (.cat (.var 10) (.lcons (.rcons (.var 11) (.rcons (.var 12) .rnil)) .lnil))])))))
   (.leaf (.vals 1 [(.var 9), (.cmp .lss (.var 9) (.len (.var 8))), (.var 10)]))))
  (.alt
   (.chk 12
   (.leaf (.res [(.var 11)])))
   .stop))))
theorem ex_impl_Wall_parts : exB tab [(193, sg_impl_Wall_axes), (194, sg_impl_Vector_dot)] Tryz.f146 sg_impl_Wall_parts pr_impl_Wall_parts = true := by kernel_rfl
abbrev n_impl_Wall_parts : Nat := 146
theorem mk_impl_Wall_parts {g0 g1 : List U → Option (List U)}  (h0 : FnOK Tryz.prog 193 sg_impl_Wall_axes g0) (h1 : FnOK Tryz.prog 194 sg_impl_Vector_dot g1) {g : List U → Option (List U)} (hg : ∀ us rs, us.length = 8 → g us = some rs → wpP (fun k us => if 193 = k then g0 us else if 194 = k then g1 us else none) pr_impl_Wall_parts 0 us fun l η => ∃ es, l = .res es ∧ es.map (E.den η) = rs) : FnOK Tryz.prog 146 sg_impl_Wall_parts g :=
  fn_ok2 tab_ok (env_cons (f := 193) h0 rfl (env_cons (f := 194) h1 rfl env_nil)) mix Tryz.func146 (by kernel_rfl) ex_impl_Wall_parts hg
/-- impl_factors -/
def sg_impl_factors : Sig := ⟨[.val true [(.int .i64), (.int .i64)], .val true [(.int .i64), (.int .i64)]], [(false, [(.int .i64)])]⟩
def pr_impl_factors : Prog :=
 (.chk 4
 (.join
  (.call 226 [(.var 0), (.var 1)] 1
  (.cond (.not (.var 4))
   (.leaf (.vals 0 [(.bool true)]))
   (.call 226 [(.var 2), (.var 3)] 1
   (.leaf (.vals 0 [(.not (.var 5))])))))
  (.alt
   (.chk 5
   (.cond (.var 4)
    (.leaf (.res [(.int 1)]))
    (.join
     (.call 161 [(.var 0), (.var 1), (.int 1000000000)] 1
     (.cond (.not (.var 5))
      (.leaf (.vals 0 [(.bool true)]))
      (.call 161 [(.var 2), (.var 3), (.int 1000000000)] 1
      (.leaf (.vals 0 [(.not (.var 6))])))))
     (.alt
      (.chk 6
      (.cond (.var 5)
       (.leaf (.res [(.int 2)]))
       (.leaf (.res [(.int 0)]))))
      .stop))))
   .stop)))
theorem ex_impl_factors : exB tab [(226, sg_impl_IsInterval), (161, sg_impl_Interval_within)] Tryz.f249 sg_impl_factors pr_impl_factors = true := by kernel_rfl
abbrev n_impl_factors : Nat := 249
theorem mk_impl_factors {g0 g1 : List U → Option (List U)}  (h0 : FnOK Tryz.prog 226 sg_impl_IsInterval g0) (h1 : FnOK Tryz.prog 161 sg_impl_Interval_within g1) {g : List U → Option (List U)} (hg : ∀ us rs, us.length = 4 → g us = some rs → wpP (fun k us => if 226 = k then g0 us else if 161 = k then g1 us else none) pr_impl_factors 0 us fun l η => ∃ es, l = .res es ∧ es.map (E.den η) = rs) : FnOK Tryz.prog 249 sg_impl_factors g :=
  fn_ok2 tab_ok (env_cons (f := 226) h0 rfl (env_cons (f := 161) h1 rfl env_nil)) mix Tryz.func249 (by kernel_rfl) ex_impl_factors hg
/-- impl_Interval_has -/
def sg_impl_Interval_has : Sig := ⟨[.val true [(.int .i64), (.int .i64)], .val false [(.int .i64)]], [(false, [.bool])]⟩
def pr_impl_Interval_has : Prog :=
 (.chk 3
 (.call 114 [(.var 2), (.var 0), (.var 1)] 1
 (.leaf (.res [(.var 3)]))))
theorem ex_impl_Interval_has : exB tab [(114, sg_impl_in)] Tryz.f93 sg_impl_Interval_has pr_impl_Interval_has = true := by kernel_rfl
abbrev n_impl_Interval_has : Nat := 93
theorem mk_impl_Interval_has {g0 : List U → Option (List U)}  (h0 : FnOK Tryz.prog 114 sg_impl_in g0) {g : List U → Option (List U)} (hg : ∀ us rs, us.length = 3 → g us = some rs → wpP (fun k us => if 114 = k then g0 us else none) pr_impl_Interval_has 0 us fun l η => ∃ es, l = .res es ∧ es.map (E.den η) = rs) : FnOK Tryz.prog 93 sg_impl_Interval_has g :=
  fn_ok2 tab_ok (env_cons (f := 114) h0 rfl env_nil) mix Tryz.func93 (by kernel_rfl) ex_impl_Interval_has hg
/-- impl_told -/
def sg_impl_told : Sig := ⟨[.val true [(.int .i64), (.int .i64)]], [(true, [(.int .i64), (.int .i64)]), (false, [(.int .i64)])]⟩
def pr_impl_told : Prog :=
 (.chk 2
 (.join
  (.call 244 [(.var 0)] 1
  (.cond (.not (.var 2))
   (.leaf (.vals 0 [(.bool true)]))
   (.call 244 [(.var 1)] 1
   (.leaf (.vals 0 [(.not (.var 3))])))))
  (.alt
   (.chk 3
   (.cond (.var 2)
    (.leaf (.res [(.int 0), (.int 0), (.int 3)]))
    (.leaf (.res [(.var 0), (.var 1), (.int 0)]))))
   .stop)))
theorem ex_impl_told : exB tab [(244, sg_impl_isValue)] Tryz.f250 sg_impl_told pr_impl_told = true := by kernel_rfl
abbrev n_impl_told : Nat := 250
theorem mk_impl_told {g0 : List U → Option (List U)}  (h0 : FnOK Tryz.prog 244 sg_impl_isValue g0) {g : List U → Option (List U)} (hg : ∀ us rs, us.length = 2 → g us = some rs → wpP (fun k us => if 244 = k then g0 us else none) pr_impl_told 0 us fun l η => ∃ es, l = .res es ∧ es.map (E.den η) = rs) : FnOK Tryz.prog 250 sg_impl_told g :=
  fn_ok2 tab_ok (env_cons (f := 244) h0 rfl env_nil) mix Tryz.func250 (by kernel_rfl) ex_impl_told hg
/-- impl_DivideIntervals -/
def sg_impl_DivideIntervals : Sig := ⟨[.val true [(.int .i64), (.int .i64)], .val true [(.int .i64), (.int .i64)]], [(true, [(.int .i64), (.int .i64)]), (false, [(.int .i64)])]⟩
def pr_impl_DivideIntervals : Prog :=
 (.chk 4
 (.call 249 [(.var 0), (.var 1), (.var 2), (.var 3)] 1
 (.cond (.cmp .neq (.var 4) (.int 0))
  (.leaf (.res [(.int 0), (.int 0), (.var 4)]))
  (.call 93 [(.var 2), (.var 3), (.int 0)] 1
  (.cond (.var 5)
   (.leaf (.res [(.int 0), (.int 0), (.int 5)]))
   (.loop [(.bool true), (.int 0), (.int 0), (.int 0)]
    (.chk 10
    (.cond (.cmp .lss (.var 7) (.len (.lcons (.rcons (.var 0) .rnil) (.lcons (.rcons (.var 1) .rnil) .lnil))))
     (.guard (.cmp .leq (.int 0) (.var 7)) true
     (.loop [(.var 6), (.int 0), (.var 8), (.var 9)]
      (.chk 14
      (.cond (.cmp .lss (.var 11) (.len (.lcons (.rcons (.var 2) .rnil) (.lcons (.rcons (.var 3) .rnil) .lnil))))
       (.guard (.cmp .leq (.int 0) (.var 11)) true
       (.call 167 [(.ar .mul .i64 (.nth (.lcons (.rcons (.var 0) .rnil) (.lcons (.rcons (.var 1) .rnil) .lnil)) (.var 7) 0) (.int 1000000)), (.nth (.lcons (.rcons (.var 2) .rnil) (.lcons (.rcons (.var 3) .rnil) .lnil)) (.var 11) 0)] 1
       (.call 225 [(.ar .mul .i64 (.nth (.lcons (.rcons (.var 0) .rnil) (.lcons (.rcons (.var 1) .rnil) .lnil)) (.var 7) 0) (.int 1000000)), (.nth (.lcons (.rcons (.var 2) .rnil) (.lcons (.rcons (.var 3) .rnil) .lnil)) (.var 11) 0)] 1
       (.join
        (.cond (.var 10)
         (.leaf (.vals 0 [(.var 14), (.var 15)]))
         (.leaf (.vals 0 [(.var 12), (.var 13)])))
        (.alt
         (.call 221 [(.var 16), (.var 17), (.var 14), (.var 15)] 2
         (.chk 20
         (.leaf (.vals 0 [(.bool false), (.ar .add .i64 (.var 11) (.int 1)), (.var 18), (.var 19)]))))
         .stop)))))
       (.leaf (.vals 1 [(.var 10), (.var 11), (.cmp .lss (.var 11) (.len (.lcons (.rcons (.var 2) .rnil) (.lcons (.rcons (.var 3) .rnil) .lnil)))), (.var 12), (.var 13)]))))
      (.alt
       (.chk 15
       (.leaf (.vals 0 [(.var 10), (.ar .add .i64 (.var 7) (.int 1)), (.var 13), (.var 14)])))
       .stop)))
     (.leaf (.vals 1 [(.var 6), (.var 7), (.cmp .lss (.var 7) (.len (.lcons (.rcons (.var 0) .rnil) (.lcons (.rcons (.var 1) .rnil) .lnil)))), (.var 8), (.var 9)]))))
    (.alt
     (.chk 11
     (.call 250 [(.var 9), (.var 10)] 3
     (.leaf (.res [(.var 11), (.var 12), (.var 13)]))))
     .stop)))))))
theorem ex_impl_DivideIntervals : exB tab [(249, sg_impl_factors), (93, sg_impl_Interval_has), (167, sg_impl_floor), (225, sg_impl_ceil), (221, sg_impl_Interval_hull), (250, sg_impl_told)] Tryz.f231 sg_impl_DivideIntervals pr_impl_DivideIntervals = true := by kernel_rfl
abbrev n_impl_DivideIntervals : Nat := 231
theorem mk_impl_DivideIntervals {g0 g1 g2 g3 g4 g5 : List U → Option (List U)}  (h0 : FnOK Tryz.prog 249 sg_impl_factors g0) (h1 : FnOK Tryz.prog 93 sg_impl_Interval_has g1) (h2 : FnOK Tryz.prog 167 sg_impl_floor g2) (h3 : FnOK Tryz.prog 225 sg_impl_ceil g3) (h4 : FnOK Tryz.prog 221 sg_impl_Interval_hull g4) (h5 : FnOK Tryz.prog 250 sg_impl_told g5) {g : List U → Option (List U)} (hg : ∀ us rs, us.length = 4 → g us = some rs → wpP (fun k us => if 249 = k then g0 us else if 93 = k then g1 us else if 167 = k then g2 us else if 225 = k then g3 us else if 221 = k then g4 us else if 250 = k then g5 us else none) pr_impl_DivideIntervals 0 us fun l η => ∃ es, l = .res es ∧ es.map (E.den η) = rs) : FnOK Tryz.prog 231 sg_impl_DivideIntervals g :=
  fn_ok2 tab_ok (env_cons (f := 249) h0 rfl (env_cons (f := 93) h1 rfl (env_cons (f := 167) h2 rfl (env_cons (f := 225) h3 rfl (env_cons (f := 221) h4 rfl (env_cons (f := 250) h5 rfl env_nil)))))) mix Tryz.func231 (by kernel_rfl) ex_impl_DivideIntervals hg
/-- impl_onWall -/
def sg_impl_onWall : Sig := ⟨[.val false [(.int .i64)], .val true [(.int .i64), (.int .i64)], .val true [(.int .i64), (.int .i64)]], [(true, [(.int .i64), (.int .i64)]), (false, [(.int .i64)])]⟩
def pr_impl_onWall : Prog :=
 (.chk 5
 (.call 231 [(.var 1), (.var 2), (.var 3), (.var 4)] 3
 (.cond (.cmp .neq (.var 7) (.int 0))
  (.leaf (.res [(.int 0), (.int 0), (.var 7)]))
  (.call 167 [(.ar .mul .i64 (.ar .sub .i64 (.int 0) (.var 0)) (.var 6)), (.int 1000000)] 1
  (.call 225 [(.ar .mul .i64 (.ar .sub .i64 (.int 0) (.var 0)) (.var 5)), (.int 1000000)] 1
  (.leaf (.res [(.var 8), (.var 9), (.int 0)])))))))
theorem ex_impl_onWall : exB tab [(231, sg_impl_DivideIntervals), (167, sg_impl_floor), (225, sg_impl_ceil)] Tryz.f195 sg_impl_onWall pr_impl_onWall = true := by kernel_rfl
abbrev n_impl_onWall : Nat := 195
theorem mk_impl_onWall {g0 g1 g2 : List U → Option (List U)}  (h0 : FnOK Tryz.prog 231 sg_impl_DivideIntervals g0) (h1 : FnOK Tryz.prog 167 sg_impl_floor g1) (h2 : FnOK Tryz.prog 225 sg_impl_ceil g2) {g : List U → Option (List U)} (hg : ∀ us rs, us.length = 5 → g us = some rs → wpP (fun k us => if 231 = k then g0 us else if 167 = k then g1 us else if 225 = k then g2 us else none) pr_impl_onWall 0 us fun l η => ∃ es, l = .res es ∧ es.map (E.den η) = rs) : FnOK Tryz.prog 195 sg_impl_onWall g :=
  fn_ok2 tab_ok (env_cons (f := 231) h0 rfl (env_cons (f := 167) h1 rfl (env_cons (f := 225) h2 rfl env_nil))) mix Tryz.func195 (by kernel_rfl) ex_impl_onWall hg
/-- impl_IsPlace -/
def sg_impl_IsPlace : Sig := ⟨[.val true [(.int .i64), (.int .i64), (.int .i64), (.int .i64)]], [(false, [.bool])]⟩
def pr_impl_IsPlace : Prog :=
 (.chk 4
 (.join
  (.call 161 [(.var 0), (.var 1), (.int 1000000)] 1
  (.cond (.var 4)
   (.call 161 [(.var 2), (.var 3), (.int 1000000)] 1
   (.cond (.var 5)
    (.cond (.cmp .leq (.var 0) (.var 1))
     (.leaf (.vals 0 [(.cmp .leq (.var 2) (.var 3))]))
     (.leaf (.vals 0 [(.bool false)])))
    (.leaf (.vals 0 [(.bool false)]))))
   (.leaf (.vals 0 [(.bool false)]))))
  (.alt
   (.chk 5
   (.leaf (.res [(.var 4)])))
   .stop)))
theorem ex_impl_IsPlace : exB tab [(161, sg_impl_Interval_within)] Tryz.f91 sg_impl_IsPlace pr_impl_IsPlace = true := by kernel_rfl
abbrev n_impl_IsPlace : Nat := 91
theorem mk_impl_IsPlace {g0 : List U → Option (List U)}  (h0 : FnOK Tryz.prog 161 sg_impl_Interval_within g0) {g : List U → Option (List U)} (hg : ∀ us rs, us.length = 4 → g us = some rs → wpP (fun k us => if 161 = k then g0 us else none) pr_impl_IsPlace 0 us fun l η => ∃ es, l = .res es ∧ es.map (E.den η) = rs) : FnOK Tryz.prog 91 sg_impl_IsPlace g :=
  fn_ok2 tab_ok (env_cons (f := 161) h0 rfl env_nil) mix Tryz.func91 (by kernel_rfl) ex_impl_IsPlace hg
/-- impl_placeOf -/
def sg_impl_placeOf : Sig := ⟨[.val false [(.int .i64)], .val false [(.lst 41 [(.int .i64), (.int .i64)])]], [(true, [(.int .i64), (.int .i64), (.int .i64), (.int .i64)]), (false, [(.int .i64)])]⟩
def pr_impl_placeOf : Prog :=
 (.chk 2
 (.guard (.cmp .leq (.int 0) (.int 0)) true
 (.guard (.cmp .lss (.int 0) (.len (.var 1))) true
 (.guard (.cmp .leq (.int 0) (.int 2)) true
 (.guard (.cmp .lss (.int 2) (.len (.var 1))) true
 (.call 195 [(.var 0), (.nth (.var 1) (.int 0) 0), (.nth (.var 1) (.int 0) 1), (.nth (.var 1) (.int 2) 0), (.nth (.var 1) (.int 2) 1)] 3
 (.cond (.cmp .neq (.var 4) (.int 0))
  (.leaf (.res [(.int 0), (.int 0), (.int 0), (.int 0), (.int 3)]))
  (.guard (.cmp .leq (.int 0) (.int 1)) true
  (.guard (.cmp .lss (.int 1) (.len (.var 1))) true
  (.call 195 [(.var 0), (.nth (.var 1) (.int 1) 0), (.nth (.var 1) (.int 1) 1), (.nth (.var 1) (.int 2) 0), (.nth (.var 1) (.int 2) 1)] 3
  (.join
   (.cond (.cmp .neq (.var 7) (.int 0))
    (.leaf (.vals 0 [(.bool true)]))
    (.call 91 [(.var 2), (.var 3), (.var 5), (.var 6)] 1
    (.leaf (.vals 0 [(.not (.var 8))]))))
   (.alt
    (.chk 9
    (.cond (.var 8)
     (.leaf (.res [(.int 0), (.int 0), (.int 0), (.int 0), (.int 3)]))
     (.leaf (.res [(.var 2), (.var 3), (.var 5), (.var 6), (.int 0)]))))
    .stop))))))))))))
theorem ex_impl_placeOf : exB tab [(195, sg_impl_onWall), (91, sg_impl_IsPlace)] Tryz.f147 sg_impl_placeOf pr_impl_placeOf = true := by kernel_rfl
abbrev n_impl_placeOf : Nat := 147
theorem mk_impl_placeOf {g0 g1 : List U → Option (List U)}  (h0 : FnOK Tryz.prog 195 sg_impl_onWall g0) (h1 : FnOK Tryz.prog 91 sg_impl_IsPlace g1) {g : List U → Option (List U)} (hg : ∀ us rs, us.length = 2 → g us = some rs → wpP (fun k us => if 195 = k then g0 us else if 91 = k then g1 us else none) pr_impl_placeOf 0 us fun l η => ∃ es, l = .res es ∧ es.map (E.den η) = rs) : FnOK Tryz.prog 147 sg_impl_placeOf g :=
  fn_ok2 tab_ok (env_cons (f := 195) h0 rfl (env_cons (f := 91) h1 rfl env_nil)) mix Tryz.func147 (by kernel_rfl) ex_impl_placeOf hg
/-- impl_ShadowPlace -/
def sg_impl_ShadowPlace : Sig := ⟨[.val true [(.int .i64), (.int .i64)], .val false [(.int .i64)], .val true [(.int .i64), (.int .i64), (.int .i64), (.int .i64), (.int .i64), (.int .i64)]], [(true, [(.int .i64), (.int .i64), (.int .i64), (.int .i64)]), (false, [(.int .i64)])]⟩
def pr_impl_ShadowPlace : Prog :=
 (.chk 9
 (.join
  (.call 103 [(.var 0), (.var 1)] 1
  (.cond (.not (.var 9))
   (.leaf (.vals 0 [(.bool true)]))
   (.call 145 [(.var 3), (.var 4), (.var 5), (.var 6), (.var 7), (.var 8)] 1
   (.leaf (.vals 0 [(.not (.var 10))])))))
  (.alt
   (.chk 10
   (.cond (.var 9)
    (.leaf (.res [(.int 0), (.int 0), (.int 0), (.int 0), (.int 1)]))
    (.call 111 [(.var 2)] 1
    (.cond (.not (.var 10))
     (.leaf (.res [(.int 0), (.int 0), (.int 0), (.int 0), (.int 2)]))
     (.call 146 [(.var 0), (.var 1), (.var 3), (.var 4), (.var 5), (.var 6), (.var 7), (.var 8)] 1
     (.guard (.cmp .leq (.int 0) (.int 2)) true
     (.guard (.cmp .lss (.int 2) (.len (.var 11))) true
     (.cond (.cmp .leq (.nth (.var 11) (.int 2) 0) (.int 0))
      (.leaf (.res [(.int 0), (.int 0), (.int 0), (.int 0), (.int 5)]))
      (.call 147 [(.var 2), (.var 11)] 5
      (.leaf (.res [(.var 12), (.var 13), (.var 14), (.var 15), (.var 16)])))))))))))
   .stop)))
theorem ex_impl_ShadowPlace : exB tab [(103, sg_impl_IsWall), (145, sg_impl_IsVector), (111, sg_impl_isHeight), (146, sg_impl_Wall_parts), (147, sg_impl_placeOf)] Tryz.f71 sg_impl_ShadowPlace pr_impl_ShadowPlace = true := by kernel_rfl
abbrev n_impl_ShadowPlace : Nat := 71
theorem mk_impl_ShadowPlace {g0 g1 g2 g3 g4 : List U → Option (List U)}  (h0 : FnOK Tryz.prog 103 sg_impl_IsWall g0) (h1 : FnOK Tryz.prog 145 sg_impl_IsVector g1) (h2 : FnOK Tryz.prog 111 sg_impl_isHeight g2) (h3 : FnOK Tryz.prog 146 sg_impl_Wall_parts g3) (h4 : FnOK Tryz.prog 147 sg_impl_placeOf g4) {g : List U → Option (List U)} (hg : ∀ us rs, us.length = 9 → g us = some rs → wpP (fun k us => if 103 = k then g0 us else if 145 = k then g1 us else if 111 = k then g2 us else if 146 = k then g3 us else if 147 = k then g4 us else none) pr_impl_ShadowPlace 0 us fun l η => ∃ es, l = .res es ∧ es.map (E.den η) = rs) : FnOK Tryz.prog 71 sg_impl_ShadowPlace g :=
  fn_ok2 tab_ok (env_cons (f := 103) h0 rfl (env_cons (f := 145) h1 rfl (env_cons (f := 111) h2 rfl (env_cons (f := 146) h3 rfl (env_cons (f := 147) h4 rfl env_nil))))) mix Tryz.func71 (by kernel_rfl) ex_impl_ShadowPlace hg
/-- impl_Dial_shadowOf -/
def sg_impl_Dial_shadowOf : Sig := ⟨[.val true [(.int .i64), (.int .i64), (.int .i64), (.int .i64)], .val true [(.int .i64), (.int .i64), (.int .i64), (.int .i64), (.int .i64), (.int .i64)]], [(true, [(.int .i64), (.int .i64), (.int .i64), (.int .i64)]), (false, [.bool])]⟩
def pr_impl_Dial_shadowOf : Prog :=
 (.chk 10
 (.cond (.cmp .leq (.var 8) (.int 0))
  (.leaf (.res [(.int 0), (.int 0), (.int 0), (.int 0), (.bool false)]))
  (.call 71 [(.var 1), (.var 2), (.var 3), (.var 4), (.var 5), (.var 6), (.var 7), (.var 8), (.var 9)] 5
  (.leaf (.res [(.var 10), (.var 11), (.var 12), (.var 13), (.cmp .eql (.var 14) (.int 0))])))))
theorem ex_impl_Dial_shadowOf : exB tab [(71, sg_impl_ShadowPlace)] Tryz.f160 sg_impl_Dial_shadowOf pr_impl_Dial_shadowOf = true := by kernel_rfl
abbrev n_impl_Dial_shadowOf : Nat := 160
theorem mk_impl_Dial_shadowOf {g0 : List U → Option (List U)}  (h0 : FnOK Tryz.prog 71 sg_impl_ShadowPlace g0) {g : List U → Option (List U)} (hg : ∀ us rs, us.length = 10 → g us = some rs → wpP (fun k us => if 71 = k then g0 us else none) pr_impl_Dial_shadowOf 0 us fun l η => ∃ es, l = .res es ∧ es.map (E.den η) = rs) : FnOK Tryz.prog 160 sg_impl_Dial_shadowOf g :=
  fn_ok2 tab_ok (env_cons (f := 71) h0 rfl env_nil) mix Tryz.func160 (by kernel_rfl) ex_impl_Dial_shadowOf hg
/-- impl_Dial_shadow -/
def sg_impl_Dial_shadow : Sig := ⟨[.val true [(.int .i64), (.int .i64), (.int .i64), (.int .i64)], .val false [(.int .i64)], .val false [(.int .i64)]], [(true, [(.int .i64), (.int .i64), (.int .i64), (.int .i64)]), (false, [.bool])]⟩
def pr_impl_Dial_shadow : Prog :=
 (.chk 6
 (.call 143 [(.var 4)] 2
 (.call 142 [(.var 0), (.var 6), (.var 7), (.var 5)] 6
 (.call 160 [(.var 0), (.var 1), (.var 2), (.var 3), (.var 8), (.var 9), (.var 10), (.var 11), (.var 12), (.var 13)] 5
 (.leaf (.res [(.var 14), (.var 15), (.var 16), (.var 17), (.var 18)]))))))
theorem ex_impl_Dial_shadow : exB tab [(143, sg_impl_declination), (142, sg_impl_sunAt), (160, sg_impl_Dial_shadowOf)] Tryz.f90 sg_impl_Dial_shadow pr_impl_Dial_shadow = true := by kernel_rfl
abbrev n_impl_Dial_shadow : Nat := 90
theorem mk_impl_Dial_shadow {g0 g1 g2 : List U → Option (List U)}  (h0 : FnOK Tryz.prog 143 sg_impl_declination g0) (h1 : FnOK Tryz.prog 142 sg_impl_sunAt g1) (h2 : FnOK Tryz.prog 160 sg_impl_Dial_shadowOf g2) {g : List U → Option (List U)} (hg : ∀ us rs, us.length = 6 → g us = some rs → wpP (fun k us => if 143 = k then g0 us else if 142 = k then g1 us else if 160 = k then g2 us else none) pr_impl_Dial_shadow 0 us fun l η => ∃ es, l = .res es ∧ es.map (E.den η) = rs) : FnOK Tryz.prog 90 sg_impl_Dial_shadow g :=
  fn_ok2 tab_ok (env_cons (f := 143) h0 rfl (env_cons (f := 142) h1 rfl (env_cons (f := 160) h2 rfl env_nil))) mix Tryz.func90 (by kernel_rfl) ex_impl_Dial_shadow hg
/-- impl_Place_middle -/
def sg_impl_Place_middle : Sig := ⟨[.val true [(.int .i64), (.int .i64), (.int .i64), (.int .i64)]], [(true, [(.int .i64), (.int .i64)])]⟩
def pr_impl_Place_middle : Prog :=
 (.chk 4
 (.call 167 [(.ar .add .i64 (.var 0) (.var 1)), (.int 2)] 1
 (.call 167 [(.ar .add .i64 (.var 2) (.var 3)), (.int 2)] 1
 (.leaf (.res [(.var 4), (.var 5)])))))
theorem ex_impl_Place_middle : exB tab [(167, sg_impl_floor)] Tryz.f120 sg_impl_Place_middle pr_impl_Place_middle = true := by kernel_rfl
abbrev n_impl_Place_middle : Nat := 120
theorem mk_impl_Place_middle {g0 : List U → Option (List U)}  (h0 : FnOK Tryz.prog 167 sg_impl_floor g0) {g : List U → Option (List U)} (hg : ∀ us rs, us.length = 4 → g us = some rs → wpP (fun k us => if 167 = k then g0 us else none) pr_impl_Place_middle 0 us fun l η => ∃ es, l = .res es ∧ es.map (E.den η) = rs) : FnOK Tryz.prog 120 sg_impl_Place_middle g :=
  fn_ok2 tab_ok (env_cons (f := 167) h0 rfl env_nil) mix Tryz.func120 (by kernel_rfl) ex_impl_Place_middle hg
/-- impl_Point_square -/
def sg_impl_Point_square : Sig := ⟨[.val true [(.int .i64), (.int .i64)], .val true [(.int .i64), (.int .i64)]], [(false, [(.int .i64)])]⟩
def pr_impl_Point_square : Prog :=
 (.chk 4
 (.leaf (.res [(.ar .add .i64 (.ar .mul .i64 (.ar .sub .i64 (.var 0) (.var 2)) (.ar .sub .i64 (.var 0) (.var 2))) (.ar .mul .i64 (.ar .sub .i64 (.var 1) (.var 3)) (.ar .sub .i64 (.var 1) (.var 3))))])))
theorem ex_impl_Point_square : exB tab [] Tryz.f121 sg_impl_Point_square pr_impl_Point_square = true := by kernel_rfl
abbrev n_impl_Point_square : Nat := 121
theorem mk_impl_Point_square  {g : List U → Option (List U)} (hg : ∀ us rs, us.length = 4 → g us = some rs → wpP (fun _ _ => none) pr_impl_Point_square 0 us fun l η => ∃ es, l = .res es ∧ es.map (E.den η) = rs) : FnOK Tryz.prog 121 sg_impl_Point_square g :=
  fn_ok2 tab_ok env_nil mix Tryz.func121 (by kernel_rfl) ex_impl_Point_square hg
/-- impl_Dial_residual -/
def sg_impl_Dial_residual : Sig := ⟨[.val true [(.int .i64), (.int .i64), (.int .i64), (.int .i64)], .val true [(.int .i64), (.int .i64), (.int .i64), (.int .i64)]], [(false, [(.int .i64)])]⟩
def pr_impl_Dial_residual : Prog :=
 (.chk 8
 (.call 90 [(.var 0), (.var 1), (.var 2), (.var 3), (.var 4), (.var 5)] 5
 (.cond (.not (.var 12))
  (.leaf (.res [(.int (-1))]))
  (.call 120 [(.var 8), (.var 9), (.var 10), (.var 11)] 2
  (.call 121 [(.var 13), (.var 14), (.var 6), (.var 7)] 1
  (.leaf (.res [(.var 15)])))))))
theorem ex_impl_Dial_residual : exB tab [(90, sg_impl_Dial_shadow), (120, sg_impl_Place_middle), (121, sg_impl_Point_square)] Tryz.f151 sg_impl_Dial_residual pr_impl_Dial_residual = true := by kernel_rfl
abbrev n_impl_Dial_residual : Nat := 151
theorem mk_impl_Dial_residual {g0 g1 g2 : List U → Option (List U)}  (h0 : FnOK Tryz.prog 90 sg_impl_Dial_shadow g0) (h1 : FnOK Tryz.prog 120 sg_impl_Place_middle g1) (h2 : FnOK Tryz.prog 121 sg_impl_Point_square g2) {g : List U → Option (List U)} (hg : ∀ us rs, us.length = 8 → g us = some rs → wpP (fun k us => if 90 = k then g0 us else if 120 = k then g1 us else if 121 = k then g2 us else none) pr_impl_Dial_residual 0 us fun l η => ∃ es, l = .res es ∧ es.map (E.den η) = rs) : FnOK Tryz.prog 151 sg_impl_Dial_residual g :=
  fn_ok2 tab_ok (env_cons (f := 90) h0 rfl (env_cons (f := 120) h1 rfl (env_cons (f := 121) h2 rfl env_nil))) mix Tryz.func151 (by kernel_rfl) ex_impl_Dial_residual hg
/-- impl_Dial_sum -/
def sg_impl_Dial_sum : Sig := ⟨[.val true [(.int .i64), (.int .i64), (.int .i64), (.int .i64)], .val false [(.lst 104 [(.int .i64), (.int .i64), (.int .i64), (.int .i64)])]], [(false, [(.int .i64)])]⟩
def pr_impl_Dial_sum : Prog :=
 (.chk 5
 (.loop [(.int 0), (.int 0)]
  (.chk 7
  (.cond (.cmp .lss (.var 6) (.len (.var 4)))
   (.guard (.cmp .leq (.int 0) (.var 6)) true
   (.call 151 [(.var 0), (.var 1), (.var 2), (.var 3), (.nth (.var 4) (.var 6) 0), (.nth (.var 4) (.var 6) 1), (.nth (.var 4) (.var 6) 2), (.nth (.var 4) (.var 6) 3)] 1
   (.cond (.cmp .lss (.var 7) (.int 0))
    (.leaf (.vals 1 [(.var 5), (.var 7), (.var 6), (.cmp .lss (.var 6) (.len (.var 4))), (.cmp .lss (.var 7) (.int 0)), (.nth (.var 4) (.var 6) 0), (.nth (.var 4) (.var 6) 1), (.nth (.var 4) (.var 6) 2), (.nth (.var 4) (.var 6) 3)]))
    (.leaf (.vals 0 [(.ar .add .i64 (.var 5) (.var 7)), (.ar .add .i64 (.var 6) (.int 1))])))))
   (.leaf (.vals 2 [(.var 5), (.var 6), (.cmp .lss (.var 6) (.len (.var 4)))]))))
  (.alt
   (.leaf (.res [(.int (-1))]))
   (.alt
    (.chk 8
    (.leaf (.res [(.var 5)])))
    .stop))))
theorem ex_impl_Dial_sum : exB tab [(151, sg_impl_Dial_residual)] Tryz.f98 sg_impl_Dial_sum pr_impl_Dial_sum = true := by kernel_rfl
abbrev n_impl_Dial_sum : Nat := 98
theorem mk_impl_Dial_sum {g0 : List U → Option (List U)}  (h0 : FnOK Tryz.prog 151 sg_impl_Dial_residual g0) {g : List U → Option (List U)} (hg : ∀ us rs, us.length = 5 → g us = some rs → wpP (fun k us => if 151 = k then g0 us else none) pr_impl_Dial_sum 0 us fun l η => ∃ es, l = .res es ∧ es.map (E.den η) = rs) : FnOK Tryz.prog 98 sg_impl_Dial_sum g :=
  fn_ok2 tab_ok (env_cons (f := 151) h0 rfl env_nil) mix Tryz.func98 (by kernel_rfl) ex_impl_Dial_sum hg
/-- impl_SumOfResiduals -/
def sg_impl_SumOfResiduals : Sig := ⟨[.val true [(.int .i64), (.int .i64), (.int .i64), (.int .i64)], .val false [(.lst 104 [(.int .i64), (.int .i64), (.int .i64), (.int .i64)])]], [(false, [(.int .i64)]), (false, [(.int .i64)])]⟩
def pr_impl_SumOfResiduals : Prog :=
 (.chk 5
 (.call 97 [(.var 0), (.var 1), (.var 2), (.var 3), (.var 4)] 1
 (.cond (.cmp .neq (.var 5) (.int 0))
  (.leaf (.res [(.int 0), (.var 5)]))
  (.call 98 [(.var 0), (.var 1), (.var 2), (.var 3), (.var 4)] 1
  (.cond (.cmp .lss (.var 6) (.int 0))
   (.leaf (.res [(.int 0), (.int 4)]))
   (.leaf (.res [(.var 6), (.int 0)])))))))
theorem ex_impl_SumOfResiduals : exB tab [(97, sg_impl_observed), (98, sg_impl_Dial_sum)] Tryz.f29 sg_impl_SumOfResiduals pr_impl_SumOfResiduals = true := by kernel_rfl
abbrev n_impl_SumOfResiduals : Nat := 29
theorem mk_impl_SumOfResiduals {g0 g1 : List U → Option (List U)}  (h0 : FnOK Tryz.prog 97 sg_impl_observed g0) (h1 : FnOK Tryz.prog 98 sg_impl_Dial_sum g1) {g : List U → Option (List U)} (hg : ∀ us rs, us.length = 5 → g us = some rs → wpP (fun k us => if 97 = k then g0 us else if 98 = k then g1 us else none) pr_impl_SumOfResiduals 0 us fun l η => ∃ es, l = .res es ∧ es.map (E.den η) = rs) : FnOK Tryz.prog 29 sg_impl_SumOfResiduals g :=
  fn_ok2 tab_ok (env_cons (f := 97) h0 rfl (env_cons (f := 98) h1 rfl env_nil)) mix Tryz.func29 (by kernel_rfl) ex_impl_SumOfResiduals hg
/-- laws_eqPoint -/
def sg_laws_eqPoint : Sig := ⟨[.val true [(.int .i64), (.int .i64)], .val true [(.int .i64), (.int .i64)]], [(false, [.bool])]⟩
def pr_laws_eqPoint : Prog :=
 (.chk 4
 (.cond (.cmp .neq (.var 0) (.var 2))
  (.leaf (.res [(.bool false)]))
  (.cond (.cmp .neq (.var 1) (.var 3))
   (.leaf (.res [(.bool false)]))
   (.leaf (.res [(.bool true)])))))
theorem ex_laws_eqPoint : exB tab [] Tryz.f164 sg_laws_eqPoint pr_laws_eqPoint = true := by kernel_rfl
abbrev n_laws_eqPoint : Nat := 164
theorem mk_laws_eqPoint  {g : List U → Option (List U)} (hg : ∀ us rs, us.length = 4 → g us = some rs → wpP (fun _ _ => none) pr_laws_eqPoint 0 us fun l η => ∃ es, l = .res es ∧ es.map (E.den η) = rs) : FnOK Tryz.prog 164 sg_laws_eqPoint g :=
  fn_ok2 tab_ok env_nil mix Tryz.func164 (by kernel_rfl) ex_laws_eqPoint hg
/-- laws_eqObservation -/
def sg_laws_eqObservation : Sig := ⟨[.val true [(.int .i64), (.int .i64), (.int .i64), (.int .i64)], .val true [(.int .i64), (.int .i64), (.int .i64), (.int .i64)]], [(false, [.bool])]⟩
def pr_laws_eqObservation : Prog :=
 (.chk 8
 (.cond (.cmp .neq (.var 0) (.var 4))
  (.leaf (.res [(.bool false)]))
  (.cond (.cmp .neq (.var 1) (.var 5))
   (.leaf (.res [(.bool false)]))
   (.call 164 [(.var 2), (.var 3), (.var 6), (.var 7)] 1
   (.cond (.not (.var 8))
    (.leaf (.res [(.bool false)]))
    (.leaf (.res [(.bool true)])))))))
theorem ex_laws_eqObservation : exB tab [(164, sg_laws_eqPoint)] Tryz.f99 sg_laws_eqObservation pr_laws_eqObservation = true := by kernel_rfl
abbrev n_laws_eqObservation : Nat := 99
theorem mk_laws_eqObservation {g0 : List U → Option (List U)}  (h0 : FnOK Tryz.prog 164 sg_laws_eqPoint g0) {g : List U → Option (List U)} (hg : ∀ us rs, us.length = 8 → g us = some rs → wpP (fun k us => if 164 = k then g0 us else none) pr_laws_eqObservation 0 us fun l η => ∃ es, l = .res es ∧ es.map (E.den η) = rs) : FnOK Tryz.prog 99 sg_laws_eqObservation g :=
  fn_ok2 tab_ok (env_cons (f := 164) h0 rfl env_nil) mix Tryz.func99 (by kernel_rfl) ex_laws_eqObservation hg
/-- laws_eqObservationS -/
def sg_laws_eqObservationS : Sig := ⟨[.val false [(.lst 104 [(.int .i64), (.int .i64), (.int .i64), (.int .i64)])], .val false [(.lst 104 [(.int .i64), (.int .i64), (.int .i64), (.int .i64)])]], [(false, [.bool])]⟩
def pr_laws_eqObservationS : Prog :=
 (.chk 2
 (.cond (.cmp .neq (.len (.var 0)) (.len (.var 1)))
  (.leaf (.res [(.bool false)]))
  (.loop [(.int 0)]
   (.chk 3
   (.cond (.cmp .lss (.var 2) (.len (.var 0)))
    (.guard (.cmp .leq (.int 0) (.var 2)) true
    (.guard (.cmp .lss (.var 2) (.len (.var 1))) true
    (.call 99 [(.nth (.var 0) (.var 2) 0), (.nth (.var 0) (.var 2) 1), (.nth (.var 0) (.var 2) 2), (.nth (.var 0) (.var 2) 3), (.nth (.var 1) (.var 2) 0), (.nth (.var 1) (.var 2) 1), (.nth (.var 1) (.var 2) 2), (.nth (.var 1) (.var 2) 3)] 1
    (.cond (.not (.var 3))
     (.leaf (.vals 1 [(.var 2), (.cmp .lss (.var 2) (.len (.var 0))), (.not (.var 3))]))
     (.leaf (.vals 0 [(.ar .add .i64 (.var 2) (.int 1))]))))))
    (.leaf (.vals 2 [(.var 2), (.cmp .lss (.var 2) (.len (.var 0)))]))))
   (.alt
    (.leaf (.res [(.bool false)]))
    (.alt
     (.chk 4
     (.leaf (.res [(.bool true)])))
     .stop)))))
theorem ex_laws_eqObservationS : exB tab [(99, sg_laws_eqObservation)] Tryz.f30 sg_laws_eqObservationS pr_laws_eqObservationS = true := by kernel_rfl
abbrev n_laws_eqObservationS : Nat := 30
theorem mk_laws_eqObservationS {g0 : List U → Option (List U)}  (h0 : FnOK Tryz.prog 99 sg_laws_eqObservation g0) {g : List U → Option (List U)} (hg : ∀ us rs, us.length = 2 → g us = some rs → wpP (fun k us => if 99 = k then g0 us else none) pr_laws_eqObservationS 0 us fun l η => ∃ es, l = .res es ∧ es.map (E.den η) = rs) : FnOK Tryz.prog 30 sg_laws_eqObservationS g :=
  fn_ok2 tab_ok (env_cons (f := 99) h0 rfl env_nil) mix Tryz.func30 (by kernel_rfl) ex_laws_eqObservationS hg
/-- laws_FnExactSumOfResiduals -/
def sg_laws_FnExactSumOfResiduals : Sig := ⟨[.val true [(.int .i64), (.int .i64), (.int .i64), (.int .i64)], .val false [(.lst 129 [(.int .i64), (.int .i64), (.int .i64), (.int .i64)])]], [(false, [.bool])]⟩
def pr_laws_FnExactSumOfResiduals : Prog :=
 (.chk 5
 (.call 25 [(.var 4), (.int 1048576)] 1
 (.cond (.cmp .lss (.var 5) (.int 0))
  (.leaf (.res [(.bool true)]))
  (.call 27 [(.var 0), (.var 1), (.var 2), (.var 3)] 4
  (.call 28 [(.var 4)] 1
  (.call 26 [(.var 6), (.var 7), (.var 8), (.var 9), (.var 10)] 2
  (.call 28 [(.var 4)] 1
  (.call 27 [(.var 0), (.var 1), (.var 2), (.var 3)] 4
  (.call 29 [(.var 14), (.var 15), (.var 16), (.var 17), (.var 13)] 2
  (.join
   (.cond (.cmp .neq (.var 18) (.var 11))
    (.leaf (.vals 0 [(.bool true)]))
    (.leaf (.vals 0 [(.cmp .neq (.var 19) (.var 12))])))
   (.alt
    (.chk 21
    (.cond (.var 20)
     (.leaf (.res [(.bool false)]))
     (.call 28 [(.var 4)] 1
     (.call 30 [(.var 13), (.var 21)] 1
     (.cond (.not (.var 22))
      (.leaf (.res [(.bool false)]))
      (.leaf (.res [(.bool true)])))))))
    .stop)))))))))))
theorem ex_laws_FnExactSumOfResiduals : exB tab [(25, sg_laws_szObservationS), (27, sg_laws_toDial), (28, sg_laws_toObservationS), (26, sg_spec_SumOfResiduals), (29, sg_impl_SumOfResiduals), (30, sg_laws_eqObservationS)] Tryz.f4 sg_laws_FnExactSumOfResiduals pr_laws_FnExactSumOfResiduals = true := by kernel_rfl
abbrev n_laws_FnExactSumOfResiduals : Nat := 4
theorem mk_laws_FnExactSumOfResiduals {g0 g1 g2 g3 g4 g5 : List U → Option (List U)}  (h0 : FnOK Tryz.prog 25 sg_laws_szObservationS g0) (h1 : FnOK Tryz.prog 27 sg_laws_toDial g1) (h2 : FnOK Tryz.prog 28 sg_laws_toObservationS g2) (h3 : FnOK Tryz.prog 26 sg_spec_SumOfResiduals g3) (h4 : FnOK Tryz.prog 29 sg_impl_SumOfResiduals g4) (h5 : FnOK Tryz.prog 30 sg_laws_eqObservationS g5) {g : List U → Option (List U)} (hg : ∀ us rs, us.length = 5 → g us = some rs → wpP (fun k us => if 25 = k then g0 us else if 27 = k then g1 us else if 28 = k then g2 us else if 26 = k then g3 us else if 29 = k then g4 us else if 30 = k then g5 us else none) pr_laws_FnExactSumOfResiduals 0 us fun l η => ∃ es, l = .res es ∧ es.map (E.den η) = rs) : FnOK Tryz.prog 4 sg_laws_FnExactSumOfResiduals g :=
  fn_ok2 tab_ok (env_cons (f := 25) h0 rfl (env_cons (f := 27) h1 rfl (env_cons (f := 28) h2 rfl (env_cons (f := 26) h3 rfl (env_cons (f := 29) h4 rfl (env_cons (f := 30) h5 rfl env_nil)))))) mix Tryz.func4 (by kernel_rfl) ex_laws_FnExactSumOfResiduals hg
end Go.Proofs.YtibbceoibcnpcaaGreat.Eng
