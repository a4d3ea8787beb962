/- The engine, part B: the symbolic executor (a plain function; what it does is proved right in the parts behind). No condition. -/
import Derived.Test.YtibbceoibcnpcaaGreatEngA
namespace Go.Proofs.YtibbceoibcnpcaaGreat.Eng
open Go

def lookB (bs : List (Nat × List LV)) (b : Nat) : Option (List LV) := match bs with
  | [] => none
  | (c, ls) :: r => if Nat.beq c b then some ls else lookB r b
def setB (bs : List (Nat × List LV)) (b : Nat) (ls : List LV) : List (Nat × List LV) := match bs with
  | [] => []
  | (c, l) :: r => if Nat.beq c b then (c, ls) :: r else (c, l) :: setB r b ls
def delB (bs : List (Nat × List LV)) (b : Nat) : List (Nat × List LV) := match bs with
  | [] => []
  | (c, l) :: r => if Nat.beq c b then r else (c, l) :: delB r b
def lookR (rs : List Row) (b : Nat) : Option Row := match rs with
  | [] => none
  | q :: r => if Nat.beq q.id b then some q else lookR r b
def setR (rs : List Row) (b : Nat) (c : E) : List Row := match rs with
  | [] => []
  | q :: r => if Nat.beq q.id b then { q with c := c } :: r else q :: setR r b c
def delR (rs : List Row) (b : Nat) : List Row := match rs with
  | [] => []
  | q :: r => if Nat.beq q.id b then r else q :: delR r b

def TV.ls : TV → List LV | .leaf l => [l] | .agg ls => ls
def LV.sc (n : Nat) : LV → Bool | .u _ e => e.sc n | _ => true
def TV.sc (n : Nat) (t : TV) : Bool := t.ls.all (LV.sc n)
def SV.sc (n : Nat) : SV → Bool
  | .val t => t.sc n | .tup ts => ts.all (TV.sc n) | .eptr ls => ls.all (LV.sc n) | .rptr _ i _ => i.sc n | _ => true
def PS.sc (n : Nat) (σ : PS) : Bool := σ.slots.all (SV.sc n) && σ.boxes.all (fun p => p.2.all (LV.sc n)) && σ.rows.all (fun q => q.c.sc n)

def zeroLV : K → LV
  | .int k => .u (.int k) (.int 0) | .bool => .u .bool (.bool false) | .str => .u .str (.str []) | .lst _ _ => .nil
def mkTV (agg : Bool) (ls : List LV) : Option TV := if agg then some (.agg ls) else match ls with | [l] => some (.leaf l) | _ => none
def LV.toE (rows : List Row) (k : K) : LV → Option E
  | .u k' e => if K.beq k k' then some e else none
  | .own r => match lookR rows r with | some q => if K.beq k (.lst q.e q.ks) then some q.c else none | none => none
  | .nil => match k with | .lst _ _ => some .nil | _ => none
/-- plain data alone -/
def LV.toU (k : K) : LV → Option E
  | .u k' e => if K.beq k k' then some e else none
  | .own _ => none
  | .nil => match k with | .lst _ _ => some .nil | _ => none
def zipE (f : K → LV → Option E) : List K → List LV → Option (List E)
  | [], [] => some []
  | k :: ks, l :: ls => match f k l, zipE f ks ls with | some e, some es => some (e :: es) | _, _ => none
  | _, _ => none

def constV : Value → SV
  | .int k n => .val (.leaf (.u (.int k) (.int n)))
  | .bool b => .val (.leaf (.u .bool (.bool b)))
  | .string s => .val (.leaf (.u .str (.str s.data.toList)))
  | .slice none 0 0 => .val (.leaf .nil)
  | _ => .dead
def PS.slot (σ : PS) (t : Nat) : SV := σ.slots.getD t .dead
def opv (σ : PS) : Operand → SV
  | .tmp t => σ.slot t
  | .const v => constV v
  | .func f => .fn f []
  | _ => .dead
def PS.put (σ : PS) (d : Option Nat) (v : SV) : PS := match d with | some d => { σ with slots := σ.slots.set d v } | none => σ

/-- an own row becomes read-only data -/
def LV.dg (r : Nat) (k : K) (c : E) : LV → LV
  | .own s => if Nat.beq s r then .u k c else .own s
  | l => l
def TV.dg (r : Nat) (k : K) (c : E) : TV → TV | .leaf l => .leaf (l.dg r k c) | .agg ls => .agg (ls.map (LV.dg r k c))
def SV.dg (r : Nat) (k : K) (c : E) : SV → SV
  | .val t => .val (t.dg r k c) | .tup ts => .tup (ts.map (TV.dg r k c)) | .eptr ls => .eptr (ls.map (LV.dg r k c))
  | .rptr s i o => if Nat.beq s r then .dead else .rptr s i o
  | v => v
def PS.dg (σ : PS) (r : Nat) : PS := match lookR σ.rows r with
  | none => σ
  | some q => { slots := σ.slots.map (SV.dg r (.lst q.e q.ks) q.c), boxes := σ.boxes.map fun p => (p.1, p.2.map (LV.dg r (.lst q.e q.ks) q.c)), rows := delR σ.rows r }
def ownsOf : List LV → List Nat
  | [] => []
  | .own r :: l => r :: ownsOf l
  | _ :: l => ownsOf l
def PS.dgs (σ : PS) (l : List Nat) : PS := l.foldl PS.dg σ

/-- no reference to box d -/
def SV.noBox (d : Nat) : SV → Bool | .ptr b _ => !Nat.beq b d | .fn _ cs => cs.all (fun b => !Nat.beq b d) | _ => true
def SV.kb (d : Nat) (v : SV) : SV := if v.noBox d then v else .dead
/-- box d goes, and every pointer to it -/
def PS.clB (σ : PS) (d : Nat) : PS := { σ with slots := σ.slots.map (SV.kb d), boxes := delB σ.boxes d }
/-- every reference to row r goes (the row stays) -/
def LV.hasR (r : Nat) : LV → Bool | .own s => Nat.beq s r | _ => false
def TV.hasR (r : Nat) (t : TV) : Bool := t.ls.any (LV.hasR r)
def SV.hasR (r : Nat) : SV → Bool | .val t => t.hasR r | .tup ts => ts.any (TV.hasR r) | .rptr s _ _ => Nat.beq s r | .eptr ls => ls.any (LV.hasR r) | _ => false
def SV.kr (r : Nat) (v : SV) : SV := if v.hasR r then .dead else v
def PS.clR (σ : PS) (r : Nat) : Option PS :=
  if σ.boxes.any (fun p => p.2.any (LV.hasR r)) then none else some { σ with slots := σ.slots.map (SV.kr r) }

def intOf? : SV → Option (IntKind × E) | .val (.leaf (.u (.int k) e)) => some (k, e) | _ => none
def boolOf? : SV → Option E | .val (.leaf (.u .bool e)) => some e | _ => none
def isZero : E → Bool | .int n => decide (n = 0) | _ => true
def sInt (k : IntKind) (e : E) : SV := .val (.leaf (.u (.int k) e))
def sBool (e : E) : SV := .val (.leaf (.u .bool e))
def eqLeaf : LV → LV → Option E
  | .u (.int k) a, .u (.int k') b => if decide (k = k') then some (.cmp .eql a b) else none
  | .u .bool a, .u .bool b => some (.beq a b)
  | _, _ => none
def eqLeaves : List LV → List LV → Option E
  | [], [] => some (.bool true)
  | a :: as, b :: bs => match eqLeaf a b, eqLeaves as bs with | some e, some f => some (.and e f) | _, _ => none
  | _, _ => none

def binV (T : Tab) (op : BinOp) (xt : Nat) (x y : SV) : Option (SV × List Fact) :=
  match x, y with
  | .val (.leaf (.u (.int k) a)), .val (.leaf (.u (.int k') b)) =>
    if decide (k = k') then
      match op with
      | .add | .sub | .mul => some (sInt k (.ar op k a b), [])
      | .quo | .rem => some (sInt k (.ar op k a b), if isZero b then [(.cmp .neq b (.int 0), true)] else [])
      | .eql | .neq | .lss | .leq | .gtr | .geq => some (sBool (.cmp op a b), [])
      | _ => none
    else none
  | .val (.leaf (.u .bool a)), .val (.leaf (.u .bool b)) =>
    match T.get xt with
    | some { kind := .bool, .. } => match op with
      | .eql => some (sBool (.beq a b), [])
      | .neq => some (sBool (.not (.beq a b)), [])
      | _ => none
    | _ => none
  | _, _ => none

def setAt {α : Type} (ls : List α) (off : Nat) (xs : List α) : List α := match xs with
  | [] => ls
  | x :: r => setAt (ls.set off x) (off + 1) r

def buildV (T : Tab) (σ : PS) (fs : List (Nat × Nat)) : List (Nat × Operand) → List LV → Option (List LV)
  | [], ls => some ls
  | (i, x) :: r, ls => match fs[i]?, opv σ x with
    | some (ft, off), .val tv => match T.get ft with
      | some ti => if Nat.beq tv.ls.length ti.size && Nat.ble (off + tv.ls.length) ls.length then buildV T σ fs r (setAt ls off tv.ls) else none
      | none => none
    | _, _ => none

def fieldOf (T : Tab) (s f : Nat) : Option (Nat × Nat × TI) := match T.get s with
  | some { kind := .struct fs, .. } => match fs[f]? with
    | some (ft, off) => match T.get ft with | some ti => if Nat.ble 1 ti.size then some (ft, off, ti) else none | none => none
    | none => none
  | _ => none

/-- the leaves of element i of a row -/
def elemLs (ks : List K) (c i : E) : List LV := (ks.zipIdx).map fun p => .u p.1 (.nth c i p.2)
def ptrLs (σ : PS) : SV → Option (List LV)
  | .ptr b off => (lookB σ.boxes b).map (·.drop off)
  | .eptr ls => some ls
  | .rptr r i off => match lookR σ.rows r with | some q => some ((elemLs q.ks q.c i).drop off) | none => none
  | _ => none
def inRange (i c : E) : List Fact := [(.cmp .leq (.int 0) i, true), (.cmp .lss i (.len c), true)]

/-- the boxes that a function value captures -/
def capIds : List SV → Option (List Nat)
  | [] => some []
  | .ptr b 0 :: r => (capIds r).map (b :: ·)
  | _ :: _ => none
/-- values that are reckoned without a change of the memory -/
def valOp (T : Tab) (σ : PS) (t : Option Bool) : Op → Option (SV × List Fact)
  | .move x | .assign x => some (opv σ x, [])
  | .pick c a b => match boolOf? (opv σ c), t with
    | some e, some t => some (if t then opv σ a else opv σ b, [(e, t)])
    | _, _ => none
  | .binOp op xt x y _ => binV T op xt (opv σ x) (opv σ y)
  | .unOp op _ x => match op, opv σ x with
    | .neg, .val (.leaf (.u (.int k) a)) => some (sInt k (.ar .sub k (.int 0) a), [])
    | .not, .val (.leaf (.u .bool a)) => some (sBool (.not a), [])
    | _, _ => none
  | .convert s d x => match T.get s, T.get d, opv σ x with
    | some { kind := .int _, .. }, some { kind := .int k, .. }, .val (.leaf (.u (.int _) a)) => some (sInt k (.conv k a), [])
    | _, _, _ => none
  | .build ty parts => match T.get ty with
    | some { kind := .struct fs, ks := ks, agg := true, .. } => if fs.all (fun f => (T.get f.1).isSome) then match buildV T σ fs parts.toList (ks.map zeroLV) with
      | some ls => some (.val (.agg ls), [])
      | none => none else none
    | _ => none
  | .fieldAddr s x f => match fieldOf T s f, opv σ x with
    | some (_, off, _), .ptr b o => some (.ptr b (o + off), [])
    | some (_, off, _), .eptr ls => if Nat.blt off ls.length then some (.eptr (ls.drop off), []) else none
    | some (_, off, _), .rptr r i o => some (.rptr r i (o + off), [])
    | _, _ => none
  | .field s x f => match fieldOf T s f, opv σ x with
    | some (_, off, ti), .val (.agg ls) => match mkTV ti.agg ((ls.drop off).take ti.size) with
      | some tv => if Nat.ble (off + ti.size) ls.length then some (.val tv, []) else none
      | none => none
    | _, _ => none
  | .nilCheck x => match opv σ x with
    | .ptr b o => some (.ptr b o, []) | .eptr ls => some (.eptr ls, []) | .rptr r i o => some (.rptr r i o, []) | _ => none
  | .indexAddr ty x ix => match T.get ty, intOf? (opv σ ix) with
    | some { kind := .slice e, .. }, some (_, i) => match T.get e, opv σ x with
      | some ti, .val (.leaf (.u (.lst _ ks) c)) => if Nat.beq ti.size ks.length && Nat.ble 1 ti.size then some (.eptr (elemLs ks c i), inRange i c) else none
      | some ti, .val (.leaf (.own r)) => match lookR σ.rows r with
        | some q => if Nat.beq ti.size q.ks.length then some (.rptr r i 0, inRange i q.c) else none
        | none => none
      | _, _ => none
    | _, _ => none
  | .load ty p => match T.get ty, ptrLs σ (opv σ p) with
    | some ti, some ls => if Nat.ble ti.size ls.length then match mkTV ti.agg (ls.take ti.size) with | some tv => some (.val tv, []) | none => none else none
    | _, _ => none
  | .makeFunc (.func f) first cap => if first.isEmpty then (capIds (cap.toList.map (opv σ))).map fun cs => (.fn f cs, []) else none
  | .extract x i => match opv σ x with
    | .tup ts => match ts[i]? with | some t => some (.val t, []) | none => none
    | _ => none
  | .call { callee := .builtin b, args := as, argTypes := ts } => match b, as.toList, ts.toList with
    | .len, [x], [ty] => match T.get ty with
      | some { kind := .slice _, .. } => match opv σ x with
        | .val (.leaf (.u (.lst _ _) c)) => some (sInt .i64 (.len c), [])
        | .val (.leaf (.own r)) => match lookR σ.rows r with | some q => some (sInt .i64 (.len q.c), []) | none => none
        | .val (.leaf .nil) => some (sInt .i64 (.int 0), [])
        | _ => none
      | _ => none
    | .max, x :: r, _ => match intOf? (opv σ x), r.mapM (fun y => intOf? (opv σ y)) with
      | some (k, a), some l => if l.all (fun p => decide (p.1 = k)) then some (sInt k (l.foldl (fun a p => .mx a p.2) a), []) else none
      | _, _ => none
    | .min, x :: r, _ => match intOf? (opv σ x), r.mapM (fun y => intOf? (opv σ y)) with
      | some (k, a), some l => if l.all (fun p => decide (p.1 = k)) then some (sInt k (l.foldl (fun a p => .mn a p.2) a), []) else none
      | _, _ => none
    | _, _, _ => none
  | _ => none

def nodupB : List (Nat × List LV) → Bool | [] => true | (b, _) :: r => (lookB r b).isNone && nodupB r
def nodupR : List Row → Bool | [] => true | q :: r => (lookR r q.id).isNone && nodupR r
structure Ctx where
  T : Tab
  sigs : Sigs
  keep : List Bool
  np : Nat

def rowE : List E → E | [] => .rnil | e :: r => .rcons e (rowE r)
def rowsE : List (List E) → E | [] => .lnil | e :: r => .lcons (rowE e) (rowsE r)
def zeroE : K → E | .int _ => .int 0 | .bool => .bool false | .str => .str [] | .lst _ _ => .nil
def newRow (σ : PS) (d : Nat) (e : Nat) (ks : List K) (c : E) : PS := { σ with rows := { id := d, e := e, ks := ks, c := c } :: σ.rows }
def slParts (T : Tab) (σ : PS) (ks : List K) : List (Nat × Operand) → List (List E) → Option (List (List E))
  | [], ls => some ls
  | (i, x) :: r, ls => match opv σ x with
    | .val tv => match zipE LV.toU ks tv.ls with
      | some es => if Nat.blt i ls.length then slParts T σ ks r (ls.set i es) else none
      | none => none
    | _ => none
/-- the rows that the operands own -/
def ownsIn (σ : PS) : List Operand → List Nat
  | [] => []
  | x :: r => (match opv σ x with | .val t => ownsOf t.ls | _ => []) ++ ownsIn σ r

def argE (ro : Bool) (f : K → LV → Option E) (σ : PS) : List PK → List SV → Option (List E × List Nat)
  | [], [] => some ([], [])
  | .ro ks :: ps, x :: xs => match x, argE ro f σ ps xs with
    | .ptr b 0, some (es, bs) => if ro then match lookB σ.boxes b with
      | some ls => match zipE LV.toU ks ls with
        | some e => some (e ++ es, bs)
        | none => none
      | none => none else none
    | _, _ => none
  | .val agg ks :: ps, x :: xs => match x, argE ro f σ ps xs with
    | .val tv, some (es, bs) => match tv, agg with
      | .leaf l, false => match zipE f ks [l] with | some e => some (e ++ es, bs) | none => none
      | .agg ls, true => match zipE f ks ls with | some e => some (e ++ es, bs) | none => none
      | _, _ => none
    | _, _ => none
  | .fn g n :: ps, x :: xs => match x with
    | .fn h cs => if Nat.beq g h && Nat.beq cs.length n then argE ro f σ ps (cs.map (fun b => .ptr b 0) ++ xs) else none
    | _ => none
  | .box ks :: ps, x :: xs => match x, argE ro f σ ps xs with
    | .ptr b 0, some (es, bs) => match lookB σ.boxes b with
      | some ls => match zipE LV.toU ks ls with
        | some e => if bs.all (fun c => !Nat.beq b c) then some (e ++ es, b :: bs) else none
        | none => none
      | none => none
    | _, _ => none
  | _, _ => none
/-- result leaves: m the next output's number, i its place among the outputs -/
def resLs (d m : Nat) : List K → Nat → List LV × List Row
  | [], _ => ([], [])
  | .lst e ks :: r, i => let (ls, rs) := resLs d m r (i + 1); (.own (d + 1000 * i) :: ls, { id := d + 1000 * i, e := e, ks := ks, c := .var (m + i) } :: rs)
  | k :: r, i => let (ls, rs) := resLs d m r (i + 1); (.u k (.var (m + i)) :: ls, rs)
def resTs (d m : Nat) : List (Bool × List K) → Nat → Option (List TV × List Row)
  | [], _ => some ([], [])
  | (agg, ks) :: r, i => match mkTV agg (resLs d m ks i).1, resTs d m r (i + ks.length) with
    | some t, some (ts, rs) => some (t :: ts, (resLs d m ks i).2 ++ rs)
    | _, _ => none
def boxOut (bs : List (Nat × List LV)) (m : Nat) : List PK → List Nat → Nat → List (Nat × List LV)
  | .box ks :: ps, b :: r, i => boxOut (setB bs b (ks.zipIdx.map fun p => .u p.1 (.var (m + (i + p.2))))) m ps r (i + ks.length)
  | .val _ _ :: ps, r, i => boxOut bs m ps r i
  | .fn _ _ :: ps, r, i => boxOut bs m ps r i
  | .ro _ :: ps, r, i => boxOut bs m ps r i
  | _, _, _ => bs
def boxKs : List PK → List K
  | [] => [] | .box ks :: ps => ks ++ boxKs ps | .val _ _ :: ps => boxKs ps | .fn _ _ :: ps => boxKs ps | .ro _ :: ps => boxKs ps
def PK.isVal : PK → Bool | .box _ => false | _ => true
def Sig.nout (s : Sig) : Nat := (s.res.flatMap (·.2)).length + (boxKs s.params).length
def Sig.nin : List PK → Nat
  | [] => 0 | .box ks :: ps => ks.length + Sig.nin ps | .val _ ks :: ps => ks.length + Sig.nin ps | .fn _ _ :: ps => Sig.nin ps | .ro ks :: ps => ks.length + Sig.nin ps
def flatK (rs : List (Bool × List K)) : List K := rs.flatMap (·.2)
def scalarK : K → Bool | .lst _ _ => false | _ => true
def shallowK : K → Bool | .lst _ ks => ks.all scalarK | _ => true
/-- nothing that the call hands back can lead into what it was handed -/
def flatOk (s : Sig) : Bool := (flatK s.res).all shallowK && (boxKs s.params).all scalarK
def tupOf : List TV → SV | [t] => .val t | ts => .tup ts
def freshR (σ : PS) (rs : List Row) : Bool := rs.all fun q => (lookR σ.rows q.id).isNone

/-- a function may stand under several numbers, f + 1000000 * j: one for each choice of the functions that it is handed -/
def fnMatch : List PK → List SV → Bool
  | [], [] => true
  | .fn g _ :: ps, .fn h cs :: vs => Nat.beq g h && fnMatch ps (cs.map (fun b => .ptr b 0) ++ vs)
  | .fn _ _ :: _, _ => false
  | _ :: ps, _ :: vs => fnMatch ps vs
  | _, _ => false
def pickV (f : Nat) (vs : List SV) : Sigs → Option Nat
  | [] => none
  | (v, sg) :: r => if Nat.beq (v % 1000000) f && fnMatch sg.params vs then some v else pickV f vs r
def calleeOf (sigs : Sigs) (σ : PS) (x : Operand) (as : List Operand) : Option (Nat × List Nat) := match opv σ x with
  | .fn f cs => (pickV f (as.map (opv σ) ++ cs.map fun b => .ptr b 0) sigs).map fun v => (v, cs)
  | _ => none
/-- one operation: its value, the state beside it, what has to hold, how many outputs it brings -/
structure Res where
  v : SV
  σ : PS
  fs : List Fact
  cl : Option (Nat × List E × Nat)
def Res.k (r : Res) : Nat := match r.cl with | none => 0 | some c => c.2.2
def lim : Nat := 140737488355328
def stepOp (C : Ctx) (o : Oper) (m : Nat) (t : Option Bool) (σ : PS) : Option Res :=
  match o.op with
  | .alloc ty => match o.dst, C.T.get ty with
    | some d, some ti => if !Nat.ble C.np d then none else let σ := σ.clB d; some ⟨.ptr d 0, { σ with boxes := (d, ti.ks.map zeroLV) :: σ.boxes }, [], none⟩
    | _, _ => none
  | .box _ x => match o.dst, opv σ x with
    | some d, .val tv => if !Nat.ble C.np d then none else let σ := σ.clB d; some ⟨.ptr d 0, { σ with boxes := (d, tv.ls) :: σ.boxes }, [], none⟩
    | _, _ => none
  | .store ty p x => match C.T.get ty, opv σ x with
    | some ti, .val tv => if Nat.beq tv.ls.length ti.size then match opv σ p with
      | .ptr b off => match lookB σ.boxes b with
        | some ls => if Nat.ble (off + tv.ls.length) ls.length then some ⟨.dead, { σ with boxes := setB σ.boxes b (setAt ls off tv.ls) }, [], none⟩ else none
        | none => none
      | .rptr _ _ _ =>
        let σ := σ.dgs (ownsOf tv.ls)
        match opv σ p, opv σ x with
        | .rptr r i off, .val tv => match lookR σ.rows r with
          | some q => match zipE LV.toU ((q.ks.drop off).take tv.ls.length) tv.ls with
            | some es => if Nat.ble (off + tv.ls.length) q.ks.length && Nat.beq tv.ls.length ti.size then
                some ⟨.dead, { σ with rows := setR σ.rows r ((es.zipIdx).foldl (fun c p => .set c i (off + p.2) p.1) q.c) }, [], none⟩ else none
            | none => none
          | none => none
        | _, _ => none
      | _ => none else none
    | _, _ => none
  | .buildSlice ty len parts => match o.dst, C.T.get ty with
    | some d, some { kind := .slice e, .. } => match C.T.get e with
      | some ti =>
        let σ := (σ.dgs (ownsIn σ (parts.toList.map (·.2)))).dg d
        match slParts C.T σ ti.ks parts.toList (List.replicate len (ti.ks.map zeroE)) with
        | some rs => if Nat.ble (len * ti.size) 16777216 && Nat.ble 1 ti.size then some ⟨.val (.leaf (.own d)), newRow σ d e ti.ks (rowsE rs), [], none⟩ else none
        | none => none
      | none => none
    | _, _ => none
  | .makeSlice ty l c => match o.dst, C.T.get ty, intOf? (opv σ l), intOf? (opv σ c) with
    | some d, some { kind := .slice e, .. }, some (_, a), some (_, b) => match C.T.get e with
      | some ti =>
        let σ := σ.dg d
        if decide (a = b) then some ⟨.val (.leaf (.own d)), newRow σ d e ti.ks (.rep a (rowE (ti.ks.map zeroE))), [((.cmp .leq (.int 0) a), true), ((.cmp .leq a (.int ((lim / ti.bytes : Nat) : Int))), true)], none⟩
        else if decide (a = .int 0) then some ⟨.val (.leaf (.own d)), newRow σ d e ti.ks .nil, [((.cmp .leq (.int 0) b), true), ((.cmp .leq b (.int ((lim / ti.bytes : Nat) : Int))), true)], none⟩
        else none
      | none => none
    | _, _, _, _ => none
  | .slice ty x lo hi none => match C.T.get ty, ownsIn σ [x] with
    | some { kind := .slice e1, .. }, os =>
      let σ := σ.dgs os
      match opv σ x, C.T.get e1 with
      | .val (.leaf (.u (.lst e ks) c)), some ti => if !Nat.beq ti.size ks.length then none else
        match (match lo with | none => some (.int 0) | some y => (intOf? (opv σ y)).map (·.2)), (match hi with | none => some (.len c) | some y => (intOf? (opv σ y)).map (·.2)) with
        | some a, some b => some ⟨.val (.leaf (.u (.lst e ks) (.drop (.take c b) a))), σ, [((.cmp .leq (.int 0) a), true), ((.cmp .leq a b), true), ((.cmp .leq b (.len c)), true)], none⟩
        | _, _ => none
      | _, _ => none
    | _, _ => none
  | .call { callee := .builtin .append, args := as, argTypes := ts } => match o.dst, as.toList, ts.toList with
    | some d, [s, x], [ty, ty'] => if Nat.beq ty ty' then match C.T.get ty with
      | some { kind := .slice e, .. } => match C.T.get e with
        | some ti => if !Nat.ble 1 ti.size then none else match opv σ x with
          | .val (.leaf lx) => match LV.toE σ.rows (.lst e ti.ks) lx, opv σ s with
            | some c2, .val (.leaf (.own r)) => if lx.hasR r then none else match lookR σ.rows r, σ.clR r with
              | some q, some σ => if K.beq (.lst q.e q.ks) (.lst e ti.ks) then
                  some ⟨.val (.leaf (.own r)), { σ with rows := setR σ.rows r (.cat q.c c2) }, [((.cmp .leq (.len (.cat q.c c2)) (.int ((lim / ti.bytes : Nat) : Int))), true)], none⟩ else none
              | _, _ => none
            | some _, .val (.leaf .nil) =>
              let σ := σ.dg d
              match opv σ s, opv σ x with
              | .val (.leaf .nil), .val (.leaf lx) => match LV.toE σ.rows (.lst e ti.ks) lx with
                | some c2 => some ⟨.val (.leaf (.own d)), newRow σ d e ti.ks c2, [((.cmp .leq (.len c2) (.int ((lim / ti.bytes : Nat) : Int))), true)], none⟩
                | none => none
              | _, _ => none
            | _, _ => none
          | _ => none
        | none => none
      | _ => none else none
    | _, _, _ => none
  | .call { callee := .value x, args := as, .. } => match calleeOf C.sigs σ x as.toList with
   | some (f, cs) => match C.sigs.get f with
    | some sg =>
      let fl := flatOk sg
      let σ := if fl then σ else σ.dgs (ownsIn σ as.toList)
      match argE (fl && sg.params.all PK.isVal) (if fl then LV.toE σ.rows else LV.toU) σ sg.params (as.toList.map (opv σ) ++ cs.map fun b => .ptr b 0) with
      | some (es, bs) => match o.dst with
        | some d => match resTs d m sg.res 0 with
          | some (ts, rs) => if freshR σ rs && nodupR rs then
              some ⟨tupOf ts, { σ with boxes := boxOut σ.boxes m sg.params bs (flatK sg.res).length, rows := rs ++ σ.rows }, [], some (f, es, sg.nout)⟩ else none
          | none => none
        | none => match sg.res with
          | [] => some ⟨.dead, { σ with boxes := boxOut σ.boxes m sg.params bs 0 }, [], some (f, es, sg.nout)⟩
          | _ => none
      | none => none
    | none => none
   | none => none
  | op => match valOp C.T σ t op with | some (v, fs) => some ⟨v, σ, fs, none⟩ | none => none

/-- what an operation's guard or choice hangs on -/
def lit? : E → Option Bool | .bool b => some b | _ => none
def known (asm : List (E × Bool)) (e : E) : Option Bool := match lit? e with
  | some b => some b
  | none => match asm with
    | [] => none
    | (f, b) :: r => if decide (f = e) then some b else known r e
def asks (ops : Array Oper) (σ : PS) (o : Oper) : Option (Option (E × Option Bool)) :=
  match o.guard with
  | some (j, b) => match (ops[j]?).bind (·.dst) with
    | some d => match boolOf? (σ.slot d) with | some e => some (some (e, some b)) | none => none
    | none => none
  | none => match o.op with
    | .pick c _ _ => match boolOf? (opv σ c) with | some e => some (some (e, none)) | none => none
    | _ => some none

def chain (cl : Option (Nat × List E × Nat)) (p : Prog) : List Fact → Prog
  | [] => match cl with | none => p | some (f, es, k) => .call f es k p
  | (b, t) :: r => .guard b t (chain cl p r)
def callsSc (n : Nat) : Option (Nat × List E × Nat) → Bool | none => true | some (_, es, _) => es.all (E.sc n)

def killS : List Bool → List SV → List SV
  | true :: ks, v :: vs => v :: killS ks vs
  | _ :: ks, _ :: vs => .dead :: killS ks vs
  | [], vs => vs.map fun _ => .dead
  | _, [] => []
def PS.kill (keep : List Bool) (σ : PS) : PS := { σ with slots := killS keep σ.slots }

/-- what one operation's run in the order of the text was: the guard's fact, whether it was carried out, the choice, the first output's number, the facts, the call -/
structure Rec where
  gf : List Fact
  run : Bool
  t : Option Bool
  m : Nat
  fs : List Fact
  cl : Option (Nat × List E × Nat)
def goOp (C : Ctx) (o : Oper) (n : Nat) (σ : PS) (k : Rec → PS → Nat → Option Prog) (t : Option Bool) (want : Bool) (gf : List Fact) : Option Prog :=
  if want then match stepOp C o n t σ with
    | some r => if (gf ++ r.fs).all (fun x => x.1.sc n) && callsSc n r.cl && (r.cl.isNone || σ.sc n) then (k ⟨gf, true, t, n, r.fs, r.cl⟩ (r.σ.put o.dst r.v) (n + r.k)).map fun p => chain r.cl p (gf ++ r.fs) else none
    | none => none
  else if gf.all (fun x => x.1.sc n) then (k ⟨gf, false, t, n, [], none⟩ (σ.put o.dst .dead) n).map fun p => chain none p gf else none
def isPick (o : Oper) : Bool := match o.op with | .pick _ _ _ => true | _ => false
def atOp (C : Ctx) (o : Oper) (n : Nat) (σ : PS) (k : List (E × Bool) → Rec → PS → Nat → Option Prog) (gb : Option Bool) (e : E) (asm : List (E × Bool)) (t : Bool) : Option Prog := match gb with
  | some b => if isPick o && (t == b) then none else goOp C o n σ (k asm) none (t == b) [(e, t)]
  | none => goOp C o n σ (k asm) (some t) true []
def runR (C : Ctx) (ops : Array Oper) (fin : List Rec → PS → Bool) : List Oper → List Rec → List (E × Bool) → PS → Nat → Option Prog
  | [], tr, _, σ, n => if fin tr σ then some (.leaf (.st .norm n (σ.kill C.keep))) else none
  | o :: rest, tr, asm, σ, n => match asks ops σ o with
    | none => none
    | some none => goOp C o n σ (fun rc => runR C ops fin rest (rc :: tr) asm) none true []
    | some (some (e, gb)) => match known asm e with
      | some t => atOp C o n σ (fun asm rc => runR C ops fin rest (rc :: tr) asm) gb e asm t
      | none => match atOp C o n σ (fun asm rc => runR C ops fin rest (rc :: tr) asm) gb e ((e, true) :: asm) true, atOp C o n σ (fun asm rc => runR C ops fin rest (rc :: tr) asm) gb e ((e, false) :: asm) false with
        | some p, some q => some (.cond e p q)
        | _, _ => none

-- a region that draws its order, some of whose operations write: every order is looked at, one set of listed operations after the other
def LV.beq : LV → LV → Bool
  | .u k e, .u k' e' => K.beq k k' && decide (e = e')
  | .own r, .own r' => Nat.beq r r'
  | .nil, .nil => true
  | _, _ => false
def beqL {α : Type} (f : α → α → Bool) : List α → List α → Bool
  | [], [] => true
  | a :: x, b :: y => f a b && beqL f x y
  | _, _ => false
def TV.beq : TV → TV → Bool
  | .leaf a, .leaf b => a.beq b
  | .agg a, .agg b => beqL LV.beq a b
  | _, _ => false
def SV.beq : SV → SV → Bool
  | .dead, .dead => true
  | .val a, .val b => a.beq b
  | .tup a, .tup b => beqL TV.beq a b
  | .ptr b o, .ptr b' o' => Nat.beq b b' && Nat.beq o o'
  | .eptr a, .eptr b => beqL LV.beq a b
  | .rptr r i o, .rptr r' i' o' => Nat.beq r r' && decide (i = i') && Nat.beq o o'
  | .fn f a, .fn g b => Nat.beq f g && decide (a = b)
  | _, _ => false
def PS.eqv (σ σ0 : PS) : Bool := beqL SV.beq σ.slots σ0.slots && nodupB σ0.boxes && nodupR σ0.rows &&
  σ0.boxes.all (fun p => match lookB σ.boxes p.1 with | some ls => beqL LV.beq ls p.2 | none => false) && σ.boxes.all (fun p => (lookB σ0.boxes p.1).isSome) &&
  σ0.rows.all (fun q => match lookR σ.rows q.id with | some p => K.beq (.lst p.e p.ks) (.lst q.e q.ks) && decide (p.c = q.c) | none => false) && σ.rows.all (fun q => (lookR σ0.rows q.id).isSome)
def recGuard (ops : Array Oper) (σ : PS) (o : Oper) (rc : Rec) : Bool := match o.guard with
  | none => rc.run
  | some (j, b) => match (ops[j]?).bind (·.dst) with
    | some d => match boolOf? (σ.slot d) with
      | some e => decide (rc.gf = [(e, if rc.run then b else !b)])
      | none => false
    | none => false
def recGo (C : Ctx) (ops : Array Oper) (recs : List Rec) (i : Nat) (σ : PS) : Option PS := match ops[i]?, recs[i]? with
  | some o, some rc => if recGuard ops σ o rc then
      if rc.run then match stepOp C o rc.m rc.t σ with
        | some r => if decide (r.fs = rc.fs) && decide (r.cl = rc.cl) then some (r.σ.put o.dst r.v) else none
        | none => none
      else some (σ.put o.dst .dead)
    else none
  | _, _ => none
/-- an operation that does not look at the memory -/
def pureOp (o : Oper) : Bool := match o.op with
  | .move _ | .assign _ | .pick .. | .binOp .. | .unOp .. | .convert .. | .build .. | .fieldAddr .. | .field .. | .nilCheck _ | .indexAddr .. | .extract .. | .makeFunc .. => true
  | .call { callee := .builtin .len, .. } | .call { callee := .builtin .max, .. } | .call { callee := .builtin .min, .. } => true
  | _ => false
def pureAt (ops : Array Oper) (L : Array Bool) (i : Nat) : Bool := (match ops[i]? with | some o => pureOp o | none => false) && Region.free .any ops L i
abbrev Lvl := List (Array Bool × PS)
def succs (C : Ctx) (ops : Array Oper) (recs : List Rec) (L : Array Bool) (σ : PS) : Option Lvl :=
  match Region.ready .any ops L with
  | [] => none
  | rs => (match rs.find? (pureAt ops L) with | some i => [i] | none => rs).mapM fun i => (recGo C ops recs i σ).map fun s => (L.setIfInBounds i true, s)
def addLvl (x : Array Bool × PS) : Lvl → Option Lvl
  | [] => some [x]
  | y :: r => if decide (x.1.toList = y.1.toList) then (if x.2.eqv y.2 then some (y :: r) else none) else (addLvl x r).map (y :: ·)
def addAll : Lvl → Lvl → Option Lvl
  | [], acc => some acc
  | x :: r, acc => match addLvl x acc with | some a => addAll r a | none => none
def nextLvl (C : Ctx) (ops : Array Oper) (recs : List Rec) : Lvl → Lvl → Option Lvl
  | [], acc => some acc
  | x :: r, acc => match succs C ops recs x.1 x.2 with
    | some l => match addAll l acc with | some a => nextLvl C ops recs r a | none => none
    | none => none
def bfs (C : Ctx) (ops : Array Oper) (recs : List Rec) (σend : PS) : Nat → Lvl → Bool
  | 0, l => l.all fun x => (Region.ready .any ops x.1).isEmpty && x.2.eqv σend
  | fuel + 1, l => match nextLvl C ops recs l [] with | some l => bfs C ops recs σend fuel l | none => false
def anyFin (C : Ctx) (ops : Array Oper) (σ0 : PS) (tr : List Rec) (σend : PS) : Bool := Region.noSelect ops && bfs C ops tr.reverse σend ops.size [(Array.replicate ops.size false, σ0)]

/-- operations that only read: in a region that draws its order they go in the order of the text -/
def quietSig (sg : Sig) : Bool := sg.params.all PK.isVal && sg.res.all (fun r => r.2.all scalarK)
def quietOp (C : Ctx) (o : Oper) : Bool := match o.op with
  | .alloc _ | .box _ _ | .store .. | .buildSlice .. | .makeSlice .. | .slice .. => false
  | .call { callee := .builtin .append, .. } => false
  | .call { callee := .value (.func f), .. } => C.sigs.all fun p => !Nat.beq (p.1 % 1000000) f || quietSig p.2
  | .call { callee := .value _, .. } => C.sigs.all fun p => quietSig p.2
  | _ => true
def quietR (C : Ctx) (ops : Array Oper) : Bool := ops.toList.all (quietOp C) && Region.lexB .any ops
/-- how many operations at the beginning only read -/
def headN (C : Ctx) : List Oper → Nat
  | [] => 0
  | o :: r => if quietOp C o then headN C r + 1 else 0
/-- operations that only read, in any order, and behind all of them others in one order -/
def tailR (C : Ctx) (ops : Array Oper) : Bool := Region.lexTailB .any ops (headN C ops.toList)

/-- the symbolic states at which a piece of code comes to its end: they stand at a program's tails alone -/
def Prog.leaves : Prog → List (Ex × PS)
  | .leaf (.st x _ σ) => [(x, σ)]
  | .leaf _ | .stop => []
  | .guard _ _ p | .call _ _ _ p | .chk _ p => p.leaves
  | .cond _ p q | .alt p q => p.leaves ++ q.leaves
  | .join _ c | .loop _ _ c => c.leaves
def Prog.isC : Prog → Bool
  | .alt _ _ | .stop => true
  | _ => false
def Prog.bindL (g : Ex → Nat → PS → Option Prog) : Prog → Option Prog
  | .leaf (.st x n σ) => g x n σ
  | .leaf _ => none
  | .stop => some .stop
  | .chk n p => (p.bindL g).map (.chk n)
  | .guard b t p => (p.bindL g).map (.guard b t)
  | .call f es k p => (p.bindL g).map (.call f es k)
  | .cond b p q => match p.bindL g, q.bindL g with | some p, some q => some (.cond b p q) | _, _ => none
  | .alt p q => if q.isC then match p.bindL g, q.bindL g with | some p, some q => some (.alt p q) | _, _ => none else none
  | .join p c => if c.isC then (c.bindL g).map (.join p) else none
  | .loop i b c => if c.isC then (c.bindL g).map (.loop i b) else none
def unE (id : Nat) (x : Ex) (n : Nat) (σ : PS) : Option Prog := match x with
  | .exit j => if Nat.beq j id then some (.leaf (.st .norm n σ)) else some (.leaf (.st (.exit j) n σ))
  | x => some (.leaf (.st x n σ))

-- templates: what several states have in common
def fitE (n : Nat) (acc : List E) (t s : E) : Option (List E) :=
  if decide (t = .var (n + acc.length)) then some (acc ++ [s]) else if t.sc n && decide (t = s) then some acc else none
def fitLV (n : Nat) (acc : List E) : LV → LV → Option (List E)
  | .u k t, .u k' s => if K.beq k k' then fitE n acc t s else none
  | .u (.lst _ _) t, .nil => fitE n acc t .nil
  | .own r, .own r' => if Nat.beq r r' then some acc else none
  | .nil, .nil => some acc
  | _, _ => none
def fitLs (n : Nat) : List E → List LV → List LV → Option (List E)
  | acc, [], [] => some acc
  | acc, t :: ts, s :: ss => match fitLV n acc t s with | some acc => fitLs n acc ts ss | none => none
  | _, _, _ => none
def fitSV (n : Nat) (acc : List E) : SV → SV → Option (List E)
  | .dead, _ => some acc
  | .val (.leaf t), .val (.leaf s) => fitLV n acc t s
  | .val (.agg t), .val (.agg s) => fitLs n acc t s
  | .ptr b o, .ptr b' o' => if Nat.beq b b' && Nat.beq o o' then some acc else none
  | .fn f a, .fn g b => if Nat.beq f g && decide (a = b) then some acc else none
  | _, _ => none
def fitSs (n : Nat) : List E → List SV → List SV → Option (List E)
  | acc, [], [] => some acc
  | acc, t :: ts, s :: ss => match fitSV n acc t s with | some acc => fitSs n acc ts ss | none => none
  | _, _, _ => none
def fitBs (n : Nat) (bs : List (Nat × List LV)) : List E → List (Nat × List LV) → Option (List E)
  | acc, [] => some acc
  | acc, (b, t) :: ts => match lookB bs b with
    | some s => match fitLs n acc t s with | some acc => fitBs n bs acc ts | none => none
    | none => none
def fitRs (n : Nat) (rs : List Row) : List E → List Row → Option (List E)
  | acc, [] => some acc
  | acc, t :: ts => match lookR rs t.id with
    | some s => if K.beq (.lst t.e t.ks) (.lst s.e s.ks) then match fitE n acc t.c s.c with | some acc => fitRs n rs acc ts | none => none else none
    | none => none
/-- all references of a state lead to its own boxes and rows; its boxes and rows have different numbers -/
def LV.wf (T : PS) : LV → Bool | .own r => (lookR T.rows r).isSome | _ => true
def SV.wf (T : PS) : SV → Bool
  | .val t => t.ls.all (LV.wf T) | .tup ts => ts.all fun t => t.ls.all (LV.wf T)
  | .fn _ cs => cs.all (fun b => (lookB T.boxes b).isSome) | .ptr b _ => (lookB T.boxes b).isSome | .rptr r _ _ => (lookR T.rows r).isSome | _ => true
def PS.wf (T : PS) : Bool := T.slots.all (SV.wf T) && T.boxes.all (fun p => p.2.all (LV.wf T)) && nodupB T.boxes && nodupR T.rows
def fit (n : Nat) (T σ : PS) : Option (List E) :=
  if T.wf then match fitSs n [] T.slots σ.slots with
    | some a => match fitBs n σ.boxes a T.boxes with | some a => fitRs n σ.rows a T.rows | none => none
    | none => none else none

-- making templates (nothing is proved of these: 'fit' looks at what they make)
def tE (n c : Nat) (es : List E) : E × Nat := match es with
  | [] => (.nil, c)
  | e :: r => if e.sc n && r.all (fun f => decide (f = e)) then (e, c) else (.var (n + c), c + 1)
def uOf : LV → Option (K × E) | .u k e => some (k, e) | _ => none
def tLV (n c : Nat) (ls : List LV) : Option (LV × Nat) := match ls with
  | [] => none
  | .own r :: rest => if rest.all (fun l => match l with | .own s => Nat.beq r s | _ => false) then some (.own r, c) else none
  | l :: rest => if (l :: rest).all (fun x => match x with | .nil => true | _ => false) then some (.nil, c) else
    match (l :: rest).findSome? uOf with
    | some (k, _) => match (l :: rest).mapM (LV.toU k) with
      | some es => let (e, c) := tE n c es; some (.u k e, c)
      | none => none
    | none => none
def heads {α : Type} (ls : List (List α)) : List α := ls.filterMap List.head?
def tLs (n : Nat) : Nat → Nat → List (List LV) → Option (List LV × Nat)
  | 0, c, _ => some ([], c)
  | m + 1, c, lss => match tLV n c (heads lss) with
    | some (l, c) => match tLs n m c (lss.map List.tail) with | some (ls, c) => some (l :: ls, c) | none => none
    | none => none
def tSV (n c : Nat) (vs : List SV) : SV × Nat := match vs with
  | .val (.leaf _) :: _ => match vs.mapM (fun v => match v with | .val (.leaf l) => some l | _ => none) with
    | some ls => match tLV n c ls with | some (l, c) => (.val (.leaf l), c) | none => (.dead, c)
    | none => (.dead, c)
  | .val (.agg l0) :: _ => match vs.mapM (fun v => match v with | .val (.agg l) => if Nat.beq l.length l0.length then some l else none | _ => none) with
    | some lss => match tLs n l0.length c lss with | some (ls, c) => (.val (.agg ls), c) | none => (.dead, c)
    | none => (.dead, c)
  | .ptr b o :: r => if r.all (fun v => match v with | .ptr b' o' => Nat.beq b b' && Nat.beq o o' | _ => false) then (.ptr b o, c) else (.dead, c)
  | .fn f a :: r => if r.all (fun v => match v with | .fn g b => Nat.beq f g && decide (a = b) | _ => false) then (.fn f a, c) else (.dead, c)
  | _ => (.dead, c)
def tSs (n : Nat) : Nat → Nat → List (List SV) → List SV × Nat
  | 0, c, _ => ([], c)
  | m + 1, c, vss => let (v, c) := tSV n c (heads vss); let (vs, c) := tSs n m c (vss.map List.tail); (v :: vs, c)
def tBs (n : Nat) (σs : List PS) : Nat → List (Nat × List LV) → List (Nat × List LV) × Nat
  | c, [] => ([], c)
  | c, (b, l0) :: r => match σs.mapM (fun σ => match lookB σ.boxes b with | some l => if Nat.beq l.length l0.length then some l else none | none => none) with
    | some lss => match tLs n l0.length c lss with
      | some (ls, c) => let (q, c) := tBs n σs c r; ((b, ls) :: q, c)
      | none => tBs n σs c r
    | none => tBs n σs c r
def tRs (n : Nat) (σs : List PS) : Nat → List Row → List Row × Nat
  | c, [] => ([], c)
  | c, q :: r => match σs.mapM (fun σ => match lookR σ.rows q.id with | some p => if K.beq (.lst q.e q.ks) (.lst p.e p.ks) then some p.c else none | none => none) with
    | some cs => let (e, c) := tE n c cs; let (l, c) := tRs n σs c r; ({ q with c := e } :: l, c)
    | none => tRs n σs c r
/-- what does not lead to the template's own boxes and rows goes -/
def PS.trim (T : PS) : PS :=
  let T : PS := { T with boxes := T.boxes.filter fun p => p.2.all (LV.wf T) }
  { T with slots := T.slots.map fun v => if v.wf T then v else .dead }
def tmpl (n : Nat) (σs : List PS) : PS × Nat := match σs with
  | [] => (⟨[], [], []⟩, 0)
  | σ :: _ =>
    let (ss, c) := tSs n σ.slots.length 0 (σs.map (·.slots))
    let (bs, c) := tBs n σs c σ.boxes
    let (rs, c) := tRs n σs c σ.rows
    (PS.trim ⟨ss, bs, rs⟩, c)

-- a loop's head: the slots that the body writes, the boxes and rows
def Code.dsts : Code → List Nat
  | .region _ ops _ => ops.toList.filterMap (·.dst)
  | .seq a b | .cond _ a b => Code.dsts a ++ Code.dsts b
  | .block _ c | .loop c | .scope c => Code.dsts c
  | _ => []
structure G where
  pos : Nat
  c : Nat
def gE (n : Nat) (fl : Nat → Bool) (g : G) (e : E) : E × G := if fl g.pos then (.var (n + g.c), ⟨g.pos + 1, g.c + 1⟩) else (e, ⟨g.pos + 1, g.c⟩)
def gLV (n : Nat) (fl : Nat → Bool) (g : G) : LV → LV × G
  | .u k e => let (e, g) := gE n fl g e; (.u k e, g)
  | l => (l, g)
def gLs (n : Nat) (fl : Nat → Bool) : G → List LV → List LV × G
  | g, [] => ([], g)
  | g, l :: r => let (l, g) := gLV n fl g l; let (r, g) := gLs n fl g r; (l :: r, g)
def gSs (n : Nat) (fl : Nat → Bool) (ds : List Nat) : Nat → G → List SV → List SV × G
  | _, g, [] => ([], g)
  | i, g, v :: r =>
    let (v, g) := (match v with
      | .val (.leaf l) => if ds.contains i then (let (l, g) := gLV n fl g l; (SV.val (.leaf l), g)) else (v, g)
      | .val (.agg ls) => if ds.contains i then (let (ls, g) := gLs n fl g ls; (SV.val (.agg ls), g)) else (v, g)
      | .ptr b o => (.ptr b o, g)
      | .fn f a => (.fn f a, g)
      | _ => (.dead, g) : SV × G)
    let (r, g) := gSs n fl ds (i + 1) g r
    (v :: r, g)
def gBs (n : Nat) (fl : Nat → Bool) : G → List (Nat × List LV) → List (Nat × List LV) × G
  | g, [] => ([], g)
  | g, (b, ls) :: r => let (ls, g) := gLs n fl g ls; let (r, g) := gBs n fl g r; ((b, ls) :: r, g)
def gRs (n : Nat) (fl : Nat → Bool) : G → List Row → List Row × G
  | g, [] => ([], g)
  | g, q :: r => let (c, g) := gE n fl g q.c; let (r, g) := gRs n fl g r; ({ q with c := c } :: r, g)
def gen (n : Nat) (fl : Nat → Bool) (ds : List Nat) (σ : PS) : PS × Nat :=
  let (ss, g) := gSs n fl ds 0 ⟨0, 0⟩ σ.slots
  let (bs, g) := gBs n fl g σ.boxes
  let (rs, g) := gRs n fl g σ.rows
  (⟨ss, bs, rs⟩, g.c)
def changed (n : Nat) (ess : List (List E)) (i : Nat) : Bool := ess.any fun es => !decide (es[i]? = some (.var (n + i)))
/-- slots that can't be told at the loop's head again fall -/
def weak (n : Nat) (T : PS) (σs : List PS) : PS :=
  { T with slots := T.slots.zipIdx.map fun (v, i) => if σs.all (fun σ => (fitSV n ((List.range 1000).map fun _ => E.nil) v (σ.slot i)).isSome || (match v, σ.slot i with
      | .val (.leaf (.u k _)), .val (.leaf (.u k' _)) => K.beq k k'
      | .val (.leaf (.u (.lst _ _) _)), .val (.leaf .nil) => true
      | .val (.leaf (.own r)), .val (.leaf (.own r')) => Nat.beq r r'
      | .val (.leaf .nil), .val (.leaf .nil) => true
      | .val (.agg a), .val (.agg b) => Nat.beq a.length b.length
      | .ptr b _, .ptr b' _ => Nat.beq b b'
      | _, _ => false)) then v else .dead }

abbrev Tmp3 := Ex × PS × Nat
def findT (ts : List Tmp3) (x : Ex) : Option (Nat × PS × Nat) := match ts with
  | [] => none
  | (y, T, k) :: r => if decide (y = x) then some (0, T, k) else (findT r x).map fun q => (q.1 + 1, q.2)
def capt (n : Nat) (ts : List Tmp3) (x : Ex) (σ : PS) : Option Prog := match findT ts x with
  | some (lab, T, k) => match fit n T σ with
    | some es => if Nat.beq es.length k then some (.leaf (.vals lab es)) else none
    | none => none
  | none => none
def alt1 (n : Nat) (g : PS → Nat → Option Prog) (x : Ex) (T : PS) (k : Nat) : Option Prog := match x with
  | .norm => g T (n + k)
  | x => some (.leaf (.st x (n + k) T))
def alts (n : Nat) (g : PS → Nat → Option Prog) : List Tmp3 → Option Prog
  | [] => some .stop
  | (x, T, k) :: r => match alt1 n g x T k, alts n g r with
    | some q, some c => some (.alt q c)
    | _, _ => none
def kindsOf : List Ex → List Ex → List Ex
  | seen, [] => seen
  | seen, x :: r => kindsOf (if seen.any (fun y => decide (y = x)) then seen else seen ++ [x]) r
def tmplsOf (n : Nat) (ls : List (Ex × PS)) (xs : List Ex) : List Tmp3 :=
  xs.map fun x => (x, tmpl n ((ls.filter fun p => decide (p.1 = x)).map (·.2)))
def leafG (σ : PS) (n : Nat) : Option Prog := some (.leaf (.st .norm n σ))

def graft (g : PS → Nat → Option Prog) (x : Ex) (m : Nat) (σ : PS) : Option Prog := match x with
  | .norm => (g σ m).map (.chk m)
  | x => some (.leaf (.st x m σ))
def joinP (n : Nat) (p : Prog) (g : PS → Nat → Option Prog) : Option Prog :=
  let ls := p.leaves
  if Nat.ble (ls.filter fun q => decide (q.1 = .norm)).length 1 then
    p.bindL (graft g)
  else
    let ts := tmplsOf n ls (kindsOf [.norm] (ls.map (·.1)))
    match p.bindL (fun x _ σ => capt n ts x σ), alts n g ts with
    | some p, some c => some (.join p c)
    | _, _ => none

def execL (c : Code) (body : PS → Nat → Option Prog) (σ : PS) (n : Nat) : Option Prog :=
  let ds := Code.dsts c
  let (T0, k0) := gen n (fun _ => true) ds σ
  match body T0 (n + k0) with
  | none => none
  | some p0 =>
    let σs := (p0.leaves.filter fun q => decide (q.1 = .norm)).map (·.2)
    let T0 := weak n T0 σs
    match σs.mapM (fit n T0) with
    | none => none
    | some ess =>
      let (T1, k1) := gen n (changed n ess) ds σ
      let T1 := weak n T1 σs
      match fit n T1 σ, body T1 (n + k1) with
      | some init, some p => if Nat.beq init.length k1 then
          let ls := p.leaves
          let xs := (kindsOf [.norm] (ls.map (·.1))).tail
          let ts := tmplsOf n ls xs
          match p.bindL (fun x _ s => capt n ((.norm, T1, k1) :: ts) x s), alts n leafG ts with
          | some p, some c => some (.loop init p c)
          | _, _ => none
        else none
      | _, _ => none

def exec (C : Ctx) : Code → PS → Nat → Option Prog
  | .skip, σ, n => some (.leaf (.st .norm n σ))
  | .region _ ops draw, σ, n => if !σ.sc n then none else match runR C ops (if draw && !quietR C ops && !tailR C ops then anyFin C ops σ else fun _ _ => true) ops.toList [] [] σ n with
    | some p => joinP n p leafG
    | none => none
  | .seq a b, σ, n => match exec C a σ n with
    | some p => joinP n p fun σ n => exec C b σ n
    | none => none
  | .cond c a b, σ, n => match boolOf? (opv σ c) with
    | some e => match lit? e with
      | some true => exec C a σ n
      | some false => exec C b σ n
      | none => match exec C a σ n, exec C b σ n with | some p, some q => some (.cond e p q) | _, _ => none
    | none => none
  | .block id c, σ, n => match exec C c σ n with | some p => p.bindL (unE id) | none => none
  | .loop c, σ, n => execL c (fun σ n => exec C c σ n) σ n
  | .exit id, σ, n => some (.leaf (.st (.exit id) n σ))
  | .ret, σ, n => some (.leaf (.st .ret n σ))
  | _, _, _ => none

-- a function
def parSV : List PK → Nat → Nat → List SV × List (Nat × List LV)
  | [], _, _ => ([], [])
  | .val agg ks :: ps, i, v =>
    let (ss, bs) := parSV ps (i + 1) (v + ks.length)
    let ls := ks.zipIdx.map fun p => LV.u p.1 (.var (v + p.2))
    ((match agg, ls with | true, ls => .val (.agg ls) | false, [l] => .val (.leaf l) | _, _ => .dead) :: ss, bs)
  | .ro ks :: ps, i, v =>
    let (ss, bs) := parSV ps (i + 1) (v + ks.length)
    (.eptr (ks.zipIdx.map fun p => LV.u p.1 (.var (v + p.2))) :: ss, bs)
  | .fn f n :: ps, i, v =>
    let (ss, bs) := parSV ps (i + 1) v
    ((match capIds (ss.take n) with | some cs => .fn f cs | none => .dead) :: ss.drop n, bs)
  | .box ks :: ps, i, v =>
    let (ss, bs) := parSV ps (i + 1) (v + ks.length)
    (.ptr i 0 :: ss, (i, ks.zipIdx.map fun p => LV.u p.1 (.var (v + p.2))) :: bs)
def retTV (T : Tab) (σ : PS) : ResultVar → Option TV
  | .tmp t => match σ.slot t with | .val tv => some tv | _ => none
  | .cell a ty => match T.get ty, σ.slot a with
    | some ti, .ptr b 0 => match lookB σ.boxes b with
      | some ls => if Nat.beq ls.length ti.size then mkTV ti.agg ls else none
      | none => none
    | _, _ => none
def retE (rows : List Row) (k : K) : LV → Option E
  | .u k' e => match k with | .lst _ _ => none | _ => if K.beq k k' then some e else none
  | .own r => match lookR rows r with | some q => if K.beq k (.lst q.e q.ks) then some q.c else none | none => none
  | .nil => match k with | .lst _ _ => some .nil | _ => none
def rets (T : Tab) (σ : PS) : List ResultVar → List (Bool × List K) → Option (List E × List Nat)
  | [], [] => some ([], [])
  | r :: rs, (agg, ks) :: q => match retTV T σ r, rets T σ rs q with
    | some tv, some (es, os) => match tv, agg with
      | .leaf l, false => (zipE (retE σ.rows) ks [l]).map fun e => (e ++ es, ownsOf [l] ++ os)
      | .agg ls, true => (zipE (retE σ.rows) ks ls).map fun e => (e ++ es, ownsOf ls ++ os)
      | _, _ => none
    | _, _ => none
  | _, _ => none
def boxE (σ : PS) : List PK → Nat → Option (List E)
  | [], _ => some []
  | .val _ _ :: ps, i => boxE σ ps (i + 1)
  | .fn _ _ :: ps, i => boxE σ ps (i + 1)
  | .ro _ :: ps, i => boxE σ ps (i + 1)
  | .box ks :: ps, i => match lookB σ.boxes i, boxE σ ps (i + 1) with
    | some ls, some es => (zipE LV.toU ks ls).map (· ++ es)
    | _, _ => none
def nodupN : List Nat → Bool | [] => true | a :: r => !(r.any (Nat.beq a)) && nodupN r
def finish (T : Tab) (sg : Sig) (rs : List ResultVar) (σ : PS) : Option (List E) :=
  match rets T σ rs sg.res, boxE σ sg.params 0 with
  | some (es, os), some bs => if nodupN os then some (es ++ bs) else none
  | _, _ => none
def finG (g : PS → Option (List E)) (x : Ex) (_n : Nat) (σ : PS) : Option Prog := match x with
  | .exit _ => none
  | _ => (g σ).map fun es => .leaf (.res es)
/-- slots that are used in more than one region -/
def Op.tmps (o : Oper) : List Nat := o.op.operands.toList.filterMap fun | .tmp t => some t | _ => none
def Code.uses : Code → Nat → List (Nat × Nat) × Nat
  | .region _ ops _, i => (ops.toList.flatMap fun o => (o.dst.toList ++ Op.tmps o).map fun t => (t, i), i + 1)
  | .seq a b, i => let (x, i) := Code.uses a i; let (y, i) := Code.uses b i; (x ++ y, i)
  | .cond c a b, i => let (x, i) := Code.uses a (i + 1); let (y, j) := Code.uses b i; ((match c with | .tmp t => [(t, i + 100000)] | _ => []) ++ x ++ y, j)
  | .block _ c, i | .loop c, i | .scope c, i => Code.uses c i
  | _, i => ([], i)
def keepOf (fn : Func) (c : Code) : List Bool :=
  let us := (Code.uses c 0).1
  (List.range fn.ntmps).map fun t =>
    Nat.blt t (fn.params.size + fn.nfree) || fn.results.toList.any (fun r => match r with | .tmp u => Nat.beq u t | .cell u _ => Nat.beq u t) ||
    match us.find? (fun p => Nat.beq p.1 t) with
    | some (_, i) => us.any fun p => Nat.beq p.1 t && !Nat.beq p.2 i
    | none => false
def progOf (T : Tab) (sigs : Sigs) (fn : Func) (sg : Sig) : Option Prog := match fn.body with
  | none => none
  | some c =>
    let (ss, bs) := parSV sg.params 0 0
    let n := Sig.nin sg.params
    if Nat.beq ss.length (fn.params.size + fn.nfree) then
      match exec ⟨T, sigs, keepOf fn c, sg.params.length⟩ c ⟨ss ++ List.replicate (fn.ntmps - ss.length) .dead, bs, []⟩ n with
      | some p => p.bindL (finG (finish T sg fn.results.toList))
      | none => none
    else none
end Go.Proofs.YtibbceoibcnpcaaGreat.Eng
