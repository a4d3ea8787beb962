/- The engine, part A: kinds, plain data, expressions, symbolic states and their meaning over worlds. No condition. -/
import Derived.WalkKit
import Derived.Laws.OwnMore
import Derived.Laws.MakeOwn
import Derived.LoopN
import Derived.Orders
import Derived.Deep.Quiet
import Derived.StillTail
namespace Go.Proofs.YtibbceoibcnpcaaGreat.Eng
open Go

/-- the kind of one memory cell; a slice's kind tells its element type's number and the kinds of an element's cells -/
inductive K where
  | int (k : IntKind) | bool | str | lst (e : Nat) (ks : List K)
  deriving Inhabited

mutual
def K.beq : K → K → Bool
  | .int a, .int b => decide (a = b)
  | .bool, .bool => true
  | .str, .str => true
  | .lst e a, .lst f b => Nat.beq e f && K.beqL a b
  | _, _ => false
def K.beqL : List K → List K → Bool
  | [], [] => true
  | a :: as, b :: bs => K.beq a b && K.beqL as bs
  | _, _ => false
end
mutual
theorem K.eq_of_beq : ∀ (a b : K), K.beq a b = true → a = b
  | .int a, .int b, h => by simp [K.beq] at h; rw [h]
  | .bool, .bool, _ => rfl
  | .str, .str, _ => rfl
  | .lst e a, .lst f b, h => by
    simp only [K.beq, Bool.and_eq_true] at h; rw [K.eq_of_beqL a b h.2, Nat.eq_of_beq_eq_true h.1]
  | .int _, .bool, h | .int _, .str, h | .int _, .lst _ _, h | .bool, .int _, h | .bool, .str, h | .bool, .lst _ _, h
  | .str, .int _, h | .str, .bool, h | .str, .lst _ _, h | .lst _ _, .int _, h | .lst _ _, .bool, h | .lst _ _, .str, h => by simp [K.beq] at h
theorem K.eq_of_beqL : ∀ (a b : List K), K.beqL a b = true → a = b
  | [], [], _ => rfl
  | a :: as, b :: bs, h => by simp only [K.beqL, Bool.and_eq_true] at h; rw [K.eq_of_beq a b h.1, K.eq_of_beqL as bs h.2]
  | [], _ :: _, h | _ :: _, [], h => by simp [K.beqL] at h
end

/-- plain data: what a cell reads as -/
inductive U where
  | int (n : Int) | bool (b : Bool) | str (s : ByteArray) | lst (xs : List (List U))
  deriving Inhabited

def U.I : U → Int | .int n => n | _ => 0
def U.B : U → Bool | .bool b => b | _ => false
def U.S : U → ByteArray | .str s => s | _ => ByteArray.empty
def U.L : U → List (List U) | .lst l => l | _ => []
def U.R : U → List U | .lst [r] => r | _ => []
@[simp] theorem U.I_int (n : Int) : (U.int n).I = n := rfl
@[simp] theorem U.B_bool (b : Bool) : (U.bool b).B = b := rfl
@[simp] theorem U.S_str (s : ByteArray) : (U.str s).S = s := rfl
@[simp] theorem U.L_lst (l : List (List U)) : (U.lst l).L = l := rfl
@[simp] theorem U.R_lst (r : List U) : (U.lst [r]).R = r := rfl

/-- expressions over the environment -/
inductive E where
  | var (n : Nat) | int (n : Int) | bool (b : Bool) | str (s : List UInt8) | nil
  | ar (op : BinOp) (k : IntKind) (a b : E)
  | cmp (op : BinOp) (a b : E)
  | beq (a b : E) | not (a : E) | and (a b : E)
  | conv (k : IntKind) (a : E)
  | len (a : E) | nth (a i : E) (j : Nat)
  | cat (a b : E) | set (a i : E) (j : Nat) (v : E) | take (a i : E) | drop (a i : E) | rep (n r : E)
  | lnil | lcons (r l : E) | rnil | rcons (e r : E)
  | mx (a b : E) | mn (a b : E)
  deriving DecidableEq, Inhabited

def arith (op : BinOp) (k : IntKind) (a b : Int) : Int :=
  match op with
  | .add => k.wrap (a + b) | .sub => k.wrap (a - b) | .mul => k.wrap (a * b) | .quo => k.wrap (a.tdiv b) | .rem => a.tmod b | _ => 0
def cmpB (op : BinOp) (a b : Int) : Bool :=
  match op with
  | .eql => a == b | .neq => a != b | .lss => decide (a < b) | .leq => decide (a ≤ b) | .gtr => decide (a > b) | .geq => decide (a ≥ b) | _ => false

def E.den (η : List U) : E → U
  | .var n => η.getD n default
  | .int n => .int n
  | .bool b => .bool b
  | .str s => .str ⟨s.toArray⟩
  | .nil => .lst []
  | .ar op k a b => .int (arith op k (a.den η).I (b.den η).I)
  | .cmp op a b => .bool (cmpB op (a.den η).I (b.den η).I)
  | .beq a b => .bool ((a.den η).B == (b.den η).B)
  | .not a => .bool (!(a.den η).B)
  | .and a b => .bool ((a.den η).B && (b.den η).B)
  | .conv k a => .int (k.wrap (a.den η).I)
  | .len a => .int ((a.den η).L.length : Int)
  | .nth a i j => (((a.den η).L.getD (i.den η).I.toNat []).getD j default)
  | .cat a b => .lst ((a.den η).L ++ (b.den η).L)
  | .set a i j v => .lst ((a.den η).L.modify (i.den η).I.toNat (fun r => r.set j (v.den η)))
  | .take a i => .lst ((a.den η).L.take (i.den η).I.toNat)
  | .drop a i => .lst ((a.den η).L.drop (i.den η).I.toNat)
  | .rep n r => .lst (List.replicate (n.den η).I.toNat (r.den η).R)
  | .lnil => .lst []
  | .lcons r l => .lst ((r.den η).R :: (l.den η).L)
  | .rnil => .lst [[]]
  | .rcons e r => .lst [e.den η :: (r.den η).R]
  | .mx a b => .int (if (b.den η).I > (a.den η).I then (b.den η).I else (a.den η).I)
  | .mn a b => .int (if (b.den η).I < (a.den η).I then (b.den η).I else (a.den η).I)

/-- all variables are below n -/
def E.sc (n : Nat) : E → Bool
  | .var m => Nat.blt m n
  | .int _ | .bool _ | .str _ | .nil | .lnil | .rnil => true
  | .ar _ _ a b | .cmp _ a b | .beq a b | .and a b | .nth a b _ | .cat a b | .take a b | .drop a b | .rep a b | .lcons a b | .rcons a b | .mx a b | .mn a b => a.sc n && b.sc n
  | .not a | .conv _ a | .len a => a.sc n
  | .set a b _ c => a.sc n && (b.sc n && c.sc n)

theorem E.den_ext {n : Nat} {η η' : List U} (h : ∀ i, i < n → η'.getD i default = η.getD i default) : ∀ e : E, e.sc n = true → e.den η' = e.den η
  | .var m, hs => by simp only [E.sc, Nat.blt_eq] at hs; simpa only [E.den] using h m hs
  | .int _, _ | .bool _, _ | .str _, _ | .nil, _ | .lnil, _ | .rnil, _ => rfl
  | .ar _ _ a b, hs | .cmp _ a b, hs | .beq a b, hs | .and a b, hs | .nth a b _, hs | .cat a b, hs | .take a b, hs | .drop a b, hs | .rep a b, hs
  | .lcons a b, hs | .rcons a b, hs | .mx a b, hs | .mn a b, hs => by
    simp only [E.sc, Bool.and_eq_true] at hs; simp only [E.den, E.den_ext h a hs.1, E.den_ext h b hs.2]
  | .not a, hs | .conv _ a, hs | .len a, hs => by simp only [E.sc] at hs; simp only [E.den, E.den_ext h a hs]
  | .set a b _ c, hs => by
    simp only [E.sc, Bool.and_eq_true] at hs; simp only [E.den, E.den_ext h a hs.1, E.den_ext h b hs.2.1, E.den_ext h c hs.2.2]

theorem E.den_app {n : Nat} {η ζ : List U} (hn : η.length = n) (e : E) (hs : e.sc n = true) : e.den (η ++ ζ) = e.den η :=
  E.den_ext (n := n) (fun i hi => by simp [List.getElem?_append_left (hn ▸ hi)]) e hs

/-- v reads as u in w; all blocks that are read satisfy R -/
inductive Rd (R : Nat → Prop) (w : World) : K → Value → U → Prop where
  | int (k n) : Rd R w (.int k) (.int k n) (.int n)
  | bool (b) : Rd R w .bool (.bool b) (.bool b)
  | str (s) : Rd R w .str (.string s) (.str s)
  | nil (e ks) : Rd R w (.lst e ks) (.slice none 0 0) (.lst [])
  | row (e ks) (a : Addr) (n cap : Nat) (us : List (List U)) (vs : Nat → Nat → Value) : (a.spot = none ∨ cap = 0) → us.length = n → n ≤ cap → cap ≤ maxLen →
      (∀ r ∈ us, r.length = ks.length) →
      (∀ i j, i < n → j < ks.length → R a.block) →
      (∀ i j, i < n → j < ks.length → w.cell? ⟨a.block, a.off + (i * ks.length + j), none⟩ = some (vs i j)) →
      (∀ i j, i < n → j < ks.length → Rd R w (ks.getD j default) (vs i j) ((us.getD i []).getD j default)) →
      Rd R w (.lst e ks) (.slice (some a) n cap) (.lst us)

theorem Rd.mono {R R' : Nat → Prop} {w w' : World} {k v u} (h : Rd R w k v u) (hR : ∀ b, R b → R' b) (hc : ∀ b, R b → w'.heap[b]? = w.heap[b]?) : Rd R' w' k v u := by
  induction h with
  | int => exact .int _ _
  | bool => exact .bool _
  | str => exact .str _
  | nil => exact .nil _ _
  | row e ks a n cap us vs h1 h2 h3 h4 h5 h6 h7 h8 ih =>
    exact .row e ks a n cap us vs h1 h2 h3 h4 h5 (fun i j hi hj => hR _ (h6 i j hi hj))
      (fun i j hi hj => by rw [World.cell?_of_block (a := ⟨a.block, a.off + (i * ks.length + j), none⟩) (hc _ (h6 i j hi hj))]; exact h7 i j hi hj) ih

/-- a slice that the call owns: a row of its own block -/
def Own (R : Nat → Prop) (w : World) (e : Nat) (ks : List K) (v : Value) (us : List (List U)) : Prop :=
  ∃ xs : List Value, w.ownsRow 0 e ks.length v us.length xs ∧ (∀ r ∈ us, r.length = ks.length) ∧
    ∀ i j, i < us.length → j < ks.length → ∃ x, xs[i * ks.length + j]? = some x ∧ Rd R w (ks.getD j default) x ((us.getD i []).getD j default)

/-- a leaf's symbolic value: plain (or read-only) data; an own row; the nil slice -/
inductive LV where
  | u (k : K) (e : E) | own (r : Nat) | nil
  deriving Inhabited
inductive TV where
  | leaf (l : LV) | agg (ls : List LV)
  deriving Inhabited
inductive SV where
  | dead | val (t : TV) | tup (ts : List TV)
  | ptr (b off : Nat) | eptr (ls : List LV) | rptr (r : Nat) (i : E) (off : Nat)
  | fn (f : Nat) (cs : List Nat)
  deriving Inhabited
structure Row where
  id : Nat
  e : Nat
  ks : List K
  c : E
  deriving Inhabited
structure PS where
  slots : List SV
  boxes : List (Nat × List LV)
  rows : List Row
  deriving Inhabited

/-- what is known of a type's number -/
inductive TK where
  | int (k : IntKind) | bool | str | slice (e : Nat) | struct (fs : List (Nat × Nat)) | ptr (e : Nat) | other
  deriving Inhabited
structure TI where
  size : Nat
  bytes : Nat
  agg : Bool
  ks : List K
  kind : TK
  deriving Inhabited
abbrev Tab := List (Nat × TI)
def Tab.get (T : Tab) (t : Nat) : Option TI := match T with
  | [] => none
  | (m, i) :: r => if Nat.beq m t then some i else Tab.get r t

/-- a function's parameters and results, as the engine hands them -/
inductive PK where
  | val (agg : Bool) (ks : List K) | box (ks : List K) | fn (f n : Nat) | ro (ks : List K)
  deriving Inhabited
structure Sig where
  params : List PK
  res : List (Bool × List K)
  deriving Inhabited
abbrev Sigs := List (Nat × Sig)
def Sigs.get (T : Sigs) (t : Nat) : Option Sig := match T with
  | [] => none
  | (m, i) :: r => if Nat.beq m t then some i else Sigs.get r t

/-- what has to hold: an expression's bool -/
abbrev Fact := E × Bool

inductive Ex where
  | norm | exit (id : Nat) | ret
  deriving DecidableEq, Inhabited
inductive Leaf where
  | st (x : Ex) (n : Nat) (σ : PS) | vals (lab : Nat) (es : List E) | res (es : List E)
  deriving Inhabited
inductive Prog where
  | leaf (l : Leaf) | stop | chk (n : Nat) (p : Prog) | guard (b : E) (t : Bool) (p : Prog) | call (f : Nat) (args : List E) (k : Nat) (p : Prog)
  | cond (b : E) (p q : Prog) | join (p c : Prog) | alt (q c : Prog) | loop (init : List E) (body c : Prog)
  deriving Inhabited
end Go.Proofs.YtibbceoibcnpcaaGreat.Eng
