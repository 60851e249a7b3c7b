/- The code as the logic sees it, and what each operation does to abstract values. -/
import Derived.Test.YtpmgmingjggegaaAlA
set_option linter.unusedVariables false
namespace Go.Proofs.Ytpmgmingjggegaa.AL
open Go

inductive Opd where
  | s (i : Nat)
  | r (k : Nat)
  | c (v : Value)
  | f (id : FuncId)

/-- The kinds of a plain cell, for '=='. -/
inductive PK where
  | i (k : IntKind)
  | b
  | s
  deriving DecidableEq

inductive AOp where
  | mv (x : Opd)
  | pick (c x y : Opd)
  | alloc (zero : List DV)
  | box (sz : Nat) (x : Opd)
  | build (zero : List DV) (parts : List (Nat × Nat × Opd))
  | bsl (own : Bool) (zero : List DV) (n : Nat) (parts : List (Nat × Opd))
  | load (sz : Nat) (agg : Bool) (x : Opd)
  | store (sz : Nat) (x v : Opd)
  | nil (x : Opd)
  | bin (op : BinOp) (x y : Opd)
  | beq (neq : Bool) (x y : Opd)
  | eqs (neq : Bool) (ks : List PK) (x y : Opd)
  | sln (neq : Bool) (x : Opd)
  | un (op : UnOp) (x : Opd)
  | cvi (k : IntKind) (x : Opd)
  | cvs (x : Opd)
  | b2s (x : Opd)
  | s2b (x : Opd)
  | mkf (f : FuncId) (caps : List Opd)
  | mks (zero : List DV) (bytes : Nat) (x y : Opd)
  | mkd (zero : List DV) (bytes : Nat) (x y : Opd)
  | slc (sz : Nat) (x : Opd) (lo hi mx : Option Opd)
  | sls (x : Opd) (lo hi : Option Opd)
  | fa (off : Nat) (x : Opd)
  | fd (off sz : Nat) (agg : Bool) (x : Opd)
  | ixs (sz : Nat) (x i : Opd)
  | ixa (n sz : Nat) (x i : Opd)
  | ixc (x i : Opd)
  | len (str : Bool) (x : Opd)
  | app (sz bytes : Nat) (x y : Opd)
  | mnx (max : Bool) (xs : List Opd)
  | ext (x : Opd) (i : Nat)
  | call (f : Opd) (args : List Opd)

/-- How an operation stands in a region. b: ordered with every other. p: it changes nothing; of the changes ahead of it in the text the last 'back' may come behind it, and of those behind it the first 'fwd' ahead of it. e: it may change something; ordered with every other such. -/
inductive Kd where
  | b
  | p (back fwd : Nat)
  | e

/-- An operation of a region, its guard (which result, and what it must be), and how it stands. -/
structure ROp where
  op : AOp
  g : Option (Nat × Bool)
  k : Kd

inductive ACode where
  | skip
  | ret
  | exit (id : Nat)
  | label (l : Nat)
  | seq (a b : ACode)
  | cond (x : Opd) (a b : ACode)
  | block (id : Nat) (a : ACode)
  | loop (a : ACode)
  | scope (a : ACode)
  | reg (draw : Bool) (ops : List ROp) (wr : List (Nat × Nat))
  | rng (f : Opd) (ps : List Nat) (assign body : ACode)

/-- The state beside the frame: the owned heap; for each loop over a function that runs around: the jump that a round has left. -/
structure St where
  H : AHeap
  p : List (Option Code)

abbrev K2 := AV → St → Prop

/-- What a loop's body does when it is called as 'yield': transforms what must hold behind into what must hold ahead. -/
abbrev YSpec := List AV → St → (Bool → St → Prop) → Prop

/-- A constant as an abstract value. -/
def cvSl : Option Addr → Nat → Nat → DV
  | none, 0, 0 => .sl 0 []
  | a, n, c => .lit (.slice a n c)
def cv1 : Value → DV
  | .slice a n c => cvSl a n c
  | .bool b => .lit (.bool b)
  | .int k n => .lit (.int k n)
  | .string s => .lit (.string s)
  | v => .lit v
def cv : Value → AV
  | .agg cs => .agg (cs.toList.map fun v => .d (cv1 v))
  | v => .d (cv1 v)

abbrev AV.int (k : IntKind) (n : Int) : AV := .d (.lit (.int k n))
abbrev AV.bool (b : Bool) : AV := .d (.lit (.bool b))
abbrev AV.str (s : ByteArray) : AV := .d (.lit (.string s))
abbrev DV.int (k : IntKind) (n : Int) : DV := .lit (.int k n)
abbrev DV.bool (b : Bool) : DV := .lit (.bool b)
abbrev DV.str (s : ByteArray) : DV := .lit (.string s)
abbrev AV.und : AV := .d (.lit undef)

def opd (s R : List AV) : Opd → AV
  | .s i => s.getD i .junk
  | .r k => R.getD k .junk
  | .c v => cv v
  | .f id => .fn id []

/-- May it lie in one cell? -/
def AV.isCell : AV → Bool
  | .d (.lit v) => v.oneCell'
  | .d (.sl _ _) => true
  | .os .. | .ep .. | .ip .. | .fn .. | .yl .. | .ts .. => true
  | _ => false

/-- A value's cells. -/
def AV.cells : AV → List AV
  | .agg cs => cs
  | x => [x]
def AV.storable : AV → Bool
  | .agg _ => true
  | x => x.isCell

/-- All of a row data? -/
def unD : List AV → Option (List DV)
  | [] => some []
  | .d x :: r => match unD r with
    | some l => some (x :: l)
    | none => none
  | _ :: _ => none
def unDs : List (List AV) → Option (List (List DV))
  | [] => some []
  | r :: rs => match unD r, unDs rs with
    | some l, some ls => some (l :: ls)
    | _, _ => none
def mkSl (sz : Nat) (rows : List (List AV)) : AV :=
  match unDs rows with
  | some ds => .d (.sl sz ds)
  | none => .ts sz rows

def setCells (sz : Nat) (r : List AV) (j : Nat) (cs : List AV) : List AV :=
  if j = 0 ∧ cs.length = sz then cs else r.take j ++ cs ++ r.drop (j + cs.length)

/-- Parts put into zero cells. -/
def fillA : List AV → List (Nat × List AV) → List AV
  | z, [] => z
  | z, (off, cs) :: rest => fillA (setCells z.length z off cs) rest

def aLoad (sz : Nat) (agg : Bool) (x : AV) (S : St) (K : K2) : Prop :=
  match x with
  | .ip n row j => j + sz ≤ n ∧ K (if agg then .agg (((row.drop j).take sz).map .d) else .d (row.getD j default)) S
  | .ep id g i j => match S.H[id]? with
    | some B => B.gen = g ∧ i < B.rows.length ∧ j + sz ≤ B.sz ∧
      K (if agg then .agg (((B.rows.getD i []).drop j).take sz) else (B.rows.getD i []).getD j .junk) S
    | none => False
  | _ => False

def aStore (sz : Nat) (x v : AV) (S : St) (K : K2) : Prop :=
  match x with
  | .ep id g i j => match S.H[id]? with
    | some B => B.gen = g ∧ i < B.rows.length ∧ j + sz ≤ B.sz ∧ v.cells.length = sz ∧ v.storable = true ∧
      K .und { S with H := S.H.set id { B with rows := B.rows.set i (setCells B.sz (B.rows.getD i []) j v.cells) } }
    | none => False
  | _ => False

def aFa (off : Nat) (x : AV) (S : St) (K : K2) : Prop :=
  match x with
  | .ep id g i j => match S.H[id]? with
    | some B => B.gen = g ∧ K (.ep id g i (j + off)) S
    | none => False
  | .ip n row j => K (.ip n row (j + off)) S
  | _ => False

def aFd (off sz : Nat) (agg : Bool) (x : AV) (S : St) (K : K2) : Prop :=
  match x with
  | .agg cs => off + sz ≤ cs.length ∧ K (if agg then .agg ((cs.drop off).take sz) else cs.getD off .junk) S
  | _ => False

def aIxs (sz : Nat) (x i : AV) (S : St) (K : K2) : Prop :=
  match i with
  | .d (.lit (.int _ n)) => match x with
    | .d (.sl z rows) => z = sz ∧ 0 ≤ n ∧ n < rows.length ∧ K (.ip z (rows.getD n.toNat []) 0) S
    | .os id g off m => match S.H[id]? with
      | some B => B.gen = g ∧ B.sz = sz ∧ 0 ≤ n ∧ n < m ∧ K (.ep id g (off + n.toNat) 0) S
      | none => False
    | _ => False
  | _ => False

def aIxa (n sz : Nat) (x i : AV) (S : St) (K : K2) : Prop :=
  match i with
  | .d (.lit (.int _ k)) => match x with
    | .ep id g r j => match S.H[id]? with
      | some B => B.gen = g ∧ 0 ≤ k ∧ k < n ∧ K (.ep id g r (j + k.toNat * sz)) S
      | none => False
    | .ip z row j => 0 ≤ k ∧ k < n ∧ K (.ip z row (j + k.toNat * sz)) S
    | _ => False
  | _ => False

def aIxc (x i : AV) (S : St) (K : K2) : Prop :=
  match x, i with
  | .d (.lit (.string s)), .d (.lit (.int _ n)) => 0 ≤ n ∧ n < s.size ∧ K (.int .u8 ((s.data.toList.getD n.toNat 0).toNat : Int)) S
  | _, _ => False

def aLen (str : Bool) (x : AV) (S : St) (K : K2) : Prop :=
  match x with
  | .d (.sl _ rows) => str = false ∧ K (.int .i64 rows.length) S
  | .ts _ rows => str = false ∧ K (.int .i64 rows.length) S
  | .os id g _ n => match S.H[id]? with
    | some B => B.gen = g ∧ str = false ∧ K (.int .i64 n) S
    | none => False
  | .d (.lit (.string s)) => str = true ∧ K (.int .i64 s.size) S
  | _ => False

/-- The rows that an append takes from its second argument. -/
def srcRows (sz : Nat) (y : AV) (S : St) : Option (List (List AV)) :=
  match y with
  | .d (.sl z rows) => if z = sz ∨ rows = [] then some (rows.map (·.map .d)) else none
  | .ts z rows => if z = sz then some rows else none
  | .os id g off n => match S.H[id]? with
    | some B => if B.gen = g ∧ B.sz = sz then some ((B.rows.drop off).take n) else none
    | none => none
  | .d (.lit (.string s)) => if sz = 1 then some (s.data.toList.map fun b => [.int .u8 (b.toNat : Int)]) else none
  | _ => none

def takeAll (n : Nat) (rows : List (List AV)) : List (List AV) := if n = rows.length then rows else rows.take n

def aApp (sz bytes : Nat) (x y : AV) (S : St) (K : K2) : Prop :=
  ∃ news, srcRows sz y S = some news ∧
  match x with
  | .d (.sl 0 []) => news.length * bytes ≤ 140737488355328 ∧ K (.os S.H.length 0 0 news.length) { S with H := S.H ++ [⟨sz, 0, news⟩] }
  | .os id g off n => match S.H[id]? with
    | some B => B.gen = g ∧ B.sz = sz ∧ (n + news.length) * bytes ≤ 140737488355328 ∧
      (if off = 0 then K (.os id (g + 1) 0 (n + news.length)) { S with H := S.H.set id ⟨sz, g + 1, takeAll n B.rows ++ news⟩ }
       else ∀ pre : List (List AV), K (.os id (g + 1) pre.length (n + news.length)) { S with H := S.H.set id ⟨sz, g + 1, pre ++ (B.rows.drop off).take n ++ news⟩ })
    | none => False
  | _ => False

def aMks (zero : List DV) (bytes : Nat) (x y : AV) (S : St) (K : K2) : Prop :=
  match x, y with
  | .d (.lit (.int _ l)), .d (.lit (.int _ c)) => l = c ∧ 0 ≤ l ∧ (bytes : Int) * l ≤ 281474976710656 ∧ l ≤ 9223372036854775807 ∧
      K (.os S.H.length 0 0 l.toNat) { S with H := S.H ++ [⟨zero.length, 0, List.replicate l.toNat (zero.map .d)⟩] }
  | _, _ => False

def aMkd (zero : List DV) (bytes : Nat) (x y : AV) (S : St) (K : K2) : Prop :=
  match x, y with
  | .d (.lit (.int _ l)), .d (.lit (.int _ c)) => l = c ∧ 0 ≤ l ∧ (bytes : Int) * l ≤ 281474976710656 ∧ l ≤ 9223372036854775807 ∧
      K (.d (.sl zero.length (List.replicate l.toNat zero))) S
  | _, _ => False

def optInt (d : Int) : Option AV → Option Int
  | none => some d
  | some (.d (.lit (.int _ n))) => some n
  | some _ => none

def aSlc (sz : Nat) (x : AV) (lo hi mx : Option AV) (S : St) (K : K2) : Prop :=
  match mx with
  | some (.d (.lit (.int _ m))) => m = 0 ∧ optInt 0 lo = some 0 ∧ optInt 0 hi = some 0 ∧ (match x with | .d (.sl _ _) => True | .os id g _ _ => (S.H[id]?).map (·.gen) = some g | .ts .. => True | _ => False) ∧ K (.d (.sl 0 [])) S
  | some _ => False
  | none => match x with
    | .d (.sl z rows) => (z = sz ∨ rows = []) ∧ ∃ l h, optInt 0 lo = some l ∧ optInt rows.length hi = some h ∧ 0 ≤ l ∧ l ≤ h ∧ h ≤ rows.length ∧
        K (.d (.sl z ((rows.take h.toNat).drop l.toNat))) S
    | .os id g off n => match S.H[id]? with
      | some B => B.gen = g ∧ B.sz = sz ∧ ∃ l h, optInt 0 lo = some l ∧ optInt n hi = some h ∧ 0 ≤ l ∧ l ≤ h ∧ h ≤ n ∧
          (if l < h ∨ l = 0 then K (.os id g (off + l.toNat) (h - l).toNat) S else K (.d (.sl sz [])) S)
      | none => False
    | _ => False

def aSls (x : AV) (lo hi : Option AV) (S : St) (K : K2) : Prop :=
  match x with
  | .d (.lit (.string s)) => ∃ l h, optInt 0 lo = some l ∧ optInt s.size hi = some h ∧ 0 ≤ l ∧ l ≤ h ∧ h ≤ s.size ∧ K (.str (s.extract l.toNat h.toNat)) S
  | _ => False

def intBin (op : BinOp) (k : IntKind) (a b : Int) (K : AV → Prop) : Prop :=
  match op with
  | .add => K (.int k (k.wrap (a + b)))
  | .sub => K (.int k (k.wrap (a - b)))
  | .mul => K (.int k (k.wrap (a * b)))
  | .quo => b ≠ 0 ∧ K (.int k (k.wrap (a.tdiv b)))
  | .rem => b ≠ 0 ∧ K (.int k (a.tmod b))
  | .and => K (.int k (k.wrap ((BitVec.ofInt k.bits a &&& BitVec.ofInt k.bits b).toNat : Int)))
  | .or => K (.int k (k.wrap ((BitVec.ofInt k.bits a ||| BitVec.ofInt k.bits b).toNat : Int)))
  | .xor => K (.int k (k.wrap ((BitVec.ofInt k.bits a ^^^ BitVec.ofInt k.bits b).toNat : Int)))
  | .eql => K (.bool (a == b))
  | .neq => K (.bool (a != b))
  | .lss => K (.bool (decide (a < b)))
  | .leq => K (.bool (decide (a ≤ b)))
  | .gtr => K (.bool (decide (a > b)))
  | .geq => K (.bool (decide (a ≥ b)))
  | _ => False

def strBin (op : BinOp) (a b : ByteArray) (K : AV → Prop) : Prop :=
  match op with
  | .add => (a.size : Int) + b.size ≤ 9223372036854775807 ∧ K (.str (a ++ b))
  | .eql => K (.bool (a.toList == b.toList))
  | .neq => K (.bool (!(a.toList == b.toList)))
  | .lss => K (.bool (Op.bytesLess a.toList b.toList))
  | .leq => K (.bool (Op.bytesLess a.toList b.toList || a.toList == b.toList))
  | .gtr => K (.bool (!(Op.bytesLess a.toList b.toList || a.toList == b.toList)))
  | .geq => K (.bool (!Op.bytesLess a.toList b.toList))
  | _ => False

def aBin (op : BinOp) (x y : AV) (S : St) (K : K2) : Prop :=
  match x, y with
  | .d (.lit (.int k a)), .d (.lit (.int k' b)) => match op with
    | .shl => 0 ≤ b ∧ K (.int k (k.wrap (a * 2 ^ (min b.toNat k.bits)))) S
    | .shr => 0 ≤ b ∧ K (.int k (a.fdiv (2 ^ (min b.toNat k.bits)))) S
    | op => k = k' ∧ intBin op k a b fun r => K r S
  | .d (.lit (.string a)), .d (.lit (.string b)) => strBin op a b fun r => K r S
  | _, _ => False

def aBeq (neq : Bool) (x y : AV) (S : St) (K : K2) : Prop :=
  match x, y with
  | .d (.lit (.bool a)), .d (.lit (.bool b)) => K (.bool (if neq then !(a == b) else a == b)) S
  | _, _ => False

def fitPK : List PK → List AV → Bool
  | [], [] => true
  | .i k :: ks, .d (.lit (.int k' _)) :: xs => k == k' && fitPK ks xs
  | .b :: ks, .d (.lit (.bool _)) :: xs => fitPK ks xs
  | .s :: ks, .d (.lit (.string _)) :: xs => fitPK ks xs
  | _, _ => false

def eqCell : AV → AV → Bool
  | .d (.lit (.int _ a)), .d (.lit (.int _ b)) => a == b
  | .d (.lit (.bool a)), .d (.lit (.bool b)) => a == b
  | .d (.lit (.string a)), .d (.lit (.string b)) => a == b
  | _, _ => false
def eqCells : List AV → List AV → Bool
  | x :: xs, y :: ys => eqCell x y && eqCells xs ys
  | [], [] => true
  | _, _ => false

def aEqs (neq : Bool) (ks : List PK) (x y : AV) (S : St) (K : K2) : Prop :=
  match x, y with
  | .agg xs, .agg ys => fitPK ks xs = true ∧ fitPK ks ys = true ∧ K (.bool (if neq then !(eqCells xs ys) else eqCells xs ys)) S
  | _, _ => False

/-- A slice held against nil: one that has something is none. -/
def aSln (neq : Bool) (x : AV) (S : St) (K : K2) : Prop :=
  match x with
  | .d (.sl _ rows) => ∀ b : Bool, (b = true → rows = []) → K (.bool (if neq then !b else b)) S
  | .ts _ rows => ∀ b : Bool, (b = true → rows = []) → K (.bool (if neq then !b else b)) S
  | _ => False

def aUn (op : UnOp) (x : AV) (S : St) (K : K2) : Prop :=
  match op, x with
  | .not, .d (.lit (.bool b)) => K (.bool (!b)) S
  | .neg, .d (.lit (.int k n)) => K (.int k (k.wrap (0 - n))) S
  | .xor, .d (.lit (.int k n)) => K (.int k (k.wrap ((BitVec.ofInt k.bits (if k.signed then -1 else k.max) ^^^ BitVec.ofInt k.bits n).toNat : Int))) S
  | _, _ => False

def aCvi (k : IntKind) (x : AV) (S : St) (K : K2) : Prop :=
  match x with
  | .d (.lit (.int _ n)) => K (.int k (k.wrap n)) S
  | _ => False
def aCvs (x : AV) (S : St) (K : K2) : Prop :=
  match x with
  | .d (.lit (.string s)) => K (.str s) S
  | _ => False

/-- The bytes of a row of one-cell rows. -/
def bytesOf : List (List AV) → Option (List UInt8)
  | [] => some []
  | [.d (.lit (.int .u8 n))] :: r => match bytesOf r with
    | some l => some (UInt8.ofNat n.toNat :: l)
    | none => none
  | _ :: _ => none
def aB2s (x : AV) (S : St) (K : K2) : Prop :=
  ∃ rows bs, srcRows 1 x S = some rows ∧ bytesOf rows = some bs ∧ (match x with | .d (.lit _) => False | _ => True) ∧ K (.str ⟨bs.toArray⟩) S
def aS2b (x : AV) (S : St) (K : K2) : Prop :=
  match x with
  | .d (.lit (.string s)) => K (.os S.H.length 0 0 s.size) { S with H := S.H ++ [⟨1, 0, s.data.toList.map fun b => [.int .u8 (b.toNat : Int)]⟩] }
  | _ => False

def aNil (x : AV) (S : St) (K : K2) : Prop :=
  match x with
  | .ep id g i j => match S.H[id]? with
    | some B => B.gen = g ∧ K x S
    | none => False
  | .ip .. | .fn .. => K x S
  | _ => False

def aPick (c x y : AV) (S : St) (K : K2) : Prop :=
  match c with
  | .d (.lit (.bool b)) => (b = true → K x S) ∧ (b = false → K y S)
  | _ => False

def aExt (x : AV) (i : Nat) (S : St) (K : K2) : Prop :=
  match x with
  | .tup vs => i < vs.length ∧ K (vs.getD i .junk) S
  | _ => False

def mn2 (mx : Bool) : AV → AV → Option AV
  | .d (.lit (.int k a)), .d (.lit (.int k' b)) => if k = k' then some (.int k (if mx then max a b else min a b)) else none
  | _, _ => none
def mnFold (mx : Bool) : AV → List AV → Option AV
  | x, [] => some x
  | x, y :: r => match mn2 mx x y with
    | some z => mnFold mx z r
    | none => none
def aMnx (mx : Bool) (xs : List AV) (S : St) (K : K2) : Prop :=
  match xs with
  | x :: r => ∃ z, mnFold mx x r = some z ∧ K z S
  | [] => False

def aBuild (zero : List DV) (parts : List (Nat × Nat × AV)) (S : St) (K : K2) : Prop :=
  (∀ q ∈ parts, q.2.2.cells.length = q.2.1 ∧ q.2.2.storable = true ∧ q.1 + q.2.1 ≤ zero.length) ∧ K (.agg (fillA (zero.map .d) (parts.map fun q => (q.1, q.2.2.cells)))) S

def fillRows (z : List AV) : List (List AV) → List (Nat × List AV) → List (List AV)
  | rows, [] => rows
  | rows, (i, cs) :: rest => fillRows z (rows.set i cs) rest
def aBsl (own : Bool) (zero : List DV) (n : Nat) (parts : List (Nat × AV)) (S : St) (K : K2) : Prop :=
  (∀ q ∈ parts, q.2.cells.length = zero.length ∧ q.2.storable = true ∧ q.1 < n) ∧
  (if own then K (.os S.H.length 0 0 n) { S with H := S.H ++ [⟨zero.length, 0, fillRows (zero.map .d) (List.replicate n (zero.map .d)) (parts.map fun q => (q.1, q.2.cells))⟩] }
   else if n = 0 then K (.d (.sl 0 [])) S
   else K (mkSl zero.length (fillRows (zero.map .d) (List.replicate n (zero.map .d)) (parts.map fun q => (q.1, q.2.cells)))) S)

end Go.Proofs.Ytpmgmingjggegaa.AL
