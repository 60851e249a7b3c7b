/- The translation from the machine's code to the logic's, and one operation's meaning as a whole. -/
import Derived.Test.YtpmgmingjggegaaAlK
set_option linter.unusedVariables false
set_option linter.unusedSimpArgs false
namespace Go.Proofs.Ytpmgmingjggegaa.AL
open Go

def constOk : Value → Bool
  | .agg cs => cs.toList.all (·.oneCell')
  | _ => true

def compOpd (ds : List (Option Nat)) (κ : List Nat) : Operand → Option Opd
  | .tmp t => match ds.idxOf? (some t) with
    | some k => some (.r k)
    | none => (κ.idxOf? t).map .s
  | .const v => if constOk v then some (.c v) else none
  | .func f => some (.f f)
  | .global _ => none

def compOpds (ds : List (Option Nat)) (κ : List Nat) : List Operand → Option (List Opd)
  | [] => some []
  | x :: xs => match compOpd ds κ x, compOpds ds κ xs with
    | some y, some ys => some (y :: ys)
    | _, _ => none

def compOpt (ds : List (Option Nat)) (κ : List Nat) : Option Operand → Option (Option Opd)
  | none => some none
  | some x => (compOpd ds κ x).map some

/-- The zero cells of a type. -/
def zeroOf (P : Program) (t : TypeId) : Option (List DV) :=
  match P.info? t with
  | some i => match i.zero with
    | some z => if z.cells.size == i.size && 0 < i.size && z.cells.toList.all (·.oneCell') then some (z.cells.toList.map cv1) else none
    | none => none
  | none => none

def aggOf (P : Program) (t : TypeId) : Option Bool := (P.underlying t).map TypeDesc.agg
def sizeOf? (P : Program) (t : TypeId) : Option Nat := (P.info? t).map (·.size)

/-- A struct's places: where each field lies, and how great it is. -/
def placesOf (P : Program) (t : TypeId) : Option (List (Nat × Nat)) :=
  match P.underlying t with
  | some (.struct fields) => fields.toList.mapM (fun f => (P.info? f.type).map fun i => (f.offset, i.size))
  | _ => none

def compParts (ds : List (Option Nat)) (κ : List Nat) (places : List (Nat × Nat)) : List (Nat × Operand) → Option (List (Nat × Nat × Opd))
  | [] => some []
  | (i, x) :: r => match places[i]?, compOpd ds κ x, compParts ds κ places r with
    | some p, some y, some ys => some ((p.1, p.2, y) :: ys)
    | _, _, _ => none
def compEls (ds : List (Option Nat)) (κ : List Nat) : List (Nat × Operand) → Option (List (Nat × Opd))
  | [] => some []
  | (i, x) :: r => match compOpd ds κ x, compEls ds κ r with
    | some y, some ys => some ((i, y) :: ys)
    | _, _ => none

def isNilSlice : Operand → Bool
  | .const (.slice none 0 0) => true
  | _ => false

def compBin (P : Program) (ds : List (Option Nat)) (κ : List Nat) (op : BinOp) (t : TypeId) (x y : Operand) : Option AOp :=
  match compOpd ds κ x, compOpd ds κ y with
  | some x', some y' => match P.underlying t with
    | some (.int _) => some (.bin op x' y')
    | some .string => some (.bin op x' y')
    | some .bool => match op with
      | .eql => some (.beq false x' y')
      | .neq => some (.beq true x' y')
      | _ => none
    | some (.slice _) => if isNilSlice y then match op with
      | .eql => some (.sln false x')
      | .neq => some (.sln true x')
      | _ => none
      else none
    | some (.struct _) => match pkOf P 20 t with
      | some ks => if P.eqGuardType P.depth t then none else match op with
        | .eql => some (.eqs false ks x' y')
        | .neq => some (.eqs true ks x' y')
        | _ => none
      | none => none
    | _ => none
  | _, _ => none

def srcOk (P : Program) (t : TypeId) : Bool :=
  match P.underlying t with
  | some (.slice _) => true
  | some .string => true
  | _ => false
theorem srcOk_spec {P : Program} {t : TypeId} (h : srcOk P t = true) : (∃ e, P.underlying t = some (.slice e)) ∨ P.underlying t = some .string := by
  unfold srcOk at h
  split at h
  · rename_i e he; exact .inl ⟨e, he⟩
  · rename_i he; exact .inr he
  · cases h

def compBuiltin (P : Program) (ds : List (Option Nat)) (κ : List Nat) (b : Builtin) (args : List Operand) (ts : List TypeId) : Option AOp :=
  match b, args, ts with
  | .len, [x], [t] => match compOpd ds κ x, P.underlying t with
    | some x', some (.slice _) => some (.len false x')
    | some x', some .string => some (.len true x')
    | _, _ => none
  | .append, [x, y], [t, tx] => match compOpd ds κ x, compOpd ds κ y, P.underlying t with
    | some x', some y', some (.slice e) => match P.info? e, zeroOf P e with
      | some i, some _ => if 0 < i.bytes && srcOk P tx then some (.app i.size i.bytes x' y') else none
      | _, _ => none
    | _, _, _ => none
  | .min, xs, _ => (compOpds ds κ xs).map (.mnx false)
  | .max, xs, _ => (compOpds ds κ xs).map (.mnx true)
  | _, _, _ => none

def compOp (P : Program) (own : Bool) (ds : List (Option Nat)) (κ : List Nat) (o : Oper) : Option AOp :=
  match o.op with
  | .move x => (compOpd ds κ x).map .mv
  | .assign x => (compOpd ds κ x).map .mv
  | .pick c a b => match compOpd ds κ c, compOpd ds κ a, compOpd ds κ b with
    | some c, some a, some b => some (.pick c a b)
    | _, _, _ => none
  | .alloc e => (zeroOf P e).map .alloc
  | .box e x => match compOpd ds κ x, sizeOf? P e with
    | some x, some n => if 0 < n then some (.box n x) else none
    | _, _ => none
  | .build t parts => match placesOf P t, zeroOf P t with
    | some pl, some z => (compParts ds κ pl parts.toList).map (.build z)
    | _, _ => none
  | .buildSlice t n parts => match P.underlying t with
    | some (.slice e) => match zeroOf P e, compEls ds κ parts.toList with
      | some z, some ps => if n * z.length ≤ 16777216 then some (.bsl own z n ps) else none
      | _, _ => none
    | _ => none
  | .load t a => match compOpd ds κ a, aggOf P t, sizeOf? P t with
    | some a, some g, some n => if g || n == 1 then some (.load n g a) else none
    | _, _, _ => none
  | .store t a v => match compOpd ds κ a, compOpd ds κ v, aggOf P t, sizeOf? P t with
    | some a, some v, some _, some n => some (.store n a v)
    | _, _, _, _ => none
  | .nilCheck x => (compOpd ds κ x).map .nil
  | .binOp op t x y _ => compBin P ds κ op t x y
  | .unOp op _ x => (compOpd ds κ x).map (.un op)
  | .convert s t x => match compOpd ds κ x, P.underlying s, P.underlying t with
    | some x, some _, some (.int k) => some (.cvi k x)
    | some x, some .string, some .string => some (.cvs x)
    | _, _, _ => none
  | .makeFunc (.func f) first caps => if first.isEmpty then (compOpds ds κ caps.toList).map (.mkf f) else none
  | .makeSlice t l c => match P.underlying t with
    | some (.slice e) => match zeroOf P e, P.info? e, compOpd ds κ l, compOpd ds κ c with
      | some z, some i, some l, some c => some (if own then .mkd z i.bytes l c else .mks z i.bytes l c)
      | _, _, _, _ => none
    | _ => none
  | .slice t x lo hi mx => match P.underlying t, compOpd ds κ x, compOpt ds κ lo, compOpt ds κ hi, compOpt ds κ mx with
    | some (.slice e), some x, some lo, some hi, some mx => match sizeOf? P e with
      | some n => if 0 < n && (mx.isNone || hi.isSome) then some (.slc n x lo hi mx) else none
      | none => none
    | some .string, some x, some lo, some hi, some none => some (.sls x lo hi)
    | _, _, _, _, _ => none
  | .fieldAddr s x f => match P.underlying s, compOpd ds κ x with
    | some (.struct fields), some x => match fields[f]? with
      | some fd => match sizeOf? P fd.type with
        | some n => if n = 0 then none else some (.fa fd.offset x)
        | none => none
      | none => none
    | _, _ => none
  | .field s x f => match P.underlying s, compOpd ds κ x with
    | some (.struct fields), some x => match fields[f]? with
      | some fd => match aggOf P fd.type, sizeOf? P fd.type with
        | some g, some n => if g || n == 1 then some (.fd fd.offset n g x) else none
        | _, _ => none
      | none => none
    | _, _ => none
  | .indexAddr t x i => match P.underlying t, compOpd ds κ x, compOpd ds κ i with
    | some (.slice e), some x, some i => (sizeOf? P e).map fun n => .ixs n x i
    | some (.array m e), some x, some i => (sizeOf? P e).map fun n => .ixa m n x i
    | _, _, _ => none
  | .index t x i => match P.underlying t, compOpd ds κ x, compOpd ds κ i with
    | some .string, some x, some i => some (.ixc x i)
    | _, _, _ => none
  | .extract x i => (compOpd ds κ x).map (.ext · i)
  | .call { callee := .builtin b, args, argTypes } => compBuiltin P ds κ b args.toList argTypes.toList
  | .call { callee := .value f, args, .. } => match compOpd ds κ f, compOpds ds κ args.toList with
    | some f, some xs => some (.call f xs)
    | _, _ => none
  | _ => none

end Go.Proofs.Ytpmgmingjggegaa.AL
