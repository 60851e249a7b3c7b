/- A machine for the logic: runs translated code on abstract values, where these are known. -/
import Derived.Test.YtpmgmingjggegaaAlW
set_option linter.unusedVariables false
set_option linter.unusedSimpArgs false
namespace Go.Proofs.Ytpmgmingjggegaa.AL
open Go

abbrev XR := Option (AV × St)

def xLoad (sz : Nat) (agg : Bool) (x : AV) (S : St) : XR :=
  match x with
  | .ip n row j => if j + sz ≤ n then some (if agg then .agg (((row.drop j).take sz).map .d) else .d (row.getD j default), S) else none
  | .ep id g i j => match S.H[id]? with
    | some B => if B.gen = g ∧ i < B.rows.length ∧ j + sz ≤ B.sz then some (if agg then .agg (((B.rows.getD i []).drop j).take sz) else (B.rows.getD i []).getD j .junk, S) else none
    | none => none
  | _ => none

def xStore (sz : Nat) (x v : AV) (S : St) : XR :=
  match x with
  | .ep id g i j => match S.H[id]? with
    | some B => if B.gen = g ∧ i < B.rows.length ∧ j + sz ≤ B.sz ∧ v.cells.length = sz ∧ v.storable = true then
        some (.und, { S with H := S.H.set id { B with rows := B.rows.set i (setCells B.sz (B.rows.getD i []) j v.cells) } }) else none
    | none => none
  | _ => none

def xFa (off : Nat) (x : AV) (S : St) : XR :=
  match x with
  | .ep id g i j => match S.H[id]? with
    | some B => if B.gen = g then some (.ep id g i (j + off), S) else none
    | none => none
  | .ip n row j => some (.ip n row (j + off), S)
  | _ => none

def xFd (off sz : Nat) (agg : Bool) (x : AV) (S : St) : XR :=
  match x with
  | .agg cs => if off + sz ≤ cs.length then some (if agg then .agg ((cs.drop off).take sz) else cs.getD off .junk, S) else none
  | _ => none

def xIxs (sz : Nat) (x i : AV) (S : St) : XR :=
  match i with
  | .d (.lit (.int _ n)) => match x with
    | .d (.sl z rows) => if z = sz ∧ 0 ≤ n ∧ n < rows.length then some (.ip z (rows.getD n.toNat []) 0, S) else none
    | .os id g off m => match S.H[id]? with
      | some B => if B.gen = g ∧ B.sz = sz ∧ 0 ≤ n ∧ n < m then some (.ep id g (off + n.toNat) 0, S) else none
      | none => none
    | _ => none
  | _ => none

def xIxa (n sz : Nat) (x i : AV) (S : St) : XR :=
  match i with
  | .d (.lit (.int _ k)) => match x with
    | .ep id g r j => match S.H[id]? with
      | some B => if B.gen = g ∧ 0 ≤ k ∧ k < n then some (.ep id g r (j + k.toNat * sz), S) else none
      | none => none
    | .ip z row j => if 0 ≤ k ∧ k < n then some (.ip z row (j + k.toNat * sz), S) else none
    | _ => none
  | _ => none

def xIxc (x i : AV) (S : St) : XR :=
  match x, i with
  | .d (.lit (.string s)), .d (.lit (.int _ n)) => if 0 ≤ n ∧ n < s.size then some (.int .u8 ((s.data.toList.getD n.toNat 0).toNat : Int), S) else none
  | _, _ => none

def xLen (str : Bool) (x : AV) (S : St) : XR :=
  match x with
  | .d (.sl _ rows) => if str = false then some (.int .i64 rows.length, S) else none
  | .ts _ rows => if str = false then some (.int .i64 rows.length, S) else none
  | .os id g _ n => match S.H[id]? with
    | some B => if B.gen = g ∧ str = false then some (.int .i64 n, S) else none
    | none => none
  | .d (.lit (.string s)) => if str = true then some (.int .i64 s.size, S) else none
  | _ => none

def xApp (sz bytes : Nat) (x y : AV) (S : St) : XR :=
  match srcRows sz y S with
  | none => none
  | some news => match x with
    | .d (.sl 0 []) => if news.length * bytes ≤ 140737488355328 then some (.os S.H.length 0 0 news.length, { S with H := S.H ++ [⟨sz, 0, news⟩] }) else none
    | .os id g 0 n => match S.H[id]? with
      | some B => if B.gen = g ∧ B.sz = sz ∧ (n + news.length) * bytes ≤ 140737488355328 then
          some (.os id (g + 1) 0 (n + news.length), { S with H := S.H.set id ⟨sz, g + 1, takeAll n B.rows ++ news⟩ }) else none
      | none => none
    | _ => none

def xMks (zero : List DV) (bytes : Nat) (x y : AV) (S : St) : XR :=
  match x, y with
  | .d (.lit (.int _ l)), .d (.lit (.int _ c)) => if l = c ∧ 0 ≤ l ∧ (bytes : Int) * l ≤ 281474976710656 ∧ l ≤ 9223372036854775807 then
      some (.os S.H.length 0 0 l.toNat, { S with H := S.H ++ [⟨zero.length, 0, List.replicate l.toNat (zero.map .d)⟩] }) else none
  | _, _ => none

def xMkd (zero : List DV) (bytes : Nat) (x y : AV) (S : St) : XR :=
  match x, y with
  | .d (.lit (.int _ l)), .d (.lit (.int _ c)) => if l = c ∧ 0 ≤ l ∧ (bytes : Int) * l ≤ 281474976710656 ∧ l ≤ 9223372036854775807 then
      some (.d (.sl zero.length (List.replicate l.toNat zero)), S) else none
  | _, _ => none

def xSlc (sz : Nat) (x : AV) (lo hi mx : Option AV) (S : St) : XR :=
  match mx with
  | some _ => none
  | none => match x with
    | .d (.sl z rows) => match optInt 0 lo, optInt rows.length hi with
      | some l, some h => if (z = sz ∨ rows = []) ∧ 0 ≤ l ∧ l ≤ h ∧ h ≤ rows.length then some (.d (.sl z ((rows.take h.toNat).drop l.toNat)), S) else none
      | _, _ => none
    | .os id g off n => match S.H[id]?, optInt 0 lo, optInt n hi with
      | some B, some l, some h => if B.gen = g ∧ B.sz = sz ∧ 0 ≤ l ∧ l ≤ h ∧ h ≤ n then some (if l < h ∨ l = 0 then .os id g (off + l.toNat) (h - l).toNat else .d (.sl sz []), S) else none
      | _, _, _ => none
    | _ => none

def xSls (x : AV) (lo hi : Option AV) (S : St) : XR :=
  match x with
  | .d (.lit (.string s)) => match optInt 0 lo, optInt s.size hi with
    | some l, some h => if 0 ≤ l ∧ l ≤ h ∧ h ≤ s.size then some (.str (s.extract l.toNat h.toNat), S) else none
    | _, _ => none
  | _ => none

def xInt (op : BinOp) (k : IntKind) (a b : Int) : Option AV :=
  match op with
  | .add => some (.int k (k.wrap (a + b)))
  | .sub => some (.int k (k.wrap (a - b)))
  | .mul => some (.int k (k.wrap (a * b)))
  | .quo => if b ≠ 0 then some (.int k (k.wrap (a.tdiv b))) else none
  | .rem => if b ≠ 0 then some (.int k (a.tmod b)) else none
  | .and => some (.int k (k.wrap ((BitVec.ofInt k.bits a &&& BitVec.ofInt k.bits b).toNat : Int)))
  | .or => some (.int k (k.wrap ((BitVec.ofInt k.bits a ||| BitVec.ofInt k.bits b).toNat : Int)))
  | .xor => some (.int k (k.wrap ((BitVec.ofInt k.bits a ^^^ BitVec.ofInt k.bits b).toNat : Int)))
  | .eql => some (.bool (a == b))
  | .neq => some (.bool (a != b))
  | .lss => some (.bool (decide (a < b)))
  | .leq => some (.bool (decide (a ≤ b)))
  | .gtr => some (.bool (decide (a > b)))
  | .geq => some (.bool (decide (a ≥ b)))
  | _ => none

def xStr (op : BinOp) (a b : ByteArray) : Option AV :=
  match op with
  | .add => if (a.size : Int) + b.size ≤ 9223372036854775807 then some (.str (a ++ b)) else none
  | .eql => some (.bool (a.toList == b.toList))
  | .neq => some (.bool (!(a.toList == b.toList)))
  | .lss => some (.bool (Op.bytesLess a.toList b.toList))
  | .leq => some (.bool (Op.bytesLess a.toList b.toList || a.toList == b.toList))
  | .gtr => some (.bool (!(Op.bytesLess a.toList b.toList || a.toList == b.toList)))
  | .geq => some (.bool (!Op.bytesLess a.toList b.toList))
  | _ => none

def xBin (op : BinOp) (x y : AV) (S : St) : XR :=
  match x, y with
  | .d (.lit (.int k a)), .d (.lit (.int k' b)) => match op with
    | .shl => if 0 ≤ b then some (.int k (k.wrap (a * 2 ^ (min b.toNat k.bits))), S) else none
    | .shr => if 0 ≤ b then some (.int k (a.fdiv (2 ^ (min b.toNat k.bits))), S) else none
    | op => if k = k' then (xInt op k a b).map fun r => (r, S) else none
  | .d (.lit (.string a)), .d (.lit (.string b)) => (xStr op a b).map fun r => (r, S)
  | _, _ => none

def xBeq (neq : Bool) (x y : AV) (S : St) : XR :=
  match x, y with
  | .d (.lit (.bool a)), .d (.lit (.bool b)) => some (.bool (if neq then !(a == b) else a == b), S)
  | _, _ => none

def xEqs (neq : Bool) (ks : List PK) (x y : AV) (S : St) : XR :=
  match x, y with
  | .agg xs, .agg ys => if fitPK ks xs = true ∧ fitPK ks ys = true then some (.bool (if neq then !(eqCells xs ys) else eqCells xs ys), S) else none
  | _, _ => none

def xSln (neq : Bool) (x : AV) (S : St) : XR :=
  match x with
  | .d (.sl _ (_ :: _)) => some (.bool neq, S)
  | .ts _ (_ :: _) => some (.bool neq, S)
  | _ => none

def xUn (op : UnOp) (x : AV) (S : St) : XR :=
  match op, x with
  | .not, .d (.lit (.bool b)) => some (.bool (!b), S)
  | .neg, .d (.lit (.int k n)) => some (.int k (k.wrap (0 - n)), S)
  | .xor, .d (.lit (.int k n)) => some (.int k (k.wrap ((BitVec.ofInt k.bits (if k.signed then -1 else k.max) ^^^ BitVec.ofInt k.bits n).toNat : Int)), S)
  | _, _ => none

def xCvi (k : IntKind) (x : AV) (S : St) : XR :=
  match x with
  | .d (.lit (.int _ n)) => some (.int k (k.wrap n), S)
  | _ => none
def xCvs (x : AV) (S : St) : XR :=
  match x with
  | .d (.lit (.string s)) => some (.str s, S)
  | _ => none

def xNil (x : AV) (S : St) : XR :=
  match x with
  | .ep id g i j => match S.H[id]? with
    | some B => if B.gen = g then some (.ep id g i j, S) else none
    | none => none
  | .ip a b c => some (.ip a b c, S)
  | .fn a b => some (.fn a b, S)
  | _ => none

def xPick (c x y : AV) (S : St) : XR :=
  match c with
  | .d (.lit (.bool b)) => some (if b then x else y, S)
  | _ => none

def xExt (x : AV) (i : Nat) (S : St) : XR :=
  match x with
  | .tup vs => if i < vs.length then some (vs.getD i .junk, S) else none
  | _ => none

def xMnx (mx : Bool) (xs : List AV) (S : St) : XR :=
  match xs with
  | x :: r => (mnFold mx x r).map fun z => (z, S)
  | [] => none

def xBuild (zero : List DV) (parts : List (Nat × Nat × AV)) (S : St) : XR :=
  if (parts.all fun q => q.2.2.cells.length == q.2.1 && q.2.2.storable && decide (q.1 + q.2.1 ≤ zero.length)) then some (.agg (fillA (zero.map .d) (parts.map fun q => (q.1, q.2.2.cells))), S) else none

def xBsl (own : Bool) (zero : List DV) (n : Nat) (parts : List (Nat × AV)) (S : St) : XR :=
  if (parts.all fun q => q.2.cells.length == zero.length && q.2.storable && decide (q.1 < n)) then
    some (if own then (.os S.H.length 0 0 n, { S with H := S.H ++ [⟨zero.length, 0, fillRows (zero.map .d) (List.replicate n (zero.map .d)) (parts.map fun q => (q.1, q.2.cells))⟩] })
      else if n = 0 then (.d (.sl 0 []), S)
      else (mkSl zero.length (fillRows (zero.map .d) (List.replicate n (zero.map .d)) (parts.map fun q => (q.1, q.2.cells))), S))
  else none

section
variable {S S' : St} {r : AV} {K : K2}
theorem xLoad_ok {sz : Nat} {agg : Bool} {x : AV} (h : xLoad sz agg x S = some (r, S')) (hK : K r S') : aLoad sz agg x S K := by
  unfold xLoad at h; unfold aLoad; ((repeat' split at h) <;> simp_all)
theorem xStore_ok {sz : Nat} {x v : AV} (h : xStore sz x v S = some (r, S')) (hK : K r S') : aStore sz x v S K := by
  unfold xStore at h; unfold aStore; ((repeat' split at h) <;> simp_all)
theorem xFa_ok {off : Nat} {x : AV} (h : xFa off x S = some (r, S')) (hK : K r S') : aFa off x S K := by
  unfold xFa at h; unfold aFa; ((repeat' split at h) <;> simp_all)
theorem xFd_ok {off sz : Nat} {agg : Bool} {x : AV} (h : xFd off sz agg x S = some (r, S')) (hK : K r S') : aFd off sz agg x S K := by
  unfold xFd at h; unfold aFd; ((repeat' split at h) <;> simp_all)
theorem xIxs_ok {sz : Nat} {x i : AV} (h : xIxs sz x i S = some (r, S')) (hK : K r S') : aIxs sz x i S K := by
  unfold xIxs at h; unfold aIxs; ((repeat' split at h) <;> simp_all)
theorem xIxa_ok {n sz : Nat} {x i : AV} (h : xIxa n sz x i S = some (r, S')) (hK : K r S') : aIxa n sz x i S K := by
  unfold xIxa at h; unfold aIxa; ((repeat' split at h) <;> simp_all)
theorem xIxc_ok {x i : AV} (h : xIxc x i S = some (r, S')) (hK : K r S') : aIxc x i S K := by
  unfold xIxc at h; unfold aIxc; ((repeat' split at h) <;> simp_all)
theorem xLen_ok {str : Bool} {x : AV} (h : xLen str x S = some (r, S')) (hK : K r S') : aLen str x S K := by
  unfold xLen at h; unfold aLen; ((repeat' split at h) <;> simp_all)
theorem xApp_ok {sz bytes : Nat} {x y : AV} (h : xApp sz bytes x y S = some (r, S')) (hK : K r S') : aApp sz bytes x y S K := by
  unfold xApp at h; unfold aApp; ((repeat' split at h) <;> simp_all)
theorem xMks_ok {zero : List DV} {bytes : Nat} {x y : AV} (h : xMks zero bytes x y S = some (r, S')) (hK : K r S') : aMks zero bytes x y S K := by
  unfold xMks at h; unfold aMks
  split at h
  · split at h
    · rename_i hc
      cases h
      exact ⟨hc.1, hc.2.1, hc.2.2.1, hc.2.2.2, hK⟩
    · cases h
  · cases h
theorem xMkd_ok {zero : List DV} {bytes : Nat} {x y : AV} (h : xMkd zero bytes x y S = some (r, S')) (hK : K r S') : aMkd zero bytes x y S K := by
  unfold xMkd at h; unfold aMkd
  split at h
  · split at h
    · rename_i hc
      cases h
      exact ⟨hc.1, hc.2.1, hc.2.2.1, hc.2.2.2, hK⟩
    · cases h
  · cases h
theorem xSlc_ok {sz : Nat} {x : AV} {lo hi mx : Option AV} (h : xSlc sz x lo hi mx S = some (r, S')) (hK : K r S') : aSlc sz x lo hi mx S K := by
  unfold xSlc at h; unfold aSlc
  split at h
  · cases h
  · split at h
    · split at h
      · rename_i l hh h1 h2
        split at h
        · rename_i hc
          cases h
          exact ⟨hc.1, l, hh, h1, h2, hc.2.1, hc.2.2.1, hc.2.2.2, hK⟩
        · cases h
      · cases h
    · split at h
      · rename_i B l hh h0 h1 h2
        split at h
        · rename_i hc
          cases h
          simp only [h0]
          refine ⟨hc.1, hc.2.1, l, hh, h1, h2, hc.2.2.1, hc.2.2.2.1, hc.2.2.2.2, ?_⟩
          split
          · rename_i e; rw [if_pos e] at hK; exact hK
          · rename_i e; rw [if_neg e] at hK; exact hK
        · cases h
      · cases h
    · cases h
theorem xSls_ok {x : AV} {lo hi : Option AV} (h : xSls x lo hi S = some (r, S')) (hK : K r S') : aSls x lo hi S K := by
  unfold xSls at h; unfold aSls; ((repeat' split at h) <;> simp_all)
theorem xInt_ok {op : BinOp} {k : IntKind} {a b : Int} {K : AV → Prop} (h : xInt op k a b = some r) (hK : K r) : intBin op k a b K := by
  unfold xInt at h; unfold intBin; ((repeat' split at h) <;> simp_all)
theorem xStr_ok {op : BinOp} {a b : ByteArray} {K : AV → Prop} (h : xStr op a b = some r) (hK : K r) : strBin op a b K := by
  unfold xStr at h; unfold strBin; ((repeat' split at h) <;> simp_all)
theorem xBin_ok {op : BinOp} {x y : AV} (h : xBin op x y S = some (r, S')) (hK : K r S') : aBin op x y S K := by
  unfold xBin at h; unfold aBin
  split at h
  · split at h
    · ((repeat' split at h) <;> simp_all)
    · ((repeat' split at h) <;> simp_all)
    · split at h
      · simp only [Option.map_eq_some_iff, Prod.mk.injEq] at h
        obtain ⟨r', h1, rfl, rfl⟩ := h
        have h2 := xInt_ok h1 (K := fun r => K r S) hK
        cases op <;> first | exact ⟨by assumption, h2⟩ | simp [xInt] at h1
      · cases h
  · simp only [Option.map_eq_some_iff, Prod.mk.injEq] at h
    obtain ⟨r', h1, rfl, rfl⟩ := h
    exact xStr_ok h1 hK
  · cases h
theorem xBeq_ok {neq : Bool} {x y : AV} (h : xBeq neq x y S = some (r, S')) (hK : K r S') : aBeq neq x y S K := by
  unfold xBeq at h; unfold aBeq; ((repeat' split at h) <;> simp_all)
theorem xEqs_ok {neq : Bool} {ks : List PK} {x y : AV} (h : xEqs neq ks x y S = some (r, S')) (hK : K r S') : aEqs neq ks x y S K := by
  unfold xEqs at h; unfold aEqs; ((repeat' split at h) <;> simp_all)
theorem xSln_ok {neq : Bool} {x : AV} (h : xSln neq x S = some (r, S')) (hK : K r S') : aSln neq x S K := by
  unfold xSln at h; unfold aSln; ((repeat' split at h) <;> simp_all)
theorem xUn_ok {op : UnOp} {x : AV} (h : xUn op x S = some (r, S')) (hK : K r S') : aUn op x S K := by
  unfold xUn at h; unfold aUn; ((repeat' split at h) <;> simp_all)
theorem xCvi_ok {k : IntKind} {x : AV} (h : xCvi k x S = some (r, S')) (hK : K r S') : aCvi k x S K := by
  unfold xCvi at h; unfold aCvi; ((repeat' split at h) <;> simp_all)
theorem xCvs_ok {x : AV} (h : xCvs x S = some (r, S')) (hK : K r S') : aCvs x S K := by
  unfold xCvs at h; unfold aCvs; ((repeat' split at h) <;> simp_all)
theorem xNil_ok {x : AV} (h : xNil x S = some (r, S')) (hK : K r S') : aNil x S K := by
  unfold xNil at h; unfold aNil; ((repeat' split at h) <;> simp_all)
theorem xPick_ok {c x y : AV} (h : xPick c x y S = some (r, S')) (hK : K r S') : aPick c x y S K := by
  unfold xPick at h; unfold aPick; ((repeat' split at h) <;> simp_all)
theorem xExt_ok {x : AV} {i : Nat} (h : xExt x i S = some (r, S')) (hK : K r S') : aExt x i S K := by
  unfold xExt at h; unfold aExt; ((repeat' split at h) <;> simp_all)
theorem xMnx_ok {mx : Bool} {xs : List AV} (h : xMnx mx xs S = some (r, S')) (hK : K r S') : aMnx mx xs S K := by
  unfold xMnx at h; unfold aMnx
  split at h
  · simp only [Option.map_eq_some_iff, Prod.mk.injEq] at h
    obtain ⟨z, h1, rfl, rfl⟩ := h
    exact ⟨z, h1, hK⟩
  · cases h
theorem xBuild_ok {zero : List DV} {parts : List (Nat × Nat × AV)} (h : xBuild zero parts S = some (r, S')) (hK : K r S') : aBuild zero parts S K := by
  unfold xBuild at h; unfold aBuild
  split at h
  · rename_i hc
    cases h
    refine ⟨fun q hq => ?_, hK⟩
    have := List.all_eq_true.1 hc q hq
    simpa [and_assoc] using this
  · cases h
theorem xBsl_ok {own : Bool} {zero : List DV} {n : Nat} {parts : List (Nat × AV)} (h : xBsl own zero n parts S = some (r, S')) (hK : K r S') : aBsl own zero n parts S K := by
  unfold xBsl at h; unfold aBsl
  split at h
  · rename_i hc
    refine ⟨fun q hq => ?_, ?_⟩
    · have := List.all_eq_true.1 hc q hq
      simpa [and_assoc] using this
    · ((repeat' split at h) <;> simp_all)
  · cases h
end

def xBox (sz : Nat) (x : AV) (S : St) : XR := if x.cells.length = sz ∧ x.storable = true then some (.ep S.H.length 0 0 0, { S with H := S.H ++ [⟨sz, 0, [x.cells]⟩] }) else none
theorem xBox_ok {sz : Nat} {x : AV} {S S' : St} {r : AV} {K : K2} (h : xBox sz x S = some (r, S')) (hK : K r S') : aBox sz x S K := by
  unfold xBox at h; unfold aBox; ((repeat' split at h) <;> simp_all)

/-- Pure functions that are known by other means. -/
abbrev Orac := FuncId → List AV → Option AV
def OracOk (P : Program) (k0 : Nat) (E : Env) (O : Orac) : Prop := ∀ f args r S, O f args = some r → ACall P k0 E f args S (fun r' S' => r' = r ∧ S' = S)

/-- The translated functions that are run. -/
structure FnE where
  owns : List Nat
  κ : List Nat
  ac : ACode
  sp : List RSp
  np : Nat
abbrev Tbl := FuncId → Option FnE
def TblOk (P : Program) (T : Tbl) : Prop := ∀ f e, T f = some e → FnOk P f e.owns e.κ e.ac e.sp e.np

def xop (call : FuncId → List AV → St → XR) (ao : AOp) (ev : Opd → AV) (S : St) : XR :=
  match ao with
  | .mv x => some (ev x, S)
  | .pick c x y => xPick (ev c) (ev x) (ev y) S
  | .alloc z => some (.ep S.H.length 0 0 0, { S with H := S.H ++ [⟨z.length, 0, [z.map .d]⟩] })
  | .box n x => xBox n (ev x) S
  | .build z ps => xBuild z (ps.map fun q => (q.1, q.2.1, ev q.2.2)) S
  | .bsl own z n ps => xBsl own z n (ps.map fun q => (q.1, ev q.2)) S
  | .load n g x => xLoad n g (ev x) S
  | .store n x v => xStore n (ev x) (ev v) S
  | .nil x => xNil (ev x) S
  | .bin op x y => xBin op (ev x) (ev y) S
  | .beq neq x y => xBeq neq (ev x) (ev y) S
  | .eqs neq ks x y => xEqs neq ks (ev x) (ev y) S
  | .sln neq x => xSln neq (ev x) S
  | .un op x => xUn op (ev x) S
  | .cvi k x => xCvi k (ev x) S
  | .cvs x => xCvs (ev x) S
  | .mkf f caps => some (.fn f (caps.map ev), S)
  | .mks z b x y => xMks z b (ev x) (ev y) S
  | .mkd z b x y => xMkd z b (ev x) (ev y) S
  | .slc n x lo hi mx => xSlc n (ev x) (lo.map ev) (hi.map ev) (mx.map ev) S
  | .sls x lo hi => xSls (ev x) (lo.map ev) (hi.map ev) S
  | .fa off x => xFa off (ev x) S
  | .fd off n g x => xFd off n g (ev x) S
  | .ixs n x i => xIxs n (ev x) (ev i) S
  | .ixa m n x i => xIxa m n (ev x) (ev i) S
  | .ixc x i => xIxc (ev x) (ev i) S
  | .len str x => xLen str (ev x) S
  | .app n b x y => xApp n b (ev x) (ev y) S
  | .mnx mx xs => xMnx mx (xs.map ev) S
  | .ext x i => xExt (ev x) i S
  | .call f xs => match ev f with
    | .fn id caps => call id (xs.map ev ++ caps) S
    | _ => none
  | .b2s _ | .s2b _ => none

variable {P : Program} {k0 : Nat} {E : Env} {S S' : St} {r : AV} {K : K2}

theorem xop_ok {call : FuncId → List AV → St → XR} (hc : ∀ f args S r S', call f args S = some (r, S') → ACall P k0 E f args S (fun r' S'' => r' = r ∧ S'' = S')) {ao : AOp} {ev : Opd → AV} (h : xop call ao ev S = some (r, S')) (hK : K r S') : aop P k0 E ao ev S K := by
  cases ao <;> simp only [xop, aop] at h ⊢
  case mv => cases h; exact hK
  case pick => exact xPick_ok h hK
  case alloc => cases h; exact hK
  case box => exact xBox_ok h hK
  case build => exact xBuild_ok h hK
  case bsl => exact xBsl_ok h hK
  case load => exact xLoad_ok h hK
  case store => exact xStore_ok h hK
  case nil => exact xNil_ok h hK
  case bin => exact xBin_ok h hK
  case beq => exact xBeq_ok h hK
  case eqs => exact xEqs_ok h hK
  case sln => exact xSln_ok h hK
  case un => exact xUn_ok h hK
  case cvi => exact xCvi_ok h hK
  case cvs => exact xCvs_ok h hK
  case mkf => cases h; exact hK
  case mks => exact xMks_ok h hK
  case mkd => exact xMkd_ok h hK
  case slc => exact xSlc_ok h hK
  case sls => exact xSls_ok h hK
  case fa => exact xFa_ok h hK
  case fd => exact xFd_ok h hK
  case ixs => exact xIxs_ok h hK
  case ixa => exact xIxa_ok h hK
  case ixc => exact xIxc_ok h hK
  case len => exact xLen_ok h hK
  case app => exact xApp_ok h hK
  case mnx => exact xMnx_ok h hK
  case ext => exact xExt_ok h hK
  case call f xs =>
    split at h
    · rename_i id caps he
      simp only [aCall, he]
      exact (hc _ _ _ _ _ h).conseq (fun r' S'' e => by obtain ⟨rfl, rfl⟩ := e; exact hK)
    · cases h
  case b2s => cases h
  case s2b => cases h

/-- Operations that leave the state as it is (calls: if the callee does). -/
def pureOp : AOp → Bool
  | .alloc _ | .box _ _ | .store .. | .app .. | .mks .. => false
  | .bsl own _ _ _ => !own
  | _ => true

theorem xop_pure {call : FuncId → List AV → St → XR} (hc : ∀ f args S r S', call f args S = some (r, S') → S' = S) {ao : AOp} {ev : Opd → AV} (hp : pureOp ao = true) (h : xop call ao ev S = some (r, S')) : S' = S := by
  cases ao <;> simp only [xop] at h <;> simp only [pureOp, Bool.false_eq_true] at hp
  case mv => cases h; rfl
  case pick => unfold xPick at h; split at h <;> simp_all
  case build => unfold xBuild at h; split at h <;> simp_all
  case bsl => unfold xBsl at h; split at h <;> simp_all; split at h <;> simp_all
  case load => unfold xLoad at h; ((repeat' split at h) <;> simp_all)
  case nil => unfold xNil at h; ((repeat' split at h) <;> simp_all)
  case bin =>
    unfold xBin at h
    split at h
    · split at h
      · ((repeat' split at h) <;> simp_all)
      · ((repeat' split at h) <;> simp_all)
      · split at h
        · simp only [Option.map_eq_some_iff, Prod.mk.injEq] at h
          obtain ⟨r', h1, rfl, rfl⟩ := h; rfl
        · cases h
    · simp only [Option.map_eq_some_iff, Prod.mk.injEq] at h
      obtain ⟨r', h1, rfl, rfl⟩ := h; rfl
    · cases h
  case beq => unfold xBeq at h; ((repeat' split at h) <;> simp_all)
  case eqs => unfold xEqs at h; ((repeat' split at h) <;> simp_all)
  case sln => unfold xSln at h; ((repeat' split at h) <;> simp_all)
  case un => unfold xUn at h; ((repeat' split at h) <;> simp_all)
  case cvi => unfold xCvi at h; ((repeat' split at h) <;> simp_all)
  case cvs => unfold xCvs at h; ((repeat' split at h) <;> simp_all)
  case mkf => cases h; rfl
  case slc => unfold xSlc at h; ((repeat' split at h) <;> simp_all)
  case mkd => unfold xMkd at h; ((repeat' split at h) <;> simp_all)
  case sls => unfold xSls at h; ((repeat' split at h) <;> simp_all)
  case fa => unfold xFa at h; ((repeat' split at h) <;> simp_all)
  case fd => unfold xFd at h; ((repeat' split at h) <;> simp_all)
  case ixs => unfold xIxs at h; ((repeat' split at h) <;> simp_all)
  case ixa => unfold xIxa at h; ((repeat' split at h) <;> simp_all)
  case ixc => unfold xIxc at h; ((repeat' split at h) <;> simp_all)
  case len => unfold xLen at h; ((repeat' split at h) <;> simp_all)
  case mnx =>
    unfold xMnx at h
    split at h
    · simp only [Option.map_eq_some_iff, Prod.mk.injEq] at h
      obtain ⟨z, h1, rfl, rfl⟩ := h; rfl
    · cases h
  case ext => unfold xExt at h; ((repeat' split at h) <;> simp_all)
  case call =>
    split at h
    · exact hc _ _ _ _ _ h
    · cases h
  case b2s => cases h
  case s2b => cases h

abbrev XCall := FuncId → List AV → St → XR

def xone (call : XCall) (o : ROp) (ev : Opd → AV) (S : St) : XR :=
  match o.k with
  | .b => xop call o.op ev S
  | .e => xop call o.op ev S
  | .p bk fw => if bk = 0 ∧ fw = 0 ∧ pureOp o.op = true then xop (fun _ _ _ => none) o.op ev S else none

def xops (call : XCall) (s : List AV) : List ROp → List AV → St → Option (List AV × St)
  | [], R, S => some (R, S)
  | o :: rest, R, S =>
    match o.g with
    | none => match xone call o (opd s R) S with
      | some (r, S') => xops call s rest (r :: R) S'
      | none => none
    | some (k, want) => match R.getD k .junk with
      | .d (.lit (.bool b)) =>
        if b = want then match xone call o (opd s R) S with
          | some (r, S') => xops call s rest (r :: R) S'
          | none => none
        else xops call s rest (.und :: R) S
      | .d (.lit (.tuple _)) => xops call s rest (.und :: R) S
      | _ => none

def CallOk (P : Program) (k0 : Nat) (E : Env) (call : XCall) : Prop := ∀ f args S r S', call f args S = some (r, S') → ACall P k0 E f args S (fun r' S'' => r' = r ∧ S'' = S')

theorem xops_ok {call : XCall} (hc : CallOk P k0 E call) {s : List AV} {K : List AV → St → Prop} : ∀ {L : List ROp} {R : List AV} {S : St} {R' : List AV} {S' : St}, xops call s L R S = some (R', S') → K R' S' → ∀ (hs : List St) (pd : List (Nat × (St → Prop))), (∀ q ∈ pd, q.1 = 0) → aops P k0 E s L R hs pd S K
  | [], R, S, R', S', h, hK, hs, pd, hpd => by
    simp only [xops, Option.some.injEq, Prod.mk.injEq] at h
    obtain ⟨rfl, rfl⟩ := h
    exact hK
  | ⟨op, g, kd⟩ :: rest, R, S, R', S', h, hK, hs, pd, hpd => by
    have dec : ∀ q ∈ pd.map (fun q : Nat × (St → Prop) => (q.1 - 1, q.2)), q.1 = 0 := fun q hq => by
      obtain ⟨x, hx, rfl⟩ := List.mem_map.1 hq
      simp [hpd x hx]
    have vac : ∀ (S₁ : St), ∀ q ∈ pd, 0 < q.1 → q.2 S₁ := fun S₁ q hq h => by rw [hpd q hq] at h; omega
    have pureR : ∀ (R₁ : List AV) {bk fw : Nat} {r : AV} {S₁ : St}, xone call ⟨op, g, .p bk fw⟩ (opd s R₁) S = some (r, S₁) → xops call s rest (r :: R₁) S₁ = some (R', S') →
        ∃ r, (∀ S₁ ∈ S :: hs.take bk, aop P k0 E op (opd s R₁) S₁ (fun r' S' => r' = r ∧ S' = S₁)) ∧ aops P k0 E s rest (r :: R₁) hs ((fw, fun S₁ => aop P k0 E op (opd s R₁) S₁ (fun r' S' => r' = r ∧ S' = S₁)) :: pd) S K := by
      intro R₁ bk fw r S₁ h1 h2
      simp only [xone] at h1
      split at h1
      · rename_i hcond
        obtain ⟨rfl, rfl, hp⟩ := hcond
        have e := xop_pure (fun _ _ _ _ _ h => by cases h) hp h1
        subst e
        refine ⟨r, fun S₂ hS => ?_, xops_ok hc h2 hK hs _ (fun q hq => by rcases List.mem_cons.1 hq with rfl | hq; rfl; exact hpd q hq)⟩
        simp at hS
        subst hS
        exact xop_ok (call := fun _ _ _ => none) (fun _ _ _ _ _ h => by cases h) h1 ⟨rfl, rfl⟩
      · cases h1
    simp only [xops] at h
    simp only [aops]
    split at h
    · try simp only
      split at h
      · rename_i r S₁ h1
        cases kd with
        | b => exact xop_ok hc h1 (xops_ok hc h hK [] [] (fun q hq => by simp at hq))
        | p bk fw => exact pureR R h1 h
        | e => exact ⟨r, S₁, xop_ok hc h1 ⟨rfl, rfl⟩, vac S₁, xops_ok hc h hK _ _ dec⟩
      · cases h
    · rename_i k want
      try simp only
      split at h
      · rename_i b hb
        rw [hb]
        simp only
        split at h
        · rename_i e
          subst e
          rw [set_same hb]
          split at h
          · rename_i r S₁ h1
            refine ⟨fun _ => ?_, fun e => absurd e (by cases b <;> simp)⟩
            cases kd with
            | b => exact xop_ok hc h1 (xops_ok hc h hK [] [] (fun q hq => by simp at hq))
            | p bk fw => exact pureR R h1 h
            | e => exact ⟨r, S₁, xop_ok hc h1 ⟨rfl, rfl⟩, vac S₁, xops_ok hc h hK _ _ dec⟩
          · cases h
        · rename_i e
          have e' : b = !want := by cases b <;> cases want <;> simp at e ⊢
          subst e'
          rw [set_same hb]
          refine ⟨fun e => absurd e (by cases want <;> simp), fun _ => ?_⟩
          cases kd with
          | b => exact xops_ok hc h hK [] [] (fun q hq => by simp at hq)
          | p bk fw => exact xops_ok hc h hK hs pd hpd
          | e => exact ⟨vac S, xops_ok hc h hK _ _ dec⟩
      · rename_i vs hb
        rw [hb]
        cases kd with
        | b => exact xops_ok hc h hK [] [] (fun q hq => by simp at hq)
        | p bk fw => exact xops_ok hc h hK hs pd hpd
        | e => exact ⟨vac S, xops_ok hc h hK _ _ dec⟩
      · cases h

def xc (call : XCall) : Nat → ACode → List AV → St → Option (AEx × List AV × St)
  | 0, _, _, _ => none
  | n + 1, c, s, S => match c with
    | .skip => some (.n, s, S)
    | .label _ => some (.n, s, S)
    | .ret => some (.r, s, S)
    | .exit id => some (.x id, s, S)
    | .seq a b => match xc call n a s S with
      | some (.n, s', S') => xc call n b s' S'
      | r => r
    | .cond (.s q) a b => match s.getD q .junk with
      | .d (.lit (.bool true)) => xc call n a (s.set q .junk) S
      | .d (.lit (.bool false)) => xc call n b (s.set q .junk) S
      | _ => none
    | .cond _ _ _ => none
    | .block id a => match xc call n a s S with
      | some (.x i, s', S') => if i = id then some (.n, s', S') else some (.x i, s', S')
      | r => r
    | .scope a => xc call n a s S
    | .loop a => match xc call n a s S with
      | some (.n, s', S') => xc call n (.loop a) s' S'
      | r => r
    | .reg _ ops wr => match xops call s ops [] S with
      | some (R, S') => some (.n, wrS wr s R, S')
      | none => none
    | .rng .. => none

/-- m rounds of a loop. -/
def Rounds (P : Program) (k0 : Nat) (E : Env) (x : ACode) (Q : KQ) : Nat → List AV → St → Prop
  | 0 => fun _ _ => False
  | m + 1 => fun s S => AW P k0 E x (KQ.then (Rounds P k0 E x Q m) Q) s S

theorem AW.rounds {x : ACode} {Q : KQ} {s : List AV} (m : Nat) (h : Rounds P k0 E x Q m s S) : AW P k0 E (.loop x) Q s S := by
  refine AW.loop (fun m s S => Rounds P k0 E x Q m s S) m h (fun m s S hI => ?_)
  cases m with
  | zero => exact hI.elim
  | succ m =>
    refine AW.conseq hI (fun e s' S' hq => ?_)
    cases e with
    | n => exact ⟨m, Nat.lt_succ_self _, hq⟩
    | r => exact hq
    | x i => exact hq

def isOut (e : AEx) (s : List AV) (S : St) : KQ := fun e' s' S' => e' = e ∧ s' = s ∧ S' = S

theorem xc_ok {call : XCall} (hc : CallOk P k0 E call) : ∀ (n : Nat) (c : ACode) (s : List AV) (S : St) (e : AEx) (s' : List AV) (S' : St), xc call n c s S = some (e, s', S') → AW P k0 E c (isOut e s' S') s S := by
  intro n
  induction n using Nat.strongRecOn with
  | _ n ih =>
    intro c s S e s' S' h
    cases n with
    | zero => simp [xc] at h
    | succ n =>
      have ihn := ih n (Nat.lt_succ_self n)
      cases c with
      | skip => simp only [xc, Option.some.injEq, Prod.mk.injEq] at h; obtain ⟨rfl, rfl, rfl⟩ := h; exact .skip ⟨rfl, rfl, rfl⟩
      | label l => simp only [xc, Option.some.injEq, Prod.mk.injEq] at h; obtain ⟨rfl, rfl, rfl⟩ := h; exact .label ⟨rfl, rfl, rfl⟩
      | ret => simp only [xc, Option.some.injEq, Prod.mk.injEq] at h; obtain ⟨rfl, rfl, rfl⟩ := h; exact .ret ⟨rfl, rfl, rfl⟩
      | exit id => simp only [xc, Option.some.injEq, Prod.mk.injEq] at h; obtain ⟨rfl, rfl, rfl⟩ := h; exact .exit ⟨rfl, rfl, rfl⟩
      | seq a b =>
        simp only [xc] at h
        refine .seq ?_
        split at h
        · rename_i s₁ S₁ h1
          refine (ihn a s S _ _ _ h1).conseq (fun e' s'' S'' hq => ?_)
          obtain ⟨rfl, rfl, rfl⟩ := hq
          exact ihn b _ _ _ _ _ h
        · rename_i hne
          refine (ihn a s S _ _ _ h).conseq (fun e' s'' S'' hq => ?_)
          obtain ⟨rfl, rfl, rfl⟩ := hq
          cases e' with
          | n => exact (hne _ _ h).elim
          | r => exact ⟨rfl, rfl, rfl⟩
          | x i => exact ⟨rfl, rfl, rfl⟩
      | cond x a b =>
        cases x with
        | s q =>
          simp only [xc] at h
          split at h
          · rename_i hb
            exact .cond hb (fun _ => ihn a _ _ _ _ _ h) (fun e => by cases e)
          · rename_i hb
            exact .cond hb (fun e => by cases e) (fun _ => ihn b _ _ _ _ _ h)
          · cases h
        | r k => simp [xc] at h
        | c v => simp [xc] at h
        | f id => simp [xc] at h
      | block id a =>
        simp only [xc] at h
        refine .block ?_
        split at h
        · rename_i i s₁ S₁ h1
          refine (ihn a s S _ _ _ h1).conseq (fun e' s'' S'' hq => ?_)
          obtain ⟨rfl, rfl, rfl⟩ := hq
          simp only [KQ.blk]
          split at h
          · rename_i e; rw [if_pos e]; cases h; exact ⟨rfl, rfl, rfl⟩
          · rename_i e; rw [if_neg e]; cases h; exact ⟨rfl, rfl, rfl⟩
        · rename_i hne
          refine (ihn a s S _ _ _ h).conseq (fun e' s'' S'' hq => ?_)
          obtain ⟨rfl, rfl, rfl⟩ := hq
          cases e' with
          | n => exact ⟨rfl, rfl, rfl⟩
          | r => exact ⟨rfl, rfl, rfl⟩
          | x i => exact (hne _ _ _ h).elim
      | scope a => simp only [xc] at h; exact .scope (ihn a _ _ _ _ _ h)
      | loop a =>
        have key : ∀ m, m ≤ n + 1 → ∀ s S, xc call m (.loop a) s S = some (e, s', S') → Rounds P k0 E a (isOut e s' S') m s S := by
          intro m
          induction m with
          | zero => intro _ s S h; simp [xc] at h
          | succ m ihm =>
            intro hm s S h
            simp only [xc] at h
            simp only [Rounds]
            split at h
            · rename_i s₁ S₁ h1
              refine (ih m (by omega) a s S _ _ _ h1).conseq (fun e' s'' S'' hq => ?_)
              obtain ⟨rfl, rfl, rfl⟩ := hq
              exact ihm (by omega) _ _ h
            · rename_i hne
              refine (ih m (by omega) a s S _ _ _ h).conseq (fun e' s'' S'' hq => ?_)
              obtain ⟨rfl, rfl, rfl⟩ := hq
              cases e' with
              | n => exact (hne _ _ h).elim
              | r => exact ⟨rfl, rfl, rfl⟩
              | x i => exact ⟨rfl, rfl, rfl⟩
        exact .rounds _ (key _ (Nat.le_refl _) s S h)
      | reg d ops wr =>
        simp only [xc] at h
        split at h
        · rename_i R S₁ h1
          cases h
          exact .reg (xops_ok hc h1 ⟨rfl, rfl, rfl⟩ [] [] (fun q hq => by simp at hq))
        · cases h
      | rng f ps x y => simp [xc] at h

/-! ### Functions -/
def xRes (s : List AV) (S : St) : List RSp → Option (List AV)
  | [] => some []
  | .t q :: rs => (xRes s S rs).map fun l => s.getD q .junk :: l
  | .cell q n g :: rs => match xLoad n g (s.getD q .junk) S with
    | some (r, _) => (xRes s S rs).map fun l => r :: l
    | none => none

theorem aRes_mono {s : List AV} : ∀ {rs : List RSp} {K K' : List AV → Prop}, aRes s S rs K → (∀ l, K l → K' l) → aRes s S rs K'
  | [], K, K', h, hk => hk _ h
  | .t q :: rs, K, K', h, hk => aRes_mono (rs := rs) h (fun l hl => hk _ hl)
  | .cell q n g :: rs, K, K', h, hk => by
    simp only [aRes] at h ⊢
    unfold aLoad at h ⊢
    split at h
    · exact ⟨h.1, aRes_mono h.2 (fun l hl => hk _ hl)⟩
    · split at h
      · exact ⟨h.1, h.2.1, h.2.2.1, aRes_mono h.2.2.2 (fun l hl => hk _ hl)⟩
      · exact h.elim
    · exact h.elim

theorem xRes_ok {s : List AV} : ∀ {rs : List RSp} {l : List AV} {K : List AV → Prop}, xRes s S rs = some l → K l → aRes s S rs K
  | [], l, K, h, hK => by simp only [xRes, Option.some.injEq] at h; subst h; exact hK
  | .t q :: rs, l, K, h, hK => by
    simp only [xRes, Option.map_eq_some_iff] at h
    obtain ⟨l', h1, rfl⟩ := h
    exact xRes_ok (rs := rs) h1 hK
  | .cell q n g :: rs, l, K, h, hK => by
    simp only [xRes] at h
    split at h
    · rename_i r S' h1
      simp only [Option.map_eq_some_iff] at h
      obtain ⟨l', h2, rfl⟩ := h
      simp only [aRes]
      exact xLoad_ok h1 (xRes_ok h2 hK)
    · cases h

def xf (T : Tbl) (O : Orac) (fuel : Nat) : Nat → XCall
  | 0 => fun _ _ _ => none
  | m + 1 => fun f args S => match O f args with
    | some r => some (r, S)
    | none => match T f with
      | none => none
      | some e => if args.length = e.np then match xc (xf T O fuel m) fuel e.ac (e.κ.map fun t => args.getD t .junk) S with
        | some (.x _, _, _) => none
        | some (_, s', S') => (xRes s' S' e.sp).map fun l => (tupOf l, S')
        | none => none
        else none

theorem xf_ok {T : Tbl} {O : Orac} (hT : TblOk P T) (hO : ∀ k0 E, OracOk P k0 E O) (fuel : Nat) : ∀ (m k0 : Nat) (E : Env), CallOk P k0 E (xf T O fuel m)
  | 0, k0, E => fun f args S r S' h => by simp [xf] at h
  | m + 1, k0, E => fun f args S r S' h => by
    simp only [xf] at h
    split at h
    · rename_i r₁ h1
      cases h
      exact (hO k0 E f args _ _ h1)
    · split at h
      · cases h
      · rename_i e he
        split at h
        · rename_i hl
          have hx : ∀ (ae : AEx) (s' : List AV) (S₁ : St), (∀ i, ae ≠ .x i) → xc (xf T O fuel m) fuel e.ac (e.κ.map fun t => args.getD t .junk) S = some (ae, s', S₁) → (xRes s' S₁ e.sp).map (fun l => (tupOf l, S₁)) = some (r, S') → ACall P k0 E f args S (fun r' S'' => r' = r ∧ S'' = S') := by
            intro ae s' S₁ hne h1 h2
            simp only [Option.map_eq_some_iff, Prod.mk.injEq] at h2
            obtain ⟨l, h3, rfl, rfl⟩ := h2
            refine ACall.of_body (hT f e he) hl ((xc_ok (xf_ok hT hO fuel m k0 E) fuel e.ac _ S ae s' S₁ h1).conseq (fun e' s'' S'' hq => ?_))
            obtain ⟨rfl, rfl, rfl⟩ := hq
            refine ⟨?_, xRes_ok h3 ⟨_, _, .refl, rfl, rfl⟩⟩
            cases e' with
            | x i => exact (hne i rfl).elim
            | n => trivial
            | r => trivial
          split at h
          · cases h
          · rename_i ae s' S₁ hne h1
            exact hx ae s' S₁ (fun i e => hne i e) h1 h
          · cases h
        · cases h

/-- A table out of a list. -/
def lk : List (FuncId × FnE) → Tbl
  | [], _ => none
  | (g, e) :: r, f => if f = g then some e else lk r f

def AllOk (P : Program) : List (FuncId × FnE) → Prop
  | [] => True
  | (f, e) :: r => FnOk P f e.owns e.κ e.ac e.sp e.np ∧ AllOk P r

theorem lk_ok : ∀ {l : List (FuncId × FnE)}, AllOk P l → TblOk P (lk l)
  | [], _ => fun f e h => by simp [lk] at h
  | (g, e) :: r, h => fun f e' h' => by
    simp only [lk] at h'
    split at h'
    · rename_i heq
      cases h'
      rw [heq]; exact h.1
    · exact lk_ok h.2 f e' h'

end Go.Proofs.Ytpmgmingjggegaa.AL
