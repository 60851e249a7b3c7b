/- Walking, one operation at a time: what an operation hands back is reckoned by the kernel's own unfolding. -/
import Derived.Test.YtpmgmingjggegaaAlY
import Derived.WideShapes
set_option linter.unusedVariables false
set_option linter.unusedSimpArgs false
namespace Go.Proofs.Ytpmgmingjggegaa.AL
open Go Go.WideShapes

/-- A list's spine, written out. -/
def forceL {α β : Type} : List α → (List α → β) → β
  | [], k => k []
  | a :: l, k => forceL l fun l' => k (a :: l')
theorem forceL_eq {α β : Type} : ∀ (l : List α) (k : List α → β), forceL l k = k l
  | [], k => rfl
  | a :: l, k => forceL_eq l _

abbrev FR := Option (AV × AHeap)

/-- A small number, as a numeral. -/
def natF {β : Type} (n : Nat) (k : Nat → β) : β :=
  match n with
  | 0 => k 0
  | 1 => k 1
  | 2 => k 2
  | 3 => k 3
  | 4 => k 4
  | 5 => k 5
  | 6 => k 6
  | 7 => k 7
  | 8 => k 8
  | 9 => k 9
  | 10 => k 10
  | 11 => k 11
  | 12 => k 12
  | 13 => k 13
  | 14 => k 14
  | 15 => k 15
  | 16 => k 16
  | 17 => k 17
  | 18 => k 18
  | 19 => k 19
  | 20 => k 20
  | 21 => k 21
  | 22 => k 22
  | 23 => k 23
  | 24 => k 24
  | 25 => k 25
  | 26 => k 26
  | 27 => k 27
  | 28 => k 28
  | 29 => k 29
  | 30 => k 30
  | 31 => k 31
  | 32 => k 32
  | 33 => k 33
  | 34 => k 34
  | 35 => k 35
  | 36 => k 36
  | 37 => k 37
  | 38 => k 38
  | 39 => k 39
  | 40 => k 40
  | 41 => k 41
  | 42 => k 42
  | 43 => k 43
  | 44 => k 44
  | 45 => k 45
  | 46 => k 46
  | 47 => k 47
  | 48 => k 48
  | 49 => k 49
  | 50 => k 50
  | 51 => k 51
  | 52 => k 52
  | 53 => k 53
  | 54 => k 54
  | 55 => k 55
  | 56 => k 56
  | 57 => k 57
  | 58 => k 58
  | 59 => k 59
  | 60 => k 60
  | 61 => k 61
  | 62 => k 62
  | 63 => k 63
  | 64 => k 64
  | 65 => k 65
  | 66 => k 66
  | 67 => k 67
  | 68 => k 68
  | 69 => k 69
  | 70 => k 70
  | 71 => k 71
  | n => k n
theorem natF_eq {β : Type} (n : Nat) (k : Nat → β) : natF n k = k n := by
  unfold natF
  split <;> rfl

def guardB (b : Bool) (r : FR) : FR := match b with
  | true => r
  | false => none
theorem guardB_some {b : Bool} {r : FR} {x : AV × AHeap} (h : guardB b r = some x) : b = true ∧ r = some x := by
  cases b with
  | true => exact ⟨rfl, h⟩
  | false => cases h

def guardC (b : Bool) (l : List AV) : Option (List AV) := match b with
  | true => some l
  | false => none

/-- A value's cells, in sight. -/
def cellsF (x : AV) : Option (List AV) :=
  match x with
  | .agg cs => some cs
  | .d (.lit v) => guardC v.oneCell' [.d (.lit v)]
  | .d (.sl z r) => some [.d (.sl z r)]
  | .os a b c d => some [.os a b c d]
  | .ep a b c d => some [.ep a b c d]
  | .ip a b c => some [.ip a b c]
  | .fn a b => some [.fn a b]
  | .yl a => some [.yl a]
  | .ts a b => some [.ts a b]
  | _ => none
theorem cellsF_ok {x : AV} {l : List AV} (h : cellsF x = some l) : l = x.cells ∧ x.storable = true := by
  unfold cellsF at h
  split at h
  case h_2 v =>
    unfold guardC at h
    split at h
    · rename_i e
      cases h
      exact ⟨rfl, e⟩
    · cases h
  all_goals first | (cases h; exact ⟨rfl, rfl⟩) | cases h

def fLoadD (sz : Nat) (agg : Bool) (row : List AV) (j : Nat) (H : AHeap) : FR :=
  match agg with
  | false => match row[j]? with
    | some x => some (x, H)
    | none => none
  | true => forceL ((row.drop j).take sz) fun l => some (.agg l, H)

def fLoad (sz : Nat) (agg : Bool) (x : AV) (H : AHeap) : FR :=
  match x with
  | .ip n row j => guardB (Nat.ble (j + sz) n) (match agg with
    | false => match row[j]? with
      | some x => some (.d x, H)
      | none => none
    | true => forceL ((row.drop j).take sz) fun l => forceL (l.map AV.d) fun l => some (.agg l, H))
  | .ep id g i j => match H[id]? with
    | some ⟨bz, bg, rows⟩ => guardB (Nat.beq bg g && Nat.ble (j + sz) bz) (match rows[i]? with
      | some row => fLoadD sz agg row j H
      | none => none)
    | none => none
  | _ => none

def fStore (sz : Nat) (x v : AV) (H : AHeap) : FR :=
  match x with
  | .ep id g i j => match H[id]? with
    | some ⟨bz, bg, rows⟩ => match cellsF v with
      | some cs => guardB (Nat.beq bg g && Nat.ble (j + sz) bz && Nat.beq cs.length sz) (match rows[i]? with
        | some row => match Nat.beq j 0 && Nat.beq sz bz with
          | true => forceL (rows.set i cs) fun rows' => forceL (H.set id ⟨bz, bg, rows'⟩) fun H' => some (.und, H')
          | false => forceL (setCells bz row j cs) fun row' => forceL (rows.set i row') fun rows' => forceL (H.set id ⟨bz, bg, rows'⟩) fun H' => some (.und, H')
        | none => none)
      | none => none
    | none => none
  | _ => none

def fFa (off : Nat) (x : AV) (H : AHeap) : FR :=
  match x with
  | .ep id g i j => match H[id]? with
    | some ⟨bz, bg, rows⟩ => guardB (Nat.beq bg g) (natF (j + off) fun m => some (.ep id g i m, H))
    | none => none
  | .ip n row j => natF (j + off) fun m => some (.ip n row m, H)
  | _ => none

def fFd (off sz : Nat) (agg : Bool) (x : AV) (H : AHeap) : FR :=
  match x with
  | .agg cs => guardB (Nat.ble (off + sz) cs.length) (fLoadD sz agg cs off H)
  | _ => none

def fIxs (sz : Nat) (x i : AV) (H : AHeap) : FR :=
  match i with
  | .d (.lit (.int _ (.ofNat n))) => match x with
    | .d (.sl z rows) => guardB (Nat.beq z sz) (match rows[n]? with
      | some row => some (.ip z row 0, H)
      | none => none)
    | .os id g off m => match H[id]? with
      | some ⟨bz, bg, rows⟩ => guardB (Nat.beq bg g && Nat.beq bz sz && Nat.blt n m) (some (.ep id g (off + n) 0, H))
      | none => none
    | _ => none
  | _ => none

def fIxa (n sz : Nat) (x i : AV) (H : AHeap) : FR :=
  match i with
  | .d (.lit (.int _ (.ofNat k))) => match x with
    | .ep id g r j => match H[id]? with
      | some ⟨bz, bg, rows⟩ => guardB (Nat.beq bg g && Nat.blt k n) (some (.ep id g r (j + k * sz), H))
      | none => none
    | .ip z row j => guardB (Nat.blt k n) (some (.ip z row (j + k * sz), H))
    | _ => none
  | _ => none

def fLen (str : Bool) (x : AV) (H : AHeap) : FR :=
  match str, x with
  | false, .d (.sl _ rows) => some (.int .i64 rows.length, H)
  | false, .ts _ rows => some (.int .i64 rows.length, H)
  | false, .os id g _ n => match H[id]? with
    | some ⟨bz, bg, rows⟩ => guardB (Nat.beq bg g) (some (.int .i64 n, H))
    | none => none
  | true, .d (.lit (.string s)) => some (.int .i64 s.size, H)
  | _, _ => none

def divG (b : Int) (r : AV) : Option AV := match decide (b = 0) with
  | false => some r
  | true => none
theorem divG_ok {b : Int} {r v : AV} (h : divG b r = some v) : b ≠ 0 ∧ v = r := by
  unfold divG at h
  split at h
  · rename_i e; cases h; exact ⟨of_decide_eq_false e, rfl⟩
  · cases h
def fInt (op : BinOp) (k : IntKind) (a b : Int) : Option AV :=
  match op with
  | .add => some (.int k (k.wrap (a + b)))
  | .sub => some (.int k (k.wrap (a - b)))
  | .mul => some (.int k (k.wrap (a * b)))
  | .quo => divG b (.int k (k.wrap (a.tdiv b)))
  | .rem => divG b (.int k (a.tmod b))
  | .and => some (.int k (k.wrap ((BitVec.ofInt k.bits a &&& BitVec.ofInt k.bits b).toNat : Int)))
  | .or => some (.int k (k.wrap ((BitVec.ofInt k.bits a ||| BitVec.ofInt k.bits b).toNat : Int)))
  | .xor => some (.int k (k.wrap ((BitVec.ofInt k.bits a ^^^ BitVec.ofInt k.bits b).toNat : Int)))
  | .eql => some (.bool (decide (a = b)))
  | .neq => some (.bool (decide (a ≠ b)))
  | .lss => some (.bool (decide (a < b)))
  | .leq => some (.bool (decide (a ≤ b)))
  | .gtr => some (.bool (decide (a > b)))
  | .geq => some (.bool (decide (a ≥ b)))
  | _ => none

def fStr (op : BinOp) (a b : ByteArray) : Option AV :=
  match op with
  | .eql => some (.bool (decide (a = b)))
  | .neq => some (.bool (decide (a ≠ b)))
  | .lss => some (.bool (Op.bytesLess a.toList b.toList))
  | .leq => some (.bool (Op.bytesLess a.toList b.toList || a.toList == b.toList))
  | .gtr => some (.bool (!(Op.bytesLess a.toList b.toList || a.toList == b.toList)))
  | .geq => some (.bool (!Op.bytesLess a.toList b.toList))
  | _ => none

def fBin (op : BinOp) (x y : AV) (H : AHeap) : FR :=
  match x, y with
  | .d (.lit (.int k a)), .d (.lit (.int k' b)) => match op with
    | .shl => match b with
      | .ofNat n => some (.int k (k.wrap (a * 2 ^ (min n k.bits))), H)
      | _ => none
    | .shr => match b with
      | .ofNat n => some (.int k (a.fdiv (2 ^ (min n k.bits))), H)
      | _ => none
    | op => guardB (decide (k = k')) (match fInt op k a b with
      | some r => some (r, H)
      | none => none)
  | .d (.lit (.string a)), .d (.lit (.string b)) => match fStr op a b with
    | some r => some (r, H)
    | none => none
  | _, _ => none

def fBeq (neq : Bool) (x y : AV) (H : AHeap) : FR :=
  match x, y with
  | .d (.lit (.bool a)), .d (.lit (.bool b)) => match neq with
    | true => some (.bool (decide (a ≠ b)), H)
    | false => some (.bool (decide (a = b)), H)
  | _, _ => none

theorem ba_eq (a b : ByteArray) : (a == b) = decide (a = b) := by
  obtain ⟨a⟩ := a
  obtain ⟨b⟩ := b
  by_cases h : a = b
  · subst h
    show (a == a) = _
    simp
  · have e : (ByteArray.mk a == ByteArray.mk b) = (a == b) := rfl
    rw [e, beq_eq_false_iff_ne.2 h, decide_eq_false (by simpa using h)]
theorem ba_tl (a b : ByteArray) : (a.toList == b.toList) = decide (a = b) := by
  by_cases h : a = b
  · subst h; simp
  · have : a.toList ≠ b.toList := fun e => h (by
      rw [ByteArray.toList_eq, ByteArray.toList_eq] at e
      exact bytes_inj e)
    rw [beq_eq_false_iff_ne.2 this, decide_eq_false h]
def eqC1 : AV → AV → Option Bool
  | .d (.lit (.int _ a)), .d (.lit (.int _ b)) => some (decide (a = b))
  | .d (.lit (.bool a)), .d (.lit (.bool b)) => some (decide (a = b))
  | .d (.lit (.string a)), .d (.lit (.string b)) => some (decide (a = b))
  | _, _ => none
def eqCs : List AV → List AV → Option Bool
  | [x], [y] => eqC1 x y
  | x :: xs, y :: ys => match eqC1 x y, eqCs xs ys with
    | some a, some b => some (a && b)
    | _, _ => none
  | [], [] => some true
  | _, _ => none
theorem eqC1_ok {x y : AV} {b : Bool} (h : eqC1 x y = some b) : eqCell x y = b := by
  unfold eqC1 at h
  split at h
  · cases h; rfl
  · cases h; simp only [eqCell]; rename_i a b; cases a <;> cases b <;> rfl
  · cases h; simp only [eqCell]; exact ba_eq _ _
  · cases h
theorem eqCs_ok : ∀ {xs ys : List AV} {b : Bool}, eqCs xs ys = some b → eqCells xs ys = b
  | [x], [y], b, h => by
    have := eqC1_ok (show eqC1 x y = some b from h)
    simp [eqCells, this]
  | x :: x' :: xs, y :: ys, b, h => by
    simp only [eqCs] at h
    split at h
    · rename_i a c h1 h2
      cases h
      have := eqCs_ok h2
      simp [eqCells, eqC1_ok h1] at this ⊢
      rw [this]
    · cases h
  | [x], y :: y' :: ys, b, h => by
    simp only [eqCs] at h
    split at h
    · rename_i a c h1 h2
      simp [eqCs] at h2
    · cases h
  | [], [], b, h => by cases h; rfl
  | [], _ :: _, b, h => by simp [eqCs] at h
  | _ :: _, [], b, h => by simp [eqCs] at h

def fEqs (neq : Bool) (ks : List PK) (x y : AV) (H : AHeap) : FR :=
  match x, y with
  | .agg xs, .agg ys => guardB (fitPK ks xs && fitPK ks ys) (match eqCs xs ys with
    | some b => match neq with
      | true => some (.bool (!b), H)
      | false => some (.bool b, H)
    | none => none)
  | _, _ => none

def fSln (neq : Bool) (x : AV) (H : AHeap) : FR :=
  match x with
  | .d (.sl _ (_ :: _)) => match neq with
    | true => some (.bool true, H)
    | false => some (.bool false, H)
  | _ => none

def fUn (op : UnOp) (x : AV) (H : AHeap) : FR :=
  match op, x with
  | .not, .d (.lit (.bool b)) => match b with
    | true => some (.bool false, H)
    | false => some (.bool true, H)
  | .neg, .d (.lit (.int k n)) => some (.int k (k.wrap (0 - n)), H)
  | _, _ => none
def fNot (x : AV) (H : AHeap) : FR :=
  match x with
  | .d (.lit (.bool b)) => some (.bool (!b), H)
  | _ => none

def fCvi (k : IntKind) (x : AV) (H : AHeap) : FR :=
  match x with
  | .d (.lit (.int _ n)) => some (.int k (k.wrap n), H)
  | _ => none
def fCvs (x : AV) (H : AHeap) : FR :=
  match x with
  | .d (.lit (.string s)) => some (.str s, H)
  | _ => none

def fNil (x : AV) (H : AHeap) : FR :=
  match x with
  | .ep id g i j => match H[id]? with
    | some ⟨bz, bg, rows⟩ => guardB (Nat.beq bg g) (some (.ep id g i j, H))
    | none => none
  | .ip a b c => some (.ip a b c, H)
  | .fn a b => some (.fn a b, H)
  | _ => none

/-- A value, as its constructor. -/
def fVal (x : AV) (H : AHeap) : FR :=
  match x with
  | .d (.lit v) => match v with
    | .int k n => some (.d (.lit (.int k n)), H)
    | .bool b => some (.d (.lit (.bool b)), H)
    | .string s => some (.d (.lit (.string s)), H)
    | v => some (.d (.lit v), H)
  | .d (.sl z r) => some (.d (.sl z r), H)
  | .agg cs => some (.agg cs, H)
  | .os a b c d => some (.os a b c d, H)
  | .ep a b c d => some (.ep a b c d, H)
  | .ip a b c => some (.ip a b c, H)
  | .ts a b => some (.ts a b, H)
  | .fn a b => some (.fn a b, H)
  | .yl a => some (.yl a, H)
  | .tup a => some (.tup a, H)
  | .junk => some (.junk, H)
theorem fVal_ok {x r : AV} {H H' : AHeap} (h : fVal x H = some (r, H')) : r = x ∧ H' = H := by
  unfold fVal at h
  split at h <;> (try split at h) <;> (cases h; exact ⟨rfl, rfl⟩)

/-- The values of operands, in sight. -/
def argsV (ev : Opd → AV) (caps : List AV) : List Opd → Option (List AV)
  | [] => forceL caps some
  | x :: xs => match argsV ev caps xs with
    | some l => match fVal (ev x) [] with
      | some (v, _) => some (v :: l)
      | none => none
    | none => none
theorem argsV_ok {ev : Opd → AV} {caps : List AV} : ∀ {xs : List Opd} {l : List AV}, argsV ev caps xs = some l → xs.map ev ++ caps = l
  | [], l, h => by rw [argsV, forceL_eq] at h; cases h; rfl
  | x :: xs, l, h => by
    rw [argsV] at h
    split at h
    · rename_i l' h1
      split at h
      · rename_i v h' h2
        cases h
        obtain ⟨rfl, _⟩ := fVal_ok h2
        rw [List.map_cons, List.cons_append, argsV_ok h1]
      · cases h
    · cases h
def fPick (c x y : AV) (H : AHeap) : FR :=
  match c with
  | .d (.lit (.bool true)) => fVal x H
  | .d (.lit (.bool false)) => fVal y H
  | _ => none

def fExt (x : AV) (i : Nat) (H : AHeap) : FR :=
  match x with
  | .tup vs => match vs[i]? with
    | some v => some (v, H)
    | none => none
  | _ => none

def fBuild (zero : List DV) (parts : List (Nat × Nat × AV)) (H : AHeap) : FR :=
  guardB (parts.all fun q => Nat.beq q.2.2.cells.length q.2.1 && q.2.2.storable && Nat.ble (q.1 + q.2.1) zero.length) (forceL (fillA (zero.map .d) (parts.map fun q => (q.1, q.2.2.cells))) fun l => some (.agg l, H))

def fBox (sz : Nat) (x : AV) (H : AHeap) : FR :=
  match cellsF x with
  | some cs => guardB (Nat.beq cs.length sz) (forceL (H ++ [⟨sz, 0, [cs]⟩]) fun H' => natF H.length fun n => some (.ep n 0 0 0, H'))
  | none => none

/-- An operation whose parts are all in sight. -/
def fop (ao : AOp) (ev : Opd → AV) (H : AHeap) : FR :=
  match ao with
  | .mv x => fVal (ev x) H
  | .pick c x y => fPick (ev c) (ev x) (ev y) H
  | .alloc z => natF z.length fun m => forceL (H ++ [⟨m, 0, [z.map .d]⟩]) fun H' => natF H.length fun n => some (.ep n 0 0 0, H')
  | .box n x => fBox n (ev x) H
  | .build z ps => fBuild z (ps.map fun q => (q.1, q.2.1, ev q.2.2)) H
  | .load n g x => fLoad n g (ev x) H
  | .store n x v => fStore n (ev x) (ev v) H
  | .nil x => fNil (ev x) H
  | .bin op x y => fBin op (ev x) (ev y) H
  | .beq neq x y => fBeq neq (ev x) (ev y) H
  | .eqs neq ks x y => fEqs neq ks (ev x) (ev y) H
  | .sln neq x => fSln neq (ev x) H
  | .un op x => fUn op (ev x) H
  | .cvi k x => fCvi k (ev x) H
  | .cvs x => fCvs (ev x) H
  | .mkf f caps => match argsV ev [] caps with
    | some l => some (.fn f l, H)
    | none => none
  | .fa off x => fFa off (ev x) H
  | .fd off n g x => fFd off n g (ev x) H
  | .ixs n x i => fIxs n (ev x) (ev i) H
  | .ixa m n x i => fIxa m n (ev x) (ev i) H
  | .len str x => fLen str (ev x) H
  | .ext x i => fExt (ev x) i H
  | _ => none

variable {P : Program} {k0 : Nat} {E : Env} {H H' : AHeap} {p : List (Option Code)} {r : AV} {K : K2}

theorem getD_of {α : Type} {l : List α} {i : Nat} {d x : α} (h : l[i]? = some x) : l.getD i d = x ∧ i < l.length := by
  exact ⟨by simp [List.getD, h], (List.getElem?_eq_some_iff.1 h).1⟩

theorem fLoadD_ok {sz : Nat} {agg : Bool} {row : List AV} {j : Nat} (h : fLoadD sz agg row j H = some (r, H')) : r = (if agg then .agg ((row.drop j).take sz) else row.getD j .junk) ∧ H' = H := by
  unfold fLoadD at h
  split at h
  · split at h
    · rename_i x hx
      cases h
      exact ⟨by simp [hx], rfl⟩
    · cases h
  · rw [forceL_eq] at h
    cases h
    exact ⟨by simp, rfl⟩

theorem o_f {ao : AOp} {ev : Opd → AV} (h : fop ao ev H = some (r, H')) (hK : K r ⟨H', p⟩) : aop P k0 E ao ev ⟨H, p⟩ K := by
  cases ao <;> simp only [fop, aop] at h ⊢
  case mv => obtain ⟨rfl, rfl⟩ := fVal_ok h; exact hK
  case pick =>
    unfold fPick at h; unfold aPick
    split at h
    · rename_i e; obtain ⟨rfl, rfl⟩ := fVal_ok h
      rw [e]; exact ⟨fun _ => hK, fun e => nomatch e⟩
    · rename_i e; obtain ⟨rfl, rfl⟩ := fVal_ok h
      rw [e]; exact ⟨fun e => (nomatch e), fun _ => hK⟩
    · cases h
  case alloc => rw [natF_eq, forceL_eq, natF_eq] at h; cases h; exact hK
  case box =>
    unfold fBox at h
    split at h
    · rename_i cs e
      obtain ⟨rfl, hs⟩ := cellsF_ok e
      obtain ⟨h1, h2⟩ := guardB_some h
      rw [forceL_eq, natF_eq] at h2; cases h2
      simp only [Nat.beq_eq] at h1
      exact ⟨h1, hs, hK⟩
    · cases h
  case build =>
    obtain ⟨h1, h2⟩ := guardB_some h
    rw [forceL_eq] at h2; cases h2
    refine ⟨fun q hq => ?_, hK⟩
    have := List.all_eq_true.1 h1 q hq
    simpa [and_assoc, Nat.ble_eq] using this
  case load sz agg x =>
    unfold fLoad at h; unfold aLoad
    split at h
    · rename_i n row j e
      rw [e]
      obtain ⟨h1, h2⟩ := guardB_some h
      refine ⟨Nat.le_of_ble_eq_true h1, ?_⟩
      split at h2
      · split at h2
        · rename_i x hx
          cases h2
          simpa [List.getD, hx] using hK
        · cases h2
      · rw [forceL_eq, forceL_eq] at h2; cases h2; simpa using hK
    · rename_i id g i j e
      rw [e]
      split at h
      · rename_i bz bg rows hb
        obtain ⟨h1, h2⟩ := guardB_some h
        simp only [Bool.and_eq_true, Nat.beq_eq] at h1
        split at h2
        · rename_i row hrow
          obtain ⟨rfl, rfl⟩ := fLoadD_ok h2
          simp only [hb]
          obtain ⟨e1, e2⟩ := getD_of hrow (d := [])
          rw [e1]
          exact ⟨h1.1, e2, Nat.le_of_ble_eq_true h1.2, hK⟩
        · cases h2
      · cases h
    · cases h
  case store sz x v =>
    unfold fStore at h; unfold aStore
    split at h
    · rename_i id g i j e
      rw [e]
      split at h
      · rename_i bz bg rows hb
        split at h
        · rename_i cs hcs
          obtain ⟨rfl, hst⟩ := cellsF_ok hcs
          obtain ⟨h1, h2⟩ := guardB_some h
          simp only [Bool.and_eq_true, Nat.beq_eq] at h1
          split at h2
          · rename_i row hrow
            simp only [hb]
            obtain ⟨e1, e2⟩ := getD_of hrow (d := [])
            rw [e1]
            refine ⟨h1.1.1, e2, Nat.le_of_ble_eq_true h1.1.2, h1.2, hst, ?_⟩
            split at h2
            · rename_i e3
              simp only [Bool.and_eq_true, Nat.beq_eq] at e3
              rw [forceL_eq, forceL_eq] at h2
              cases h2
              rw [show setCells bz row j (ev v).cells = (ev v).cells by rw [setCells, if_pos ⟨e3.1, by omega⟩]]
              exact hK
            · rw [forceL_eq, forceL_eq, forceL_eq] at h2
              cases h2
              exact hK
          · cases h2
        · cases h
      · cases h
    · cases h
  case nil =>
    unfold fNil at h; unfold aNil
    split at h
    · rename_i e
      rw [e]
      split at h
      · rename_i bz bg rows hb
        obtain ⟨h1, h2⟩ := guardB_some h
        cases h2
        simp only [hb]
        exact ⟨Nat.eq_of_beq_eq_true h1, hK⟩
      · cases h
    · rename_i e; rw [e]; cases h; exact hK
    · rename_i e; rw [e]; cases h; exact hK
    · cases h
  case bin op x y =>
    unfold fBin at h; unfold aBin
    split at h
    · rename_i k a k' b e1 e2
      rw [e1, e2]
      split at h
      · split at h
        · rename_i n; cases h; exact ⟨Int.natCast_nonneg n, hK⟩
        · cases h
      · split at h
        · rename_i n; cases h; exact ⟨Int.natCast_nonneg n, hK⟩
        · cases h
      · obtain ⟨h1, h2⟩ := guardB_some h
        have h1 := of_decide_eq_true h1
        subst h1
        split at h2
        · rename_i v hv
          cases h2
          unfold fInt at hv
          cases op <;> first
            | (cases hv; exact ⟨rfl, hK⟩)
            | (cases hv; refine ⟨rfl, ?_⟩; simp only [intBin]; first | exact hK | (rw [show (a != b) = decide (a ≠ b) by rw [bne, show (a == b) = decide (a = b) from rfl, decide_not]]; exact hK))
            | (obtain ⟨e, rfl⟩ := divG_ok hv; exact ⟨rfl, e, hK⟩)
            | cases hv
        · cases h2
    · rename_i a b e1 e2
      rw [e1, e2]
      split at h
      · rename_i v hv
        cases h
        unfold fStr at hv
        cases op <;> first | (cases hv; exact hK) | (cases hv; simp only [strBin, ba_tl]; first | exact hK | (rw [← decide_not]; exact hK)) | cases hv
      · cases h
    · cases h
  case beq =>
    unfold fBeq at h; unfold aBeq
    split at h
    · rename_i a b e1 e2
      rw [e1, e2]
      split at h
      · cases h; simp only [if_true]; rw [show (!(a == b)) = decide (a ≠ b) by cases a <;> cases b <;> rfl]; exact hK
      · cases h; simp only [Bool.false_eq_true, if_false]; rw [show (a == b) = decide (a = b) by cases a <;> cases b <;> rfl]; exact hK
    · cases h
  case eqs =>
    unfold fEqs at h; unfold aEqs
    split at h
    · rename_i e1 e2
      rw [e1, e2]
      obtain ⟨h1, h2⟩ := guardB_some h
      simp only [Bool.and_eq_true] at h1
      split at h2
      · rename_i b hb
        have := eqCs_ok hb
        split at h2 <;> (cases h2; exact ⟨h1.1, h1.2, by simpa [this] using hK⟩)
      · cases h2
    · cases h
  case sln neq x =>
    unfold fSln at h; unfold aSln
    split at h
    · rename_i e1
      rw [e1]
      intro b hb
      have : b = false := by
        cases b with
        | false => rfl
        | true => exact absurd (hb rfl) (by simp)
      subst this
      split at h <;> (cases h; simpa using hK)
    · cases h
  case un op x =>
    unfold fUn at h; unfold aUn
    split at h
    · rename_i e1
      rw [e1]
      split at h <;> (cases h; exact hK)
    · rename_i e1; rw [e1]; cases h; exact hK
    · cases h
  case cvi => unfold fCvi at h; unfold aCvi; split at h <;> first | (rename_i e; rw [e]; cases h; exact hK) | cases h
  case cvs => unfold fCvs at h; unfold aCvs; split at h <;> first | (rename_i e; rw [e]; cases h; exact hK) | cases h
  case mkf =>
    split at h
    · rename_i l hl
      cases h
      have := argsV_ok hl
      rw [List.append_nil] at this
      rw [this]; exact hK
    · cases h
  case fa =>
    unfold fFa at h; unfold aFa
    split at h
    · rename_i e
      rw [e]
      split at h
      · rename_i bz bg rows hb
        obtain ⟨h1, h2⟩ := guardB_some h
        simp only [hb]
        rw [natF_eq] at h2
        cases h2
        exact ⟨Nat.eq_of_beq_eq_true h1, hK⟩
      · cases h
    · rename_i e; rw [e]; rw [natF_eq] at h; cases h; exact hK
    · cases h
  case fd off n g x =>
    unfold fFd at h; unfold aFd
    split at h
    · rename_i cs e
      rw [e]
      obtain ⟨h1, h2⟩ := guardB_some h
      obtain ⟨rfl, rfl⟩ := fLoadD_ok h2
      exact ⟨Nat.le_of_ble_eq_true h1, hK⟩
    · cases h
  case ixs n x i =>
    unfold fIxs at h; unfold aIxs
    split at h
    · rename_i m e
      rw [e]
      split at h
      · rename_i z rows e2
        rw [e2]
        obtain ⟨h1, h2⟩ := guardB_some h
        split at h2
        · rename_i row hrow
          cases h2
          obtain ⟨e3, e4⟩ := getD_of hrow (d := [])
          refine ⟨Nat.eq_of_beq_eq_true h1, Int.natCast_nonneg m, by simpa using e4, ?_⟩
          simp only [Int.ofNat_eq_natCast, Int.toNat_natCast, e3]
          exact hK
        · cases h2
      · rename_i id g off l e2
        rw [e2]
        split at h
        · rename_i bz bg rows hb
          obtain ⟨h1, h2⟩ := guardB_some h
          cases h2
          simp only [Bool.and_eq_true, Nat.beq_eq] at h1
          simp only [hb]
          refine ⟨h1.1.1, h1.1.2, Int.natCast_nonneg m, by have := h1.2; simp [Nat.blt_eq] at this; simpa using this, ?_⟩
          simpa using hK
        · cases h
      · cases h
    · cases h
  case ixa m n x i =>
    unfold fIxa at h; unfold aIxa
    split at h
    · rename_i k e
      rw [e]
      split at h
      · rename_i id g rr j e2
        rw [e2]
        split at h
        · rename_i bz bg rows hb
          obtain ⟨h1, h2⟩ := guardB_some h
          cases h2
          simp only [Bool.and_eq_true, Nat.beq_eq] at h1
          simp only [hb]
          refine ⟨h1.1, Int.natCast_nonneg k, by have := h1.2; simp [Nat.blt_eq] at this; simpa using this, ?_⟩
          simpa using hK
        · cases h
      · rename_i z row j e2
        rw [e2]
        obtain ⟨h1, h2⟩ := guardB_some h
        cases h2
        refine ⟨Int.natCast_nonneg k, by simp [Nat.blt_eq] at h1; simpa using h1, ?_⟩
        simpa using hK
      · cases h
    · cases h
  case len str x =>
    unfold fLen at h; unfold aLen
    split at h
    · rename_i e; rw [e]; cases h; exact ⟨rfl, hK⟩
    · rename_i e; rw [e]; cases h; exact ⟨rfl, hK⟩
    · rename_i e; rw [e]
      split at h
      · rename_i bz bg rows hb
        obtain ⟨h1, h2⟩ := guardB_some h
        cases h2
        simp only [hb]
        exact ⟨Nat.eq_of_beq_eq_true h1, trivial, hK⟩
      · cases h
    · rename_i e; rw [e]; cases h; exact ⟨rfl, hK⟩
    · cases h
  case ext =>
    unfold fExt at h; unfold aExt
    split at h
    · rename_i e; rw [e]
      split at h
      · rename_i v hv
        cases h
        obtain ⟨e1, e2⟩ := getD_of hv (d := .junk)
        exact ⟨e2, by rw [e1]; exact hK⟩
      · cases h
    · cases h
  all_goals cases h

/-! ### Steps within a region -/
section
variable {s R R' : List AV} {hs : List St} {pd : List (Nat × (St → Prop))} {S S' : St} {Q : List AV → St → Prop} {op : AOp} {rest : List ROp} {kd : Kd} {k : Nat} {want b : Bool}

theorem s_b (h : aop P k0 E op (opd s R) S (fun r S' => aops P k0 E s rest (r :: R) [] [] S' Q)) : aops P k0 E s (⟨op, none, .b⟩ :: rest) R hs pd S Q := by
  rw [aops]; exact h
theorem s_nil (h : Q R S) : aops P k0 E s [] R hs pd S Q := by rw [aops]; exact h

theorem set_self {α : Type} {l : List α} {i : Nat} {x : α} (h : l[i]? = some x) : l.set i x = l := by
  apply List.ext_getElem?
  intro j
  by_cases e : i = j
  · subst e; rw [List.getElem?_set_self (List.getElem?_eq_some_iff.1 h).1, h]
  · rw [List.getElem?_set_ne e]

theorem getD_some {α : Type} {l : List α} {i : Nat} {d x : α} (h : l[i]? = some x) : l.getD i d = x := by simp [List.getD, h]

theorem s_hit (hk : R[k]? = some (.bool want)) (h : aops P k0 E s (⟨op, none, kd⟩ :: rest) R hs pd S Q) : aops P k0 E s (⟨op, some (k, want), kd⟩ :: rest) R hs pd S Q := by
  rw [aops] at h ⊢
  simp only [getD_some hk, set_self hk]
  refine ⟨fun _ => ?_, fun e => absurd e (by cases want <;> simp)⟩
  exact h
theorem s_skip (hk : R[k]? = some (.bool b)) (hb : b = !want) (hkd : kd = .b) (h : aops P k0 E s rest (.und :: R) [] [] S Q) : aops P k0 E s (⟨op, some (k, want), kd⟩ :: rest) R hs pd S Q := by
  subst hb; subst hkd
  rw [aops]
  simp only [getD_some hk, set_self hk]
  exact ⟨fun e => absurd e (by cases want <;> simp), fun _ => h⟩
theorem s_skip_p {bk fw : Nat} (hk : R[k]? = some (.bool b)) (hb : b = !want) (h : aops P k0 E s rest (.und :: R) hs pd S Q) : aops P k0 E s (⟨op, some (k, want), .p bk fw⟩ :: rest) R hs pd S Q := by
  subst hb
  rw [aops]
  simp only [getD_some hk, set_self hk]
  exact ⟨fun e => absurd e (by cases want <;> simp), fun _ => h⟩
theorem s_und (hk : R[k]? = some .und) (h : aops P k0 E s rest (.und :: R) [] [] S Q) : aops P k0 E s (⟨op, some (k, want), .b⟩ :: rest) R hs pd S Q := by
  rw [aops]
  simp only [getD_some hk]
  exact h
theorem s_und_p {bk fw : Nat} (hk : R[k]? = some .und) (h : aops P k0 E s rest (.und :: R) hs pd S Q) : aops P k0 E s (⟨op, some (k, want), .p bk fw⟩ :: rest) R hs pd S Q := by
  rw [aops]
  simp only [getD_some hk]
  exact h
/-- A guard that isn't decided. -/
theorem s_split (hk : R[k]? = some (.bool b)) (h1 : b = true → aops P k0 E s (⟨op, some (k, want), kd⟩ :: rest) R hs pd S Q) (h2 : b = false → aops P k0 E s (⟨op, some (k, want), kd⟩ :: rest) R hs pd S Q) : aops P k0 E s (⟨op, some (k, want), kd⟩ :: rest) R hs pd S Q := by
  cases e : b with
  | true => exact h1 e
  | false => exact h2 e

/-- What must hold still behind a change. -/
def pdAll : List (Nat × (St → Prop)) → St → Prop
  | [], _ => True
  | (0, _) :: l, S => pdAll l S
  | (_ + 1, φ) :: l, S => φ S ∧ pdAll l S
theorem pdAll_ok : ∀ {pd : List (Nat × (St → Prop))} {S : St}, pdAll pd S → ∀ q ∈ pd, 0 < q.1 → q.2 S
  | [], _, _, q, hq, _ => by simp at hq
  | (0, φ) :: l, S, h, q, hq, h0 => by
    rcases List.mem_cons.1 hq with rfl | hq
    · simp at h0
    · exact pdAll_ok (pd := l) h q hq h0
  | (n + 1, φ) :: l, S, h, q, hq, h0 => by
    rcases List.mem_cons.1 hq with rfl | hq
    · exact h.1
    · exact pdAll_ok (pd := l) h.2 q hq h0
def pdDec : List (Nat × (St → Prop)) → List (Nat × (St → Prop))
  | [] => []
  | (0, _) :: l => pdDec l
  | (n + 1, φ) :: l => (n, φ) :: pdDec l

def PdLe (pd pd' : List (Nat × (St → Prop))) : Prop := ∀ q ∈ pd', 0 < q.1 → q ∈ pd
theorem PdLe.cons {pd pd' : List (Nat × (St → Prop))} (h : PdLe pd pd') (q : Nat × (St → Prop)) : PdLe (q :: pd) (q :: pd') := fun q' hq' h0 => by
  rcases List.mem_cons.1 hq' with rfl | hq'
  · exact List.mem_cons_self
  · exact List.mem_cons_of_mem _ (h q' hq' h0)
theorem PdLe.dec {pd pd' : List (Nat × (St → Prop))} (h : PdLe pd pd') : PdLe (pd.map fun q => (q.1 - 1, q.2)) (pd'.map fun q => (q.1 - 1, q.2)) := fun q' hq' h0 => by
  obtain ⟨q, hq, rfl⟩ := List.mem_map.1 hq'
  exact List.mem_map.2 ⟨q, h q hq (by simp at h0; omega), rfl⟩
theorem pdDec_le : ∀ (pd : List (Nat × (St → Prop))), PdLe (pdDec pd) (pd.map fun q => (q.1 - 1, q.2))
  | [], q, hq, _ => by simp at hq
  | (0, φ) :: l, q, hq, h0 => by
    simp only [List.map_cons] at hq
    rcases List.mem_cons.1 hq with rfl | hq
    · simp at h0
    · exact pdDec_le l q hq h0
  | (n + 1, φ) :: l, q, hq, h0 => by
    simp only [List.map_cons] at hq
    rcases List.mem_cons.1 hq with rfl | hq
    · simp [pdDec]
    · exact List.mem_cons_of_mem _ (pdDec_le l q hq h0)

theorem aops_pd : ∀ (ops : List ROp) (R : List AV) (hs : List St) (pd pd' : List (Nat × (St → Prop))) (S : St), PdLe pd pd' → aops P k0 E s ops R hs pd S Q → aops P k0 E s ops R hs pd' S Q
  | [], R, hs, pd, pd', S, hp, h => by rw [aops] at h ⊢; exact h
  | ⟨op, g, kd⟩ :: rest, R, hs, pd, pd', S, hp, h => by
    rw [aops] at h ⊢
    have E1 : ∀ S', (∀ q ∈ pd, 0 < q.1 → q.2 S') → (∀ q ∈ pd', 0 < q.1 → q.2 S') := fun S' h q hq h0 => h q (hp q hq h0) h0
    cases g with
    | none =>
      cases kd with
      | b => exact h
      | p bk fw =>
        obtain ⟨r, h1, h2⟩ := h
        exact ⟨r, h1, aops_pd rest _ _ _ _ _ (hp.cons _) h2⟩
      | e =>
        obtain ⟨r, S', h1, h2, h3⟩ := h
        exact ⟨r, S', h1, E1 _ h2, aops_pd rest _ _ _ _ _ hp.dec h3⟩
    | some g =>
      obtain ⟨k, want⟩ := g
      simp only at h ⊢
      split at h
      · rename_i b hb
        obtain ⟨h1, h2⟩ := h
        refine ⟨fun e => ?_, fun e => ?_⟩
        · have h1 := h1 e
          cases kd with
          | b => exact h1
          | p bk fw =>
            obtain ⟨r, k1, k2⟩ := h1
            exact ⟨r, k1, aops_pd rest _ _ _ _ _ (hp.cons _) k2⟩
          | e =>
            obtain ⟨r, S', k1, k2, k3⟩ := h1
            exact ⟨r, S', k1, E1 _ k2, aops_pd rest _ _ _ _ _ hp.dec k3⟩
        · have h2 := h2 e
          cases kd with
          | b => exact h2
          | p bk fw => exact aops_pd rest _ _ _ _ _ hp h2
          | e => exact ⟨E1 _ h2.1, aops_pd rest _ _ _ _ _ hp.dec h2.2⟩
      · rename_i hb
        cases kd with
        | b => exact h
        | p bk fw => exact aops_pd rest _ _ _ _ _ hp h
        | e => exact ⟨E1 _ h.1, aops_pd rest _ _ _ _ _ hp.dec h.2⟩
      · exact h.elim

def fAll (op : AOp) (ev : Opd → AV) (r : AV) : Nat → List St → Prop
  | 0, _ => True
  | _ + 1, [] => True
  | n + 1, S :: l => fop op ev S.H = some (r, S.H) ∧ fAll op ev r n l
theorem fAll_ok {ev : Opd → AV} {r : AV} : ∀ {n : Nat} {l : List St}, fAll op ev r n l → ∀ S ∈ l.take n, fop op ev S.H = some (r, S.H)
  | 0, l, _, S, hS => by simp at hS
  | n + 1, [], _, S, hS => by simp at hS
  | n + 1, T :: l, h, S, hS => by
    simp only [List.take_succ_cons] at hS
    rcases List.mem_cons.1 hS with rfl | hS
    · exact h.1
    · exact fAll_ok h.2 S hS
theorem fop_at {ev : Opd → AV} {r : AV} {S : St} (h : fop op ev S.H = some (r, S.H)) : aop P k0 E op ev S (fun r' S' => r' = r ∧ S' = S) := o_f (H := S.H) (p := S.p) h ⟨rfl, rfl⟩

/-- Nothing turns, and nobody minds. -/
theorem s_pf0 {bk : Nat} {r : AV} (h : fop op (opd s R) H = some (r, H)) (ha : fAll op (opd s R) r bk hs) (hk : aops P k0 E s rest (r :: R) hs pd ⟨H, p⟩ Q) : aops P k0 E s (⟨op, none, .p bk 0⟩ :: rest) R hs pd ⟨H, p⟩ Q := by
  rw [aops]
  refine ⟨r, fun S₁ hS => ?_, aops_pd _ _ _ _ _ _ (fun q hq h0 => ?_) hk⟩
  · rcases List.mem_cons.1 hS with rfl | hS
    · exact fop_at h
    · exact fop_at (fAll_ok ha S₁ hS)
  · rcases List.mem_cons.1 hq with rfl | hq
    · simp at h0
    · exact hq
theorem s_pf {bk fw : Nat} {r : AV} (h : fop op (opd s R) H = some (r, H)) (ha : fAll op (opd s R) r bk hs) (hk : aops P k0 E s rest (r :: R) hs ((fw, fun S₁ => fop op (opd s R) S₁.H = some (r, S₁.H)) :: pd) ⟨H, p⟩ Q) : aops P k0 E s (⟨op, none, .p bk fw⟩ :: rest) R hs pd ⟨H, p⟩ Q := by
  rw [aops]
  refine ⟨r, fun S₁ hS => ?_, ?_⟩
  · rcases List.mem_cons.1 hS with rfl | hS
    · exact fop_at h
    · exact fop_at (fAll_ok ha S₁ hS)
  · have key : ∀ (ops : List ROp) (R : List AV) (hs : List St) (pd pd' : List (Nat × (St → Prop))) (S : St), pd.length = pd'.length → (∀ (i : Nat) q q', pd[i]? = some q → pd'[i]? = some q' → q.1 = q'.1 ∧ ∀ S, q.2 S → q'.2 S) → aops P k0 E s ops R hs pd S Q → aops P k0 E s ops R hs pd' S Q := by
      intro ops
      induction ops with
      | nil => intro R hs pd pd' S hl hp h; rw [aops] at h ⊢; exact h
      | cons o rest ih =>
        obtain ⟨op, g, kd⟩ := o
        intro R hs pd pd' S hl hp h
        rw [aops] at h ⊢
        have E1 : ∀ S', (∀ q ∈ pd, 0 < q.1 → q.2 S') → (∀ q ∈ pd', 0 < q.1 → q.2 S') := fun S' h q' hq h0 => by
          obtain ⟨i, hi⟩ := List.getElem?_of_mem hq
          have hil : i < pd.length := by rw [hl]; exact (List.getElem?_eq_some_iff.1 hi).1
          obtain ⟨e1, e2⟩ := hp i pd[i] q' (List.getElem?_eq_getElem hil) hi
          exact e2 S' (h _ (List.getElem_mem hil) (by omega))
        have C1 : ∀ (q : Nat × (St → Prop)), (q :: pd).length = (q :: pd').length ∧ ∀ (i : Nat) q₁ q', (q :: pd)[i]? = some q₁ → (q :: pd')[i]? = some q' → q₁.1 = q'.1 ∧ ∀ S, q₁.2 S → q'.2 S := fun q => ⟨by simp [hl], fun i q₁ q' h1 h2 => by
          cases i with
          | zero => simp at h1 h2; subst h1; subst h2; exact ⟨rfl, fun _ h => h⟩
          | succ i => exact hp i q₁ q' (by simpa using h1) (by simpa using h2)⟩
        have D1 : (pd.map fun q => (q.1 - 1, q.2)).length = (pd'.map fun q => (q.1 - 1, q.2)).length ∧ ∀ (i : Nat) q₁ q', (pd.map fun q => (q.1 - 1, q.2))[i]? = some q₁ → (pd'.map fun q => (q.1 - 1, q.2))[i]? = some q' → q₁.1 = q'.1 ∧ ∀ S, q₁.2 S → q'.2 S := ⟨by simp [hl], fun i q₁ q' h1 h2 => by
          simp only [List.getElem?_map, Option.map_eq_some_iff] at h1 h2
          obtain ⟨a, a1, rfl⟩ := h1
          obtain ⟨c, c1, rfl⟩ := h2
          obtain ⟨e1, e2⟩ := hp i a c a1 c1
          exact ⟨by simp [e1], e2⟩⟩
        cases g with
        | none =>
          cases kd with
          | b => exact h
          | p bk fw =>
            obtain ⟨r, h1, h2⟩ := h
            exact ⟨r, h1, ih _ _ _ _ _ (C1 _).1 (C1 _).2 h2⟩
          | e =>
            obtain ⟨r, S', h1, h2, h3⟩ := h
            exact ⟨r, S', h1, E1 _ h2, ih _ _ _ _ _ D1.1 D1.2 h3⟩
        | some g =>
          obtain ⟨k, want⟩ := g
          simp only at h ⊢
          split at h
          · obtain ⟨h1, h2⟩ := h
            refine ⟨fun e => ?_, fun e => ?_⟩
            · have h1 := h1 e
              cases kd with
              | b => exact h1
              | p bk fw => obtain ⟨r, k1, k2⟩ := h1; exact ⟨r, k1, ih _ _ _ _ _ (C1 _).1 (C1 _).2 k2⟩
              | e => obtain ⟨r, S', k1, k2, k3⟩ := h1; exact ⟨r, S', k1, E1 _ k2, ih _ _ _ _ _ D1.1 D1.2 k3⟩
            · have h2 := h2 e
              cases kd with
              | b => exact h2
              | p bk fw => exact ih _ _ _ _ _ hl hp h2
              | e => exact ⟨E1 _ h2.1, ih _ _ _ _ _ D1.1 D1.2 h2.2⟩
          · cases kd with
            | b => exact h
            | p bk fw => exact ih _ _ _ _ _ hl hp h
            | e => exact ⟨E1 _ h.1, ih _ _ _ _ _ D1.1 D1.2 h.2⟩
          · exact h.elim
    refine key rest _ _ _ _ _ ?_ ?_ hk
    · rfl
    · intro i q q' h1 h2
      cases i with
      | zero => simp at h1 h2; subst h1; subst h2; exact ⟨rfl, fun S₁ h => fop_at h⟩
      | succ i => simp at h1 h2; rw [h1] at h2; cases h2; exact ⟨rfl, fun _ h => h⟩

/-- A change, whatever stands beside it. -/
theorem s_e {r : AV} (h : aop P k0 E op (opd s R) S (fun r' S'' => r' = r ∧ S'' = S')) (hp : pdAll pd S') (hk : aops P k0 E s rest (r :: R) (S :: hs) (pdDec pd) S' Q) : aops P k0 E s (⟨op, none, .e⟩ :: rest) R hs pd S Q := by
  rw [aops]
  exact ⟨r, S', h, pdAll_ok hp, aops_pd _ _ _ _ _ _ (pdDec_le pd) hk⟩
theorem s_ef {r : AV} (h : fop op (opd s R) H = some (r, H')) (hp : pdAll pd ⟨H', p⟩) (hk : aops P k0 E s rest (r :: R) (⟨H, p⟩ :: hs) (pdDec pd) ⟨H', p⟩ Q) : aops P k0 E s (⟨op, none, .e⟩ :: rest) R hs pd ⟨H, p⟩ Q :=
  s_e (o_f h ⟨rfl, rfl⟩) hp hk
theorem s_p0 {bk : Nat} {r : AV} (h : aop P k0 E op (opd s R) S (fun r' S' => r' = r ∧ S' = S)) (ha : ∀ S₁ ∈ hs.take bk, aop P k0 E op (opd s R) S₁ (fun r' S' => r' = r ∧ S' = S₁)) (hk : aops P k0 E s rest (r :: R) hs pd S Q) : aops P k0 E s (⟨op, none, .p bk 0⟩ :: rest) R hs pd S Q := by
  rw [aops]
  refine ⟨r, fun S₁ hS => ?_, aops_pd _ _ _ _ _ _ (fun q hq h0 => ?_) hk⟩
  · rcases List.mem_cons.1 hS with rfl | hS
    · exact h
    · exact ha S₁ hS
  · rcases List.mem_cons.1 hq with rfl | hq
    · simp at h0
    · exact hq

/-- The frame behind a region, written out. -/
def wrG : List (Nat × Nat) → List AV → List AV → Option (List AV)
  | [], s, _ => forceL s some
  | (q, k) :: wr, s, R => match R[k]? with
    | some v => wrG wr (s.set q v) R
    | none => none
theorem wrG_ok : ∀ {wr : List (Nat × Nat)} {s R s' : List AV}, wrG wr s R = some s' → wrS wr s R = s'
  | [], s, R, s', h => by rw [wrG, forceL_eq] at h; cases h; rfl
  | (q, k) :: wr, s, R, s', h => by
    rw [wrG] at h
    split at h
    · rename_i v hv
      rw [wrS, getD_some hv]
      exact wrG_ok h
    · cases h
theorem s_end {Q : KQ} {wr : List (Nat × Nat)} {s₀ s' : List AV} (h : wrG wr s₀ R = some s') (hk : Q .n s' S) : aops P k0 E s [] R hs pd S (fun R S' => Q .n (wrS wr s₀ R) S') := by
  rw [aops]
  rw [wrG_ok h]
  exact hk
end

/-! ### What an operation is -/
section
variable {ev : Opd → AV} {x y c : Opd} {S : St} {n : Nat} {g str : Bool} {f : Opd} {xs : List Opd}
theorem d_load (h : aop P k0 E (.load n g x) ev S K) : aop P k0 E (.load n g x) ev S K := h
theorem d_ixs (h : aop P k0 E (.ixs n x y) ev S K) : aop P k0 E (.ixs n x y) ev S K := h
theorem d_len (h : aop P k0 E (.len str x) ev S K) : aop P k0 E (.len str x) ev S K := h
theorem d_bin {op : BinOp} (h : aop P k0 E (.bin op x y) ev S K) : aop P k0 E (.bin op x y) ev S K := h
theorem d_pick (h : aop P k0 E (.pick c x y) ev S K) : aop P k0 E (.pick c x y) ev S K := h
theorem d_not (h : aop P k0 E (.un .not x) ev S K) : aop P k0 E (.un .not x) ev S K := h
theorem d_call (h : aop P k0 E (.call f xs) ev S K) : aop P k0 E (.call f xs) ev S K := h
variable {s R : List AV} {hs : List St} {pd : List (Nat × (St → Prop))} {Q : List AV → St → Prop} {op : AOp} {rest : List ROp} {kd : Kd} {gd : Option (Nat × Bool)} {k bk fw : Nat} {want : Bool}
theorem d_g (h : aops P k0 E s (⟨op, some (k, want), kd⟩ :: rest) R hs pd S Q) : aops P k0 E s (⟨op, some (k, want), kd⟩ :: rest) R hs pd S Q := h
theorem d_p (h : aops P k0 E s (⟨op, none, .p bk fw⟩ :: rest) R hs pd S Q) : aops P k0 E s (⟨op, none, .p bk fw⟩ :: rest) R hs pd S Q := h
theorem d_e (h : aops P k0 E s (⟨op, none, .e⟩ :: rest) R hs pd S Q) : aops P k0 E s (⟨op, none, .e⟩ :: rest) R hs pd S Q := h
end

/-! ### Operations that want a word -/
section
variable {ev : Opd → AV} {x y : Opd} {S : St}
theorem o_call {f : Opd} {xs : List Opd} {id : FuncId} {caps args : List AV} (hf : ev f = .fn id caps) (ha : argsV ev caps xs = some args) (h : ACall P k0 E id args S K) : aop P k0 E (.call f xs) ev S K := by
  rw [← argsV_ok ha] at h
  simp only [aop, hf, aCall]
  exact h
/-- A call of a loop's body. -/
theorem o_yield {f : Opd} {xs : List Opd} {l i : Nat} {ys : YSpec} {args : List AV} (hf : ev f = .yl l) (hE : E[i]? = some (l, ys)) (hp : S.p[i]? = some none) (ha : argsV ev [] xs = some args) (h : ys args S (fun b S' => K (.bool b) S')) : aop P k0 E (.call f xs) ev S K := by
  have ha := argsV_ok ha
  rw [List.append_nil] at ha
  rw [← ha] at h
  simp only [aop, hf, aCall]
  exact ⟨i, ys, hE, hp, h⟩
/-- A whole row of data. -/
theorem o_row {n sz : Nat} {row : List DV} (hx : ev x = .ip n row 0) (hl : row.length = n) (hs : n = sz) (hK : K (.agg (row.map .d)) S) : aop P k0 E (.load sz true x) ev S K := by
  subst hs
  simp only [aop, hx, aLoad]
  exact ⟨by omega, by rw [List.drop_zero, List.take_of_length_le (by omega)]; exact hK⟩
/-- A row of an owned block, whole. -/
theorem o_rowE {id g i sz : Nat} {rows : List (List AV)} {row : List AV} {bz : Nat} (hx : ev x = .ep id g i 0) (hB : S.H[id]? = some ⟨bz, g, rows⟩) (hr : rows[i]? = some row) (hl : row.length = sz) (hs : bz = sz) (hK : K (.agg row) S) : aop P k0 E (.load sz true x) ev S K := by
  subst hs
  simp only [aop, hx, aLoad, hB]
  obtain ⟨e1, e2⟩ := getD_of hr (d := [])
  exact ⟨trivial, e2, by omega, by rw [e1, if_pos trivial, List.drop_zero, List.take_of_length_le (by omega)]; exact hK⟩
theorem o_ixs {z sz : Nat} {rows : List (List DV)} {row : List DV} {k : IntKind} {n : Int} {m : Nat} (hx : ev x = .d (.sl z rows)) (hi : ev y = .int k n) (hn : n = (m : Nat)) (hz : z = sz) (hr : rows[m]? = some row) (hK : K (.ip z row 0) S) : aop P k0 E (.ixs sz x y) ev S K := by
  subst hn
  simp only [aop, hx, hi, aIxs]
  obtain ⟨e1, e2⟩ := getD_of hr (d := [])
  exact ⟨hz, by omega, by omega, by rw [Int.toNat_natCast, e1]; exact hK⟩
theorem o_ixm {α : Type} {f : α → List DV} {z sz : Nat} {xs : List α} {e : α} {k : IntKind} {n : Int} {m : Nat} (hx : ev x = .d (.sl z (xs.map f))) (hi : ev y = .int k n) (hn : n = (m : Nat)) (hz : z = sz) (hr : xs[m]? = some e) (hK : K (.ip z (f e) 0) S) : aop P k0 E (.ixs sz x y) ev S K :=
  o_ixs hx hi hn hz (by simp [hr]) hK
theorem o_lenm {α : Type} {f : α → List DV} {z : Nat} {xs : List α} (hx : ev x = .d (.sl z (xs.map f))) (hK : K (.int .i64 xs.length) S) : aop P k0 E (.len false x) ev S K := by
  simp only [aop, hx, aLen]
  exact ⟨trivial, by simpa using hK⟩
theorem wrap_of_i64 {n : Int} (h1 : -9223372036854775808 ≤ n) (h2 : n ≤ 9223372036854775807) : IntKind.i64.wrap n = n := by
  simp only [IntKind.wrap, IntKind.signed, IntKind.bits, Nat.reducePow, Int.reducePow, Nat.reduceSub, Bool.true_and]
  split <;> simp at * <;> omega
theorem o_add64 {a b : Int} (hx : ev x = .int .i64 a) (hy : ev y = .int .i64 b) (h1 : -9223372036854775808 ≤ a + b) (h2 : a + b ≤ 9223372036854775807) (hK : K (.int .i64 (a + b)) S) : aop P k0 E (.bin .add x y) ev S K := by
  simp only [aop, hx, hy, aBin, intBin, wrap_of_i64 h1 h2]
  exact ⟨trivial, hK⟩
theorem o_sub64 {a b : Int} (hx : ev x = .int .i64 a) (hy : ev y = .int .i64 b) (h1 : -9223372036854775808 ≤ a - b) (h2 : a - b ≤ 9223372036854775807) (hK : K (.int .i64 (a - b)) S) : aop P k0 E (.bin .sub x y) ev S K := by
  simp only [aop, hx, hy, aBin, intBin, wrap_of_i64 h1 h2]
  exact ⟨trivial, hK⟩
theorem o_not {b : Bool} (hx : ev x = .bool b) (hK : K (.bool (!b)) S) : aop P k0 E (.un .not x) ev S K := by
  simp only [aop, hx, aUn]
  exact hK
theorem o_rem {k : IntKind} {a b : Int} (hx : ev x = .int k a) (hy : ev y = .int k b) (hb : b ≠ 0) (hK : K (.int k (a.tmod b)) S) : aop P k0 E (.bin .rem x y) ev S K := by
  simp only [aop, hx, hy, aBin, intBin]
  exact ⟨trivial, hb, hK⟩
theorem o_quo {k : IntKind} {a b : Int} (hx : ev x = .int k a) (hy : ev y = .int k b) (hb : b ≠ 0) (hK : K (.int k (k.wrap (a.tdiv b))) S) : aop P k0 E (.bin .quo x y) ev S K := by
  simp only [aop, hx, hy, aBin, intBin]
  exact ⟨trivial, hb, hK⟩
theorem o_notD {φ : Prop} [Decidable φ] (hx : ev x = .bool (decide φ)) (hK : K (.bool (decide (¬ φ))) S) : aop P k0 E (.un .not x) ev S K := by
  simp only [aop, hx, aUn]
  rw [← decide_not]
  exact hK
theorem o_pickB {c : Opd} {b t u : Bool} (hc : ev c = .bool b) (hx : ev x = .bool t) (hy : ev y = .bool u) (hK : K (.bool (bif b then t else u)) S) : aop P k0 E (.pick c x y) ev S K := by
  simp only [aop, hc, hx, hy, aPick]
  cases b <;> simpa using hK
end

/-! ### Calls that touch nothing -/
theorem bl_nil {m : Nat} : ∀ x ∈ ([] : List AV), Below m x := fun x h => by cases h
theorem bl_cons {m : Nat} {a : AV} {l : List AV} (h : Below m a) (h' : ∀ x ∈ l, Below m x) : ∀ x ∈ a :: l, Below m x := fun x hx => (List.mem_cons.1 hx).elim (fun e => e ▸ h) (h' x)
theorem below_row {m : Nat} (r : List DV) : ∀ x ∈ r.map AV.d, Below m x := fun x hx => by obtain ⟨y, _, rfl⟩ := List.mem_map.1 hx; exact .d _
theorem below_row_map {m : Nat} {α : Type} (f : α → DV) (r : List α) : ∀ x ∈ r.map (fun a => AV.d (f a)), Below m x := fun x hx => by obtain ⟨y, _, rfl⟩ := List.mem_map.1 hx; exact .d _
/-- A function that is given data only. -/
theorem ACall.data {f : FuncId} {args : List AV} {S : St} {φ : AV → Prop} (h : ACall P 0 [] f args ⟨[], []⟩ (fun r _ => φ r)) (hb : ∀ x ∈ args, Below 0 x) (hφ : ∀ r, φ r → Below 0 r) (hK : ∀ r, φ r → K r S) : ACall P k0 E f args S K :=
  (ACall.frame hb (h.conseq fun r _ hr => ⟨hφ r hr, hr⟩)).conseq fun r S' ⟨e, hr⟩ => e ▸ hK r hr
/-- .. and whose result is known. -/
theorem ACall.dataEq {f : FuncId} {args : List AV} {S : St} {r : AV} (h : ACall P 0 [] f args ⟨[], []⟩ (fun r' _ => r' = r)) (hb : ∀ x ∈ args, Below 0 x) (hr : Below 0 r) (hK : K r S) : ACall P k0 E f args S K :=
  h.data hb (fun _ e => e ▸ hr) (fun _ e => e ▸ hK)

/-! ### Steps of code -/
section
variable {Q Q' : KQ} {s s' : List AV} {S : St} {x y : ACode} {N : List AV → St → Prop} {id : Nat}
theorem q_then_n (h : N s S) : KQ.then N Q .n s S := h
theorem q_then_r (h : Q .r s S) : KQ.then N Q .r s S := h
theorem q_then_x (h : Q (.x id) s S) : KQ.then N Q (.x id) s S := h
theorem q_blk_n (h : Q .n s S) : KQ.blk id Q .n s S := h
theorem q_blk_r (h : Q .r s S) : KQ.blk id Q .r s S := h
theorem q_blk_x {i : Nat} (hi : Nat.beq i id = true) (h : Q .n s S) : KQ.blk id Q (.x i) s S := by
  simp only [KQ.blk, if_pos (Nat.eq_of_beq_eq_true hi)]; exact h
theorem q_blk_y {i : Nat} (hi : Nat.beq i id = false) (h : Q (.x i) s S) : KQ.blk id Q (.x i) s S := by
  simp only [KQ.blk, if_neg (Nat.ne_of_beq_eq_false hi)]; exact h
def setF (s : List AV) (q : Nat) : Option (List AV) := forceL (s.set q .junk) some
theorem c_t {q : Nat} (hb : s[q]? = some (.bool true)) (hs : setF s q = some s') (h : AW P k0 E x Q s' S) : AW P k0 E (.cond (.s q) x y) Q s S := by
  rw [setF, forceL_eq] at hs
  cases hs
  exact .cond (getD_some hb) (fun _ => h) (fun e => by cases e)
theorem c_f {q : Nat} (hb : s[q]? = some (.bool false)) (hs : setF s q = some s') (h : AW P k0 E y Q s' S) : AW P k0 E (.cond (.s q) x y) Q s S := by
  rw [setF, forceL_eq] at hs
  cases hs
  exact .cond (getD_some hb) (fun e => by cases e) (fun _ => h)
/-- The way that a test goes. -/
theorem c_yes {q : Nat} {b : Bool} (hb : s[q]? = some (.bool b)) (hs : setF s q = some s') (e : b = true) (h : AW P k0 E x Q s' S) : AW P k0 E (.cond (.s q) x y) Q s S := by
  subst e; exact c_t hb hs h
theorem c_no {q : Nat} {b : Bool} (hb : s[q]? = some (.bool b)) (hs : setF s q = some s') (e : b = false) (h : AW P k0 E y Q s' S) : AW P k0 E (.cond (.s q) x y) Q s S := by
  subst e; exact c_f hb hs h
theorem c_if {q : Nat} {b : Bool} (hb : s[q]? = some (.bool b)) (hs : setF s q = some s') (h1 : b = true → AW P k0 E x Q s' S) (h2 : b = false → AW P k0 E y Q s' S) : AW P k0 E (.cond (.s q) x y) Q s S := by
  cases e : b with
  | true => subst e; exact c_t hb hs (h1 rfl)
  | false => subst e; exact c_f hb hs (h2 rfl)
/-- A test of numbers. -/
theorem c_dec {q : Nat} {φ : Prop} [Decidable φ] (hb : s[q]? = some (.bool (decide φ))) (hs : setF s q = some s') (h1 : φ → AW P k0 E x Q s' S) (h2 : ¬ φ → AW P k0 E y Q s' S) : AW P k0 E (.cond (.s q) x y) Q s S :=
  c_if hb hs (fun e => h1 (of_decide_eq_true e)) (fun e => h2 (of_decide_eq_false e))
theorem c_decT {q : Nat} {φ : Prop} [Decidable φ] (hb : s[q]? = some (.bool (decide φ))) (hs : setF s q = some s') (e : φ) (h : AW P k0 E x Q s' S) : AW P k0 E (.cond (.s q) x y) Q s S := c_yes hb hs (decide_eq_true e) h
theorem c_decF {q : Nat} {φ : Prop} [Decidable φ] (hb : s[q]? = some (.bool (decide φ))) (hs : setF s q = some s') (e : ¬ φ) (h : AW P k0 E y Q s' S) : AW P k0 E (.cond (.s q) x y) Q s S := c_no hb hs (decide_eq_false e) h
theorem c_eqT {q : Nat} {a b : Int} (hb : s[q]? = some (.bool (a == b))) (hs : setF s q = some s') (e : a = b) (h : AW P k0 E x Q s' S) : AW P k0 E (.cond (.s q) x y) Q s S := c_yes hb hs (by simpa using e) h
theorem c_eqF {q : Nat} {a b : Int} (hb : s[q]? = some (.bool (a == b))) (hs : setF s q = some s') (e : a ≠ b) (h : AW P k0 E y Q s' S) : AW P k0 E (.cond (.s q) x y) Q s S := c_no hb hs (by simpa using e) h
theorem c_neT {q : Nat} {a b : Int} (hb : s[q]? = some (.bool (a != b))) (hs : setF s q = some s') (e : a ≠ b) (h : AW P k0 E x Q s' S) : AW P k0 E (.cond (.s q) x y) Q s S := c_yes hb hs (by simpa using e) h
theorem c_neF {q : Nat} {a b : Int} (hb : s[q]? = some (.bool (a != b))) (hs : setF s q = some s') (e : a = b) (h : AW P k0 E y Q s' S) : AW P k0 E (.cond (.s q) x y) Q s S := c_no hb hs (by simpa using e) h

theorem q_wk_r {ℓ : Nat} (h : Q .r s S) : KQ.wk k0 ℓ Q .r s S := ⟨_, _, .refl, h⟩
theorem q_wk_x {ℓ : Nat} (h : Q (.x id) s S) : KQ.wk k0 ℓ Q (.x id) s S := ⟨_, _, .refl, h⟩
/-- What speaks of the blocks from m on is forgotten. -/
def cutF (m : Nat) : List AV → Option (List AV)
  | [] => some []
  | .ep id g i j :: l => match Nat.blt id m, cutF m l with
    | true, some l' => some (.ep id g i j :: l')
    | false, some l' => some (.junk :: l')
    | _, none => none
  | .os id g i j :: l => match Nat.blt id m, cutF m l with
    | true, some l' => some (.os id g i j :: l')
    | false, some l' => some (.junk :: l')
    | _, none => none
  | .agg cs :: l => match cutF m l with
    | some l' => some (.agg cs :: l')
    | none => none
  | x :: l => match cutF m l with
    | some l' => some (x :: l')
    | none => none
theorem cutF_ok {H : AHeap} {m : Nat} : ∀ {l l' : List AV}, cutF m l = some l' → l.length = l'.length ∧ ∀ (i : Nat) (x x' : AV), l[i]? = some x → l'[i]? = some x' → Less H x x'
  | [], l', h => by cases h; exact ⟨rfl, fun i x x' h => by simp at h⟩
  | a :: l, l', h => by
    have step : ∀ {b : AV} {l₁ : List AV}, cutF m l = some l₁ → l' = b :: l₁ → Less H a b → (a :: l).length = l'.length ∧ ∀ (i : Nat) (x x' : AV), (a :: l)[i]? = some x → l'[i]? = some x' → Less H x x' := by
      intro b l₁ h1 e hl
      subst e
      obtain ⟨k1, k2⟩ := cutF_ok (H := H) h1
      refine ⟨by simp [k1], fun i x x' hx hx' => ?_⟩
      cases i with
      | zero => simp at hx hx'; subst hx; subst hx'; exact hl
      | succ i => exact k2 i x x' (by simpa using hx) (by simpa using hx')
    cases a with
    | ep id g i j =>
      simp only [cutF] at h
      split at h
      · rename_i _ h1; cases h; exact step h1 rfl (.refl _ _)
      · rename_i _ h1; cases h; exact step h1 rfl (.junk _ _)
      · cases h
    | os id g i j =>
      simp only [cutF] at h
      split at h
      · rename_i _ h1; cases h; exact step h1 rfl (.refl _ _)
      · rename_i _ h1; cases h; exact step h1 rfl (.junk _ _)
      · cases h
    | _ =>
      simp only [cutF] at h
      split at h
      · rename_i _ h1; cases h; exact step h1 rfl (.refl _ _)
      · cases h
theorem Wk.cut {ℓ : Nat} {p : List (Option Code)} (m : Nat) (hm : Nat.ble m H.length = true) (hl : Nat.ble ℓ m = true) (hs : cutF m s = some s') (hH : forceL (H.take m) some = some H') (hv : ∀ x ∈ s', Below m x) (hb : ∀ B ∈ H', ∀ r ∈ B.rows, ∀ x ∈ r, Below m x) : Wk k0 ℓ s ⟨H, p⟩ s' ⟨H', p⟩ := by
  obtain ⟨h1, h2⟩ := cutF_ok (H := H) hs
  rw [forceL_eq] at hH
  cases hH
  exact (Wk.less h1 h2).trans (Wk.trunc m (Nat.le_of_ble_eq_true hm) (Nat.le_of_ble_eq_true hl) hv hb)

theorem blH_nil {m : Nat} : ∀ B ∈ ([] : AHeap), ∀ r ∈ B.rows, ∀ x ∈ r, Below m x := fun B h => by cases h
theorem blH_cons {m sz g : Nat} {rows : List (List AV)} {H : AHeap} (h : ∀ r ∈ rows, ∀ x ∈ r, Below m x) (h' : ∀ B ∈ H, ∀ r ∈ B.rows, ∀ x ∈ r, Below m x) : ∀ B ∈ (⟨sz, g, rows⟩ : Blk) :: H, ∀ r ∈ B.rows, ∀ x ∈ r, Below m x :=
  fun B hB => (List.mem_cons.1 hB).elim (fun e => e ▸ h) (h' B)
theorem blR_nil {m : Nat} : ∀ r ∈ ([] : List (List AV)), ∀ x ∈ r, Below m x := fun r h => by cases h
theorem blR_cons {m : Nat} {r : List AV} {rows : List (List AV)} (h : ∀ x ∈ r, Below m x) (h' : ∀ r ∈ rows, ∀ x ∈ r, Below m x) : ∀ r' ∈ r :: rows, ∀ x ∈ r', Below m x :=
  fun r' hr => (List.mem_cons.1 hr).elim (fun e => e ▸ h) (h' r')
theorem blR_map {m : Nat} (rows : List (List DV)) : ∀ r ∈ rows.map (·.map AV.d), ∀ x ∈ r, Below m x :=
  fun r hr x hx => by obtain ⟨r', _, rfl⟩ := List.mem_map.1 hr; exact below_row r' x hx
theorem blR_mapf {m : Nat} {α : Type} (f : α → List DV) (l : List α) : ∀ r ∈ l.map (fun a => (f a).map AV.d), ∀ x ∈ r, Below m x :=
  fun r hr x hx => by obtain ⟨a, _, rfl⟩ := List.mem_map.1 hr; exact below_row (f a) x hx
theorem q_wk {ℓ : Nat} {e : AEx} {S' : St} (hw : Wk k0 ℓ s S s' S') (h : Q e s' S') : KQ.wk k0 ℓ Q e s S := ⟨_, _, hw, h⟩
/-- At the end of a round: what it made is forgotten. -/
theorem q_cut {ℓ : Nat} {p : List (Option Code)} (hm : Nat.ble ℓ H.length = true) (hs : cutF ℓ s = some s') (hH : forceL (H.take ℓ) some = some H') (hv : ∀ x ∈ s', Below ℓ x) (hb : ∀ B ∈ H', ∀ r ∈ B.rows, ∀ x ∈ r, Below ℓ x) (h : N s' ⟨H', p⟩) : KQ.wk k0 ℓ (KQ.then N Q) .n s ⟨H, p⟩ :=
  q_wk (.cut ℓ hm (Nat.ble_eq_true_of_le (Nat.le_refl _)) hs hH hv hb) (q_then_n h)

/-! ### Range over a function -/
section
variable {p p' : List (Option Code)}
theorem c_rng {f : Opd} {qs : List Nat} {id : FuncId} {caps : List AV} (hf : opd s [] f = .fn id caps) (hp : forceL (p ++ [none]) some = some p')
    (h : ∀ (l : Nat), ACall P k0 (mute E ++ [(l, bodyY P k0 E qs x y s)]) id (.yl l :: caps) ⟨H, p'⟩ (rngK Q s)) : AW P k0 E (.rng f qs x y) Q s ⟨H, p⟩ := by
  rw [forceL_eq] at hp
  cases hp
  exact AW.rng hf h
/-- What holds as the body of such a loop is left. -/
def yK (K : Bool → St → Prop) : KQ := fun e _ S' => K e.jump.isNone { S' with p := S'.p ++ [e.jump] }
def setLF (s : List AV) : List Nat → List AV → Option (List AV)
  | q :: qs, x :: xs => match setLF (s.set q x) qs xs with
    | some s' => some s'
    | none => none
  | [], [] => forceL s some
  | _, _ => none
theorem setLF_ok : ∀ {qs : List Nat} {xs s s' : List AV}, setLF s qs xs = some s' → xs.length = qs.length ∧ setL s qs xs = s'
  | q :: qs, x :: xs, s, s', h => by
    simp only [setLF] at h
    split at h
    · rename_i s₁ h1
      cases h
      obtain ⟨k1, k2⟩ := setLF_ok h1
      exact ⟨by simp [k1], by rw [setL]; exact k2⟩
    · cases h
  | [], [], s, s', h => by simp only [setLF, forceL_eq] at h; cases h; exact ⟨rfl, rfl⟩
  | [], _ :: _, s, s', h => by cases h
  | _ :: _, [], s, s', h => by cases h
theorem y_body {qs : List Nat} {args : List AV} {K : Bool → St → Prop} (hs : setLF s qs args = some s') (hp : forceL (p.take E.length) some = some p') (h : AW P k0 E x (KQ.then (AW P k0 E y (yK K)) (fun _ _ _ => False)) s' ⟨H, p'⟩) : bodyY P k0 E qs x y s args ⟨H, p⟩ K := by
  obtain ⟨h1, h2⟩ := setLF_ok hs
  rw [forceL_eq] at hp
  cases hp
  refine ⟨h1, ?_⟩
  rw [h2]
  exact h
theorem y_n {K : Bool → St → Prop} (hp : forceL (p ++ [none]) some = some p') (h : K true ⟨H, p'⟩) : yK K .n s ⟨H, p⟩ := by
  rw [forceL_eq] at hp; cases hp; exact h
theorem y_r {K : Bool → St → Prop} (hp : forceL (p ++ [some .ret]) some = some p') (h : K false ⟨H, p'⟩) : yK K .r s ⟨H, p⟩ := by
  rw [forceL_eq] at hp; cases hp; exact h
theorem y_x {K : Bool → St → Prop} (hp : forceL (p ++ [some (.exit id)]) some = some p') (h : K false ⟨H, p'⟩) : yK K (.x id) s ⟨H, p⟩ := by
  rw [forceL_eq] at hp; cases hp; exact h
def splitL {α : Type} : List α → Option (List α × α)
  | [] => none
  | [a] => some ([], a)
  | a :: b :: l => match splitL (b :: l) with
    | some (l', x) => some (a :: l', x)
    | none => none
theorem splitL_ok {α : Type} : ∀ {l l' : List α} {x : α}, splitL l = some (l', x) → l = l' ++ [x]
  | [a], l', x, h => by cases h; rfl
  | a :: b :: l, l', x, h => by
    simp only [splitL] at h
    split at h
    · rename_i l₁ x₁ h1
      cases h
      rw [splitL_ok h1]; rfl
    · cases h
theorem rk_n {r : AV} (hp : splitL p' = some (p, none)) (h : Q .n s ⟨H, p⟩) : rngK Q s r ⟨H, p'⟩ := ⟨.n, p, splitL_ok hp, h⟩
theorem rk_r {r : AV} (hp : splitL p' = some (p, some .ret)) (h : Q .r s ⟨H, p⟩) : rngK Q s r ⟨H, p'⟩ := ⟨.r, p, splitL_ok hp, h⟩
theorem rk_x {r : AV} (hp : splitL p' = some (p, some (.exit id))) (h : Q (.x id) s ⟨H, p⟩) : rngK Q s r ⟨H, p'⟩ := ⟨.x id, p, splitL_ok hp, h⟩
end

variable {ℓ : Nat} {e : AEx} {v v2 v3 : AV} {q q2 q3 : Nat}
def resF (s : List AV) (H : AHeap) : List RSp → Option (List AV)
  | [] => some []
  | .t q :: sp => match resF s H sp with
    | some l => match s[q]? with
      | some x => (match fVal x H with
        | some (v, _) => some (v :: l)
        | none => none)
      | none => none
    | none => none
  | .cell q n g :: sp => match resF s H sp with
    | some l => match s[q]? with
      | some x => (match fLoad n g x H with
        | some (v, _) => some (v :: l)
        | none => none)
      | none => none
    | none => none
theorem fLoad_ok {sz : Nat} {agg : Bool} {x : AV} (h : fLoad sz agg x H = some (r, H')) (hK : K r ⟨H, p⟩) : aLoad sz agg x ⟨H, p⟩ K := by
  have hH : H' = H := by
    unfold fLoad at h
    split at h
    · obtain ⟨h1, h2⟩ := guardB_some h
      split at h2
      · split at h2 <;> cases h2; rfl
      · rw [forceL_eq, forceL_eq] at h2; cases h2; rfl
    · split at h
      · obtain ⟨h1, h2⟩ := guardB_some h
        split at h2
        · exact (fLoadD_ok h2).2
        · cases h2
      · cases h
    · cases h
  subst hH
  have := o_f (P := default) (k0 := 0) (E := []) (ao := .load sz agg (.s 0)) (ev := fun _ => x) (H := H') (H' := H') (p := p) (K := K) (r := r) (by simpa [fop] using h) hK
  simpa [aop] using this
theorem resF_ok {s : List AV} : ∀ {sp : List RSp} {l : List AV} {L : List AV → Prop}, resF s H sp = some l → L l → aRes s ⟨H, p⟩ sp L
  | [], l, L, h, hL => by cases h; exact hL
  | .t q :: sp, l, L, h, hL => by
    simp only [resF] at h
    split at h
    · rename_i l' h1
      split at h
      · rename_i x hx
        split at h
        · rename_i v H₁ hv
          cases h
          obtain ⟨rfl, _⟩ := fVal_ok hv
          rw [aRes, getD_some hx]
          exact resF_ok h1 hL
        · cases h
      · cases h
    · cases h
  | .cell q n g :: sp, l, L, h, hL => by
    simp only [resF] at h
    split at h
    · rename_i l' h1
      split at h
      · rename_i x hx
        split at h
        · rename_i v H₁ hv
          cases h
          rw [aRes, getD_some hx]
          exact fLoad_ok hv (resF_ok h1 hL)
        · cases h
      · cases h
    · cases h
def resV (s : List AV) (H : AHeap) (sp : List RSp) : Option AV :=
  match resF s H sp with
  | some [x] => some x
  | some l => some (.tup l)
  | none => none
theorem fin_all {p : List (Option Code)} {sp : List RSp} (he : (match e with | .x _ => False | _ => True)) (hv : resV s H sp = some v) (h : ∃ r S', Wk k0 ℓ [v] ⟨H, p⟩ [r] S' ∧ K r S') : KQ.fin k0 ℓ sp K e s ⟨H, p⟩ := by
  refine ⟨he, ?_⟩
  unfold resV at hv
  split at hv
  · rename_i x hl; cases hv; exact resF_ok hl h
  · rename_i l hl hne
    cases hv
    refine resF_ok hne ?_
    unfold tupOf
    split
    · rename_i x; exact absurd rfl (hl x)
    · exact h
  · cases hv
def argsF : List Nat → List AV → Option (List AV)
  | [], _ => some []
  | t :: κ, args => match argsF κ args with
    | some l => match args[t]? with
      | some v => some (v :: l)
      | none => some (.junk :: l)
    | none => none
theorem argsF_ok : ∀ {κ : List Nat} {args l : List AV}, argsF κ args = some l → κ.map (fun t => args.getD t .junk) = l
  | [], args, l, h => by cases h; rfl
  | t :: κ, args, l, h => by
    simp only [argsF] at h
    split at h
    · rename_i l' h1
      have := argsF_ok h1
      split at h
      · rename_i v hv; cases h; rw [List.map_cons, this, getD_some hv]
      · rename_i hv; cases h; rw [List.map_cons, this]; simp [List.getD, hv]
    · cases h
theorem c_body {f : FuncId} {owns κ : List Nat} {ac : ACode} {sp : List RSp} {np : Nat} {args s : List AV} (hf : FnOk P f owns κ ac sp np) (hl : args.length = np) (hs : argsF κ args = some s)
    (h : AW P k0 E ac (KQ.fin k0 S.H.length sp K) s S) : ACall P k0 E f args S K := by
  refine .of_body hf hl ?_
  rw [argsF_ok hs]
  exact h
/-- Of a function that begins with no owned memory. -/
theorem c_body0 {f : FuncId} {owns κ : List Nat} {ac : ACode} {sp : List RSp} {np : Nat} {args s : List AV} (hf : FnOk P f owns κ ac sp np) (hl : args.length = np) (hs : argsF κ args = some s)
    (h : AW P k0 E ac (KQ.fin k0 0 sp K) s ⟨[], p⟩) : ACall P k0 E f args ⟨[], p⟩ K := c_body hf hl hs h
end

end Go.Proofs.Ytpmgmingjggegaa.AL
