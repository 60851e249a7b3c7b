/- Regions: the operations of one statement, in the text's order or in whatever order the machine draws. -/
import Derived.Test.YtpmgmingjggegaaAlN
set_option linter.unusedVariables false
set_option linter.unusedSimpArgs false
namespace Go.Proofs.Ytpmgmingjggegaa.AL
open Go

variable {P : Program} {C : Ctx} {X : Nat → Prop} {ρ : List Loc} {S : St} {w : World}
variable {rd : Option Nat} {n : Nat} {a : Act} {Q : Exit → Act → World → Prop}

def dstOk (nt : Nat) (o : Oper) : Bool :=
  match o.dst with
  | none => true
  | some d => decide (d < nt)

def compGuard (ds : List (Option Nat)) : Option (Nat × Bool) → Option (Option (Nat × Bool))
  | none => some none
  | some (j, want) => if j < ds.length then (match ds[ds.length - 1 - j]? with
    | some (some _) => some (some (ds.length - 1 - j, want))
    | _ => none) else none

def compOps (P : Program) (nt : Nat) (own : Bool) (κ : List Nat) : List Kd → List (Option Nat) → List Oper → Option (List ROp)
  | _, _, [] => some []
  | bars, ds, o :: rest => match compOp P own ds κ o, compGuard ds o.guard, compOps P nt own κ bars.tail (o.dst :: ds) rest with
    | some op, some g, some r => if dstOk nt o then some (⟨op, g, bars.headD .b⟩ :: r) else none
    | _, _, _ => none

def uniqB : List Oper → Bool
  | [] => true
  | o :: r => (match o.dst with | none => true | some t => r.all fun o' => o'.dst != some t) && uniqB r

def befGo : List Oper → List Nat → List Nat
  | [], acc => acc
  | o :: r, acc => befGo r (acc ++ [o.after.toList.foldl (fun s e => if Region.binds .any e then s ||| 2 ^ e.on ||| acc.getD e.on 0 else s) 0])
def befs (L : List Oper) : List Nat := befGo L []

def namesT (o : Oper) (t : Nat) : Bool := o.op.operands.toList.any fun | .tmp u => u == t | _ => false

/-- Are two places of the region in order? -/
def ordB (B : List Nat) (i j : Nat) : Bool := if i < j then (B.getD j 0).testBit i else (B.getD i 0).testBit j

def barB (B : List Nat) (n j : Nat) : Bool := (List.range n).all fun i => i == j || ordB B i j

/-- May it change something? -/
def effOp (own : Bool) (o : Oper) : Bool :=
  match o.op with
  | .alloc _ | .box .. | .store .. => true
  | .makeSlice .. => !own
  | .buildSlice .. => own
  | .call { callee := .builtin .append, .. } => true
  | .call { callee := .value _, .. } => true
  | _ => false

/-- How many from b on, under m, are so? -/
def cntP (p : Nat → Bool) (b : Nat) : Nat → Nat
  | 0 => 0
  | n + 1 => cntP p b n + (if b ≤ n && p n then 1 else 0)

def effB (own : Bool) (L : List Oper) (i : Nat) : Bool := (L[i]?).any (effOp own)

/-- How the operations of a drawn region stand. -/
def kindAt (own : Bool) (L : List Oper) (B : List Nat) (j : Nat) : Kd :=
  if barB B L.length j then .b
  else if effB own L j then .e
  else .p (cntP (fun i => effB own L i && !ordB B i j) 0 j) (cntP (fun i => effB own L i && !ordB B i j) (j + 1) L.length)
def kindsOf (own : Bool) (L : List Oper) : List Kd := (List.range L.length).map fun j => kindAt own L (befs L) j

/-- What may change something is in order. -/
def effOk (own : Bool) (L : List Oper) : Bool := (List.range L.length).all fun i => (List.range L.length).all fun j => i == j || !effB own L i || !effB own L j || ordB (befs L) i j

def clashB (L : List Oper) (B : List Nat) (i j : Nat) (o : Oper) : Bool :=
  (match L[i]?.bind (·.dst) with
    | some t => !(namesT o t) || ordB B i j
    | none => true) &&
  (match o.guard with
    | some (g, _) => g != i || (decide (i < j) && ordB B i j)
    | none => true)

def drawOk (L : List Oper) : Bool :=
  (List.range L.length).all fun j => match L[j]? with
    | none => true
    | some o => (o.after.toList.all fun e => !(Region.binds .any e) || decide (e.on < j)) && (List.range L.length).all fun i => i == j || clashB L (befs L) i j o

def wrGo : Nat → List Nat → List (Option Nat) → List (Nat × Nat)
  | _, [], _ => []
  | q, t :: κ, ds => match ds.idxOf? (some t) with
    | some k => (q, k) :: wrGo (q + 1) κ ds
    | none => wrGo (q + 1) κ ds

/-- The frame behind a region: what was written to named slots. -/
def wrS : List (Nat × Nat) → List AV → List AV → List AV
  | [], s, _ => s
  | (q, k) :: wr, s, R => wrS wr (s.set q (R.getD k .junk)) R

def dsAt (L : List Oper) (j : Nat) : List (Option Nat) := ((L.take j).map (·.dst)).reverse

def compReg (P : Program) (nt : Nat) (own : Bool) (κ : List Nat) (draw : Bool) (L : List Oper) : Option (List ROp × List (Nat × Nat)) :=
  if uniqB L && (!draw || (drawOk L && effOk own L && P.follows .mixedOrders)) then
    match compOps P nt own κ (if draw then kindsOf own L else L.map fun _ => .b) [] L with
    | some r => some (r, wrGo 0 κ (dsAt L L.length))
    | none => none
  else none

/-- The operations, one behind the other. hs: the states ahead of the changes since the last operation that is ordered with all. pd: what must hold still behind the next changes. -/
def aops (P : Program) (k0 : Nat) (E : Env) (s : List AV) : List ROp → List AV → List St → List (Nat × (St → Prop)) → St → (List AV → St → Prop) → Prop
  | [], R, _, _, S, K => K R S
  | o :: rest, R, hs, pd, S, K =>
    match o.g with
    | none => match o.k with
      | .b => aop P k0 E o.op (opd s R) S (fun r S' => aops P k0 E s rest (r :: R) [] [] S' K)
      | .p bk fw => ∃ r, (∀ S₁ ∈ S :: hs.take bk, aop P k0 E o.op (opd s R) S₁ (fun r' S' => r' = r ∧ S' = S₁)) ∧
          aops P k0 E s rest (r :: R) hs ((fw, fun S₁ => aop P k0 E o.op (opd s R) S₁ (fun r' S' => r' = r ∧ S' = S₁)) :: pd) S K
      | .e => ∃ r S', aop P k0 E o.op (opd s R) S (fun r' S'' => r' = r ∧ S'' = S') ∧ (∀ q ∈ pd, 0 < q.1 → q.2 S') ∧ aops P k0 E s rest (r :: R) (S :: hs) (pd.map fun q => (q.1 - 1, q.2)) S' K
    | some (k, want) =>
      match R.getD k .junk with
      | .d (.lit (.bool b)) =>
        (b = want → match o.k with
          | .b => aop P k0 E o.op (opd s (R.set k (.bool want))) S (fun r S' => aops P k0 E s rest (r :: R.set k (.bool want)) [] [] S' K)
          | .p bk fw => ∃ r, (∀ S₁ ∈ S :: hs.take bk, aop P k0 E o.op (opd s (R.set k (.bool want))) S₁ (fun r' S' => r' = r ∧ S' = S₁)) ∧
              aops P k0 E s rest (r :: R.set k (.bool want)) hs ((fw, fun S₁ => aop P k0 E o.op (opd s (R.set k (.bool want))) S₁ (fun r' S' => r' = r ∧ S' = S₁)) :: pd) S K
          | .e => ∃ r S', aop P k0 E o.op (opd s (R.set k (.bool want))) S (fun r' S'' => r' = r ∧ S'' = S') ∧ (∀ q ∈ pd, 0 < q.1 → q.2 S') ∧ aops P k0 E s rest (r :: R.set k (.bool want)) (S :: hs) (pd.map fun q => (q.1 - 1, q.2)) S' K) ∧
        (b = !want → match o.k with
          | .b => aops P k0 E s rest (.und :: R.set k (.bool !want)) [] [] S K
          | .p _ _ => aops P k0 E s rest (.und :: R.set k (.bool !want)) hs pd S K
          | .e => (∀ q ∈ pd, 0 < q.1 → q.2 S) ∧ aops P k0 E s rest (.und :: R.set k (.bool !want)) (S :: hs) (pd.map fun q => (q.1 - 1, q.2)) S K)
      | .d (.lit (.tuple _)) => match o.k with
        | .b => aops P k0 E s rest (.und :: R) [] [] S K
        | .p _ _ => aops P k0 E s rest (.und :: R) hs pd S K
        | .e => (∀ q ∈ pd, 0 < q.1 → q.2 S) ∧ aops P k0 E s rest (.und :: R) (S :: hs) (pd.map fun q => (q.1 - 1, q.2)) S K
      | _ => False

/-! ### The frame in a region -/
structure RegInv (X : Nat → Prop) (ρ : List Loc) (H : AHeap) (w : World) (L : List Oper) (κ : List Nat) (s : List AV) (nt : Nat) (Lst : Nat → Prop) (res : Nat → AV) (a : Act) : Prop where
  size : a.tmps.size = nt
  done : ∀ (j : Nat) (o : Oper) (t : Nat), Lst j → L[j]? = some o → o.dst = some t → ∃ v, a.tmps[t]? = some v ∧ Rel X ρ H w (res j) v
  slot : ∀ (q t : Nat) (x : AV), κ[q]? = some t → s[q]? = some x → (∀ (j : Nat) (o : Oper), Lst j → L[j]? = some o → o.dst ≠ some t) → ∃ v, a.tmps[t]? = some v ∧ Rel X ρ H w x v

theorem RegInv.mono {X' : Nat → Prop} {ρ' : List Loc} {H H' : AHeap} {w' : World} {L : List Oper} {κ : List Nat} {s : List AV} {nt : Nat} {Lst : Nat → Prop} {res : Nat → AV} (hs : Stays X w X' w') (hh : HStays ρ H ρ' H') (h : RegInv X ρ H w L κ s nt Lst res a) : RegInv X' ρ' H' w' L κ s nt Lst res a :=
  ⟨h.size, fun j o t a1 a2 a3 => let ⟨v, b1, b2⟩ := h.done j o t a1 a2 a3; ⟨v, b1, b2.mono hs hh⟩, fun q t x a1 a2 a3 => let ⟨v, b1, b2⟩ := h.slot q t x a1 a2 a3; ⟨v, b1, b2.mono hs hh⟩⟩

theorem uniqB_spec : ∀ {L : List Oper}, uniqB L = true → ∀ (i j : Nat) (o o' : Oper) (t : Nat), L[i]? = some o → L[j]? = some o' → o.dst = some t → o'.dst = some t → i = j
  | [], _, i, j, o, o', t, h, _, _, _ => by simp at h
  | x :: L, hu, i, j, o, o', t, hi, hj, ho, ho' => by
    simp only [uniqB, Bool.and_eq_true] at hu
    obtain ⟨h1, h2⟩ := hu
    cases i with
    | zero =>
      cases j with
      | zero => rfl
      | succ j =>
        simp at hi hj
        subst hi
        rw [ho] at h1
        simp only [List.all_eq_true, bne_iff_ne, ne_eq] at h1
        exact absurd ho' (h1 o' (List.mem_of_getElem? hj))
    | succ i =>
      cases j with
      | zero =>
        simp at hi hj
        subst hj
        rw [ho'] at h1
        simp only [List.all_eq_true, bne_iff_ne, ne_eq] at h1
        exact absurd ho (h1 o (List.mem_of_getElem? hi))
      | succ j => rw [uniqB_spec h2 i j o o' t (by simpa using hi) (by simpa using hj) ho ho']

theorem dsAt_get {L : List Oper} {j k : Nat} (hj : j ≤ L.length) (hk : k < j) : (dsAt L j)[k]? = (L[j - 1 - k]?).map (·.dst) := by
  unfold dsAt
  rw [List.getElem?_reverse (by simp; omega)]
  simp only [List.length_map, List.length_take, Nat.min_eq_left hj, List.getElem?_map]
  rw [List.getElem?_take, if_pos (by omega)]
theorem dsAt_length {L : List Oper} {j : Nat} (hj : j ≤ L.length) : (dsAt L j).length = j := by simp [dsAt, hj]
theorem dsAt_succ {L : List Oper} {j : Nat} {o : Oper} (h : L[j]? = some o) : dsAt L (j + 1) = o.dst :: dsAt L j := by
  unfold dsAt
  have := List.take_add_one (l := L) (i := j)
  rw [this, h]
  simp

theorem idxOf?_spec {ds : List (Option Nat)} {t k : Nat} (h : ds.idxOf? (some t) = some k) : ds[k]? = some (some t) := by
  unfold List.idxOf? at h
  rw [List.findIdx?_eq_some_iff_getElem] at h
  obtain ⟨hk, h1, _⟩ := h
  rw [List.getElem?_eq_getElem hk]
  simpa using h1
theorem idxOf?_none {ds : List (Option Nat)} {t : Nat} (h : ds.idxOf? (some t) = none) : ∀ k : Nat, ds[k]? ≠ some (some t) := by
  unfold List.idxOf? at h
  rw [List.findIdx?_eq_none_iff] at h
  intro k hk
  have := h _ (List.mem_of_getElem? hk)
  simp at this
theorem idxOfN_spec {κ : List Nat} {t k : Nat} (h : κ.idxOf? t = some k) : κ[k]? = some t := by
  unfold List.idxOf? at h
  rw [List.findIdx?_eq_some_iff_getElem] at h
  obtain ⟨hk, h1, _⟩ := h
  rw [List.getElem?_eq_getElem hk]
  simpa using h1

/-- A constant reads as its abstract value. -/
theorem cv_rel {H : AHeap} (v : Value) (hv : ∀ cs, v = .agg cs → ∀ u ∈ cs.toList, u.oneCell' = true) : Rel X ρ H w (cv v) v := by
  cases v <;> try exact .d _ _ (cv1_rel _)
  case agg cs =>
    refine .agg _ _ (by simp) (fun i u hu => hv cs rfl u (by rw [Array.mem_toList_iff]; exact Array.mem_of_getElem? hu)) (fun i x u hx hu => ?_)
    simp only [List.getElem?_map, Option.map_eq_some_iff, Array.getElem?_toList] at hx
    obtain ⟨y, hy, rfl⟩ := hx
    rw [hu] at hy; cases hy
    exact .d _ _ (cv1_rel _)

theorem constOk_spec {v : Value} (h : constOk v = true) : ∀ cs, v = .agg cs → ∀ u ∈ cs.toList, u.oneCell' = true := by
  rintro cs rfl u hu
  simp only [constOk, List.all_eq_true] at h
  exact h u hu

theorem opd_rel {L : List Oper} {κ : List Nat} {s : List AV} {nt : Nat} {Lst : Nat → Prop} {res : Nat → AV} (hinv : RegInv X ρ S.H w L κ s nt Lst res a) {j : Nat} (hj : j ≤ L.length) {R : List AV} (hR : ∀ k, k < j → R.getD k .junk = res (j - 1 - k)) {x : Operand} {y : Opd}
    (hc : compOpd (dsAt L j) κ x = some y) (h1 : ∀ t, x = .tmp t → ∀ (i : Nat) (o : Oper), i < j → L[i]? = some o → o.dst = some t → Lst i) (h2 : ∀ t, x = .tmp t → ∀ (i : Nat) (o : Oper), j ≤ i → L[i]? = some o → o.dst = some t → ¬ Lst i) :
    Rel X ρ S.H w (opd s R y) (a.eval x) := by
  cases x with
  | tmp t =>
    simp only [compOpd] at hc
    split at hc
    · rename_i k hk
      cases hc
      have hd := idxOf?_spec hk
      have hkj : k < j := by
        have := (List.getElem?_eq_some_iff.1 hd).1
        rw [dsAt_length hj] at this
        exact this
      rw [dsAt_get hj hkj] at hd
      simp only [Option.map_eq_some_iff] at hd
      obtain ⟨o, ho, hod⟩ := hd
      obtain ⟨v, hv, hr⟩ := hinv.done (j - 1 - k) o t (h1 t rfl _ o (by omega) ho hod) ho hod
      simp only [opd, hR k hkj]
      have : a.eval (.tmp t) = v := by simp [Act.eval, Array.getD_eq_getD_getElem?, hv]
      rw [this]; exact hr
    · rename_i hk
      obtain ⟨q, hq, rfl⟩ := opt_map hc
      have hκ := idxOfN_spec hq
      simp only [opd]
      cases hs : s[q]? with
      | none =>
        have : s.getD q .junk = .junk := by simp [List.getD, hs]
        rw [this]; exact .junk _
      | some z =>
        have : s.getD q .junk = z := by simp [List.getD, hs]
        rw [this]
        obtain ⟨v, hv, hr⟩ := hinv.slot q t z hκ hs (fun i o hi ho hod => by
          rcases Nat.lt_or_ge i j with hlt | hge
          · have := idxOf?_none hk (j - 1 - i)
            rw [dsAt_get hj (by omega), show j - 1 - (j - 1 - i) = i by omega, ho] at this
            simp [hod] at this
          · exact h2 t rfl i o hge ho hod hi)
        have : a.eval (.tmp t) = v := by simp [Act.eval, Array.getD_eq_getD_getElem?, hv]
        rw [this]; exact hr
  | const v =>
    simp only [compOpd] at hc
    split at hc
    · rename_i h
      cases hc
      exact cv_rel v (constOk_spec h)
    · cases hc
  | global g => simp [compOpd] at hc
  | func f =>
    simp only [compOpd, Option.some.injEq] at hc
    subst hc
    exact .fn f [] #[] rfl (fun i x u h => by simp at h)

theorem RegInv.put {L : List Oper} {κ : List Nat} {s : List AV} {nt : Nat} {Lst : Nat → Prop} {res : Nat → AV} {H : AHeap} (hinv : RegInv X ρ H w L κ s nt Lst res a) (hu : uniqB L = true) {j : Nat} {o : Oper} {v : Value} (ho : L[j]? = some o) (hj : ¬ Lst j) (hr : Rel X ρ H w (res j) v) (hd : dstOk nt o = true) :
    RegInv X ρ H w L κ s nt (fun i => Lst i ∨ i = j) res (a.put o.dst v) := by
  cases hod : o.dst with
  | none =>
    simp only [Act.put]
    refine ⟨hinv.size, fun i o' t hi ho' hod' => ?_, fun q t x hq hs hn => hinv.slot q t x hq hs (fun i o' hi ho' => hn i o' (.inl hi) ho')⟩
    rcases hi with hi | rfl
    · exact hinv.done i o' t hi ho' hod'
    · rw [ho] at ho'; cases ho'; rw [hod] at hod'; cases hod'
  | some d =>
    have hdn : d < nt := by simpa [dstOk, hod] using hd
    simp only [Act.put]
    refine ⟨by simp [hinv.size], fun i o' t hi ho' hod' => ?_, fun q t x hq hs hn => ?_⟩
    · by_cases e : i = j
      · subst e
        rw [ho] at ho'; cases ho'
        rw [hod] at hod'; cases hod'
        exact ⟨v, by simp [hinv.size, hdn], hr⟩
      · have hi := hi.resolve_right e
        obtain ⟨u, hu1, hu2⟩ := hinv.done i o' t hi ho' hod'
        refine ⟨u, ?_, hu2⟩
        rw [Array.getElem?_setIfInBounds_ne (fun e' => e (uniqB_spec hu i j o' o t ho' ho hod' (by rw [hod, e'])))]
        exact hu1
    · obtain ⟨u, hu1, hu2⟩ := hinv.slot q t x hq hs (fun i o' hi ho' => hn i o' (.inl hi) ho')
      refine ⟨u, ?_, hu2⟩
      have hne : d ≠ t := fun e => hn j o (.inr rfl) ho (by rw [hod, e])
      rw [Array.getElem?_setIfInBounds_ne hne]
      exact hu1

theorem RegInv.congr {L : List Oper} {κ : List Nat} {s : List AV} {nt : Nat} {Lst Lst' : Nat → Prop} {res res' : Nat → AV} {H : AHeap} (hinv : RegInv X ρ H w L κ s nt Lst res a) (h1 : ∀ i, i < L.length → (Lst' i ↔ Lst i)) (h2 : ∀ i, Lst i → res' i = res i) : RegInv X ρ H w L κ s nt Lst' res' a := by
  have lt : ∀ {i : Nat} {o : Oper}, L[i]? = some o → i < L.length := fun h => (List.getElem?_eq_some_iff.1 h).1
  refine ⟨hinv.size, fun i o t hi ho hod => ?_, fun q t x hq hs hn => hinv.slot q t x hq hs (fun i o hi ho => hn i o ((h1 i (lt ho)).2 hi) ho)⟩
  have hi := (h1 i (lt ho)).1 hi
  rw [h2 i hi]
  exact hinv.done i o t hi ho hod

theorem set_same {R : List AV} {k : Nat} {x : AV} (h : R.getD k .junk = x) : R.set k x = R := by
  apply List.ext_getElem?
  intro i
  rw [List.getElem?_set]
  split
  · rename_i e
    subst e
    split
    · rename_i hlt
      rw [List.getElem?_eq_getElem hlt]
      simp only [List.getD, List.getElem?_eq_getElem hlt, Option.getD_some] at h
      rw [h]
    · rename_i hge
      rw [List.getElem?_eq_none (by omega)]
  · rfl

def boolOf : Value → Option Bool
  | .bool b => some b
  | _ => none

/-- The value that a guard looks at. -/
theorem guard_at {L : List Oper} {κ : List Nat} {s : List AV} {nt : Nat} {Lst : Nat → Prop} {res : Nat → AV} (hinv : RegInv X ρ S.H w L κ s nt Lst res a) {j : Nat} (hj : j ≤ L.length) {R : List AV} (hR : ∀ k, k < j → R.getD k .junk = res (j - 1 - k)) {g k : Nat} {want want' : Bool}
    (hg : compGuard (dsAt L j) (some (g, want)) = some (some (k, want'))) (hl : Lst g) : want' = want ∧ g < j ∧ ∃ v, Rel X ρ S.H w (R.getD k .junk) v ∧ yielded L.toArray a.tmps g = boolOf v := by
  simp only [compGuard, dsAt_length hj] at hg
  split at hg
  · rename_i hgj
    split at hg
    · rename_i t ht
      cases hg
      rw [dsAt_get hj (by omega), show j - 1 - (j - 1 - g) = g by omega] at ht
      simp only [Option.map_eq_some_iff] at ht
      obtain ⟨o, ho, hod⟩ := ht
      obtain ⟨v, hv, hr⟩ := hinv.done g o t hl ho hod
      refine ⟨rfl, hgj, v, by rw [hR _ (by omega), show j - 1 - (j - 1 - g) = g by omega]; exact hr, ?_⟩
      simp only [yielded, List.getElem?_toArray, ho, Option.bind_some, hod, hv]
      cases v <;> rfl
    · cases hg
  · cases hg

end Go.Proofs.Ytpmgmingjggegaa.AL
