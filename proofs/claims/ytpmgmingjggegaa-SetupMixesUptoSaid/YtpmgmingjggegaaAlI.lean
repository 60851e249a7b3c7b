/- Slices of slices, conversions, minima, structs built, new variables: sound. -/
import Derived.Test.YtpmgmingjggegaaAlH
set_option linter.unusedVariables false
set_option linter.unusedSimpArgs false
namespace Go.Proofs.Ytpmgmingjggegaa.AL
open Go

variable {P : Program} {C : Ctx} {X : Nat → Prop} {ρ : List Loc} {S : St} {w : World}

/-- An optional bound: none, or an int. -/
def OptR (X : Nat → Prop) (ρ : List Loc) (H : AHeap) (w : World) : Option AV → Option Value → Prop
  | none, none => True
  | some x, some v => Rel X ρ H w x v
  | _, _ => False

theorem OptR.int {H : AHeap} {lo : Option AV} {v : Option Value} {d l : Int} (h : OptR X ρ H w lo v) (e : optInt d lo = some l) : (lo = none ∧ v = none ∧ l = d) ∨ ∃ k, v = some (.int k l) := by
  cases lo with
  | none =>
    cases v with
    | none => simp [optInt] at e; exact .inl ⟨rfl, rfl, e.symm⟩
    | some v => exact h.elim
  | some x =>
    cases v with
    | none => exact h.elim
    | some v =>
      cases x with
      | d y => cases y with
        | lit u => cases u <;> simp [optInt] at e; case int k n => subst e; exact .inr ⟨k, by rw [Rel.lit_eq h]⟩
        | sl => simp [optInt] at e
      | _ => simp [optInt] at e

theorem run_sliceBounds (isSlice : Bool) (len cap : Nat) (lo hi : Option Value) (l h : Int) (hl : (lo = none ∧ l = 0) ∨ ∃ k, lo = some (.int k l)) (hh : (hi = none ∧ h = len) ∨ ∃ k, hi = some (.int k h)) (h0 : 0 ≤ l) (h1 : l ≤ h) (h2 : h ≤ cap) :
    (Instr.sliceBounds isSlice len cap lo hi none).run P w = .ok (l.toNat, h.toNat, cap) w := by
  have hh0 : 0 ≤ h := Int.le_trans h0 h1
  rcases hl with ⟨rfl, rfl⟩ | ⟨k, rfl⟩ <;> rcases hh with ⟨rfl, rfl⟩ | ⟨k', rfl⟩ <;>
    simp [Instr.sliceBounds, Instr.sliceBound, asIntOf, h0, h1, h2, hh0] <;> (try (intro _; omega))

theorem run_slice {t e : TypeId} {i : TypeInfo} (ht : P.underlying t = some (.slice e)) (hi : P.info? e = some i) (a : Option Addr) (len cap : Nat) (lo hi' : Option Value) (l h : Int)
    (hl : (lo = none ∧ l = 0) ∨ ∃ k, lo = some (.int k l)) (hh : (hi' = none ∧ h = len) ∨ ∃ k, hi' = some (.int k h)) (h0 : 0 ≤ l) (h1 : l ≤ h) (h2 : h ≤ cap) :
    (Instr.sliceAt t (.slice a len cap) lo hi' none).run P w = .ok (.slice (if cap = l.toNat then a else a.map (·.add (l.toNat * i.size))) (h.toNat - l.toNat) (cap - l.toNat)) w := by
  simp [Instr.sliceAt, Instr.slice, run_underlying ht, run_sliceBounds true len cap lo hi' l h hl hh h0 h1 h2, run_sizeOf hi]

theorem run_slice3 {t e : TypeId} {i : TypeInfo} (ht : P.underlying t = some (.slice e)) (hi : P.info? e = some i) (a : Option Addr) (len cap : Nat) (lo hi' : Option Value) (k : IntKind)
    (hl : lo = none ∨ ∃ k, lo = some (.int k 0)) (hh : ∃ k, hi' = some (.int k 0)) :
    (Instr.sliceAt t (.slice a len cap) lo hi' (some (.int k 0))).run P w = .ok (.slice a 0 0) w := by
  obtain ⟨k', rfl⟩ := hh
  rcases hl with rfl | ⟨k'', rfl⟩ <;> simp [Instr.sliceAt, Instr.slice, run_underlying ht, Instr.sliceBounds, Instr.sliceBound, asIntOf, run_sizeOf hi]

theorem slc_sound {sz : Nat} {x : AV} {lo hi mx : Option AV} {v : Value} {vlo vhi vmx : Option Value} {K : K2} {t e : TypeId} {i : TypeInfo} (hG : Good C X ρ S w) (ht : P.underlying t = some (.slice e)) (hi' : P.info? e = some i) (hs : i.size = sz) (hpos : 0 < sz)
    (hx : Rel X ρ S.H w x v) (hlo : OptR X ρ S.H w lo vlo) (hhi : OptR X ρ S.H w hi vhi) (hmx : OptR X ρ S.H w mx vmx) (hh3 : mx.isSome = true → hi.isSome = true) (hK : aSlc sz x lo hi mx S K) :
    ∃ v', (Instr.sliceAt t v vlo vhi vmx).run P w = .ok v' w ∧ Post C X ρ S w K v' w := by
  unfold aSlc at hK
  cases mx with
  | some m =>
    cases vmx with
    | none => exact hmx.elim
    | some vm =>
      cases m <;> try (exact hK.elim)
      case d m =>
        cases m <;> try (exact hK.elim)
        case lit m =>
          cases m <;> try (exact hK.elim)
          case int k m =>
            obtain ⟨rfl, h1, h2, h3, hK⟩ := hK
            obtain rfl := Rel.lit_eq hmx
            have hl : vlo = none ∨ ∃ k, vlo = some (.int k 0) := by
              rcases hlo.int h1 with ⟨_, h, _⟩ | h
              · exact .inl h
              · exact .inr h
            have hh : ∃ k, vhi = some (.int k 0) := by
              rcases hhi.int h2 with ⟨h, _, _⟩ | h
              · subst h; simp at hh3
              · exact h
            have fin : ∀ (a : Option Addr) (n cap : Nat), v = .slice a n cap → ∃ v', (Instr.sliceAt t v vlo vhi (some (.int k 0))).run P w = .ok v' w ∧ Post C X ρ S w K v' w := by
              rintro a n cap rfl
              exact ⟨_, run_slice3 ht hi' a n cap vlo vhi k hl hh, .same hG hK (.d _ _ (.zero a))⟩
            cases hx <;> try (exact h3.elim)
            case d x hd =>
              cases hd <;> try (exact h3.elim)
              case zero a => exact fin _ _ _ rfl
              case empty z cap a _ _ => exact fin _ _ _ rfl
              case sl => exact fin _ _ _ rfl
            case ts => exact fin _ _ _ rfl
            case os => exact fin _ _ _ rfl
            case osnil => exact fin _ _ _ rfl
            case osold id g off n B hB hg hv =>
              simp only [hB, Option.map_some, Option.some.injEq] at h3
              omega
  | none =>
    cases vmx with
    | some vm => exact hmx.elim
    | none =>
      have fin : ∀ (a : Option Addr) (n cap : Nat) (l h : Int) (r : AV), v = .slice a n cap → optInt 0 lo = some l → optInt n hi = some h → 0 ≤ l → l ≤ h → h ≤ cap → K r S →
          Rel X ρ S.H w r (.slice (if cap = l.toNat then a else a.map (·.add (l.toNat * i.size))) (h.toNat - l.toNat) (cap - l.toNat)) → ∃ v', (Instr.sliceAt t v vlo vhi none).run P w = .ok v' w ∧ Post C X ρ S w K v' w := by
        rintro a n cap l h r rfl e1 e2 h0 h1 h2 hK hr
        refine ⟨_, run_slice ht hi' a n cap vlo vhi l h ?_ ?_ h0 h1 h2, .same hG hK hr⟩
        · rcases hlo.int e1 with ⟨_, h, rfl⟩ | h
          · exact .inl ⟨h, rfl⟩
          · exact .inr h
        · rcases hhi.int e2 with ⟨_, h, rfl⟩ | h
          · exact .inl ⟨h, rfl⟩
          · exact .inr h
      cases hx <;> try (exact hK.elim)
      case d x hd =>
        cases hd <;> try (exact hK.elim)
        case zero a =>
          obtain ⟨_, l, h, e1, e2, h0, h1, h2, hK⟩ := hK
          simp only [List.length_nil] at e2 h2
          obtain rfl : l = 0 := by omega
          obtain rfl : h = 0 := by omega
          refine fin a 0 0 0 0 _ rfl e1 e2 h0 h1 h2 hK ?_
          simp only [List.take_nil, List.drop_nil]
          exact .d _ _ (.zero a)
        case empty z cap a a1 a2 =>
          obtain ⟨_, l, h, e1, e2, h0, h1, h2, hK⟩ := hK
          simp only [List.length_nil] at e2 h2
          obtain rfl : l = 0 := by omega
          obtain rfl : h = 0 := by omega
          refine fin a 0 cap 0 0 _ rfl e1 e2 h0 h1 (by omega) hK ?_
          simp only [List.take_nil, List.drop_nil]
          exact .d _ _ (.empty z (cap - 0) _ a1 (by omega))
        case sl z rows b o n cap c E fz a1 a2 a3 a4 a5 a6 a7 a8 a9 a10 =>
          obtain ⟨hz, l, h, e1, e2, h0, h1, h2, hK⟩ := hK
          simp only [a2] at e2 h2
          refine fin _ n cap l h _ rfl e1 e2 h0 h1 (by omega) hK ?_
          have hz' : z = sz ∨ n = 0 := hz.imp (fun h => h) (fun h => by rw [h] at a2; exact a2.symm)
          by_cases he : h.toNat - l.toNat = 0
          · rw [he]
            have : (rows.take h.toNat).drop l.toNat = [] := List.eq_nil_of_length_eq_zero (by simp; omega)
            rw [this]
            exact .d _ _ (.empty z _ _ a1 (by omega))
          · have hz : z = sz := hz'.resolve_right (by omega)
            have hc : ¬ cap = l.toNat := by omega
            rw [if_neg hc, hs, ← hz]
            simp only [Option.map_some, addr_add]
            have hm : (l.toNat + (cap - l.toNat)) * z = cap * z := by congr 1; omega
            rw [Nat.add_mul] at hm
            have hm2 : (l.toNat + (h.toNat - l.toNat)) * z ≤ n * z := Nat.mul_le_mul_right _ (by omega)
            rw [Nat.add_mul] at hm2
            refine .d _ _ (.sl z _ b (o + l.toNat * z) (h.toNat - l.toNat) (cap - l.toNat) c E fz a1 (by simp; omega) (by omega) (by omega) (fun r hr => a5 r (List.mem_of_mem_take (List.mem_of_mem_drop hr))) a6 a7 (by omega)
              (fun k u hk1 hk2 hu => a9 k u (by omega) (by omega) hu) (fun p r j x u hr hj hu => ?_))
            rw [List.getElem?_drop, List.getElem?_take] at hr
            split at hr
            · refine a10 (l.toNat + p) r j x u hr hj ?_
              rw [Nat.add_mul]
              rw [← hu]; congr 1; omega
            · cases hr
      case os id g off n b cs cap B hB hg hρ ho hn hcap hc =>
        simp only [hB] at hK
        obtain ⟨_, hz, l, h, e1, e2, h0, h1, h2, hK⟩ := hK
        split at hK
        · rename_i hlh
          refine fin _ n cap l h _ rfl e1 e2 h0 h1 (by omega) hK ?_
          have hm : (off + l.toNat) * B.sz = off * B.sz + l.toNat * B.sz := Nat.add_mul _ _ _
          have key : ∀ a, a = some (⟨b, (off + l.toNat) * B.sz, none⟩ : Addr) → Rel X ρ S.H w (.os id g (off + l.toNat) (h - l).toNat) (.slice a (h.toNat - l.toNat) (cap - l.toNat)) := by
            rintro a rfl
            have e : (h - l).toNat = h.toNat - l.toNat := by omega
            rw [e]
            refine .os id g (off + l.toNat) (h.toNat - l.toNat) b cs (cap - l.toNat) B hB hg hρ (by omega) (by omega) (by omega) ?_
            have : off + l.toNat + (cap - l.toNat) = off + cap := by omega
            rw [this]; exact hc
          refine key _ ?_
          split
          · rename_i hcl
            have : l = 0 := by omega
            subst this
            simp
          · simp only [Option.map_some, addr_add, hm, hs, ← hz]
        · refine fin _ n cap l h _ rfl e1 e2 h0 h1 (by omega) hK ?_
          have : h.toNat - l.toNat = 0 := by omega
          rw [this]
          exact .d _ _ (.empty sz _ _ hpos (by omega))
      case osnil id g B a hB hg hρ =>
        simp only [hB] at hK
        obtain ⟨_, hz, l, h, e1, e2, h0, h1, h2, hK⟩ := hK
        obtain rfl : l = 0 := by omega
        obtain rfl : h = 0 := by omega
        simp only [or_true, if_true] at hK
        refine fin a 0 0 0 0 _ rfl e1 e2 h0 h1 h2 hK ?_
        exact .osnil id g B a hB hg hρ
      case osold id g off n B hB hg hv =>
        simp only [hB] at hK
        omega

theorem sls_sound {x : AV} {lo hi : Option AV} {v : Value} {vlo vhi : Option Value} {K : K2} {t : TypeId} (hG : Good C X ρ S w) (ht : P.underlying t = some .string)
    (hx : Rel X ρ S.H w x v) (hlo : OptR X ρ S.H w lo vlo) (hhi : OptR X ρ S.H w hi vhi) (hK : aSls x lo hi S K) :
    ∃ v', (Instr.sliceAt t v vlo vhi none).run P w = .ok v' w ∧ Post C X ρ S w K v' w := by
  unfold aSls at hK
  cases hx <;> try (exact hK.elim)
  case d x hd =>
    cases hd <;> try (exact hK.elim)
    case lit =>
      cases v <;> try (exact hK.elim)
      case string s =>
        obtain ⟨l, h, e1, e2, h0, h1, h2, hK⟩ := hK
        have hb := run_sliceBounds (P := P) (w := w) false s.size s.size vlo vhi l h (by
          rcases hlo.int e1 with ⟨_, h, rfl⟩ | h
          · exact .inl ⟨h, rfl⟩
          · exact .inr h) (by
          rcases hhi.int e2 with ⟨_, h, rfl⟩ | h
          · exact .inl ⟨h, rfl⟩
          · exact .inr h) h0 h1 h2
        exact ⟨_, by simp [Instr.sliceAt, Instr.slice, run_underlying ht, hb], .same hG hK (.d _ _ (.lit _))⟩

theorem run_equal_sl_nil {t e : TypeId} (ht : P.underlying t = some (.slice e)) (a : Option Addr) (n cap : Nat) : (Op.equal t (.slice a n cap) (.slice none 0 0)).run P w = .ok a.isNone w := by
  have h : ∀ d, (Op.equalIn (d + 1) t (.slice a n cap) (.slice none 0 0)).run P w = .ok a.isNone w := fun d => by cases a <;> simp [Op.equalIn, run_underlying ht]
  exact h 9999

theorem sln_sound {neq : Bool} {x : AV} {v : Value} {a b : Operand} {t e : TypeId} {K : K2} (hG : Good C X ρ S w) (ht : P.underlying t = some (.slice e)) (hx : Rel X ρ S.H w x v) (hK : aSln neq x S K) :
    ∃ v', (do eqGuard (if neq then .neq else .eql) t a b v (.slice none 0 0); binOp (if neq then .neq else .eql) t v (.slice none 0 0) : Sem Value).run P w = .ok v' w ∧ Post C X ρ S w K v' w := by
  have fin : ∀ (c : Option Addr) (n cap : Nat), v = .slice c n cap → K (.bool (if neq then !c.isNone else c.isNone)) S → ∃ v', (do eqGuard (if neq then .neq else .eql) t a b v (.slice none 0 0); binOp (if neq then .neq else .eql) t v (.slice none 0 0) : Sem Value).run P w = .ok v' w ∧ Post C X ρ S w K v' w := by
    rintro c n cap rfl hK
    cases neq with
    | true => exact ⟨.bool (!c.isNone), by simp [eqGuard, binOp, run_equal_sl_nil ht], .same hG hK (.d _ _ (.lit _))⟩
    | false => exact ⟨.bool c.isNone, by simp [eqGuard, binOp, run_equal_sl_nil ht], .same hG hK (.d _ _ (.lit _))⟩
  unfold aSln at hK
  cases hx <;> try (exact hK.elim)
  case d x hd =>
    cases hd <;> try (exact hK.elim)
    case zero c => exact fin c _ _ rfl (hK _ (fun _ => rfl))
    case empty z cap c a1 a2 => exact fin c _ _ rfl (hK _ (fun _ => rfl))
    case sl z rows b o n cap c E fz a1 a2 a3 a4 a5 a6 a7 a8 a9 a10 => exact fin _ _ _ rfl (hK _ (fun h => by simp at h))
  case ts z rows b n cap c E fz a1 a2 a3 a4 a5 a6 a7 a8 a9 a10 => exact fin _ _ _ rfl (hK _ (fun h => by simp at h))

theorem mn2_sound {mx : Bool} {x y z : AV} {v u : Value} (hx : Rel X ρ S.H w x v) (hy : Rel X ρ S.H w y u) (h : mn2 mx x y = some z) :
    ∃ q, (if mx then Builtin.max2 v u else Builtin.min2 v u).run P w = .ok q w ∧ z = .d (.lit q) := by
  cases hx <;> try (simp [mn2] at h; done)
  case d x hd =>
    cases hd <;> try (simp [mn2] at h; done)
    case lit =>
      cases v <;> try (simp [mn2] at h; done)
      case int k n =>
        cases hy <;> try (simp [mn2] at h; done)
        case d y hd =>
          cases hd <;> try (simp [mn2] at h; done)
          case lit =>
            cases u <;> try (simp [mn2] at h; done)
            case int k' m =>
              simp only [mn2] at h
              split at h
              · cases h
                cases mx with
                | true =>
                  refine ⟨.int k (max n m), ?_, rfl⟩
                  simp only [if_true, Builtin.max2, Sem.run_pure]
                  congr 2
                  split <;> omega
                | false =>
                  refine ⟨.int k (min n m), ?_, rfl⟩
                  simp only [Bool.false_eq_true, if_false, Builtin.min2, Sem.run_pure]
                  congr 2
                  split <;> omega
              · cases h

theorem mnFold_sound {mx : Bool} : ∀ {xs : List AV} {x z : AV} {v : Value} {us : List Value}, Rel X ρ S.H w x v → xs.length = us.length → (∀ (i : Nat) (y : AV) (u : Value), xs[i]? = some y → us[i]? = some u → Rel X ρ S.H w y u) → mnFold mx x xs = some z →
    ∃ q, (us.foldlM (if mx then Builtin.max2 else Builtin.min2) v).run P w = .ok q w ∧ Rel X ρ S.H w z q
  | [], x, z, v, us, hx, hl, _, h => by
    have : us = [] := List.eq_nil_of_length_eq_zero hl.symm
    subst this
    simp only [mnFold, Option.some.injEq] at h
    subst h
    exact ⟨v, by simp, hx⟩
  | y :: xs, x, z, v, us, hx, hl, hr, h => by
    cases us with
    | nil => simp at hl
    | cons u us =>
      simp only [mnFold] at h
      split at h
      · rename_i z' hz
        obtain ⟨q, h1, rfl⟩ := mn2_sound (P := P) hx (hr 0 y u rfl rfl) hz
        obtain ⟨q', h2, h3⟩ := mnFold_sound (us := us) (.d _ _ (.lit q)) (by simpa using hl) (fun i y u hy hu => hr (i + 1) y u hy hu) h
        refine ⟨q', ?_, h3⟩
        rw [List.foldlM_cons]
        cases mx with
        | true =>
          simp only [if_true] at h1 h2 ⊢
          simp only [Sem.run_bind, h1, Result.andThen_ok, h2]
        | false =>
          simp only [Bool.false_eq_true, if_false] at h1 h2 ⊢
          simp only [Sem.run_bind, h1, Result.andThen_ok, h2]
      · cases h

theorem mnx_sound {mx : Bool} {xs : List AV} {us : List Value} {K : K2} {ts : Array TypeId} {ty : TypeId} (hG : Good C X ρ S w) (hl : xs.length = us.length) (hr : ∀ (i : Nat) (y : AV) (u : Value), xs[i]? = some y → us[i]? = some u → Rel X ρ S.H w y u) (hK : aMnx mx xs S K) :
    ∃ v', (if mx then Builtin.max_ ts ty us.toArray else Builtin.min_ ts ty us.toArray).run P w = .ok v' w ∧ Post C X ρ S w K v' w := by
  unfold aMnx at hK
  cases xs with
  | nil => exact hK.elim
  | cons x xs =>
    cases us with
    | nil => simp at hl
    | cons u us =>
      obtain ⟨z, hz, hK⟩ := hK
      obtain ⟨q, h1, h2⟩ := mnFold_sound (P := P) (hr 0 x u rfl rfl) (by simpa using hl) (fun i y u hy hu => hr (i + 1) y u hy hu) hz
      refine ⟨q, ?_, .same hG hK h2⟩
      cases mx with
      | true => simpa [Builtin.max_] using h1
      | false => simpa [Builtin.min_] using h1

/-- The zero cells of a type, as data. -/
structure ZeroOk (P : Program) (t : TypeId) (zero : List DV) : Prop where
  ex : ∃ (i : TypeInfo) (z : Value), P.info? t = some i ∧ i.zero = some z ∧ zero = z.cells.toList.map cv1 ∧ z.cells.size = i.size
  pos : 0 < zero.length
  one : ∃ (i : TypeInfo) (z : Value), P.info? t = some i ∧ i.zero = some z ∧ ∀ u ∈ z.cells.toList, u.oneCell' = true

theorem zeroValue_run {t : TypeId} {i : TypeInfo} {z : Value} (hi : P.info? t = some i) (hz : i.zero = some z) : (zeroValue t).run P w = .ok z w := by
  simp [zeroValue, typeInfo, hi, hz]

theorem ZeroOk.rows {H : AHeap} {t : TypeId} {zero : List DV} (h : ZeroOk P t zero) : ∃ (i : TypeInfo) (z : Value), P.info? t = some i ∧ i.zero = some z ∧ i.size = zero.length ∧ z.cells.size = zero.length ∧ (∀ u ∈ z.cells.toList, u.oneCell' = true) ∧
    ∀ (k : Nat) (x : AV) (u : Value), (zero.map AV.d)[k]? = some x → z.cells[k]? = some u → Rel X ρ H w x u := by
  obtain ⟨⟨i, z, h1, h2, h3, h4⟩, _, ⟨i', z', h5, h6, h7⟩⟩ := h
  rw [h1] at h5; cases h5
  rw [h2] at h6; cases h6
  have hl : z.cells.size = zero.length := by rw [h3]; simp
  refine ⟨i, z, h1, h2, by omega, hl, h7, fun k x u hx hu => ?_⟩
  rw [h3] at hx
  simp only [List.map_map, List.getElem?_map, Option.map_eq_some_iff, Array.getElem?_toList] at hx
  obtain ⟨y, hy, rfl⟩ := hx
  rw [hu] at hy; cases hy
  exact .d _ _ (cv1_rel _)

theorem alloc_sound {t : TypeId} {zero : List DV} {K : K2} (hG : Good C X ρ S w) (hz : ZeroOk P t zero) (hK : K (.ep S.H.length 0 0 0) { S with H := S.H ++ [⟨zero.length, 0, [zero.map .d]⟩] }) (old : Value) :
    ∃ v' w', (Instr.alloc t true old).run P w = .ok v' w' ∧ Post C X ρ S w K v' w' := by
  obtain ⟨i, z, h1, h2, h3, h4, h5, h6⟩ := hz.rows (X := X) (ρ := ρ) (H := S.H) (w := w)
  obtain ⟨X', ρ', hG', hst, hρ⟩ := hG.alloc (w' := w.alloc (.cells z.cells t)) z.cells t (by simp) (alloc_old w _) (alloc_new w _) zero.length [zero.map .d] hz.pos (by simp) (by simp [h4])
    (fun k u _ hu => h5 u (by rw [Array.mem_toList_iff]; exact Array.mem_of_getElem? hu))
    (fun i r j x u hi hj hu => by
      cases i with
      | zero =>
        simp only [List.getElem?_cons_zero, Option.some.injEq] at hi
        subst hi
        exact h6 j x u hj (by simpa using hu)
      | succ i => simp at hi)
  refine ⟨.pointer (some ⟨w.heap.size, 0, none⟩), w.alloc (.cells z.cells t), ?_, _, _, X', ρ', hK, hG', ?_, hst⟩
  · simp [Instr.alloc, zeroValue_run h1 h2, newVar, newRow]
  · have := Rel.ep (X := X') (ρ := ρ') (w := w.alloc (.cells z.cells t)) S.H.length 0 0 0 w.heap.size z.cells.size (⟨zero.length, 0, [zero.map .d]⟩ : Blk) (H := S.H ++ [⟨zero.length, 0, [zero.map .d]⟩]) (last_get _ _) rfl hρ
    simpa using this

def aBox (sz : Nat) (x : AV) (S : St) (K : K2) : Prop :=
  x.cells.length = sz ∧ x.storable = true ∧ K (.ep S.H.length 0 0 0) { S with H := S.H ++ [⟨sz, 0, [x.cells]⟩] }

theorem box_sound {t : TypeId} {sz : Nat} {x : AV} {v : Value} {K : K2} (hG : Good C X ρ S w) (hpos : 0 < sz) (hx : Rel X ρ S.H w x v) (hK : aBox sz x S K) :
    ∃ v' w', (Instr.box t v).run P w = .ok v' w' ∧ Post C X ρ S w K v' w' := by
  obtain ⟨hl, hs, hK⟩ := hK
  obtain ⟨h1, h2, h3⟩ := hx.storable hs
  obtain ⟨X', ρ', hG', hst, hρ⟩ := hG.alloc (w' := w.alloc (.cells v.cells t)) v.cells t (by simp) (alloc_old w _) (alloc_new w _) sz [x.cells] hpos (by simp [hl]) (by simp [h1, hl])
    (fun k u _ hu => h2 u (by rw [Array.mem_toList_iff]; exact Array.mem_of_getElem? hu))
    (fun i r j x u hi hj hu => by
      cases i with
      | zero =>
        simp only [List.getElem?_cons_zero, Option.some.injEq] at hi
        subst hi
        exact h3 j x u hj (by simpa using hu)
      | succ i => simp at hi)
  refine ⟨.pointer (some ⟨w.heap.size, 0, none⟩), w.alloc (.cells v.cells t), ?_, _, _, X', ρ', hK, hG', ?_, hst⟩
  · simp [Instr.box, newVar, newRow]
  · have := Rel.ep (X := X') (ρ := ρ') (w := w.alloc (.cells v.cells t)) S.H.length 0 0 0 w.heap.size v.cells.size (⟨sz, 0, [x.cells]⟩ : Blk) (H := S.H ++ [⟨sz, 0, [x.cells]⟩]) (last_get _ _) rfl hρ
    simpa using this

end Go.Proofs.Ytpmgmingjggegaa.AL
