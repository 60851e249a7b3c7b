/- Arithmetic, comparisons, slices of slices, conversions: sound. -/
import Derived.Test.YtpmgmingjggegaaAlG
set_option linter.unusedVariables false
set_option linter.unusedSimpArgs false
namespace Go.Proofs.Ytpmgmingjggegaa.AL
open Go

variable {P : Program} {C : Ctx} {X : Nat → Prop} {ρ : List Loc} {S : St} {w : World}

/-- An abstract value that is a literal is that value. -/
theorem Rel.lit_eq {H : AHeap} {u v : Value} (h : Rel X ρ H w (.d (.lit u)) v) : v = u := by
  cases h with
  | d _ _ h => cases h; rfl

theorem intBin_sound {op : BinOp} {k : IntKind} {a b : Int} {t : TypeId} {K : AV → Prop} (hK : intBin op k a b K) (hop : op ≠ .shl) (hop2 : op ≠ .shr) :
    ∃ v, (binOp op t (.int k a) (.int k b)).run P w = .ok v w ∧ K (.d (.lit v)) := by
  cases op <;> simp only [intBin] at hK <;> first
    | exact absurd rfl hop
    | exact absurd rfl hop2
    | exact hK.elim
    | (refine ⟨_, ?_, hK⟩
       simp only [binOp, ne_eq, not_true_eq_false, if_false]
       rfl)
    | (refine ⟨_, ?_, hK.2⟩
       simp only [binOp, ne_eq, not_true_eq_false, if_false, Op.intDiv, hK.1]
       rfl)

theorem strBin_sound {op : BinOp} {a b : ByteArray} {t : TypeId} {K : AV → Prop} (hK : strBin op a b K) :
    ∃ v, (binOp op t (.string a) (.string b)).run P w = .ok v w ∧ K (.d (.lit v)) := by
  cases op <;> simp only [strBin] at hK <;> first
    | exact hK.elim
    | (refine ⟨_, ?_, hK.2⟩
       have h : ¬ (((a.size + b.size : Nat) : Int) > IntKind.i64.max) := by
         have e : IntKind.i64.max = 9223372036854775807 := by decide
         rw [e]
         have := hK.1
         omega
       simp only [binOp, Op.stringOp, h, if_false]
       rfl)
    | exact ⟨_, by simp [binOp, Op.stringOp], hK⟩

theorem bin_sound {op : BinOp} {x y : AV} {v u : Value} {a b : Operand} {t : TypeId} {K : K2} (hG : Good C X ρ S w) (hx : Rel X ρ S.H w x v) (hy : Rel X ρ S.H w y u) (hK : aBin op x y S K) :
    ∃ v', (do eqGuard op t a b v u; binOp op t v u : Sem Value).run P w = .ok v' w ∧ Post C X ρ S w K v' w := by
  unfold aBin at hK
  cases hx <;> try (exact hK.elim)
  case d x hd =>
    cases hd <;> try (exact hK.elim)
    case lit =>
      cases v <;> try (exact hK.elim)
      case int k n =>
        cases hy <;> try (exact hK.elim)
        case d y hd =>
          cases hd <;> try (exact hK.elim)
          case lit =>
            cases u <;> try (exact hK.elim)
            case int k' m =>
              have hg : (eqGuard op t a b (.int k n) (.int k' m)).run P w = .ok () w := by cases op <;> simp [eqGuard]
              have fin : ∀ v', (binOp op t (.int k n) (.int k' m)).run P w = .ok v' w → K (.d (.lit v')) S → ∃ v', (do eqGuard op t a b (.int k n) (.int k' m); binOp op t (.int k n) (.int k' m) : Sem Value).run P w = .ok v' w ∧ Post C X ρ S w K v' w :=
                fun v' h1 h2 => ⟨v', by simp only [Sem.run_bind, hg, Result.andThen_ok, h1], .same hG h2 (.d _ _ (.lit _))⟩
              by_cases hshl : op = .shl
              · subst hshl
                obtain ⟨h0, hK⟩ := hK
                exact fin _ (by simp [binOp, Op.shift, show ¬ m < 0 by omega]) hK
              · by_cases hshr : op = .shr
                · subst hshr
                  obtain ⟨h0, hK⟩ := hK
                  exact fin _ (by simp [binOp, Op.shift, show ¬ m < 0 by omega]) hK
                · have hK' : k = k' ∧ intBin op k n m fun r => K r S := by cases op <;> first | exact hK | exact absurd rfl hshl | exact absurd rfl hshr
                  obtain ⟨rfl, hK'⟩ := hK'
                  obtain ⟨v', h1, h2⟩ := intBin_sound (P := P) (w := w) (t := t) hK' hshl hshr
                  exact fin v' h1 h2
      case string s =>
        cases hy <;> try (exact hK.elim)
        case d y hd =>
          cases hd <;> try (exact hK.elim)
          case lit =>
            cases u <;> try (exact hK.elim)
            case string s' =>
              have hg : (eqGuard op t a b (.string s) (.string s')).run P w = .ok () w := by cases op <;> simp [eqGuard]
              obtain ⟨v', h1, h2⟩ := strBin_sound (P := P) (w := w) (t := t) hK
              exact ⟨v', by simp only [Sem.run_bind, hg, Result.andThen_ok, h1], .same hG h2 (.d _ _ (.lit _))⟩

theorem run_equal_bool {t : TypeId} (ht : P.underlying t = some .bool) (a b : Bool) : (Op.equal t (.bool a) (.bool b)).run P w = .ok (a == b) w := by
  have h : ∀ d, (Op.equalIn (d + 1) t (.bool a) (.bool b)).run P w = .ok (a == b) w := fun d => by simp [Op.equalIn, run_underlying ht]
  exact h 9999

theorem beq_sound {neq : Bool} {x y : AV} {v u : Value} {a b : Operand} {t : TypeId} {K : K2} (hG : Good C X ρ S w) (ht : P.underlying t = some .bool) (hx : Rel X ρ S.H w x v) (hy : Rel X ρ S.H w y u) (hK : aBeq neq x y S K) :
    ∃ v', (do eqGuard (if neq then .neq else .eql) t a b v u; binOp (if neq then .neq else .eql) t v u : Sem Value).run P w = .ok v' w ∧ Post C X ρ S w K v' w := by
  unfold aBeq at hK
  cases hx <;> try (exact hK.elim)
  case d x hd =>
    cases hd <;> try (exact hK.elim)
    case lit =>
      cases v <;> try (exact hK.elim)
      case bool p =>
        cases hy <;> try (exact hK.elim)
        case d y hd =>
          cases hd <;> try (exact hK.elim)
          case lit =>
            cases u <;> try (exact hK.elim)
            case bool q =>
              cases neq with
              | true => exact ⟨.bool (!(p == q)), by simp [eqGuard, binOp, run_equal_bool ht], .same hG hK (.d _ _ (.lit _))⟩
              | false => exact ⟨.bool (p == q), by simp [eqGuard, binOp, run_equal_bool ht], .same hG hK (.d _ _ (.lit _))⟩

theorem un_sound {op : UnOp} {x : AV} {v : Value} {K : K2} (hG : Good C X ρ S w) (hx : Rel X ρ S.H w x v) (hK : aUn op x S K) :
    ∃ v', (Op.unary op v).run P w = .ok v' w ∧ Post C X ρ S w K v' w := by
  unfold aUn at hK
  cases hx <;> try (cases op <;> exact hK.elim)
  case d x hd =>
    cases hd <;> try (cases op <;> exact hK.elim)
    case lit =>
      cases op <;> cases v <;> first
        | exact hK.elim
        | exact ⟨_, rfl, .same hG hK (.d _ _ (.lit _))⟩

theorem cvi_sound {k : IntKind} {x : AV} {v : Value} {K : K2} {s t : TypeId} {d : TypeDesc} (hG : Good C X ρ S w) (hs : P.underlying s = some d) (ht : P.underlying t = some (.int k)) (hx : Rel X ρ S.H w x v) (hK : aCvi k x S K) :
    ∃ v', (convert s t v).run P w = .ok v' w ∧ Post C X ρ S w K v' w := by
  unfold aCvi at hK
  cases hx <;> try (exact hK.elim)
  case d x hd =>
    cases hd <;> try (exact hK.elim)
    case lit =>
      cases v <;> try (exact hK.elim)
      case int k' n => exact ⟨_, by simp [convert, run_underlying hs, run_underlying ht, Conv.intToInt], .same hG hK (.d _ _ (.lit _))⟩

theorem cvs_sound {x : AV} {v : Value} {K : K2} {s t : TypeId} {d : TypeDesc} (hG : Good C X ρ S w) (hs : P.underlying s = some d) (ht : P.underlying t = some .string) (hx : Rel X ρ S.H w x v) (hK : aCvs x S K) :
    ∃ v', (convert s t v).run P w = .ok v' w ∧ Post C X ρ S w K v' w := by
  unfold aCvs at hK
  cases hx <;> try (exact hK.elim)
  case d x hd =>
    cases hd <;> try (exact hK.elim)
    case lit =>
      cases v <;> try (exact hK.elim)
      case string q => exact ⟨_, by simp [convert, run_underlying hs, run_underlying ht], .same hG hK (.d _ _ (.lit _))⟩

theorem nil_sound {x : AV} {v : Value} {K : K2} (hG : Good C X ρ S w) (hx : Rel X ρ S.H w x v) (hK : aNil x S K) (ρo : Operand → Value) (o : Oper) (z : Operand) (ho : o.op = .nilCheck z) (hz : ρo z = v) :
    (execOp ρo o).run P w = .ok (.value v) w ∧ Post C X ρ S w K v w := by
  unfold aNil at hK
  cases hx <;> try (exact hK.elim)
  case ep id g i j b cs B hB hg hρ =>
    simp only [hB] at hK
    exact ⟨by simp [execOp, ho, hz], .same hG hK.2 (.ep id g i j b cs B hB hg hρ)⟩
  case epold id g i j B hB hg hv =>
    simp only [hB] at hK
    omega
  case ip n row j b o' c E fz hl hX hb hc hone h => exact ⟨by simp [execOp, ho, hz], .same hG hK (.ip n row j b o' c E fz hl hX hb hc hone h)⟩
  case fn f caps vs hl h => exact ⟨by simp [execOp, ho, hz], .same hG hK (.fn f caps vs hl h)⟩

theorem ext_sound {x : AV} {i : Nat} {v : Value} {K : K2} (hG : Good C X ρ S w) (hx : Rel X ρ S.H w x v) (hK : aExt x i S K) :
    ∃ v', (Instr.extract v i).run P w = .ok v' w ∧ Post C X ρ S w K v' w := by
  unfold aExt at hK
  cases hx <;> try (exact hK.elim)
  case tup cs vs hl h =>
    obtain ⟨hi, hK⟩ := hK
    have hlt : i < vs.size := by omega
    exact ⟨vs[i], by simp [Instr.extract, Array.getElem?_eq_getElem hlt], .same hG hK (h i _ _ (getD_of_lt hi) (Array.getElem?_eq_getElem hlt))⟩

end Go.Proofs.Ytpmgmingjggegaa.AL
