/- Structs held against each other, make, literals, bytes and strings: sound. -/
import Derived.Test.YtpmgmingjggegaaAlI
import Derived.Laws.StructEq
import Derived.Laws.Tables
set_option linter.unusedVariables false
set_option linter.unusedSimpArgs false
namespace Go.Proofs.Ytpmgmingjggegaa.AL
open Go

variable {P : Program} {C : Ctx} {X : Nat → Prop} {ρ : List Loc} {S : St} {w : World}

/-! ### '==' of plain structs -/
def pkFields (P : Program) (rec : TypeId → Option (List PK)) : Nat → List Field → Option (List PK)
  | _, [] => some []
  | off, f :: fs =>
    if f.name != "_" && f.offset == off then
      match rec f.type with
      | some ks =>
        if (P.info? f.type).map (·.size) == some ks.length then
          match pkFields P rec (off + ks.length) fs with
          | some r => some (ks ++ r)
          | none => none
        else none
      | none => none
    else none

/-- The kinds of a plain type's cells. -/
def pkOf (P : Program) : Nat → TypeId → Option (List PK)
  | 0, _ => none
  | n + 1, t => match P.underlying t with
    | some .bool => some [.b]
    | some (.int k) => some [.i k]
    | some .string => some [.s]
    | some (.struct fs) => if P.stoodInHeld t then none else pkFields P (pkOf P n) 0 fs.toList
    | _ => none

def fitV : List PK → List Value → Bool
  | [], [] => true
  | .i k :: ks, .int k' _ :: xs => k == k' && fitV ks xs
  | .b :: ks, .bool _ :: xs => fitV ks xs
  | .s :: ks, .string _ :: xs => fitV ks xs
  | _, _ => false
def eqV : Value → Value → Bool
  | .int _ a, .int _ b => a == b
  | .bool a, .bool b => a == b
  | .string a, .string b => a == b
  | _, _ => false
def eqVs : List Value → List Value → Bool
  | x :: xs, y :: ys => eqV x y && eqVs xs ys
  | [], [] => true
  | _, _ => false

theorem fitV_length : ∀ {ks : List PK} {vs : List Value}, fitV ks vs = true → vs.length = ks.length
  | [], [], _ => rfl
  | [], _ :: _, h => by simp [fitV] at h
  | k :: ks, [], h => by cases k <;> simp [fitV] at h
  | k :: ks, v :: vs, h => by
    have : fitV ks vs = true := by cases k <;> cases v <;> simp [fitV] at h <;> first | exact h.2 | exact h
    simp [fitV_length this]

theorem fitV_append : ∀ {k1 k2 : List PK} {vs : List Value}, fitV (k1 ++ k2) vs = true → fitV k1 (vs.take k1.length) = true ∧ fitV k2 (vs.drop k1.length) = true
  | [], k2, vs, h => ⟨by simp [fitV], by simpa using h⟩
  | k :: k1, k2, [], h => by cases k <;> simp [fitV] at h
  | k :: k1, k2, v :: vs, h => by
    have h' : fitV (k1 ++ k2) vs = true := by cases k <;> cases v <;> simp [fitV] at h <;> first | exact h.2 | exact h
    obtain ⟨a, b⟩ := fitV_append h'
    refine ⟨?_, by simpa using b⟩
    cases k <;> cases v <;> simp [fitV] at h ⊢ <;> first | exact ⟨h.1, a⟩ | exact a

theorem eqVs_append : ∀ {a1 a2 b1 b2 : List Value}, a1.length = b1.length → eqVs (a1 ++ a2) (b1 ++ b2) = (eqVs a1 b1 && eqVs a2 b2)
  | [], a2, [], b2, _ => by simp [eqVs]
  | x :: a1, a2, y :: b1, b2, h => by
    simp only [List.cons_append, eqVs]
    rw [eqVs_append (by simpa using h), Bool.and_assoc]
  | [], _, _ :: _, _, h => by simp at h
  | _ :: _, _, [], _, h => by simp at h

/-- A value that has these cells. -/
def IsV (P : Program) (t : TypeId) (x : Value) (vs : List Value) : Prop :=
  (x = .agg vs.toArray ∧ ∃ fs, P.underlying t = some (.struct fs)) ∨ (vs = [x] ∧ (P.underlying t = some .bool ∨ (∃ k, P.underlying t = some (.int k)) ∨ P.underlying t = some .string))

theorem part_run {t : TypeId} {ks : List PK} {n : Nat} (h : pkOf P n t = some ks) (hs : (P.info? t).map (·.size) = some ks.length) (xs : Array Value) (off : Nat) (hl : off + ks.length ≤ xs.size) :
    ∃ x, (part t xs off).run P w = .ok x w ∧ IsV P t x ((xs.toList.drop off).take ks.length) := by
  obtain ⟨i, hi, hi2⟩ : ∃ i, P.info? t = some i ∧ i.size = ks.length := by
    cases hi : P.info? t with
    | none => simp [hi] at hs
    | some i => exact ⟨i, rfl, by simpa [hi] using hs⟩
  cases n with
  | zero => simp [pkOf] at h
  | succ n =>
    simp only [pkOf] at h
    have one : ∀ d, P.underlying t = some d → TypeDesc.agg d = false → ks.length = 1 → (d = .bool ∨ (∃ k, d = .int k) ∨ d = .string) → ∃ x, (part t xs off).run P w = .ok x w ∧ IsV P t x ((xs.toList.drop off).take ks.length) := by
      intro d hd ha h1 hd'
      have hlt : off < xs.size := by omega
      refine ⟨xs[off], by simp [part, run_isAgg hd, ha, Array.getElem?_eq_getElem hlt], .inr ⟨?_, ?_⟩⟩
      · rw [h1]
        have : off < xs.toList.length := by simpa using hlt
        rw [List.drop_eq_getElem_cons this]
        simp
      · rw [hd]
        rcases hd' with rfl | ⟨k, rfl⟩ | rfl
        · exact .inl rfl
        · exact .inr (.inl ⟨k, rfl⟩)
        · exact .inr (.inr rfl)
    split at h <;> try (cases h; done)
    · rename_i hd; cases h; exact one _ hd rfl rfl (.inl rfl)
    · rename_i k hd; cases h; exact one _ hd rfl rfl (.inr (.inl ⟨k, rfl⟩))
    · rename_i hd; cases h; exact one _ hd rfl rfl (.inr (.inr rfl))
    · rename_i fs hd
      refine ⟨.agg (xs.extract off (off + ks.length)), by simp [part, run_isAgg hd, TypeDesc.agg, run_sizeOf hi, hi2], .inl ⟨?_, fs, hd⟩⟩
      congr 1
      apply Array.ext'
      simp only [Array.toList_extract, List.extract_eq_take_drop]
      congr 1
      omega

theorem eqFields_run {n d : Nat} (ih : ∀ (t : TypeId) (ks : List PK), pkOf P n t = some ks → ∀ (x y : Value) (vs us : List Value), IsV P t x vs → IsV P t y us → fitV ks vs = true → fitV ks us = true → (Op.equalIn d t x y).run P w = .ok (eqVs vs us) w)
    (xs ys : Array Value) : ∀ (fs : List Field) (off : Nat) (ks : List PK), off ≤ xs.size → off ≤ ys.size → pkFields P (pkOf P n) off fs = some ks → fitV ks (xs.toList.drop off) = true → fitV ks (ys.toList.drop off) = true →
    (Op.eqFields d xs ys fs).run P w = .ok (eqVs (xs.toList.drop off) (ys.toList.drop off)) w
  | [], off, ks, ox, oy, h, hx, hy => by
    simp only [pkFields, Option.some.injEq] at h
    subst h
    have e1 := fitV_length hx
    have e2 := fitV_length hy
    rw [List.eq_nil_of_length_eq_zero e1, List.eq_nil_of_length_eq_zero e2]
    simp [Op.eqFields, eqVs]
  | f :: fs, off, ks, ox, oy, h, hx, hy => by
    simp only [pkFields] at h
    split at h
    · rename_i hn
      simp only [Bool.and_eq_true, bne_iff_ne, ne_eq, beq_iff_eq] at hn
      split at h
      · rename_i k1 hk1
        split at h
        · rename_i hsz
          split at h
          · rename_i k2 hk2
            cases h
            obtain ⟨hx1, hx2⟩ := fitV_append hx
            obtain ⟨hy1, hy2⟩ := fitV_append hy
            rw [List.drop_drop] at hx2 hy2
            have lx := fitV_length hx
            have ly := fitV_length hy
            simp only [List.length_drop, Array.length_toList, List.length_append] at lx ly
            have hsz' := beq_iff_eq.1 hsz
            obtain ⟨a, ra, ia⟩ := part_run (w := w) hk1 hsz' xs off (by omega)
            obtain ⟨b, rb, ib⟩ := part_run (w := w) hk1 hsz' ys off (by omega)
            have hq := ih f.type k1 hk1 a b _ _ ia ib hx1 hy1
            have rest := eqFields_run ih xs ys fs (off + k1.length) k2 (by omega) (by omega) hk2 hx2 hy2
            have split1 : ∀ (zs : Array Value), zs.toList.drop off = (zs.toList.drop off).take k1.length ++ zs.toList.drop (off + k1.length) := fun zs => by
              rw [← List.drop_drop]; exact (List.take_append_drop _ _).symm
            have e : eqVs (xs.toList.drop off) (ys.toList.drop off) = (eqVs ((xs.toList.drop off).take k1.length) ((ys.toList.drop off).take k1.length) && eqVs (xs.toList.drop (off + k1.length)) (ys.toList.drop (off + k1.length))) := by
              conv => lhs; rw [split1 xs, split1 ys]
              exact eqVs_append (by simp; omega)
            rw [e]
            simp only [Op.eqFields, if_pos hn.1, hn.2, Sem.run_bind, ra, rb, Result.andThen_ok, hq, Sem.run_ite]
            cases hv : eqVs ((xs.toList.drop off).take k1.length) ((ys.toList.drop off).take k1.length) with
            | false => simp
            | true => simpa using rest
          · cases h
        · cases h
      · cases h
    · cases h

theorem equalIn_run : ∀ (n : Nat) (d : Nat) (t : TypeId) (ks : List PK), pkOf P n t = some ks → ∀ (x y : Value) (vs us : List Value), IsV P t x vs → IsV P t y us → fitV ks vs = true → fitV ks us = true → (Op.equalIn (n + d) t x y).run P w = .ok (eqVs vs us) w
  | 0, d, t, ks, h, x, y, vs, us, hx, hy, fx, fy => by simp [pkOf] at h
  | n + 1, d, t, ks, h, x, y, vs, us, hx, hy, fx, fy => by
    have en : n + 1 + d = (n + d) + 1 := by omega
    rw [en]
    simp only [pkOf] at h
    split at h <;> try (cases h; done)
    · rename_i hd
      cases h
      rcases hx with ⟨_, fs, e⟩ | ⟨rfl, _⟩
      · rw [hd] at e; cases e
      · rcases hy with ⟨_, fs, e⟩ | ⟨rfl, _⟩
        · rw [hd] at e; cases e
        · cases x <;> simp [fitV] at fx
          cases y <;> simp [fitV] at fy
          simp [run_equalIn_bool' w (n + d) t _ _ hd, eqVs, eqV]
    · rename_i k hd
      cases h
      rcases hx with ⟨_, fs, e⟩ | ⟨rfl, _⟩
      · rw [hd] at e; cases e
      · rcases hy with ⟨_, fs, e⟩ | ⟨rfl, _⟩
        · rw [hd] at e; cases e
        · cases x <;> simp [fitV] at fx
          cases y <;> simp [fitV] at fy
          subst fx
          subst fy
          simp [run_equalIn_int w (n + d) t _ _ _ _ hd, eqVs, eqV]
    · rename_i hd
      cases h
      rcases hx with ⟨_, fs, e⟩ | ⟨rfl, _⟩
      · rw [hd] at e; cases e
      · rcases hy with ⟨_, fs, e⟩ | ⟨rfl, _⟩
        · rw [hd] at e; cases e
        · cases x <;> simp [fitV] at fx
          cases y <;> simp [fitV] at fy
          rw [run_equalIn_string w (n + d) t _ _ hd, ← beq_toListBytes]
          simp [eqVs, eqV]
    · rename_i fs hd
      split at h
      · cases h
      · rename_i hst
        have hst : P.stoodInHeld t = false := by simpa using hst
        rcases hx with ⟨rfl, _⟩ | ⟨_, e⟩
        · rcases hy with ⟨rfl, _⟩ | ⟨_, e⟩
          · have hfs : P.fieldsOf t = fs := by simp [Program.fieldsOf, hd]
            rw [run_equalIn_struct w (n + d) t _ _ (by rw [hfs]; exact hd) hst, hfs]
            have := eqFields_run (P := P) (w := w) (n := n) (d := n + d) (fun t ks h x y vs us => equalIn_run n d t ks h x y vs us) vs.toArray us.toArray fs.toList 0 ks (by simp) (by simp) h (by simpa using fx) (by simpa using fy)
            simpa using this
          · rw [hd] at e; rcases e with e | ⟨_, e⟩ | e <;> cases e
        · rw [hd] at e; rcases e with e | ⟨_, e⟩ | e <;> cases e

theorem fit_lift {ks : List PK} : ∀ {xs : List AV} {vs : List Value} {H : AHeap}, xs.length = vs.length → (∀ (i : Nat) (x : AV) (u : Value), xs[i]? = some x → vs[i]? = some u → Rel X ρ H w x u) → fitPK ks xs = true → fitV ks vs = true := by
  induction ks with
  | nil =>
    intro xs vs H hl hr h
    cases xs with
    | nil => rw [List.eq_nil_of_length_eq_zero hl.symm]; rfl
    | cons x xs => simp [fitPK] at h
  | cons k ks ih =>
    intro xs vs H hl hr h
    cases xs with
    | nil => cases k <;> simp [fitPK] at h
    | cons x xs =>
      cases vs with
      | nil => simp at hl
      | cons v vs =>
        have h0 := hr 0 x v rfl rfl
        have hr' : ∀ (i : Nat) (x : AV) (u : Value), xs[i]? = some x → vs[i]? = some u → Rel X ρ H w x u := fun i x u hx hu => hr (i + 1) x u hx hu
        have hl' : xs.length = vs.length := by simpa using hl
        cases k <;> cases x <;> try (simp [fitPK] at h; done)
        all_goals
          rename_i y
          cases y <;> try (simp [fitPK] at h; done)
          rename_i q
          cases q <;> simp [fitPK] at h
          have e := Rel.lit_eq h0
          subst e
          first
            | (simp [fitV, h.1, ih hl' hr' h.2]; done)
            | (simp [fitV, ih hl' hr' h]; done)

theorem eq_lift {ks : List PK} : ∀ {xs ys : List AV} {vs us : List Value} {H : AHeap}, xs.length = vs.length → ys.length = us.length → (∀ (i : Nat) (x : AV) (u : Value), xs[i]? = some x → vs[i]? = some u → Rel X ρ H w x u) →
    (∀ (i : Nat) (x : AV) (u : Value), ys[i]? = some x → us[i]? = some u → Rel X ρ H w x u) → fitPK ks xs = true → fitPK ks ys = true → eqVs vs us = eqCells xs ys := by
  induction ks with
  | nil =>
    intro xs ys vs us H hl hl' hr hr' h h'
    cases xs with
    | nil =>
      cases ys with
      | nil => rw [List.eq_nil_of_length_eq_zero hl.symm, List.eq_nil_of_length_eq_zero hl'.symm]; rfl
      | cons y ys => simp [fitPK] at h'
    | cons x xs => simp [fitPK] at h
  | cons k ks ih =>
    intro xs ys vs us H hl hl' hr hr' h h'
    cases xs with
    | nil => cases k <;> simp [fitPK] at h
    | cons x xs =>
      cases ys with
      | nil => cases k <;> simp [fitPK] at h'
      | cons y ys =>
        cases vs with
        | nil => simp at hl
        | cons v vs =>
          cases us with
          | nil => simp at hl'
          | cons u us =>
            have h0 := hr 0 x v rfl rfl
            have h0' := hr' 0 y u rfl rfl
            have go : fitPK ks xs = true → fitPK ks ys = true → eqVs vs us = eqCells xs ys := fun a b =>
              ih (by simpa using hl) (by simpa using hl') (fun i x u hx hu => hr (i + 1) x u hx hu) (fun i x u hx hu => hr' (i + 1) x u hx hu) a b
            cases k <;> cases x <;> try (simp [fitPK] at h; done)
            all_goals
              rename_i z
              cases z <;> try (simp [fitPK] at h; done)
              rename_i q
              cases q <;> simp [fitPK] at h
              have e := Rel.lit_eq h0
              subst e
              cases y <;> try (simp [fitPK] at h'; done)
              rename_i z'
              cases z' <;> try (simp [fitPK] at h'; done)
              rename_i q'
              cases q' <;> simp [fitPK] at h'
              have e' := Rel.lit_eq h0'
              subst e'
              first
                | (simp [eqVs, eqCells, eqV, eqCell, go h.2 h'.2]; done)
                | (simp [eqVs, eqCells, eqV, eqCell, go h h']; done)

theorem eqs_sound {neq : Bool} {ks : List PK} {x y : AV} {v u : Value} {a b : Operand} {t : TypeId} {fs : Array Field} {n : Nat} {K : K2} (hG : Good C X ρ S w) (ht : P.underlying t = some (.struct fs)) (hk : pkOf P n t = some ks) (hn : n ≤ 10000) (hg : P.eqGuardType P.depth t = false)
    (hx : Rel X ρ S.H w x v) (hy : Rel X ρ S.H w y u) (hK : aEqs neq ks x y S K) :
    ∃ v', (do eqGuard (if neq then .neq else .eql) t a b v u; binOp (if neq then .neq else .eql) t v u : Sem Value).run P w = .ok v' w ∧ Post C X ρ S w K v' w := by
  unfold aEqs at hK
  cases hx <;> try (exact hK.elim)
  case agg xs vs hl h1 h =>
    cases hy <;> try (exact hK.elim)
    case agg ys us hl' h1' h' =>
      obtain ⟨f1, f2, hK⟩ := hK
      have r1 : ∀ (i : Nat) (x : AV) (u : Value), xs[i]? = some x → vs.toList[i]? = some u → Rel X ρ S.H w x u := fun i x u hx hu => h i x u hx (by simpa using hu)
      have r2 : ∀ (i : Nat) (x : AV) (u : Value), ys[i]? = some x → us.toList[i]? = some u → Rel X ρ S.H w x u := fun i x u hx hu => h' i x u hx (by simpa using hu)
      have g1 := fit_lift (ks := ks) (vs := vs.toList) (by simpa using hl) r1 f1
      have g2 := fit_lift (ks := ks) (vs := us.toList) (by simpa using hl') r2 f2
      have e := eq_lift (ks := ks) (vs := vs.toList) (us := us.toList) (by simpa using hl) (by simpa using hl') r1 r2 f1 f2
      have q := equalIn_run (P := P) (w := w) n (10000 - n) t ks hk (.agg vs) (.agg us) vs.toList us.toList (.inl ⟨by simp, fs, ht⟩) (.inl ⟨by simp, fs, ht⟩) g1 g2
      rw [show n + (10000 - n) = 10000 by omega, e] at q
      cases neq with
      | true =>
        refine ⟨.bool (!(eqCells xs ys)), ?_, .same hG hK (.d _ _ (.lit _))⟩
        simp only [if_true, Sem.run_bind, run_eqGuard_agg w _ t a b vs us hg, Result.andThen_ok, run_neq_struct w t vs us, q]
      | false =>
        refine ⟨.bool (eqCells xs ys), ?_, .same hG hK (.d _ _ (.lit _))⟩
        simp only [Bool.false_eq_true, if_false, Sem.run_bind, run_eqGuard_agg w _ t a b vs us hg, Result.andThen_ok, run_eql_struct w t vs us, q]

end Go.Proofs.Ytpmgmingjggegaa.AL
