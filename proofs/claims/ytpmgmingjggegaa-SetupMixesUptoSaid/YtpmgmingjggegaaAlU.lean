/- Forgetting within code; functions from their bodies. -/
import Derived.Test.YtpmgmingjggegaaAlT
set_option linter.unusedVariables false
set_option linter.unusedSimpArgs false
namespace Go.Proofs.Ytpmgmingjggegaa.AL
open Go

variable {P : Program} {C : Ctx} {X : Nat → Prop} {ρ : List Loc} {S : St} {w : World} {k0 ℓ : Nat} {E : Env} {Q : KQ} {s s' : List AV} {S' : St}

theorem Here.args {nt : Nat} {κ : List Nat} {rd : Option Nat} {bs : Nat} {a : Act} (h : Here C X ρ S w nt κ rd bs s a) : ArgsR X ρ S.H w s (κ.map fun t => a.tmps.getD t undef).toArray := by
  refine ⟨by simp [h.len], fun i x u hx hu => ?_⟩
  simp only [List.getElem?_toArray, List.getElem?_map, Option.map_eq_some_iff] at hu
  obtain ⟨t, ht, rfl⟩ := hu
  obtain ⟨v, hv, hr⟩ := h.slot i t x ht hx
  simpa [Array.getD_eq_getD_getElem?, hv] using hr

theorem Here.wk {nt : Nat} {κ : List Nat} {rd : Option Nat} {bs : Nat} {a : Act} (h : Here C X ρ S w nt κ rd bs s a) (hk : C.k0 = k0) (hl : ∀ (i : Nat) (L : LRec), C.ls[i]? = some L → L.H.length ≤ ℓ) (hle : ℓ ≤ S.H.length) (hw : Wk k0 ℓ s S s' S') :
    ∃ X' ρ', Here C X' ρ' S' w nt κ rd bs s' a ∧ Dn ℓ X ρ S.H X' ρ' S'.H := by
  obtain ⟨X', ρ', hG', ha', hD⟩ := hw C X ρ w _ hk hl hle h.good h.args
  have hlen : s'.length = κ.length := by have := ha'.len; simpa using this
  refine ⟨X', ρ', ⟨hG', h.size, hlen, fun q t x hq hx => ?_, h.defs, h.bsw, h.rd⟩, hD⟩
  have hqs : q < s.length := by rw [h.len, ← hlen]; exact (List.getElem?_eq_some_iff.1 hx).1
  obtain ⟨v, hv, _⟩ := h.slot q t s[q] hq (List.getElem?_eq_getElem hqs)
  refine ⟨v, hv, ha'.rel q x v hx ?_⟩
  simp [hq, Array.getD_eq_getD_getElem?, hv]

/-- A post that is met when some has been forgotten. -/
def KQ.wk (k0 ℓ : Nat) (Q : KQ) : KQ := fun e s S => ∃ s' S', Wk k0 ℓ s S s' S' ∧ Q e s' S'

theorem AW.wk_post {ac : ACode} (h : AW P k0 E ac (KQ.wk k0 S.H.length Q) s S) : AW P k0 E ac Q s S := by
  intro c nt owns κ hc C X ρ w rd bs a n hk hE hh
  refine wpIn_mono (h c nt owns κ hc C X ρ w rd bs a n hk hE hh) ?_
  rintro e a' w' ⟨ae, s', S', X', ρ', rfl, ⟨s'', S'', hw, hq⟩, hh', hst⟩
  have hle : S.H.length ≤ S'.H.length := by
    cases hn : S.H.length with
    | zero => omega
    | succ k =>
      obtain ⟨B', h1, _⟩ := hst.hst.keep k S.H[k] (List.getElem?_eq_getElem (by omega))
      have := (List.getElem?_eq_some_iff.1 h1).1
      omega
  obtain ⟨X'', ρ'', hh'', hD⟩ := hh'.wk hk hh.good.lslen hle hw
  exact ⟨ae, s'', S'', X'', ρ'', rfl, hq, hh'', hst.dn hD⟩

theorem AW.wk_pre {ac : ACode} (hw : Wk k0 S.H.length s S s' S') (h : AW P k0 E ac Q s' S') : AW P k0 E ac Q s S := by
  intro c nt owns κ hc C X ρ w rd bs a n hk hE hh
  obtain ⟨X', ρ', hh', hD⟩ := hh.wk hk hh.good.lslen (Nat.le_refl _) hw
  refine wpIn_mono (h c nt owns κ hc C X' ρ' w rd bs a n hk hE hh') ?_
  intro e a' w' ho
  exact ho.of_step ((Step.refl C X ρ S.H w).dn hD)

/-! ### Functions -/
inductive RSp where
  | t (q : Nat)
  | cell (q sz : Nat) (agg : Bool)

def compRes (P : Program) (κ : List Nat) : List ResultVar → Option (List RSp)
  | [] => some []
  | .tmp t :: rs => match κ.idxOf? t, compRes P κ rs with
    | some q, some r => some (.t q :: r)
    | _, _ => none
  | .cell a ty :: rs => match κ.idxOf? a, aggOf P ty, sizeOf? P ty, compRes P κ rs with
    | some q, some g, some m, some r => if g || m == 1 then some (.cell q m g :: r) else none
    | _, _, _, _ => none

/-- What a function hands back. -/
def aRes (s : List AV) (S : St) : List RSp → (List AV → Prop) → Prop
  | [], K => K []
  | .t q :: rs, K => aRes s S rs fun l => K (s.getD q .junk :: l)
  | .cell q n g :: rs, K => aLoad n g (s.getD q .junk) S fun r _ => aRes s S rs fun l => K (r :: l)

def tupOf : List AV → AV
  | [x] => x
  | l => .tup l

theorem load_as {t : TypeId} {sz : Nat} {agg : Bool} {x : AV} {K : K2} {v : Value} (hG : Good C X ρ S w) (ht : tyOk P t sz agg = true) (h1 : agg = false → sz = 1) (hx : Rel X ρ S.H w x v) (hK : aLoad sz agg x S K) :
    ∃ v', (do loadVar t (← asAddr v) : Sem Value).run P w = .ok v' w ∧ ∃ r, K r S ∧ Rel X ρ S.H w r v' := by
  obtain ⟨v', hr, r, hk, hrel⟩ := load_val hG ht h1 hx hK
  have hv : ∃ a, v = .pointer (some a) := by
    unfold aLoad at hK
    cases hx <;> (try exact hK.elim)
    case ip => exact ⟨_, rfl⟩
    case ep => exact ⟨_, rfl⟩
    case epold id g i j B hB hg hv =>
      simp only [hB] at hK
      omega
  obtain ⟨ad, rfl⟩ := hv
  exact ⟨v', by simpa [Instr.loadAt, Instr.sureAddr, asAddr] using hr, r, hk, hrel⟩

theorem res_run {nt : Nat} {κ : List Nat} {rd : Option Nat} {bs : Nat} {a : Act} (hh : Here C X ρ S w nt κ rd bs s a) (f : ResultVar → Sem Value) (hf : ∀ u, f (.tmp u) = pure (a.tmps.getD u undef)) (hc : ∀ b t, f (.cell b t) = (do loadVar t (← asAddr (a.tmps.getD b undef)))) :
    ∀ (rs : List ResultVar) (sp : List RSp) (K : List AV → Prop), compRes P κ rs = some sp → (∀ r ∈ sp, ∀ q, (match r with | .t q' => q' | .cell q' _ _ => q') = q → q < s.length) → aRes s S sp K →
      ∃ (l : List AV) (vs : List Value), (rs.mapM f).run P w = .ok vs w ∧ K l ∧ l.length = rs.length ∧ vs.length = rs.length ∧ ∀ (i : Nat) (x : AV) (u : Value), l[i]? = some x → vs[i]? = some u → Rel X ρ S.H w x u
  | [], sp, K, hsp, _, h => by
    simp only [compRes, Option.some.injEq] at hsp
    subst hsp
    exact ⟨[], [], by simp, h, rfl, rfl, fun i x u h => by simp at h⟩
  | .tmp t :: rs, sp, K, hsp, hq, h => by
    simp only [compRes] at hsp
    split at hsp
    · rename_i q r h1 h2
      cases hsp
      have hqs : q < s.length := hq (.t q) (by simp) q rfl
      obtain ⟨v, hv, hr⟩ := hh.slot q t s[q] (idxOfN_spec h1) (List.getElem?_eq_getElem hqs)
      obtain ⟨l, vs, k1, k2, k3, k4, k5⟩ := res_run hh f hf hc rs r _ h2 (fun r hr => hq r (by simp [hr])) h
      refine ⟨_, v :: vs, ?_, k2, by simp [k3], by simp [k4], fun i x u hx hu => ?_⟩
      · simp [List.mapM_cons, hf, k1, Array.getD_eq_getD_getElem?, hv]
      · cases i with
        | zero =>
          simp at hx hu
          subst hx; subst hu
          simpa [List.getD, List.getElem?_eq_getElem hqs] using hr
        | succ i => exact k5 i x u (by simpa using hx) (by simpa using hu)
    · cases hsp
  | .cell b ty :: rs, sp, K, hsp, hq, h => by
    simp only [compRes] at hsp
    split at hsp
    · rename_i q g m r h1 h2 h3 h4
      split at hsp
      · rename_i hgm
        cases hsp
        have hqs : q < s.length := hq (.cell q m g) (by simp) q rfl
        obtain ⟨v, hv, hr⟩ := hh.slot q b s[q] (idxOfN_spec h1) (List.getElem?_eq_getElem hqs)
        have hev : a.tmps.getD b undef = v := by simp [Array.getD_eq_getD_getElem?, hv]
        have hsq : s.getD q .junk = s[q] := by simp [List.getD, List.getElem?_eq_getElem hqs]
        simp only [aRes, hsq] at h
        obtain ⟨v', run, x, hk, hrel⟩ := load_as hh.good (tyOk_of h2 h3) (fun e => by simpa [e] using hgm) hr h
        obtain ⟨l, vs, k1, k2, k3, k4, k5⟩ := res_run hh f hf hc rs r _ h4 (fun r hr => hq r (by simp [hr])) hk
        refine ⟨_, v' :: vs, ?_, k2, by simp [k3], by simp [k4], fun i x u hx hu => ?_⟩
        · rw [List.mapM_cons, hc, hev]
          simp only [Sem.run_bind] at run ⊢
          rw [run]
          simp [k1]
        · cases i with
          | zero =>
            simp at hx hu
            subst hx; subst hu
            exact hrel
          | succ i => exact k5 i x u (by simpa using hx) (by simpa using hu)
      · cases hsp
    · cases hsp

end Go.Proofs.Ytpmgmingjggegaa.AL
