/- Regions in the text's order: sound. -/
import Derived.Test.YtpmgmingjggegaaAlO
set_option linter.unusedVariables false
set_option linter.unusedSimpArgs false
namespace Go.Proofs.Ytpmgmingjggegaa.AL
open Go

variable {P : Program} {C : Ctx} {X : Nat → Prop} {ρ : List Loc} {S : St} {w : World}
variable {rd : Option Nat} {n : Nat} {a : Act} {Q : Exit → Act → World → Prop}

theorem op_run {k0 : Nat} {E : Env} {own : Bool} {L : List Oper} {κ : List Nat} {s : List AV} {nt : Nat} {Lst : Nat → Prop} {res : Nat → AV} {j : Nat} {o : Oper} {ao : AOp} {R : List AV} {K : K2} {next : Act → World → Prop}
    (hinv : RegInv X ρ S.H w L κ s nt Lst res a) (ho : L[j]? = some o) (hR : ∀ k, k < j → R.getD k .junk = res (j - 1 - k)) (hc : compOp P own (dsAt L j) κ o = some ao)
    (h1 : ∀ t, namesT o t = true → ∀ (i : Nat) (o' : Oper), i < j → L[i]? = some o' → o'.dst = some t → Lst i) (h2 : ∀ t, namesT o t = true → ∀ (i : Nat) (o' : Oper), j ≤ i → L[i]? = some o' → o'.dst = some t → ¬ Lst i)
    (hG : Good C X ρ S w) (hE : EnvOk P C E) (hk : C.k0 = k0) (hw : Region.wanted o (yielded L.toArray a.tmps) = true) (h : aop P k0 E ao (opd s R) S K)
    (hK : ∀ (r : AV) (S' : St) (X' : Nat → Prop) (ρ' : List Loc) (v : Value) (w' : World), K r S' → Good C X' ρ' S' w' → Rel X' ρ' S'.H w' r v → Step C X ρ S.H w X' ρ' S'.H w' → next (a.put o.dst v) w') :
    wpOpIn (wideR rd) n P L.toArray Q j next a w := by
  have hjl : j < L.length := (List.getElem?_eq_some_iff.1 ho).1
  unfold wpOpIn
  have hoa : L.toArray[j]? = some o := by simpa using ho
  simp only [hoa, hw, if_true]
  refine aop_sound (ev := opd s R) hc (fun x hx y hy => ?_) hG hE hk h (fun v w' hp => ?_)
  · have nm : ∀ t, x = .tmp t → namesT o t = true := by
      rintro t rfl
      simp only [namesT, List.any_eq_true]
      exact ⟨.tmp t, by simpa using hx, by simp⟩
    exact opd_rel hinv (by omega) hR hy (fun t e => h1 t (nm t e)) (fun t e => h2 t (nm t e))
  · obtain ⟨r, S', X', ρ', a1, a2, a3, a4⟩ := hp
    exact hK r S' X' ρ' v w' a1 a2 a3 a4

theorem op_skip {L : List Oper} {j : Nat} {o : Oper} {next : Act → World → Prop} (ho : L[j]? = some o) (hw : Region.wanted o (yielded L.toArray a.tmps) = false) (h : next (a.put o.dst undef) w) :
    wpOpIn (wideR rd) n P L.toArray Q j next a w := by
  unfold wpOpIn
  have hoa : L.toArray[j]? = some o := by simpa using ho
  simp only [hoa, hw]
  exact ⟨fun _ _ => trivial, h⟩

/-- The result list one operation later. -/
theorem res_cons {R : List AV} {r : AV} {j : Nat} (hl : R.length = j) : ∀ i, i ≤ j → (r :: R).getD (j + 1 - 1 - i) .junk = if i = j then r else R.getD (j - 1 - i) .junk := by
  intro i hi
  split
  · rename_i e; subst e; simp
  · rw [show j + 1 - 1 - i = (j - 1 - i) + 1 by omega]
    simp [List.getD]

/-- The operation that stands first. -/
theorem one_step {k0 : Nat} {E : Env} {own : Bool} {L : List Oper} {κ : List Nat} {s : List AV} {nt : Nat} {K : List AV → St → Prop} {j : Nat} {o : Oper} {ao : AOp} {g : Option (Nat × Bool)} {rest : List ROp} {R : List AV} {hs : List St} {pd : List (Nat × (St → Prop))} {next : Act → World → Prop}
    (hE : EnvOk P C E) (hk : C.k0 = k0) (ho : L[j]? = some o) (h1 : compOp P own (dsAt L j) κ o = some ao) (h2 : compGuard (dsAt L j) o.guard = some g) (hinv : RegInv X ρ S.H w L κ s nt (· < j) (fun i => R.getD (j - 1 - i) .junk) a) (hG : Good C X ρ S w)
    (h : aops P k0 E s (⟨ao, g, .b⟩ :: rest) R hs pd S K)
    (hn : ∀ (r : AV) (S' : St) (X' : Nat → Prop) (ρ' : List Loc) (v : Value) (w' : World), aops P k0 E s rest (r :: R) [] [] S' K → Good C X' ρ' S' w' → Rel X' ρ' S'.H w' r v → Step C X ρ S.H w X' ρ' S'.H w' → next (a.put o.dst v) w') :
    wpOpIn (wideR rd) n P L.toArray Q j next a w := by
  have hjl : j < L.length := (List.getElem?_eq_some_iff.1 ho).1
  have hRres : ∀ k, k < j → R.getD k .junk = (fun i => R.getD (j - 1 - i) .junk) (j - 1 - k) := fun k hk => by simp only; congr 1; omega
  have skipped : aops P k0 E s rest (.und :: R) [] [] S K → next (a.put o.dst undef) w := fun h => hn .und S X ρ undef w h hG (.d _ _ (.lit _)) (.refl _ _ _ _ _)
  have run : Region.wanted o (yielded L.toArray a.tmps) = true → aop P k0 E ao (opd s R) S (fun r S' => aops P k0 E s rest (r :: R) [] [] S' K) →
      wpOpIn (wideR rd) n P L.toArray Q j next a w := by
    intro hw hb
    exact op_run hinv ho hRres h1 (fun t _ i o' hi _ _ => hi) (fun t _ i o' hi _ _ => by omega) hG hE hk hw hb (fun r S' X' ρ' v w' k1 k2 k3 k4 => hn r S' X' ρ' v w' k1 k2 k3 k4)
  simp only [aops] at h
  cases hg : o.guard with
  | none =>
    rw [hg] at h2
    simp only [compGuard, Option.some.injEq] at h2
    subst h2
    simp only at h
    exact run (by simp [Region.wanted, hg]) h
  | some gw =>
    obtain ⟨gi, want⟩ := gw
    rw [hg] at h2
    have hgj : ∃ k want', g = some (k, want') := by
      simp only [compGuard] at h2
      split at h2
      · split at h2
        · cases h2; exact ⟨_, _, rfl⟩
        · cases h2
      · cases h2
    obtain ⟨k, want', rfl⟩ := hgj
    have hgi : gi < j := by
      simp only [compGuard, dsAt_length (Nat.le_of_lt hjl)] at h2
      split at h2
      · assumption
      · cases h2
    obtain ⟨rfl, _, v, hv, hy⟩ := guard_at hinv (Nat.le_of_lt hjl) hRres h2 hgi
    have hwd : Region.wanted o (yielded L.toArray a.tmps) = (boolOf v == some want') := by
      simp only [Region.wanted, hg, hy]
    simp only at h
    split at h
    · rename_i b hb
      rw [hb] at hv
      have := Rel.lit_eq hv
      subst this
      obtain ⟨ha, hs⟩ := h
      by_cases e : b = want'
      · subst e
        have hset : R.set k (.bool b) = R := set_same hb
        have ha := ha rfl
        rw [hset] at ha
        exact run (by rw [hwd]; simp [boolOf]) ha
      · have e' : b = !want' := by cases b <;> cases want' <;> simp at e ⊢
        subst e'
        have hset : R.set k (.bool !want') = R := set_same hb
        have hs := hs rfl
        rw [hset] at hs
        exact op_skip ho (by rw [hwd]; cases want' <;> rfl) (skipped hs)
    · rename_i vs hb
      rw [hb] at hv
      have := Rel.lit_eq hv
      subst this
      exact op_skip ho (by rw [hwd]; rfl) (skipped h)
    · exact h.elim

theorem seq_sound {k0 : Nat} {E : Env} {own : Bool} {L : List Oper} {κ : List Nat} {s : List AV} {nt : Nat} {K : List AV → St → Prop} (hu : uniqB L = true) (hE : EnvOk P C E) (hk : C.k0 = k0) : ∀ (m j : Nat), j + m = L.length → ∀ (bars : List Kd) (hbars : ∀ q ∈ bars, q = .b) (rops : List ROp) (R : List AV) (hs : List St) (pd : List (Nat × (St → Prop))) (S : St) (X : Nat → Prop) (ρ : List Loc) (w : World) (a : Act),
    compOps P nt own κ bars (dsAt L j) (L.drop j) = some rops → R.length = j → RegInv X ρ S.H w L κ s nt (· < j) (fun i => R.getD (j - 1 - i) .junk) a → Good C X ρ S w → aops P k0 E s rops R hs pd S K →
    (∀ (R' : List AV) (S' : St) (X' : Nat → Prop) (ρ' : List Loc) (w' : World) (a' : Act), K R' S' → R'.length = L.length → RegInv X' ρ' S'.H w' L κ s nt (· < L.length) (fun i => R'.getD (L.length - 1 - i) .junk) a' → Good C X' ρ' S' w' → Step C X ρ S.H w X' ρ' S'.H w' → a'.defers = a.defers → Q .normal a' w') →
    wpOpsIn (wideR rd) n P L.toArray Q (List.range' j m) a w := by
  intro m
  induction m with
  | zero =>
    intro j hj bars hbars rops R hs pd S X ρ w a hc hl hinv hG h hQ
    have : j = L.length := by omega
    subst this
    rw [List.drop_length] at hc
    simp only [compOps, Option.some.injEq] at hc
    subst hc
    exact hQ R S X ρ w a h hl hinv hG (.refl _ _ _ _ _) rfl
  | succ m ih =>
    intro j hj bars hbars rops R hs pd S X ρ w a hc hl hinv hG h hQ
    have hjl : j < L.length := by omega
    have ho : L[j]? = some L[j] := List.getElem?_eq_getElem hjl
    generalize L[j] = o at ho
    rw [List.range'_succ, wpOpsIn_cons]
    have hdrop : L.drop j = o :: L.drop (j + 1) := by
      rw [List.drop_eq_getElem_cons hjl]
      congr 1
      rw [List.getElem?_eq_getElem hjl] at ho
      exact Option.some.inj ho
    rw [hdrop] at hc
    simp only [compOps] at hc
    split at hc
    · rename_i ao g rest h1 h2 h3
      split at hc
      · rename_i hd
        cases hc
        rw [← dsAt_succ ho] at h3
        have next : ∀ (r : AV) (S' : St) (X' : Nat → Prop) (ρ' : List Loc) (v : Value) (w' : World), aops P k0 E s rest (r :: R) [] [] S' K → Good C X' ρ' S' w' → Rel X' ρ' S'.H w' r v → Step C X ρ S.H w X' ρ' S'.H w' → wpOpsIn (wideR rd) n P L.toArray Q (List.range' (j + 1) m) (a.put o.dst v) w' := by
          intro r S' X' ρ' v w' hr hG' hrel hst
          refine ih (j + 1) (by omega) bars.tail (fun q hq => hbars q (List.mem_of_mem_tail hq)) rest (r :: R) [] [] S' X' ρ' w' (a.put o.dst v) h3 (by simp [hl]) ?_ hG' hr (fun R' S'' X'' ρ'' w'' a' k1 k2 k3 k4 k5 k6 => hQ R' S'' X'' ρ'' w'' a' k1 k2 k3 k4 (hst.trans k5) (k6.trans (by cases o.dst <;> rfl)))
          have i1 := hinv.mono (hst.stays hG) hst.hst
          have i2 : RegInv X' ρ' S'.H w' L κ s nt (· < j) (fun i => (r :: R).getD (j + 1 - 1 - i) .junk) a := i1.congr (fun i _ => Iff.rfl) (fun i hi => by show (r :: R).getD (j + 1 - 1 - i) .junk = R.getD (j - 1 - i) .junk; rw [res_cons hl i (by omega), if_neg (by omega)])
          have i3 := i2.put hu ho (by omega) (v := v) (by show Rel X' ρ' S'.H w' ((r :: R).getD (j + 1 - 1 - j) .junk) v; rw [res_cons hl j (Nat.le_refl _), if_pos rfl]; exact hrel) hd
          exact i3.congr (fun i _ => by omega) (fun i _ => rfl)
        have hkd : bars.headD .b = .b := by
          cases bars with
          | nil => rfl
          | cons q qs => exact hbars q (by simp)
        rw [hkd] at h
        exact one_step hE hk ho h1 h2 hinv hG h next
      · cases hc
    · cases hc

end Go.Proofs.Ytpmgmingjggegaa.AL
