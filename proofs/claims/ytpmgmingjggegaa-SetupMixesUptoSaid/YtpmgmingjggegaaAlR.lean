/- Regions in whatever order the machine draws: sound. -/
import Derived.Test.YtpmgmingjggegaaAlQ
set_option linter.unusedVariables false
set_option linter.unusedSimpArgs false
namespace Go.Proofs.Ytpmgmingjggegaa.AL
open Go

variable {P : Program} {C : Ctx}
variable {rd : Option Nat} {n : Nat} {Q : Exit → Act → World → Prop}

structure DrawFacts (L : List Oper) : Prop where
  on : ∀ (j : Nat) (o : Oper) (e : Edge), L[j]? = some o → e ∈ o.after.toList → Region.binds .any e = true → e.on < j
  nm : ∀ (i j : Nat) (o o' : Oper) (t : Nat), i ≠ j → L[i]? = some o' → L[j]? = some o → o'.dst = some t → namesT o t = true → ordB (befs L) i j = true
  gd : ∀ (i j : Nat) (o : Oper) (want : Bool), i ≠ j → L[j]? = some o → i < L.length → o.guard = some (i, want) → i < j ∧ ordB (befs L) i j = true

theorem drawOk_spec {L : List Oper} (h : drawOk L = true) : DrawFacts L := by
  simp only [drawOk, List.all_eq_true, List.mem_range] at h
  have lt : ∀ {i : Nat} {o : Oper}, L[i]? = some o → i < L.length := fun h => (List.getElem?_eq_some_iff.1 h).1
  refine ⟨fun j o e hj he hb => ?_, fun i j o o' t hij hi hj ht hn => ?_, fun i j o want hij hj hi hg => ?_⟩
  · have := h j (lt hj)
    rw [hj] at this
    simp only [Bool.and_eq_true, List.all_eq_true, Bool.or_eq_true, Bool.not_eq_true', decide_eq_true_eq] at this
    rcases this.1 e he with h1 | h1
    · rw [h1] at hb; cases hb
    · exact h1
  · have := h j (lt hj)
    rw [hj] at this
    simp only [Bool.and_eq_true, List.all_eq_true, Bool.or_eq_true, List.mem_range, beq_iff_eq] at this
    have := (this.2 i (lt hi)).resolve_left hij
    simp only [clashB, hi, Option.bind_some, ht, Bool.and_eq_true, hn, Bool.not_true, Bool.false_or] at this
    exact this.1
  · have := h j (lt hj)
    rw [hj] at this
    simp only [Bool.and_eq_true, List.all_eq_true, Bool.or_eq_true, List.mem_range, beq_iff_eq] at this
    have := (this.2 i hi).resolve_left hij
    simp only [clashB, hg, Bool.and_eq_true] at this
    have := this.2
    simp at this
    exact this

theorem ready_marked {L : List Oper} {listed : Array Bool} {j : Nat} (hs : listed.size = L.length) (h : j ∈ Region.ready .any L.toArray listed) :
    ∃ o, L[j]? = some o ∧ listed.getD j false = false ∧ ∀ (e : Edge), e ∈ o.after.toList → Region.binds .any e = true → Marked listed e.on := by
  obtain ⟨h1, o, h2, h3⟩ := mem_ready.1 h
  have ho : L[j]? = some o := by simpa using h2
  have hlt : j < listed.size := by rw [hs]; exact (List.getElem?_eq_some_iff.1 ho).1
  refine ⟨o, ho, ?_, fun e he hb => h3 e (by simpa using he) hb⟩
  simp only [Array.getD_eq_getD_getElem?, Array.getElem?_eq_getElem hlt, Option.getD_some] at h1 ⊢
  exact h1

theorem marked_ready {L : List Oper} {listed : Array Bool} {j : Nat} (hs : listed.size = L.length) {o : Oper} (ho : L[j]? = some o) (h1 : listed.getD j false = false) (h2 : ∀ (e : Edge), e ∈ o.after.toList → Region.binds .any e = true → Marked listed e.on) :
    j ∈ Region.ready .any L.toArray listed := by
  have hlt : j < listed.size := by rw [hs]; exact (List.getElem?_eq_some_iff.1 ho).1
  refine mem_ready.2 ⟨?_, o, by simpa using ho, fun e he hb => h2 e (by simpa using he) hb⟩
  simp only [Array.getD_eq_getD_getElem?, Array.getElem?_eq_getElem hlt, Option.getD_some] at h1 ⊢
  exact h1

theorem ord_marked {L : List Oper} {listed : Array Bool} (hc : Closed L (Marked listed)) {i j : Nat} (hij : i < j) (ho : ordB (befs L) i j = true) (hj : ∀ (o : Oper) (e : Edge), L[j]? = some o → e ∈ o.after.toList → Region.binds .any e = true → Marked listed e.on) : Marked listed i := by
  unfold ordB at ho
  rw [if_pos hij] at ho
  exact bef_spec ho _ hc hj

theorem barB_spec {own : Bool} {L : List Oper} {b i : Nat} (hb : b < L.length) (h : ((kindsOf own L).drop b).headD .b = .b) (hi : i < L.length) (hne : i ≠ b) : ordB (befs L) i b = true := by
  rw [kinds_at hb] at h
  unfold kindAt at h
  split at h
  · rename_i h2
    simp only [barB, List.all_eq_true, List.mem_range, Bool.or_eq_true, beq_iff_eq] at h2
    exact (h2 i hi).resolve_left hne
  · split at h <;> cases h

theorem effOk_spec {own : Bool} {L : List Oper} (h : effOk own L = true) {i j : Nat} (hij : i ≠ j) (hi : effB own L i = true) (hj : effB own L j = true) : ordB (befs L) i j = true := by
  have lt : ∀ {i : Nat}, effB own L i = true → i < L.length := by
    intro i h
    unfold effB at h
    cases ho : L[i]? with
    | none => simp [ho] at h
    | some o => exact (List.getElem?_eq_some_iff.1 ho).1
  simp only [effOk, List.all_eq_true, List.mem_range] at h
  have := h i (lt hi) j (lt hj)
  simpa [hij, hi, hj] using this

theorem ordB_symm (B : List Nat) {i j : Nat} (hij : i ≠ j) : ordB B i j = ordB B j i := by
  unfold ordB
  by_cases h : i < j
  · rw [if_pos h, if_neg (by omega)]
  · rw [if_neg h, if_pos (by omega)]

theorem Closed.set {L : List Oper} {listed : Array Bool} (hc : Closed L (Marked listed)) {i : Nat} (hi : i < listed.size) (h : ∀ (o : Oper) (e : Edge), L[i]? = some o → e ∈ o.after.toList → Region.binds .any e = true → Marked listed e.on) : Closed L (Marked (listed.setIfInBounds i true)) := by
  intro j o e hj ho he hb
  unfold Marked at hj ⊢
  rw [getD_set _ _ _ hi] at hj ⊢
  split
  · rfl
  · split at hj
    · rename_i ej; subst ej; exact h o e ho he hb
    · exact hc j o e hj ho he hb

theorem draw_sound {k0 : Nat} {E : Env} {own : Bool} {L : List Oper} {κ : List Nat} {s : List AV} {nt : Nat} {K : List AV → St → Prop} (hu : uniqB L = true) (hd : drawOk L = true) (hf : effOk own L = true) (hE : EnvOk P C E) (hk : C.k0 = k0) : ∀ (k b : Nat), b + k = L.length → ∀ (rops : List ROp) (R : List AV) (hs : List St) (pd : List (Nat × (St → Prop))) (S : St) (X : Nat → Prop) (ρ : List Loc) (w : World) (a : Act) (listed : Array Bool),
    listed.size = L.length → (∀ i, i < L.length → (listed.getD i false = true ↔ i < b)) → compOps P nt own κ ((kindsOf own L).drop b) (dsAt L b) (L.drop b) = some rops → R.length = b → RegInv X ρ S.H w L κ s nt (· < b) (fun i => R.getD (b - 1 - i) .junk) a → Good C X ρ S w → aops P k0 E s rops R hs pd S K →
    (∀ (R' : List AV) (S' : St) (X' : Nat → Prop) (ρ' : List Loc) (w' : World) (a' : Act), K R' S' → R'.length = L.length → RegInv X' ρ' S'.H w' L κ s nt (· < L.length) (fun i => R'.getD (L.length - 1 - i) .junk) a' → Good C X' ρ' S' w' → Step C X ρ S.H w X' ρ' S'.H w' → a'.defers = a.defers → Q .normal a' w') →
    wpAnyIn (wideR rd) n P .any L.toArray Q k listed a w := by
  have hF := drawOk_spec hd
  intro k
  induction k using Nat.strongRecOn with
  | _ k IH =>
    intro b hb rops R hs pd S X ρ w a listed hls hl hc hlen hinv hG h hQ
    have hcl : Closed L (Marked listed) := by
      intro j o e hj ho he hbd
      have hjl : j < L.length := (List.getElem?_eq_some_iff.1 ho).1
      have h1 := hF.on j o e ho he hbd
      have h2 := (hl j hjl).1 hj
      exact (hl e.on (by omega)).2 (by omega)
    obtain ⟨m, rops', Rm, T, x⟩ := extract k b hb rops R hs pd S hc hlen h
    by_cases hmb : m = b
    · subst hmb
      rcases Nat.lt_or_ge m L.length with hml | m7
      · -- one that stands apart
        have m7 := x.stop.resolve_left (by omega)
        obtain ⟨k', rfl⟩ : ∃ k', k = k' + 1 := ⟨k - 1, by omega⟩
        have ho : L[m]? = some L[m] := List.getElem?_eq_getElem hml
        have hdrop : L.drop m = L[m] :: L.drop (m + 1) := List.drop_eq_getElem_cons hml
        generalize L[m] = o at ho hdrop
        have hready : m ∈ Region.ready .any L.toArray listed := marked_ready hls ho (by
          cases hb' : listed.getD m false with
          | false => rfl
          | true => have := (hl m hml).1 hb'; omega) (fun e he hbd => (hl e.on (by have := hF.on m o e ho he hbd; omega)).2 (hF.on m o e ho he hbd))
        refine ⟨fun h0 => (by rw [h0] at hready; cases hready), fun i hi => ?_⟩
        obtain ⟨oi, hoi, hfi, hai⟩ := ready_marked hls hi
        have hil : i < L.length := (List.getElem?_eq_some_iff.1 hoi).1
        have him : i = m := by
          rcases Nat.lt_trichotomy i m with h1 | h1 | h1
          · have := (hl i hil).2 h1; rw [this] at hfi; cases hfi
          · exact h1
          · have h2 := barB_spec hml m7 hil (by omega)
            rw [ordB_symm _ (by omega)] at h2
            have := ord_marked hcl h1 h2 (fun o' e ho' he hbd => by rw [hoi] at ho'; cases ho'; exact hai e he hbd)
            have := (hl m hml).1 this
            omega
        subst him
        rw [hdrop] at hc
        simp only [compOps] at hc
        split at hc
        · rename_i ao g rest h1 h2 h3
          split at hc
          · rename_i hdo
            cases hc
            rw [m7] at h
            rw [← dsAt_succ ho, List.tail_drop] at h3
            refine one_step hE hk ho h1 h2 hinv hG h (fun r S' X' ρ' v w' hr hG' hrel hst => ?_)
            refine IH k' (by omega) (i + 1) (by omega) rest (r :: R) [] [] S' X' ρ' w' (a.put o.dst v) (listed.setIfInBounds i true) (by simp [hls]) (fun q hq => ?_) h3 (by simp [hlen]) ?_ hG' hr (fun R' S'' X'' ρ'' w'' a' k1 k2 k3 k4 k5 k6 => hQ R' S'' X'' ρ'' w'' a' k1 k2 k3 k4 (hst.trans k5) (k6.trans (by cases o.dst <;> rfl)))
            · rw [getD_set _ _ _ (by rw [hls]; exact hil)]
              split
              · rename_i e; subst e; simp
              · rename_i e; rw [hl q hq]; omega
            · have i1 := hinv.mono (hst.stays hG) hst.hst
              have i2 : RegInv X' ρ' S'.H w' L κ s nt (· < i) (fun q => (r :: R).getD (i + 1 - 1 - q) .junk) a := i1.congr (fun _ _ => Iff.rfl) (fun q hq => by show (r :: R).getD (i + 1 - 1 - q) .junk = R.getD (i - 1 - q) .junk; rw [res_cons hlen q (by omega), if_neg (by omega)])
              have i3 := i2.put hu ho (by omega) (v := v) (by show Rel X' ρ' S'.H w' ((r :: R).getD (i + 1 - 1 - i) .junk) v; rw [res_cons hlen i (Nat.le_refl _), if_pos rfl]; exact hrel) hdo
              exact i3.congr (fun q _ => by omega) (fun q _ => rfl)
          · cases hc
        · cases hc
      · -- all have come
        have m7 : m = L.length := by have := x.hi; omega
        obtain rfl : k = 0 := by omega
        refine ⟨List.eq_nil_iff_forall_not_mem.2 (fun i hi => ?_), hQ R S X ρ w a ?_ (by omega) ?_ hG (.refl _ _ _ _ _) rfl⟩
        · obtain ⟨o, ho, hf, _⟩ := ready_marked hls hi
          have hi' : i < L.length := (List.getElem?_eq_some_iff.1 ho).1
          have := (hl i hi').2 (by omega)
          rw [this] at hf; cases hf
        · subst m7
          rw [List.drop_length] at hc
          simp only [compOps, Option.some.injEq] at hc
          subst hc
          exact h
        · rw [← m7]; exact hinv
    · -- a stretch in any order
      have hbm : b < m := by have := x.lo; omega
      have hmn := x.hi
      -- so many changes have come
      have inner : ∀ (u : Nat) (Sc : St) (X' : Nat → Prop) (ρ' : List Loc) (w' : World) (a' : Act) (listed' : Array Bool), listed'.size = L.length → Closed L (Marked listed') → (∀ i, i < b → Marked listed' i) → (∀ i, i < L.length → Marked listed' i → i < m) → cnt listed' m = u →
          T[cntP (fun i => effB own L i && listed'.getD i false) b m]? = some Sc →
          RegInv X' ρ' Sc.H w' L κ s nt (Marked listed') (fun i => Rm.getD (m - 1 - i) .junk) a' → Good C X' ρ' Sc w' → Step C X ρ S.H w X' ρ' Sc.H w' → a'.defers = a.defers → wpAnyIn (wideR rd) n P .any L.toArray Q (L.length - m + u) listed' a' w' := by
        intro u
        induction u with
        | zero =>
          intro Sc X' ρ' w' a' listed' hs' hc' hlo hhi hcnt hT hinv' hG' hst' hdf
          have hall := cnt_zero hcnt
          obtain ⟨hs2, pd2, Sm, r1, r2⟩ := x.rest
          have hcc : cntP (fun i => effB own L i && listed'.getD i false) b m = cntP (effB own L) b m := by
            apply Nat.le_antisymm
            · exact cntP_mono (fun i _ _ h => by simp at h; exact h.1)
            · exact cntP_mono (fun i _ h2 h => by simp [h, hall i h2])
          rw [hcc, r1] at hT
          obtain rfl := Option.some.inj hT
          refine IH (L.length - m) (by omega) m (by omega) rops' Rm hs2 pd2 Sm X' ρ' w' a' listed' hs' (fun i hi => ⟨hhi i hi, hall i⟩) x.comp x.len (hinv'.congr (fun i hi => ⟨hall i, hhi i hi⟩) (fun _ _ => rfl)) hG' r2
            (fun R' S'' X'' ρ'' w'' a'' k1 k2 k3 k4 k5 k6 => hQ R' S'' X'' ρ'' w'' a'' k1 k2 k3 k4 (hst'.trans k5) (k6.trans hdf))
        | succ u ih =>
          intro Sc X' ρ' w' a' listed' hs' hc' hlo hhi hcnt hT hinv' hG' hst' hdf
          obtain ⟨i0, c1, c2, c3⟩ := cnt_pos (m := m) (listed := listed') (by omega)
          have hi0 : i0 < L.length := by omega
          have hready : i0 ∈ Region.ready .any L.toArray listed' := marked_ready hs' (List.getElem?_eq_getElem hi0) c2 (fun e he hbd => c3 _ (hF.on i0 _ e (List.getElem?_eq_getElem hi0) he hbd))
          show wpAnyIn (wideR rd) n P .any L.toArray Q ((L.length - m + u) + 1) listed' a' w'
          refine ⟨fun h0 => (by rw [h0] at hready; cases hready), fun i hi => ?_⟩
          obtain ⟨o, ho, hnf, hai⟩ := ready_marked hs' hi
          have hai' : ∀ (o' : Oper) (e : Edge), L[i]? = some o' → e ∈ o'.after.toList → Region.binds .any e = true → Marked listed' e.on := fun o' e ho' he hbd => by rw [ho] at ho'; cases ho'; exact hai e he hbd
          have hil : i < L.length := (List.getElem?_eq_some_iff.1 ho).1
          have hum : ¬ Marked listed' i := fun h => by unfold Marked at h; rw [hnf] at h; cases h
          have him : i < m := by
            rcases Nat.lt_or_ge i m with h | h
            · exact h
            · exfalso
              have hml : m < L.length := by omega
              have m7 := x.stop.resolve_left (by omega)
              by_cases e : i = m
              · subst e
                have h2 := barB_spec hml m7 hi0 (by omega)
                have := ord_marked hc' c1 h2 hai'
                unfold Marked at this
                rw [c2] at this; cases this
              · have h2 := barB_spec hml m7 hil e
                rw [ordB_symm _ e] at h2
                have := hhi m hml (ord_marked hc' (by omega) h2 hai')
                omega
          have hib : b ≤ i := by
            rcases Nat.lt_or_ge i b with h | h
            · exact absurd (hlo i h) hum
            · exact h
          -- what is ordered with i
          have before : ∀ q, q < i → ordB (befs L) q i = true → Marked listed' q := fun q hq h => ord_marked hc' hq h hai'
          have behind : ∀ q, i < q → ordB (befs L) q i = true → ¬ Marked listed' q := fun q hq h hm => by
            rw [ordB_symm _ (by omega)] at h
            exact hum (ord_marked hc' hq h (fun o'' e ho'' he hbd => hc' q o'' e hm ho'' he hbd))
          obtain ⟨o', ao, g, Rj, n1, n2, n3, n4, n5, n6, n7⟩ := x.ok i hib him
          rw [ho] at n1; cases n1
          have h1 : ∀ t, namesT o t = true → ∀ (q : Nat) (oq : Oper), q < i → L[q]? = some oq → oq.dst = some t → Marked listed' q := fun t ht q oq hq hoq hdq =>
            before q hq (hF.nm q i o oq t (by omega) hoq ho hdq ht)
          have h2 : ∀ t, namesT o t = true → ∀ (q : Nat) (oq : Oper), i ≤ q → L[q]? = some oq → oq.dst = some t → ¬ Marked listed' q := fun t ht q oq hq hoq hdq hm => by
            rcases Nat.eq_or_lt_of_le hq with rfl | hq
            · exact hum hm
            · exact behind q hq (hF.nm q i o oq t (by omega) hoq ho hdq ht) hm
          have hil' : i < listed'.size := by rw [hs']; exact hil
          have hmk : ∀ q, Marked (listed'.setIfInBounds i true) q ↔ (Marked listed' q ∨ q = i) := by
            intro q
            unfold Marked
            rw [getD_set _ _ _ hil']
            split
            · rename_i e; simp [e]
            · rename_i e; simp [e]
          -- the state behind it
          have good : ∃ Sn, GOk P k0 E s g ao Rj Sc Sn (Rm.getD (m - 1 - i) .junk) ∧ T[cntP (fun q => effB own L q && (listed'.setIfInBounds i true).getD q false) b m]? = some Sn := by
            have hsp : ∀ (p : Nat → Bool), cntP p b m = cntP p b i + ((if p i then 1 else 0) + cntP p (i + 1) m) := fun p => by
              rw [cntP_split (k := i) hib (Nat.le_of_lt him), cntP_first him]
            have hat : ∀ q, (listed'.setIfInBounds i true).getD q false = if q = i then true else listed'.getD q false := fun q => getD_set _ _ _ hil'
            have e1 : cntP (fun q => effB own L q && (listed'.setIfInBounds i true).getD q false) b i = cntP (fun q => effB own L q && listed'.getD q false) b i := by
              apply Nat.le_antisymm <;> exact cntP_mono (fun q _ hq h => by simp only [hat, if_neg (show ¬ q = i by omega)] at h ⊢; exact h)
            have e2 : cntP (fun q => effB own L q && (listed'.setIfInBounds i true).getD q false) (i + 1) m = cntP (fun q => effB own L q && listed'.getD q false) (i + 1) m := by
              apply Nat.le_antisymm <;> exact cntP_mono (fun q h1 hq h => by simp only [hat, if_neg (show ¬ q = i by omega)] at h ⊢; exact h)
            rw [hsp, e1, e2]
            have hc0 := hsp (fun q => effB own L q && listed'.getD q false)
            rw [show (effB own L i && listed'.getD i false) = false by rw [hnf]; simp] at hc0
            simp only [Bool.false_eq_true, if_false, Nat.zero_add] at hc0
            cases hei : effB own L i with
            | false =>
              have hle : cntP (effB own L) b i ≤ cntP (fun q => effB own L q && listed'.getD q false) b m + cntP (fun q => effB own L q && !ordB (befs L) q i) 0 i := by
                have k1 : cntP (effB own L) b i ≤ cntP (fun q => effB own L q && listed'.getD q false) b i + cntP (fun q => effB own L q && !ordB (befs L) q i) b i := cntP_add (fun q h1 h2 h => by
                  by_cases ho : ordB (befs L) q i = true
                  · have := before q h2 ho
                    unfold Marked at this
                    exact .inl (by simp [h, this])
                  · exact .inr (by simp [h, ho]))
                have k2 := cntP_high (p := fun q => effB own L q && listed'.getD q false) (b := b) (Nat.le_of_lt him)
                have k3 := cntP_low (p := fun q => effB own L q && !ordB (befs L) q i) (n := i) (Nat.zero_le b)
                omega
              have hge : cntP (fun q => effB own L q && listed'.getD q false) b m ≤ cntP (effB own L) b i + cntP (fun q => effB own L q && !ordB (befs L) q i) (i + 1) L.length := by
                have k1 : cntP (fun q => effB own L q && listed'.getD q false) b i ≤ cntP (effB own L) b i := cntP_mono (fun q _ _ h => by simp at h; exact h.1)
                have k2 : cntP (fun q => effB own L q && listed'.getD q false) (i + 1) m ≤ cntP (fun q => effB own L q && !ordB (befs L) q i) (i + 1) m := cntP_mono (fun q h1 _ h => by
                  simp only [Bool.and_eq_true] at h
                  by_cases ho : ordB (befs L) q i = true
                  · exact absurd h.2 (behind q (by omega) ho)
                  · simp [h.1, ho])
                have k3 := cntP_high (p := fun q => effB own L q && !ordB (befs L) q i) (b := i + 1) hmn
                omega
              have hF' : (hs.reverse ++ T)[hs.length + cntP (fun q => effB own L q && listed'.getD q false) b m]? = some Sc := by
                rw [List.getElem?_append_right (by simp)]; simpa using hT
              have := n6 hei _ Sc hF' (by omega) (by omega)
              refine ⟨Sc, this, ?_⟩
              simp only [Bool.false_and, Bool.false_eq_true, if_false, Nat.zero_add]
              rw [← hc0]; exact hT
            | true =>
              have k1 : cntP (fun q => effB own L q && listed'.getD q false) b i = cntP (effB own L) b i := by
                apply Nat.le_antisymm
                · exact cntP_mono (fun q _ _ h => by simp at h; exact h.1)
                · exact cntP_mono (fun q _ h2 h => by
                    have := before q h2 (effOk_spec hf (by omega) h hei)
                    unfold Marked at this
                    simp [h, this])
              have k2 : cntP (fun q => effB own L q && listed'.getD q false) (i + 1) m = 0 := by
                have : cntP (fun q => effB own L q && listed'.getD q false) (i + 1) m ≤ cntP (fun _ => false) (i + 1) m := cntP_mono (fun q h1 _ h => by
                  simp only [Bool.and_eq_true] at h
                  exact absurd h.2 (behind q (by omega) (effOk_spec hf (by omega) h.1 hei)))
                have z : ∀ n, cntP (fun _ => false) (i + 1) n = 0 := fun n => by induction n with
                  | zero => rfl
                  | succ n ih => simp [cntP, ih]
                rw [z] at this; omega
              obtain ⟨S1, S2, f1, f2, f3⟩ := n7 hei
              rw [List.getElem?_append_right (by simp)] at f1
              rw [List.getElem?_append_right (by simp; omega)] at f2
              have f1' : T[cntP (effB own L) b i]? = some S1 := by simpa using f1
              have f2' : T[cntP (effB own L) b i + 1]? = some S2 := by
                rw [← f2]; congr 1; simp; omega
              rw [hc0, k1, k2, Nat.add_zero, f1'] at hT
              cases hT
              refine ⟨S2, f3, ?_⟩
              rw [k1, k2, hat]
              simpa using f2'
          obtain ⟨Sn, gok, hTn⟩ := good
          have fin : ∀ (X'' : Nat → Prop) (ρ'' : List Loc) (v : Value) (w'' : World), Good C X'' ρ'' Sn w'' → Rel X'' ρ'' Sn.H w'' (Rm.getD (m - 1 - i) .junk) v → Step C X' ρ' Sc.H w' X'' ρ'' Sn.H w'' → wpAnyIn (wideR rd) n P .any L.toArray Q (L.length - m + u) (listed'.setIfInBounds i true) (a'.put o.dst v) w'' := by
            intro X'' ρ'' v w'' hG'' hrel hst
            refine ih Sn X'' ρ'' w'' (a'.put o.dst v) (listed'.setIfInBounds i true) (by simp [hs']) (hc'.set hil' hai') (fun q hq => (hmk q).2 (.inl (hlo q hq))) (fun q hq hm => by
              rcases (hmk q).1 hm with h | h
              · exact hhi q hq h
              · omega) ?_ hTn ?_ hG'' (hst'.trans hst) (by rw [← hdf]; cases o.dst <;> rfl)
            · have := cnt_set hil' hnf m
              rw [if_pos him] at this
              omega
            · have i1 := hinv'.mono (hst.stays hG') hst.hst
              have i2 := i1.put hu ho hum (v := v) hrel n4
              exact i2.congr (fun q _ => hmk q) (fun _ _ => rfl)
          have run : Region.wanted o (yielded L.toArray a'.tmps) = true → aop P k0 E ao (opd s Rj) Sc (fun r' S' => r' = Rm.getD (m - 1 - i) .junk ∧ S' = Sn) → wpOpIn (wideR rd) n P L.toArray Q i (wpAnyIn (wideR rd) n P .any L.toArray Q (L.length - m + u) (listed'.setIfInBounds i true)) a' w' := fun hw hao =>
            op_run hinv' ho n5 n2 h1 h2 hG' hE hk hw hao (fun r S' X'' ρ'' v w'' k1 k2 k3 k4 => by
              obtain ⟨rfl, rfl⟩ := k1
              exact fin X'' ρ'' v w'' k2 k3 k4)
          have skip : Region.wanted o (yielded L.toArray a'.tmps) = false → Rm.getD (m - 1 - i) .junk = .und → Sn = Sc → wpOpIn (wideR rd) n P L.toArray Q i (wpAnyIn (wideR rd) n P .any L.toArray Q (L.length - m + u) (listed'.setIfInBounds i true)) a' w' := fun hw hr hS =>
            op_skip ho hw (fin X' ρ' undef w' (by rw [hS]; exact hG') (by rw [hr]; exact .d _ _ (.lit _)) (by rw [hS]; exact .refl _ _ _ _ _))
          cases hg : o.guard with
          | none =>
            rw [hg] at n3
            simp only [compGuard, Option.some.injEq] at n3
            subst n3
            exact run (by simp [Region.wanted, hg]) gok
          | some gw =>
            obtain ⟨gi, want⟩ := gw
            rw [hg] at n3
            have hgi : gi < i := by
              simp only [compGuard, dsAt_length (Nat.le_of_lt hil)] at n3
              split at n3
              · assumption
              · cases n3
            have hgj : ∃ k want', g = some (k, want') := by
              simp only [compGuard] at n3
              split at n3
              · split at n3
                · cases n3; exact ⟨_, _, rfl⟩
                · cases n3
              · cases n3
            obtain ⟨k1, want', rfl⟩ := hgj
            obtain ⟨_, hgo⟩ := hF.gd gi i o want (by omega) ho (by omega) hg
            have hgm := before gi hgi hgo
            obtain ⟨rfl, _, v, hv, hy⟩ := guard_at hinv' (Nat.le_of_lt hil) n5 n3 hgm
            have hwd : Region.wanted o (yielded L.toArray a'.tmps) = (boolOf v == some want') := by
              simp only [Region.wanted, hg, hy]
            rcases gok with ⟨bb, hbb, ⟨rfl, hao⟩ | ⟨rfl, hr, hS⟩⟩ | ⟨vs, hbb, hr, hS⟩
            · rw [hbb] at hv
              have := Rel.lit_eq hv
              subst this
              exact run (by rw [hwd]; simp [boolOf]) hao
            · rw [hbb] at hv
              have := Rel.lit_eq hv
              subst this
              exact skip (by rw [hwd]; cases want' <;> rfl) hr hS
            · rw [hbb] at hv
              have := Rel.lit_eq hv
              subst this
              exact skip (by rw [hwd]; rfl) hr hS
      have hcnt := cnt_from (listed := listed) (b := b) m x.lo (fun i hi => hl i (by omega))
      have hz : cntP (fun i => effB own L i && listed.getD i false) b m = 0 := by
        have : cntP (fun i => effB own L i && listed.getD i false) b m ≤ cntP (fun _ => false) b m := cntP_mono (fun q h1 h2 h => by
          simp only [Bool.and_eq_true] at h
          have := (hl q (by omega)).1 h.2
          omega)
        have z : ∀ n, cntP (fun _ => false) b n = 0 := fun n => by induction n with
          | zero => rfl
          | succ n ih => simp [cntP, ih]
        rw [z] at this; omega
      have hfin := inner (m - b) S X ρ w a listed hls hcl (fun i hi => (hl i (by omega)).2 hi) (fun i hi hm => by have := (hl i hi).1 hm; omega) hcnt (by rw [hz]; exact x.first)
        (hinv.congr (fun i hi => hl i hi) (fun i hi => by show Rm.getD (m - 1 - i) .junk = _; rw [x.old i hi])) hG (.refl _ _ _ _ _) rfl
      rw [show L.length - m + (m - b) = k by omega] at hfin
      exact hfin

end Go.Proofs.Ytpmgmingjggegaa.AL
