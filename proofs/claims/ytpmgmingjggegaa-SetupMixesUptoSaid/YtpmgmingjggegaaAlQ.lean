/- Regions in whatever order the machine draws: sound. -/
import Derived.Test.YtpmgmingjggegaaAlP
set_option linter.unusedVariables false
set_option linter.unusedSimpArgs false
namespace Go.Proofs.Ytpmgmingjggegaa.AL
open Go

variable {P : Program} {C : Ctx} {X : Nat → Prop} {ρ : List Loc} {S : St} {w : World}
variable {rd : Option Nat} {n : Nat} {a : Act} {Q : Exit → Act → World → Prop}

/-- Whatever has been carried out, its premises have been. -/
def Closed (L : List Oper) (Lst : Nat → Prop) : Prop :=
  ∀ (j : Nat) (o : Oper) (e : Edge), Lst j → L[j]? = some o → e ∈ o.after.toList → Region.binds .any e = true → Lst e.on

/-- Ahead of j comes i. -/
def Must (L : List Oper) (j i : Nat) : Prop :=
  ∀ Lst : Nat → Prop, Closed L Lst → (∀ (o : Oper) (e : Edge), L[j]? = some o → e ∈ o.after.toList → Region.binds .any e = true → Lst e.on) → Lst i

theorem fold_bits (acc : List Nat) (i : Nat) : ∀ (es : List Edge) (s : Nat), (es.foldl (fun s e => if Region.binds .any e then s ||| 2 ^ e.on ||| acc.getD e.on 0 else s) s).testBit i = true →
    s.testBit i = true ∨ ∃ e ∈ es, Region.binds .any e = true ∧ (e.on = i ∨ (acc.getD e.on 0).testBit i = true)
  | [], s, h => .inl h
  | e :: es, s, h => by
    rw [List.foldl_cons] at h
    rcases fold_bits acc i es _ h with h | ⟨e', h1, h2, h3⟩
    · split at h
      · rename_i hb
        simp only [Nat.testBit_or, Bool.or_eq_true, Nat.testBit_two_pow, decide_eq_true_eq] at h
        rcases h with (h | h) | h
        · exact .inl h
        · exact .inr ⟨e, by simp, hb, .inl h⟩
        · exact .inr ⟨e, by simp, hb, .inr h⟩
      · exact .inl h
    · exact .inr ⟨e', by simp [h1], h2, h3⟩

theorem befGo_spec {L : List Oper} : ∀ (r pre : List Oper) (acc : List Nat), L = pre ++ r → acc.length = pre.length → (∀ j i : Nat, (acc.getD j 0).testBit i = true → Must L j i) → ∀ j i : Nat, ((befGo r acc).getD j 0).testBit i = true → Must L j i
  | [], pre, acc, _, _, h, j, i, hb => h j i (by simpa [befGo] using hb)
  | o :: r, pre, acc, hL, hl, h, j, i, hb => by
    refine befGo_spec r (pre ++ [o]) _ (by simp [hL]) (by simp [hl]) (fun j' i' hb' => ?_) j i hb
    rcases Nat.lt_trichotomy j' acc.length with hlt | heq | hgt
    · refine h j' i' ?_
      simp only [List.getD, List.getElem?_append_left hlt] at hb' ⊢
      exact hb'
    · subst heq
      simp only [List.getD, List.getElem?_append_right (Nat.le_refl _), Nat.sub_self, List.getElem?_cons_zero, Option.getD_some] at hb'
      have ho : L[acc.length]? = some o := by rw [hL, hl]; simp
      rcases fold_bits acc i' _ _ hb' with h0 | ⟨e, h1, h2, h3⟩
      · simp at h0
      · intro Lst hc hd
        have he := hd o e ho h1 h2
        rcases h3 with h3 | h3
        · rw [← h3]; exact he
        · exact h e.on i' h3 Lst hc (fun o' e' ho' he' hb'' => hc e.on o' e' he ho' he' hb'')
    · simp only [List.getD] at hb'
      rw [List.getElem?_eq_none (by simp; omega)] at hb'
      simp at hb'

theorem bef_spec {L : List Oper} {j i : Nat} (h : ((befs L).getD j 0).testBit i = true) : Must L j i :=
  befGo_spec L [] [] rfl rfl (fun j i h => by simp at h) j i h

/-- What of the list a machine's list of marks says. -/
def Marked (listed : Array Bool) (i : Nat) : Prop := listed.getD i false = true

def cnt (listed : Array Bool) : Nat → Nat
  | 0 => 0
  | m + 1 => cnt listed m + if listed.getD m false then 0 else 1

theorem getD_set (listed : Array Bool) (i j : Nat) (hi : i < listed.size) : (listed.setIfInBounds i true).getD j false = if j = i then true else listed.getD j false := by
  simp only [Array.getD_eq_getD_getElem?, Array.getElem?_setIfInBounds]
  by_cases e : i = j
  · subst e; simp [hi]
  · rw [if_neg e, if_neg (Ne.symm e)]

theorem cnt_set {listed : Array Bool} {i : Nat} (hi : i < listed.size) (hf : listed.getD i false = false) : ∀ m, cnt (listed.setIfInBounds i true) m + (if i < m then 1 else 0) = cnt listed m
  | 0 => by simp [cnt]
  | m + 1 => by
    have ih := cnt_set hi hf m
    simp only [cnt, getD_set listed i m hi]
    by_cases e : m = i
    · subst e
      rw [if_pos rfl, hf]
      simp at ih ⊢
      omega
    · rw [if_neg e]
      by_cases h : i < m
      · rw [if_pos h] at ih
        rw [if_pos (show i < m + 1 by omega)]
        omega
      · rw [if_neg h] at ih
        rw [if_neg (show ¬ i < m + 1 by omega)]
        omega

theorem cnt_zero {listed : Array Bool} : ∀ {m : Nat}, cnt listed m = 0 → ∀ i, i < m → listed.getD i false = true
  | m + 1, h, i, hi => by
    simp only [cnt] at h
    by_cases e : i = m
    · subst e
      cases hb : listed.getD i false with
      | true => rfl
      | false => rw [hb] at h; simp at h
    · exact cnt_zero (m := m) (by omega) i (by omega)

theorem cnt_pos {listed : Array Bool} : ∀ {m : Nat}, 0 < cnt listed m → ∃ i, i < m ∧ listed.getD i false = false ∧ ∀ j, j < i → listed.getD j false = true
  | m + 1, h => by
    by_cases h0 : 0 < cnt listed m
    · obtain ⟨i, h1, h2, h3⟩ := cnt_pos h0
      exact ⟨i, by omega, h2, h3⟩
    · simp only [cnt] at h
      refine ⟨m, by omega, ?_, fun j hj => cnt_zero (m := m) (by omega) j hj⟩
      cases hb : listed.getD m false with
      | true => rw [hb] at h; simp at h; omega
      | false => rfl

theorem cnt_from {listed : Array Bool} {b : Nat} : ∀ m, b ≤ m → (∀ i, i < m → (listed.getD i false = true ↔ i < b)) → cnt listed m = m - b
  | 0, hb, _ => by simp [cnt]
  | m + 1, hb, h => by
    simp only [cnt]
    by_cases e : b = m + 1
    · have : ∀ k, k ≤ m → cnt listed k = 0 := by
        intro k
        induction k with
        | zero => intro _; rfl
        | succ k ih =>
          intro hk
          simp only [cnt, ih (by omega), (h k (by omega)).2 (by omega)]
          simp
      rw [this m (Nat.le_refl _), (h m (by omega)).2 (by omega)]
      simp; omega
    · rw [cnt_from m (by omega) (fun i hi => h i (by omega))]
      have : listed.getD m false = false := by
        cases hb' : listed.getD m false with
        | false => rfl
        | true => have := (h m (by omega)).1 hb'; omega
      rw [this]
      simp; omega

/-! ### Counting changes -/
theorem cntP_mono {p q : Nat → Bool} {b : Nat} : ∀ {n : Nat}, (∀ i, b ≤ i → i < n → p i = true → q i = true) → cntP p b n ≤ cntP q b n
  | 0, _ => Nat.le_refl _
  | n + 1, h => by
    have ih := cntP_mono (n := n) (fun i h1 h2 => h i h1 (by omega))
    simp only [cntP]
    by_cases hb : b ≤ n
    · by_cases hp : p n = true
      · have := h n hb (Nat.lt_succ_self n) hp
        simp [hb, hp, this]; omega
      · simp [hb, hp]; split <;> omega
    · simp [hb]; exact ih

theorem cntP_add {p q r : Nat → Bool} {b : Nat} : ∀ {n : Nat}, (∀ i, b ≤ i → i < n → p i = true → q i = true ∨ r i = true) → cntP p b n ≤ cntP q b n + cntP r b n
  | 0, _ => Nat.zero_le _
  | n + 1, h => by
    have ih := cntP_add (n := n) (fun i h1 h2 => h i h1 (by omega))
    simp only [cntP]
    by_cases hb : b ≤ n
    · by_cases hp : p n = true
      · rcases h n hb (Nat.lt_succ_self n) hp with h | h <;> simp [hb, hp, h] <;> omega
      · simp [hb, hp]; omega
    · simp [hb]; exact ih

theorem cntP_out {p : Nat → Bool} {b : Nat} : ∀ {n : Nat}, n ≤ b → cntP p b n = 0
  | 0, _ => rfl
  | n + 1, h => by
    have ih := cntP_out (p := p) (b := b) (n := n) (by omega)
    have hb : ¬ b ≤ n := by omega
    simp [cntP, ih, hb]

theorem cntP_split {p : Nat → Bool} {b k : Nat} (hb : b ≤ k) : ∀ {n : Nat}, k ≤ n → cntP p b n = cntP p b k + cntP p k n
  | 0, h => by
    obtain rfl : k = 0 := by omega
    simp [cntP]
  | n + 1, h => by
    rcases Nat.eq_or_lt_of_le h with rfl | h
    · rw [cntP_out (Nat.le_refl _)]; rfl
    · have ih := cntP_split (p := p) hb (n := n) (by omega)
      simp only [cntP, ih, show b ≤ n by omega, show k ≤ n by omega, decide_true, Bool.true_and]
      omega

theorem cntP_one {p : Nat → Bool} {b : Nat} : cntP p b (b + 1) = if p b then 1 else 0 := by
  simp [cntP, cntP_out (p := p) (Nat.le_refl b)]

theorem cntP_first {p : Nat → Bool} {b n : Nat} (h : b < n) : cntP p b n = (if p b then 1 else 0) + cntP p (b + 1) n := by
  rw [cntP_split (k := b + 1) (by omega) h, cntP_one]

theorem cntP_low {p : Nat → Bool} {b b' n : Nat} (h : b' ≤ b) : cntP p b n ≤ cntP p b' n := by
  rcases Nat.lt_or_ge n b with hn | hn
  · rw [cntP_out (p := p) (b := b) (n := n) (by omega)]; exact Nat.zero_le _
  · rw [cntP_split h hn]; omega

theorem cntP_high {p : Nat → Bool} {b n n' : Nat} (h : n ≤ n') : cntP p b n ≤ cntP p b n' := by
  rcases Nat.lt_or_ge n b with hn | hn
  · rw [cntP_out (p := p) (b := b) (n := n) (by omega)]; exact Nat.zero_le _
  · rw [cntP_split hn h]; omega

/-! ### What a stretch tells -/
/-- An operation, from one state to another. -/
def GOk (P : Program) (k0 : Nat) (E : Env) (s : List AV) (g : Option (Nat × Bool)) (ao : AOp) (Rj : List AV) (S S' : St) (r : AV) : Prop :=
  match g with
  | none => aop P k0 E ao (opd s Rj) S (fun r' S'' => r' = r ∧ S'' = S')
  | some (k, want) => (∃ b, Rj.getD k .junk = .bool b ∧ ((b = want ∧ aop P k0 E ao (opd s Rj) S (fun r' S'' => r' = r ∧ S'' = S')) ∨ (b = !want ∧ r = .und ∧ S' = S))) ∨ (∃ vs, Rj.getD k .junk = .d (.lit (.tuple vs)) ∧ r = .und ∧ S' = S)

/-- What is known of an operation of a stretch: F: the states, from change to change; t: at which it stands in the text. -/
def NOk (P : Program) (k0 : Nat) (E : Env) (own : Bool) (κ : List Nat) (nt : Nat) (L : List Oper) (s : List AV) (F : List St) (t : Nat) (res : Nat → AV) (j : Nat) : Prop :=
  ∃ (o : Oper) (ao : AOp) (g : Option (Nat × Bool)) (Rj : List AV), L[j]? = some o ∧ compOp P own (dsAt L j) κ o = some ao ∧ compGuard (dsAt L j) o.guard = some g ∧ dstOk nt o = true ∧ (∀ k, k < j → Rj.getD k .junk = res (j - 1 - k)) ∧
    (effB own L j = false → ∀ (i : Nat) (S : St), F[i]? = some S → t ≤ i + cntP (fun i => effB own L i && !ordB (befs L) i j) 0 j → i ≤ t + cntP (fun i => effB own L i && !ordB (befs L) i j) (j + 1) L.length → GOk P k0 E s g ao Rj S S (res j)) ∧
    (effB own L j = true → ∃ S S', F[t]? = some S ∧ F[t + 1]? = some S' ∧ GOk P k0 E s g ao Rj S S' (res j))

structure Extr (P : Program) (k0 : Nat) (E : Env) (own : Bool) (κ : List Nat) (nt : Nat) (L : List Oper) (s : List AV) (K : List AV → St → Prop) (q : Nat) (R : List AV) (hs : List St) (pd : List (Nat × (St → Prop))) (S : St) (m : Nat) (rops' : List ROp) (Rm : List AV) (T : List St) : Prop where
  lo : q ≤ m
  hi : m ≤ L.length
  len : Rm.length = m
  old : ∀ i, i < q → Rm.getD (m - 1 - i) .junk = R.getD (q - 1 - i) .junk
  comp : compOps P nt own κ ((kindsOf own L).drop m) (dsAt L m) (L.drop m) = some rops'
  tlen : T.length = cntP (effB own L) q m + 1
  first : T[0]? = some S
  rest : ∃ hs' pd' Sm, T[cntP (effB own L) q m]? = some Sm ∧ aops P k0 E s rops' Rm hs' pd' Sm K
  stop : m = L.length ∨ ((kindsOf own L).drop m).headD .b = .b
  pds : ∀ x ∈ pd, ∀ (i : Nat) (S' : St), 1 ≤ i → i ≤ x.1 → T[i]? = some S' → x.2 S'
  ok : ∀ j, q ≤ j → j < m → NOk P k0 E own κ nt L s (hs.reverse ++ T) (hs.length + cntP (effB own L) q j) (fun i => Rm.getD (m - 1 - i) .junk) j

theorem kinds_at {own : Bool} {L : List Oper} {q : Nat} (h : q < L.length) : ((kindsOf own L).drop q).headD .b = kindAt own L (befs L) q := by
  rw [List.headD_eq_head?_getD, List.head?_drop]
  simp [kindsOf, h]

theorem extract {k0 : Nat} {E : Env} {own : Bool} {L : List Oper} {κ : List Nat} {s : List AV} {nt : Nat} {K : List AV → St → Prop} : ∀ (k q : Nat), q + k = L.length → ∀ (rops : List ROp) (R : List AV) (hs : List St) (pd : List (Nat × (St → Prop))) (S : St), compOps P nt own κ ((kindsOf own L).drop q) (dsAt L q) (L.drop q) = some rops → R.length = q → aops P k0 E s rops R hs pd S K →
    ∃ m rops' Rm T, Extr P k0 E own κ nt L s K q R hs pd S m rops' Rm T := by
  intro k
  induction k with
  | zero =>
    intro q hq rops R hs pd S hc hl h
    refine ⟨q, rops, R, [S], Nat.le_refl _, by omega, hl, fun _ _ => rfl, hc, by rw [cntP_out (Nat.le_refl _)]; rfl, rfl, ⟨hs, pd, S, by rw [cntP_out (Nat.le_refl _)]; rfl, h⟩, .inl (by omega), fun x hx i S' h1 h2 h3 => ?_, fun j h1 h2 => by omega⟩
    rw [List.getElem?_eq_none (by simp; omega)] at h3; cases h3
  | succ k ih =>
    intro q hq rops R hs pd S hc hl h
    have hql : q < L.length := by omega
    by_cases hbar : ((kindsOf own L).drop q).headD .b = .b
    · refine ⟨q, rops, R, [S], Nat.le_refl _, by omega, hl, fun _ _ => rfl, hc, by rw [cntP_out (Nat.le_refl _)]; rfl, rfl, ⟨hs, pd, S, by rw [cntP_out (Nat.le_refl _)]; rfl, h⟩, .inr hbar, fun x hx i S' h1 h2 h3 => ?_, fun j h1 h2 => by omega⟩
      rw [List.getElem?_eq_none (by simp; omega)] at h3; cases h3
    · have hkq := kinds_at (own := own) hql
      have ho : L[q]? = some L[q] := List.getElem?_eq_getElem hql
      have hdrop : L.drop q = L[q] :: L.drop (q + 1) := List.drop_eq_getElem_cons hql
      generalize L[q] = o at ho hdrop
      have hcc := hc
      rw [hdrop] at hcc
      simp only [compOps] at hcc
      split at hcc
      · rename_i ao g rest h1 h2 h3
        split at hcc
        · rename_i hd
          cases hcc
          rw [← dsAt_succ ho, List.tail_drop] at h3
          have hRj : ∀ (r : AV) (res : Nat → AV), (∀ i, i ≤ q → res i = if i = q then r else R.getD (q - 1 - i) .junk) → ∀ k, k < q → R.getD k .junk = res (q - 1 - k) := fun r res he k hk => by
            rw [he _ (by omega), if_neg (by omega)]; congr 1; omega
          have agree : ∀ {m : Nat} {Rm : List AV} {r : AV}, (∀ i, i < q + 1 → Rm.getD (m - 1 - i) .junk = (r :: R).getD (q + 1 - 1 - i) .junk) → ∀ i, i ≤ q → Rm.getD (m - 1 - i) .junk = if i = q then r else R.getD (q - 1 - i) .junk := fun k4 i hi => by rw [k4 i (by omega), res_cons hl i hi]
          -- an operation that changes nothing
          have pureStep : ∀ (r : AV) (pd' : List (Nat × (St → Prop))), effB own L q = false → (∀ x ∈ pd, x ∈ pd') → aops P k0 E s rest (r :: R) hs pd' S K →
              (∀ (T : List St), T[0]? = some S → (∀ x ∈ pd', ∀ (i : Nat) (S' : St), 1 ≤ i → i ≤ x.1 → T[i]? = some S' → x.2 S') → ∀ (i : Nat) (S₁ : St), (hs.reverse ++ T)[i]? = some S₁ → hs.length ≤ i + cntP (fun i => effB own L i && !ordB (befs L) i q) 0 q → i ≤ hs.length + cntP (fun i => effB own L i && !ordB (befs L) i q) (q + 1) L.length → GOk P k0 E s g ao R S₁ S₁ r) →
              ∃ m rops' Rm T, Extr P k0 E own κ nt L s K q R hs pd S m rops' Rm T := by
            intro r pd' he hsub hr hok
            obtain ⟨m, rops', Rm, T, x⟩ := ih (q + 1) (by omega) rest (r :: R) hs pd' S h3 (by simp [hl]) hr
            have hag := agree x.old
            have hcm : cntP (effB own L) q m = cntP (effB own L) (q + 1) m := by rw [cntP_first (by have := x.lo; omega), he]; simp
            refine ⟨m, rops', Rm, T, by have := x.lo; omega, x.hi, x.len, fun i hi => by rw [hag i (by omega), if_neg (by omega)], x.comp, by rw [hcm]; exact x.tlen, x.first, by rw [hcm]; exact x.rest, x.stop, fun y hy => x.pds y (hsub y hy), fun j h1' h2' => ?_⟩
            rcases Nat.eq_or_lt_of_le h1' with rfl | hlt
            · refine ⟨o, ao, g, R, ho, h1, h2, hd, hRj r _ hag, fun _ i S₁ hi hlo hhi => ?_, fun e => by rw [he] at e; cases e⟩
              have := hok T x.first x.pds i S₁ hi (by rw [cntP_out (Nat.le_refl _)] at hlo; simpa using hlo) (by rw [cntP_out (Nat.le_refl _)] at hhi; simpa using hhi)
              show GOk P k0 E s g ao R S₁ S₁ (Rm.getD (m - 1 - q) .junk)
              rw [hag q (Nat.le_refl _), if_pos rfl]
              exact this
            · have := x.ok j hlt h2'
              rw [show cntP (effB own L) q j = cntP (effB own L) (q + 1) j by rw [cntP_first hlt, he]; simp]
              exact this
          -- an operation that may change something
          have effStep : ∀ (r : AV) (S' : St), effB own L q = true → (∀ x ∈ pd, 0 < x.1 → x.2 S') → aops P k0 E s rest (r :: R) (S :: hs) (pd.map fun x => (x.1 - 1, x.2)) S' K → GOk P k0 E s g ao R S S' r →
              ∃ m rops' Rm T, Extr P k0 E own κ nt L s K q R hs pd S m rops' Rm T := by
            intro r S' he hpd hr hok
            obtain ⟨m, rops', Rm, T, x⟩ := ih (q + 1) (by omega) rest (r :: R) (S :: hs) _ S' h3 (by simp [hl]) hr
            have hag := agree x.old
            have hcm : cntP (effB own L) q m = cntP (effB own L) (q + 1) m + 1 := by rw [cntP_first (by have := x.lo; omega), he]; simp; omega
            have hF : hs.reverse ++ S :: T = (S :: hs).reverse ++ T := by simp
            refine ⟨m, rops', Rm, S :: T, by have := x.lo; omega, x.hi, x.len, fun i hi => by rw [hag i (by omega), if_neg (by omega)], x.comp, by rw [hcm]; simp [x.tlen], rfl, by rw [hcm]; exact x.rest, x.stop, fun y hy i S₁ hi1 hi2 hT => ?_, fun j h1' h2' => ?_⟩
            · cases i with
              | zero => omega
              | succ i =>
                simp only [List.getElem?_cons_succ] at hT
                cases i with
                | zero =>
                  rw [x.first] at hT; cases hT
                  exact hpd y hy (by omega)
                | succ i => exact x.pds (y.1 - 1, y.2) (List.mem_map.2 ⟨y, hy, rfl⟩) (i + 1) S₁ (by omega) (by simp only; omega) hT
            · rcases Nat.eq_or_lt_of_le h1' with rfl | hlt
              · refine ⟨o, ao, g, R, ho, h1, h2, hd, hRj r _ hag, (fun e => by rw [he] at e; cases e), fun _ => ⟨S, S', ?_, ?_, ?_⟩⟩
                · rw [cntP_out (Nat.le_refl _), List.getElem?_append_right (by simp)]; simp
                · rw [cntP_out (Nat.le_refl _), List.getElem?_append_right (by simp)]; simp; exact x.first
                · show GOk P k0 E s g ao R S S' (Rm.getD (m - 1 - q) .junk)
                  rw [hag q (Nat.le_refl _), if_pos rfl]; exact hok
              · have := x.ok j hlt h2'
                rw [hF, show hs.length + cntP (effB own L) q j = (S :: hs).length + cntP (effB own L) (q + 1) j by rw [cntP_first hlt, he]; simp; omega]
                exact this
          -- the states at which an operation that changes nothing may stand
          have span : ∀ (chk : St → Prop) (bk fw : Nat) (T : List St), (∀ S₁ ∈ S :: hs.take bk, chk S₁) → T[0]? = some S → (∀ (i : Nat) (S' : St), 1 ≤ i → i ≤ fw → T[i]? = some S' → chk S') → ∀ (i : Nat) (S₁ : St), (hs.reverse ++ T)[i]? = some S₁ → hs.length ≤ i + bk → i ≤ hs.length + fw → chk S₁ := by
            intro chk bk fw T hck hT0 hT i S₁ hi hlo hhi
            rcases Nat.lt_or_ge i hs.length with hlt | hge
            · rw [List.getElem?_append_left (by simp; exact hlt), List.getElem?_reverse hlt] at hi
              refine hck S₁ (List.mem_cons_of_mem _ ?_)
              refine List.mem_of_getElem? (i := hs.length - 1 - i) ?_
              rw [List.getElem?_take, if_pos (by omega)]
              exact hi
            · rw [List.getElem?_append_right (by simp; exact hge)] at hi
              simp only [List.length_reverse] at hi
              cases hz : i - hs.length with
              | zero =>
                rw [hz, hT0] at hi
                rw [← Option.some.inj hi]
                exact hck S (by simp)
              | succ z =>
                rw [hz] at hi
                exact hT (z + 1) S₁ (by omega) (by omega) hi
          rw [hkq] at h hbar
          simp only [aops] at h
          unfold kindAt at h hbar
          split at hbar
          · exact absurd rfl hbar
          · rename_i hnb
            rw [if_neg hnb] at h
            by_cases he : effB own L q = true
            · rw [if_pos he] at h
              cases g with
              | none =>
                simp only at h
                obtain ⟨r, S', k1, k2, k3⟩ := h
                exact effStep r S' he k2 k3 k1
              | some kw =>
                obtain ⟨kk, want⟩ := kw
                simp only at h
                split at h
                · rename_i bb hbb
                  by_cases e : bb = want
                  · subst e
                    have h := h.1 rfl
                    rw [set_same hbb] at h
                    obtain ⟨r, S', k1, k2, k3⟩ := h
                    exact effStep r S' he k2 k3 (.inl ⟨bb, hbb, .inl ⟨rfl, k1⟩⟩)
                  · have e' : bb = !want := by cases bb <;> cases want <;> simp at e ⊢
                    subst e'
                    have h := h.2 rfl
                    rw [set_same hbb] at h
                    exact effStep .und S he h.1 h.2 (.inl ⟨_, hbb, .inr ⟨rfl, rfl, rfl⟩⟩)
                · rename_i vs hbb
                  exact effStep .und S he h.1 h.2 (.inr ⟨vs, hbb, rfl, rfl⟩)
                · exact h.elim
            · rw [if_neg he] at h
              have he' : effB own L q = false := by simpa using he
              cases g with
              | none =>
                simp only at h
                obtain ⟨r, k1, k2⟩ := h
                exact pureStep r _ he' (fun x hx => List.mem_cons_of_mem _ hx) k2 (fun T hT0 hT => span _ _ _ T k1 hT0 (hT _ (List.mem_cons_self ..)))
              | some kw =>
                obtain ⟨kk, want⟩ := kw
                simp only at h
                split at h
                · rename_i bb hbb
                  by_cases e : bb = want
                  · subst e
                    have h := h.1 rfl
                    rw [set_same hbb] at h
                    obtain ⟨r, k1, k2⟩ := h
                    exact pureStep r _ he' (fun x hx => List.mem_cons_of_mem _ hx) k2 (fun T hT0 hT i S₁ hi hlo hhi => .inl ⟨bb, hbb, .inl ⟨rfl, span _ _ _ T k1 hT0 (hT _ (List.mem_cons_self ..)) i S₁ hi hlo hhi⟩⟩)
                  · have e' : bb = !want := by cases bb <;> cases want <;> simp at e ⊢
                    subst e'
                    have h := h.2 rfl
                    rw [set_same hbb] at h
                    exact pureStep .und pd he' (fun x hx => hx) h (fun T hT0 hT i S₁ hi hlo hhi => .inl ⟨_, hbb, .inr ⟨rfl, rfl, rfl⟩⟩)
                · rename_i vs hbb
                  exact pureStep .und pd he' (fun x hx => hx) h (fun T hT0 hT i S₁ hi hlo hhi => .inr ⟨vs, hbb, rfl, rfl⟩)
                · exact h.elim
        · cases hcc
      · cases hcc

end Go.Proofs.Ytpmgmingjggegaa.AL
