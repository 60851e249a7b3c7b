/- Code: what the logic asks of it, and that the machine does it. -/
import Derived.Test.YtpmgmingjggegaaAlR
set_option linter.unusedVariables false
set_option linter.unusedSimpArgs false
namespace Go.Proofs.Ytpmgmingjggegaa.AL
open Go

variable {P : Program} {C : Ctx} {X : Nat → Prop} {ρ : List Loc} {S : St} {w : World}

def comp (P : Program) (nt : Nat) (owns : List Nat) (κ : List Nat) : Code → Option ACode
  | .skip => some .skip
  | .ret => some .ret
  | .exit id => some (.exit id)
  | .label l => some (.label l)
  | .seq a b => match comp P nt owns κ a, comp P nt owns κ b with
    | some x, some y => some (.seq x y)
    | _, _ => none
  | .cond (.tmp t) a b => match κ.idxOf? t, comp P nt owns κ a, comp P nt owns κ b with
    | some q, some x, some y => some (.cond (.s q) x y)
    | _, _, _ => none
  | .block id a => match comp P nt owns κ a with
    | some x => some (.block id x)
    | none => none
  | .loop a => match comp P nt owns κ a with
    | some x => some (.loop x)
    | none => none
  | .scope a => match comp P nt owns κ a with
    | some x => some (.scope x)
    | none => none
  | .region id ops draw => match compReg P nt (owns.contains id) κ draw ops.toList with
    | some (r, wr) => some (.reg draw r wr)
    | none => none
  | .rangeFunc f ps assign body => match compOpd [] κ f, ps.toList.mapM κ.idxOf?, comp P nt owns κ assign, comp P nt owns κ body with
    | some f', some qs, some x, some y => if decide (ps.toList.Nodup) && ps.toList.all (fun t => decide (t < nt)) && decide (κ.Nodup) then some (.rng f' qs x y) else none
    | _, _, _, _ => none
  | _ => none

inductive AEx where
  | n
  | r
  | x (id : Nat)

def AEx.to : AEx → Exit
  | .n => .normal
  | .r => .ret
  | .x id => .exit id

abbrev KQ := AEx → List AV → St → Prop

/-- The marks among an activation's deferred calls. -/
structure DefsOk (C : Ctx) (bs : Nat) (ds : List Deferred) (w : World) : Prop where
  mks : ∀ d ∈ ds, ∃ r, d = { target := .collected r, args := #[] } ∧ bs ≤ r ∧ ¬ C.Y r ∧ w.heap[r]? = some (.deferred (some []))
  nd : ds.Pairwise (fun d d' => d.target ≠ d'.target)

def RdOk (C : Ctx) (rd : Option Nat) (w : World) : Prop := ∀ l, rd = some l → ¬ C.Y l ∧ ∃ r, w.heap[l]? = some (.loop r)

/-- An activation's frame is as the logic says. -/
structure Here (C : Ctx) (X : Nat → Prop) (ρ : List Loc) (S : St) (w : World) (nt : Nat) (κ : List Nat) (rd : Option Nat) (bs : Nat) (s : List AV) (a : Act) : Prop where
  good : Good C X ρ S w
  size : a.tmps.size = nt
  len : s.length = κ.length
  slot : ∀ (q t : Nat) (x : AV), κ[q]? = some t → s[q]? = some x → ∃ v, a.tmps[t]? = some v ∧ Rel X ρ S.H w x v
  defs : DefsOk C bs a.defers w
  bsw : bs ≤ w.heap.size
  rd : RdOk C rd w

theorem Step.other {X' : Nat → Prop} {ρ' : List Loc} {H' : AHeap} {w' : World} (hG : Good C X ρ S w) (h : Step C X ρ S.H w X' ρ' H' w') {b : Nat} {o : Obj} (hy : ¬ C.Y b) (hb : w.heap[b]? = some o) (ho : ∀ (c : Array Value) (E : TypeId) (fz : Nat × Nat), o ≠ .cells c E fz) : w'.heap[b]? = some o := by
  have hlt : b < w.heap.size := (Array.getElem?_eq_some_iff.1 hb).1
  rw [h.keep b hlt (fun id cs e => ?_) hy, hb]
  have hl : id < S.H.length := by rw [← hG.sim.len]; exact (List.getElem?_eq_some_iff.1 e).1
  obtain ⟨c, E, hc, _⟩ := (hG.sim.blk id S.H[id] b cs (List.getElem?_eq_getElem hl) e).cell
  rw [hb] at hc
  exact ho c E (0, 0) (Option.some.inj hc)

theorem DefsOk.step {bs : Nat} {X' : Nat → Prop} {ρ' : List Loc} {H' : AHeap} {w' : World} (hG : Good C X ρ S w) (h : Step C X ρ S.H w X' ρ' H' w') {ds : List Deferred} (hd : DefsOk C bs ds w) : DefsOk C bs ds w' :=
  ⟨fun d hm => let ⟨r, h1, h0, h2, h3⟩ := hd.mks d hm; ⟨r, h1, h0, h2, h.other hG h2 h3 (fun _ _ _ => by simp)⟩, hd.nd⟩

theorem RdOk.step {X' : Nat → Prop} {ρ' : List Loc} {H' : AHeap} {w' : World} (hG : Good C X ρ S w) (h : Step C X ρ S.H w X' ρ' H' w') {rd : Option Nat} (hd : RdOk C rd w) : RdOk C rd w' :=
  fun l hl => let ⟨h2, r, h3⟩ := hd l hl; ⟨h2, r, h.other hG h2 h3 (fun _ _ _ => by simp)⟩

def Out (C : Ctx) (X : Nat → Prop) (ρ : List Loc) (S : St) (w : World) (nt : Nat) (κ : List Nat) (rd : Option Nat) (bs : Nat) (Q : KQ) (e : Exit) (a' : Act) (w' : World) : Prop :=
  ∃ (ae : AEx) (s' : List AV) (S' : St) (X' : Nat → Prop) (ρ' : List Loc), e = ae.to ∧ Q ae s' S' ∧ Here C X' ρ' S' w' nt κ rd bs s' a' ∧ Step C X ρ S.H w X' ρ' S'.H w'

/-- The code comes to its end, and is left as Q says. -/
def AW (P : Program) (k0 : Nat) (E : Env) (ac : ACode) (Q : KQ) (s : List AV) (S : St) : Prop :=
  ∀ (c : Code) (nt : Nat) (owns κ : List Nat), comp P nt owns κ c = some ac → ∀ (C : Ctx) (X : Nat → Prop) (ρ : List Loc) (w : World) (rd : Option Nat) (bs : Nat) (a : Act) (n : Nat), C.k0 = k0 → EnvOk P C E → Here C X ρ S w nt κ rd bs s a →
    c.wpIn (wideR rd) n P (Out C X ρ S w nt κ rd bs Q) a w

variable {k0 : Nat} {E : Env} {Q : KQ} {s : List AV}

theorem AW.conseq {ac : ACode} {Q' : KQ} (h : AW P k0 E ac Q s S) (hQ : ∀ e s' S', Q e s' S' → Q' e s' S') : AW P k0 E ac Q' s S := by
  intro c nt owns κ hc C X ρ w rd bs a n hk hE hh
  refine wpIn_mono (h c nt owns κ hc C X ρ w rd bs a n hk hE hh) ?_
  rintro e a' w' ⟨ae, s', S', X', ρ', h1, h2, h3, h4⟩
  exact ⟨ae, s', S', X', ρ', h1, hQ _ _ _ h2, h3, h4⟩

def KQ.then (N : List AV → St → Prop) (Q : KQ) : KQ
  | .n => N
  | e => Q e

def KQ.blk (id : Nat) (Q : KQ) : KQ
  | .n => Q .n
  | .r => Q .r
  | .x i => if i = id then Q .n else Q (.x i)

theorem Out.of_step {nt : Nat} {κ : List Nat} {rd : Option Nat} {bs : Nat} {e : Exit} {a' : Act} {w' w₁ : World} {X₁ : Nat → Prop} {ρ₁ : List Loc} {S₁ : St} (hs : Step C X ρ S.H w X₁ ρ₁ S₁.H w₁) (h : Out C X₁ ρ₁ S₁ w₁ nt κ rd bs Q e a' w') : Out C X ρ S w nt κ rd bs Q e a' w' := by
  obtain ⟨ae, s', S', X', ρ', h1, h2, h3, h4⟩ := h
  exact ⟨ae, s', S', X', ρ', h1, h2, h3, hs.trans h4⟩

theorem AW.skip (h : Q .n s S) : AW P k0 E .skip Q s S := by
  intro c nt owns κ hc C X ρ w rd bs a n hk hE hh
  unfold comp at hc
  split at hc <;> (try (split at hc)) <;> (try (split at hc)) <;> (try cases hc)
  exact Go.wpIn_skip ⟨.n, s, S, X, ρ, rfl, h, hh, .refl _ _ _ _ _⟩

theorem AW.ret (h : Q .r s S) : AW P k0 E .ret Q s S := by
  intro c nt owns κ hc C X ρ w rd bs a n hk hE hh
  unfold comp at hc
  split at hc <;> (try (split at hc)) <;> (try (split at hc)) <;> (try cases hc)
  exact wpIn_ret ⟨.r, s, S, X, ρ, rfl, h, hh, .refl _ _ _ _ _⟩

theorem AW.exit {id : Nat} (h : Q (.x id) s S) : AW P k0 E (.exit id) Q s S := by
  intro c nt owns κ hc C X ρ w rd bs a n hk hE hh
  unfold comp at hc
  split at hc <;> (try (split at hc)) <;> (try (split at hc)) <;> (try cases hc)
  exact wpIn_exit ⟨.x id, s, S, X, ρ, rfl, h, hh, .refl _ _ _ _ _⟩

theorem AW.label {l : Nat} (h : Q .n s S) : AW P k0 E (.label l) Q s S := by
  intro c nt owns κ hc C X ρ w rd bs a n hk hE hh
  unfold comp at hc
  split at hc <;> (try (split at hc)) <;> (try (split at hc)) <;> (try cases hc)
  exact wpIn_label ⟨.n, s, S, X, ρ, rfl, h, hh, .refl _ _ _ _ _⟩

theorem AW.seq {x y : ACode} (h : AW P k0 E x (KQ.then (AW P k0 E y Q) Q) s S) : AW P k0 E (.seq x y) Q s S := by
  intro c nt owns κ hc C X ρ w rd bs a n hk hE hh
  unfold comp at hc
  split at hc <;> (try (split at hc)) <;> (try (split at hc)) <;> (try cases hc)
  rename_i a₁ b₁ _ _ h1 h2
  refine wpIn_seq (wpIn_mono (h a₁ nt owns κ h1 C X ρ w rd bs a n hk hE hh) ?_)
  rintro e a' w' ⟨ae, s', S', X', ρ', rfl, hq, hh', hst⟩
  cases ae with
  | n =>
    refine wpIn_mono (hq b₁ nt owns κ h2 C X' ρ' w' rd bs a' n hk hE hh') ?_
    intro e a' w' ho
    exact ho.of_step hst
  | r => exact ⟨.r, s', S', X', ρ', rfl, hq, hh', hst⟩
  | x id => exact ⟨.x id, s', S', X', ρ', rfl, hq, hh', hst⟩

theorem AW.block {id : Nat} {x : ACode} (h : AW P k0 E x (KQ.blk id Q) s S) : AW P k0 E (.block id x) Q s S := by
  intro c nt owns κ hc C X ρ w rd bs a n hk hE hh
  unfold comp at hc
  split at hc <;> (try (split at hc)) <;> (try (split at hc)) <;> (try cases hc)
  rename_i a₁ _ h1
  refine wpIn_block (wpIn_mono (h a₁ nt owns κ h1 C X ρ w rd bs a n hk hE hh) ?_)
  rintro e a' w' ⟨ae, s', S', X', ρ', rfl, hq, hh', hst⟩
  cases ae with
  | n => exact ⟨.n, s', S', X', ρ', rfl, hq, hh', hst⟩
  | r => exact ⟨.r, s', S', X', ρ', rfl, hq, hh', hst⟩
  | x i =>
    simp only [KQ.blk] at hq
    simp only [AEx.to, Exit.inBlock]
    by_cases e : i = id
    · rw [if_pos e] at hq ⊢
      exact ⟨.n, s', S', X', ρ', rfl, hq, hh', hst⟩
    · rw [if_neg e] at hq ⊢
      exact ⟨.x i, s', S', X', ρ', rfl, hq, hh', hst⟩

theorem stepR_scope {b : Frame} {a : Act} {k : List Item} {cs : List Frame} {c : Code} : step P (lone (b.atR a (.code (.scope c) :: k)) cs w) = .next (lone (b.atR a (.code c :: .inScope c :: k)) cs w) :=
  step_lone_go (by simp [stepG, stepG.exec, Frame.atR])
theorem stepR_inScope {b : Frame} {a : Act} {k : List Item} {cs : List Frame} {c : Code} : step P (lone (b.atR a (.inScope c :: k)) cs w) = .next (lone (b.atR a k) cs w) :=
  step_lone_go (by simp [stepG, stepG.exec, Frame.atR])

theorem wpIn_scope {F : Fence} {n : Nat} {c : Code} {Q : Exit → Act → World → Prop} {a : Act} (h : c.wpIn F n P (fun e a' w' => (∀ l, e ≠ .goto l) ∧ Q e a' w') a w) : (Code.scope c).wpIn F n P Q a w := by
  intro b k cs hro hb hr
  have h0 : (lone (b.atR a (.code (.scope c) :: k)) cs w).fenced P F := fenced_calm hb hr rfl
  obtain ⟨e, a₁, w₁, ⟨hg, hq⟩, harr⟩ := h b (.inScope c :: k) cs hro hb hr
  cases e with
  | normal => exact ⟨.normal, a₁, w₁, hq, .head h0 stepR_scope (StepsIn.trans harr (.one (fenced_calm hb hr rfl) stepR_inScope))⟩
  | exit id =>
    have hx : exitTo id (.inScope c :: k) = exitTo id k := by simp [exitTo]
    exact ⟨.exit id, a₁, w₁, hq, fun k' hk => .head h0 stepR_scope (harr.1 k' (by rw [hx]; exact hk)),
      fun hr' hk => let ⟨k₁, h1, h2⟩ := harr.2 hr' (by rw [hx]; exact hk); ⟨k₁, h1, .head h0 stepR_scope h2⟩⟩
  | goto l => exact absurd rfl (hg l)
  | ret => exact ⟨_, a₁, w₁, hq, .of_steps (.one h0 stepR_scope) harr⟩
  | panic ch => exact ⟨_, a₁, w₁, hq, .of_steps (.one h0 stepR_scope) harr⟩
  | outgrown => exact ⟨_, a₁, w₁, hq, .of_steps (.one h0 stepR_scope) harr⟩

theorem AW.scope {x : ACode} (h : AW P k0 E x Q s S) : AW P k0 E (.scope x) Q s S := by
  intro c nt owns κ hc C X ρ w rd bs a n hk hE hh
  unfold comp at hc
  split at hc <;> (try (split at hc)) <;> (try (split at hc)) <;> (try cases hc)
  rename_i a₁ _ h1
  refine wpIn_scope (wpIn_mono (h a₁ nt owns κ h1 C X ρ w rd bs a n hk hE hh) ?_)
  rintro e a' w' ⟨ae, s', S', X', ρ', rfl, hq, hh', hst⟩
  exact ⟨fun l e => (by cases ae <;> cases e), ae, s', S', X', ρ', rfl, hq, hh', hst⟩

theorem AW.cond {q : Nat} {x y : ACode} {b : Bool} (hb : s.getD q .junk = .bool b) (h1 : b = true → AW P k0 E x Q (s.set q .junk) S) (h2 : b = false → AW P k0 E y Q (s.set q .junk) S) : AW P k0 E (.cond (.s q) x y) Q s S := by
  intro c nt owns κ hc C X ρ w rd bs a n hk hE hh
  unfold comp at hc
  split at hc <;> (try (split at hc)) <;> (try (split at hc)) <;> (try cases hc)
  rename_i _ t a₁ b₁ _ _ _ hq ha hb'
  have hκ := idxOfN_spec hq
  have hs : s[q]? = some (.bool b) := by
    cases e : s[q]? with
    | none => simp [List.getD, e] at hb
    | some z => simp [List.getD, e] at hb; rw [hb]
  obtain ⟨v, hv, hr⟩ := hh.slot q t _ hκ hs
  have hvb := Rel.lit_eq hr
  subst hvb
  have hev : a.eval (.tmp t) = .bool b := by simp [Act.eval, Array.getD_eq_getD_getElem?, hv]
  have hh' : Here C X ρ S w nt κ rd bs (s.set q .junk) a := by
    refine ⟨hh.good, hh.size, by simp [hh.len], fun q' t' x hq' hx => ?_, hh.defs, hh.bsw, hh.rd⟩
    by_cases e : q' = q
    · subst e
      have hlt := (List.getElem?_eq_some_iff.1 hs).1
      rw [List.getElem?_set_self hlt] at hx
      cases hx
      rw [hκ] at hq'; cases hq'
      exact ⟨_, hv, .junk _⟩
    · rw [List.getElem?_set_ne (Ne.symm e)] at hx
      exact hh.slot q' t' x hq' hx
  refine wpIn_cond_split hev (fun e => ?_) (fun e => ?_)
  · exact h1 e a₁ nt owns κ ha C X ρ w rd bs a n hk hE hh'
  · exact h2 e b₁ nt owns κ hb' C X ρ w rd bs a n hk hE hh'

theorem exists_least {p : Nat → Prop} (h : ∃ m, p m) : ∃ m, p m ∧ ∀ k, k < m → ¬ p k := by
  obtain ⟨m, hm⟩ := h
  induction m using Nat.strongRecOn with
  | _ m ih =>
    by_cases e : ∃ k, k < m ∧ p k
    · obtain ⟨k, hk, hp⟩ := e; exact ih k hk hp
    · exact ⟨m, hm, fun k hk hp => e ⟨k, hk, hp⟩⟩

open Classical in
noncomputable def least (p : Nat → Prop) : Nat := if h : ∃ m, p m then Classical.choose (exists_least h) else 0

theorem least_spec {p : Nat → Prop} (h : ∃ m, p m) : p (least p) ∧ ∀ m, p m → least p ≤ m := by
  unfold least
  rw [dif_pos h]
  obtain ⟨h1, h2⟩ := Classical.choose_spec (exists_least h)
  exact ⟨h1, fun m hm => Nat.le_of_not_lt fun hlt => h2 m hlt hm⟩

theorem AW.loop {x : ACode} (I : Nat → List AV → St → Prop) (m : Nat) (h0 : I m s S) (h : ∀ m s S, I m s S → AW P k0 E x (KQ.then (fun s' S' => ∃ m', m' < m ∧ I m' s' S') Q) s S) : AW P k0 E (.loop x) Q s S := by
  intro c nt owns κ hc C X ρ w rd bs a n hk hE hh
  unfold comp at hc
  split at hc <;> (try (split at hc)) <;> (try (split at hc)) <;> (try cases hc)
  rename_i a₁ _ h1
  let J : Nat → Act → World → Prop := fun m a' w' => ∃ (s' : List AV) (S' : St) (X' : Nat → Prop) (ρ' : List Loc), I m s' S' ∧ Here C X' ρ' S' w' nt κ rd bs s' a' ∧ Step C X ρ S.H w X' ρ' S'.H w'
  refine wpIn_loop (fun a' w' => ∃ m, J m a' w') (fun a' w' => least (fun m => J m a' w')) ⟨m, s, S, X, ρ, h0, hh, .refl _ _ _ _ _⟩ ?_
  intro a' w' hJ
  obtain ⟨⟨s', S', X', ρ', hI, hh', hst⟩, _⟩ := least_spec hJ
  refine wpIn_mono (h _ s' S' hI a₁ nt owns κ h1 C X' ρ' w' rd bs a' n hk hE hh') ?_
  rintro e a'' w'' ⟨ae, s'', S'', X'', ρ'', rfl, hq, hh'', hst'⟩
  cases ae with
  | n =>
    obtain ⟨m', hm', hI'⟩ := hq
    have hJ' : J m' a'' w'' := ⟨s'', S'', X'', ρ'', hI', hh'', hst.trans hst'⟩
    exact ⟨⟨m', hJ'⟩, Nat.lt_of_le_of_lt ((least_spec (p := fun m => J m a'' w'') ⟨m', hJ'⟩).2 m' hJ') hm'⟩
  | r => exact ⟨.r, s'', S'', X'', ρ'', rfl, hq, hh'', hst.trans hst'⟩
  | x i => exact ⟨.x i, s'', S'', X'', ρ'', rfl, hq, hh'', hst.trans hst'⟩

/-! ### Regions -/
theorem wrS_length : ∀ (wr : List (Nat × Nat)) (s R : List AV), (wrS wr s R).length = s.length
  | [], s, R => rfl
  | (q, k) :: wr, s, R => by simp [wrS, wrS_length wr]

theorem wrS_get {ds : List (Option Nat)} {R : List AV} : ∀ (κ : List Nat) (q : Nat) (s : List AV) (i : Nat), i < s.length → (wrS (wrGo q κ ds) s R)[i]? =
    if q ≤ i then (match κ[i - q]?.bind (fun t => ds.idxOf? (some t)) with | some k => some (R.getD k .junk) | none => s[i]?) else s[i]?
  | [], q, s, i, hi => by simp [wrGo, wrS]
  | t :: κ, q, s, i, hi => by
    have key : ∀ (s' : List AV), s'.length = s.length → (wrS (wrGo (q + 1) κ ds) s' R)[i]? = if q + 1 ≤ i then (match κ[i - (q + 1)]?.bind (fun t => ds.idxOf? (some t)) with | some k => some (R.getD k .junk) | none => s'[i]?) else s'[i]? := fun s' hs' => wrS_get κ (q + 1) s' i (by omega)
    unfold wrGo
    cases hk : ds.idxOf? (some t) with
    | none =>
      simp only
      rw [key s rfl]
      by_cases h1 : q ≤ i
      · by_cases h2 : q = i
        · subst h2
          rw [if_neg (by omega), if_pos h1]
          simp [hk]
        · rw [if_pos (by omega), if_pos h1, show i - q = (i - (q + 1)) + 1 by omega]
          simp
      · rw [if_neg (by omega), if_neg h1]
    | some k =>
      simp only [wrS]
      rw [key (s.set q (R.getD k .junk)) (by simp)]
      by_cases h1 : q ≤ i
      · by_cases h2 : q = i
        · subst h2
          rw [if_neg (by omega), if_pos h1]
          simp [hk, hi]
        · rw [if_pos (by omega), if_pos h1, show i - q = (i - (q + 1)) + 1 by omega, List.getElem?_set_ne h2]
          simp
      · rw [if_neg (by omega), if_neg h1, List.getElem?_set_ne (by omega)]

theorem Here.of_reg {nt : Nat} {κ : List Nat} {rd : Option Nat} {bs : Nat} {a a' : Act} {L : List Oper} {R' : List AV} {S' : St} {X' : Nat → Prop} {ρ' : List Loc} {w' : World} (hh : Here C X ρ S w nt κ rd bs s a) (hl : R'.length = L.length)
    (hi : RegInv X' ρ' S'.H w' L κ s nt (· < L.length) (fun i => R'.getD (L.length - 1 - i) .junk) a') (hG : Good C X' ρ' S' w') (hst : Step C X ρ S.H w X' ρ' S'.H w') (hd : a'.defers = a.defers) :
    Here C X' ρ' S' w' nt κ rd bs (wrS (wrGo 0 κ (dsAt L L.length)) s R') a' := by
  refine ⟨hG, hi.size, by rw [wrS_length]; exact hh.len, fun q t x hq hx => ?_, by rw [hd]; exact hh.defs.step hh.good hst, Nat.le_trans hh.bsw hst.size, hh.rd.step hh.good hst⟩
  have hqs : q < s.length := by rw [hh.len]; exact (List.getElem?_eq_some_iff.1 hq).1
  rw [wrS_get κ 0 s q hqs] at hx
  simp only [Nat.zero_le, if_true, Nat.sub_zero, hq, Option.bind_some] at hx
  cases hk : (dsAt L L.length).idxOf? (some t) with
  | some k =>
    simp only [hk, Option.some.injEq] at hx
    subst hx
    have hd := idxOf?_spec hk
    have hkj : k < L.length := by
      have := (List.getElem?_eq_some_iff.1 hd).1
      rwa [dsAt_length (Nat.le_refl _)] at this
    rw [dsAt_get (Nat.le_refl _) hkj] at hd
    simp only [Option.map_eq_some_iff] at hd
    obtain ⟨o, ho, hod⟩ := hd
    obtain ⟨v, hv, hr⟩ := hi.done (L.length - 1 - k) o t (by omega) ho hod
    rw [show L.length - 1 - (L.length - 1 - k) = k by omega] at hr
    exact ⟨v, hv, hr⟩
  | none =>
    simp only [hk] at hx
    refine hi.slot q t x hq hx (fun j o hj ho hod => ?_)
    have := idxOf?_none hk (L.length - 1 - j)
    rw [dsAt_get (Nat.le_refl _) (by omega), show L.length - 1 - (L.length - 1 - j) = j by omega, ho] at this
    simp [hod] at this

theorem RegInv.start {nt : Nat} {κ : List Nat} {rd : Option Nat} {bs : Nat} {a : Act} {L : List Oper} (hh : Here C X ρ S w nt κ rd bs s a) : RegInv X ρ S.H w L κ s nt (· < 0) (fun i => ([] : List AV).getD (0 - 1 - i) .junk) a :=
  ⟨hh.size, fun j o t hj => by omega, fun q t x hq hx _ => hh.slot q t x hq hx⟩

theorem AW.reg {draw : Bool} {rops : List ROp} {wr : List (Nat × Nat)} (h : aops P k0 E s rops [] [] [] S (fun R S' => Q .n (wrS wr s R) S')) : AW P k0 E (.reg draw rops wr) Q s S := by
  intro c nt owns κ hc C X ρ w rd bs a n hk hE hh
  unfold comp at hc
  split at hc <;> (try (split at hc)) <;> (try (split at hc)) <;> (try cases hc)
  rename_i id ops _ hreg
  unfold compReg at hreg
  split at hreg
  · rename_i hcond
    simp only [Bool.and_eq_true, Bool.or_eq_true, Bool.not_eq_true'] at hcond
    obtain ⟨hu, hd⟩ := hcond
    split at hreg
    · rename_i r' hcomp
      cases hreg
      cases draw with
      | false =>
        refine wpIn_region ?_
        rw [List.range_eq_range', show ops = ops.toList.toArray from (by simp)]
        simp only [List.size_toArray]
        refine seq_sound hu hE hk ops.toList.length 0 (by simp) (ops.toList.map fun _ => Kd.b) (fun q hq => by obtain ⟨_, _, e⟩ := List.mem_map.1 hq; exact e.symm) rops [] [] [] S X ρ w a (by simpa [dsAt] using hcomp) rfl (.start hh) hh.good h ?_
        intro R' S' X' ρ' w' a' hq hl hi hG hst hd
        exact ⟨.n, _, S', X', ρ', rfl, hq, hh.of_reg hl hi hG hst hd, hst⟩
      | true =>
        simp only [Bool.true_eq_false, false_or] at hd
        refine wpIn_region_any hd.2 ?_
        have hG0 : Good C X ρ S { w with drawn := w.drawn + 1 } ∧ Step C X ρ S.H w X ρ S.H { w with drawn := w.drawn + 1 } := hh.good.more (Nat.le_refl _) (fun _ _ => rfl)
        have hh0 : Here C X ρ S { w with drawn := w.drawn + 1 } nt κ rd bs s a :=
          ⟨hG0.1, hh.size, hh.len, fun q t x hq hx => let ⟨v, h1, h2⟩ := hh.slot q t x hq hx; ⟨v, h1, hG0.2.rel hh.good h2⟩, hh.defs.step hh.good hG0.2, hh.bsw, hh.rd.step hh.good hG0.2⟩
        rw [show ops = ops.toList.toArray from (by simp)]
        simp only [List.size_toArray]
        refine draw_sound hu hd.1.1 hd.1.2 hE hk ops.toList.length 0 (by simp) rops [] [] [] S X ρ _ a _ (by simp) (fun i hi => by rw [Array.getD_eq_getD_getElem?, Array.getElem?_replicate]; split <;> simp) (by simpa [dsAt] using hcomp) rfl (.start hh0) hh0.good h ?_
        intro R' S' X' ρ' w' a' hq hl hi hG hst hd
        exact ⟨.n, _, S', X', ρ', rfl, hq, hh0.of_reg hl hi hG hst hd, hG0.2.trans hst⟩
    · cases hreg
  · cases hreg

end Go.Proofs.Ytpmgmingjggegaa.AL
