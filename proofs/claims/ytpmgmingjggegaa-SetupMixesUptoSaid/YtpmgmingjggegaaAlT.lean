/- What may be forgotten of a state; functions. -/
import Derived.Test.YtpmgmingjggegaaAlS
set_option linter.unusedVariables false
set_option linter.unusedSimpArgs false
namespace Go.Proofs.Ytpmgmingjggegaa.AL
open Go

variable {P : Program} {C : Ctx} {X : Nat → Prop} {ρ : List Loc} {S : St} {w : World}

/-- One and the same world, of which less is known: the blocks under ℓ are there still, or another generation. -/
structure Dn (ℓ : Nat) (X : Nat → Prop) (ρ : List Loc) (H : AHeap) (X' : Nat → Prop) (ρ' : List Loc) (H' : AHeap) : Prop where
  xs : ∀ (b : Nat), X' b → X b
  rs : ∀ (id b cs : Nat), ρ'[id]? = some (some (b, cs)) → ∃ (id' cs' : Nat), ρ[id']? = some (some (b, cs'))
  hst : ∀ (id : Nat) (B : Blk), id < ℓ → H[id]? = some B → ∃ B', H'[id]? = some B' ∧ B.gen ≤ B'.gen ∧ (B'.gen = B.gen → B'.sz = B.sz ∧ B'.rows.length = B.rows.length ∧ ρ'[id]? = ρ[id]?)

theorem Dn.refl (ℓ : Nat) (X : Nat → Prop) (ρ : List Loc) (H : AHeap) : Dn ℓ X ρ H X ρ H := ⟨fun _ h => h, fun id b cs h => ⟨id, cs, h⟩, fun id B _ h => ⟨B, h, Nat.le_refl _, fun _ => ⟨rfl, rfl, rfl⟩⟩⟩

theorem Dn.trans {ℓ : Nat} {X' X'' : Nat → Prop} {ρ' ρ'' : List Loc} {H H' H'' : AHeap} (h : Dn ℓ X ρ H X' ρ' H') (k : Dn ℓ X' ρ' H' X'' ρ'' H'') : Dn ℓ X ρ H X'' ρ'' H'' := by
  refine ⟨fun b hb => h.xs b (k.xs b hb), fun id b cs e => ?_, fun id B hid hB => ?_⟩
  · obtain ⟨id', cs', e'⟩ := k.rs id b cs e
    exact h.rs id' b cs' e'
  · obtain ⟨B', h1, h2, h3⟩ := h.hst id B hid hB
    obtain ⟨B'', k1, k2, k3⟩ := k.hst id B' hid h1
    refine ⟨B'', k1, Nat.le_trans h2 k2, fun e => ?_⟩
    obtain ⟨a1, a2, a3⟩ := h3 (by omega)
    obtain ⟨b1, b2, b3⟩ := k3 (by omega)
    exact ⟨b1.trans a1, b2.trans a2, b3.trans a3⟩

theorem Dn.of_step {X' : Nat → Prop} {ρ' : List Loc} {H H' : AHeap} {ℓ : Nat} (h : HStays ρ H ρ' H') (hx : ∀ b, X' b → X b) (hr : ∀ (id b cs : Nat), ρ'[id]? = some (some (b, cs)) → ∃ (id' cs' : Nat), ρ[id']? = some (some (b, cs'))) : Dn ℓ X ρ H X' ρ' H' :=
  ⟨hx, hr, fun id B _ hB => h.keep id B hB⟩

theorem Step.dn {X₁ X' : Nat → Prop} {ρ₁ ρ' : List Loc} {H₁ H H' : AHeap} {w₁ : World} (h : Step C X₁ ρ₁ H₁ w₁ X ρ H w) (k : Dn H₁.length X ρ H X' ρ' H') : Step C X₁ ρ₁ H₁ w₁ X' ρ' H' w := by
  refine ⟨h.size, h.keep, fun b hb => h.xs b (k.xs b hb), fun id b cs e => ?_, ⟨fun id B hB => ?_⟩, h.io⟩
  · obtain ⟨id', cs', e'⟩ := k.rs id b cs e
    exact h.rs id' b cs' e'
  · obtain ⟨B', h1, h2, h3⟩ := h.hst.keep id B hB
    obtain ⟨B'', k1, k2, k3⟩ := k.hst id B' (List.getElem?_eq_some_iff.1 hB).1 h1
    refine ⟨B'', k1, Nat.le_trans h2 k2, fun e => ?_⟩
    obtain ⟨a1, a2, a3⟩ := h3 (by omega)
    obtain ⟨b1, b2, b3⟩ := k3 (by omega)
    exact ⟨b1.trans a1, b2.trans a2, b3.trans a3⟩

theorem Good.dn {ℓ : Nat} {X' : Nat → Prop} {ρ' : List Loc} {H' : AHeap} (hG : Good C X ρ S w) (hs : Sim X' ρ' H' w) (hb : ∀ b, C.X₀ b → X' b) (hn : ∀ (id b cs : Nat), C.k0 ≤ id → ρ'[id]? = some (some (b, cs)) → ¬ C.X₀ b) (hD : Dn ℓ X ρ S.H X' ρ' H') (hl : ∀ (i : Nat) (L : LRec), C.ls[i]? = some L → L.H.length ≤ ℓ) :
    Good C X' ρ' { S with H := H' } w := by
  refine ⟨hs, hb, hn, hG.yok, hG.lsn, fun i L hi => ⟨?_, ?_⟩, hG.loops⟩
  · exact (hG.hist i L hi).1.trans ⟨fun b c E fz hx hb => ⟨fun h => hx (hD.xs b h), hb⟩⟩
  · refine ⟨fun id B hB => ?_⟩
    obtain ⟨B', h1, h2, h3⟩ := (hG.hist i L hi).2.keep id B hB
    obtain ⟨B'', k1, k2, k3⟩ := hD.hst id B' (Nat.lt_of_lt_of_le (List.getElem?_eq_some_iff.1 hB).1 (hl i L hi)) h1
    refine ⟨B'', k1, Nat.le_trans h2 k2, fun e => ?_⟩
    obtain ⟨a1, a2, a3⟩ := h3 (by omega)
    obtain ⟨b1, b2, b3⟩ := k3 (by omega)
    exact ⟨b1.trans a1, b2.trans a2, b3.trans a3⟩

theorem Good.lslen (hG : Good C X ρ S w) (i : Nat) (L : LRec) (hi : C.ls[i]? = some L) : L.H.length ≤ S.H.length := by
  apply Nat.le_of_not_lt
  intro h
  obtain ⟨B', h1, _⟩ := (hG.hist i L hi).2.keep S.H.length L.H[S.H.length] (List.getElem?_eq_getElem h)
  rw [List.getElem?_eq_none (Nat.le_refl _)] at h1
  cases h1

/-- What is known may be forgotten so. -/
def Wk (k0 ℓ : Nat) (vs : List AV) (S : St) (vs' : List AV) (S' : St) : Prop :=
  ∀ (C : Ctx) (X : Nat → Prop) (ρ : List Loc) (w : World) (us : Array Value), C.k0 = k0 → (∀ (i : Nat) (L : LRec), C.ls[i]? = some L → L.H.length ≤ ℓ) → ℓ ≤ S.H.length → Good C X ρ S w → ArgsR X ρ S.H w vs us →
    ∃ X' ρ', Good C X' ρ' S' w ∧ ArgsR X' ρ' S'.H w vs' us ∧ Dn ℓ X ρ S.H X' ρ' S'.H

theorem Dn.le {ℓ : Nat} {X' : Nat → Prop} {ρ' : List Loc} {H H' : AHeap} (h : Dn ℓ X ρ H X' ρ' H') (hl : ℓ ≤ H.length) : ℓ ≤ H'.length := by
  cases ℓ with
  | zero => omega
  | succ k =>
    obtain ⟨B', h1, _⟩ := h.hst k H[k] (by omega) (List.getElem?_eq_getElem (by omega))
    have := (List.getElem?_eq_some_iff.1 h1).1
    omega

variable {k0 ℓ : Nat} {vs vs' vs'' : List AV} {S' S'' : St}

theorem Wk.refl : Wk k0 ℓ vs S vs S := fun C X ρ w us _ _ _ hG ha => ⟨X, ρ, hG, ha, .refl _ _ _ _⟩

theorem Wk.trans (h : Wk k0 ℓ vs S vs' S') (k : Wk k0 ℓ vs' S' vs'' S'') : Wk k0 ℓ vs S vs'' S'' := by
  intro C X ρ w us hk hl hle hG ha
  obtain ⟨X', ρ', hG', ha', hD⟩ := h C X ρ w us hk hl hle hG ha
  obtain ⟨X'', ρ'', hG'', ha'', hD'⟩ := k C X' ρ' w us hk hl (hD.le hle) hG' ha'
  exact ⟨X'', ρ'', hG'', ha'', hD.trans hD'⟩

/-- A value of which less is known. -/
def Less (H : AHeap) (x x' : AV) : Prop := ∀ (X : Nat → Prop) (ρ : List Loc) (w : World) (v : Value), Rel X ρ H w x v → Rel X ρ H w x' v

theorem Less.refl (H : AHeap) (x : AV) : Less H x x := fun _ _ _ _ h => h
theorem Less.junk (H : AHeap) (x : AV) : Less H x .junk := fun _ _ _ _ _ => .junk _

theorem Wk.less (hl : vs.length = vs'.length) (h : ∀ (i : Nat) (x x' : AV), vs[i]? = some x → vs'[i]? = some x' → Less S.H x x') : Wk k0 ℓ vs S vs' S := by
  intro C X ρ w us _ _ _ hG ha
  refine ⟨X, ρ, hG, ⟨by rw [← hl]; exact ha.len, fun i x' u hx' hu => ?_⟩, .refl _ _ _ _⟩
  have hi : i < vs.length := by rw [hl]; exact (List.getElem?_eq_some_iff.1 hx').1
  exact h i vs[i] x' (List.getElem?_eq_getElem hi) hx' X ρ w u (ha.rel i _ u (List.getElem?_eq_getElem hi) hu)

theorem Wk.set (i : Nat) (x' : AV) (h : ∀ x, vs[i]? = some x → Less S.H x x') : Wk k0 ℓ vs S (vs.set i x') S := by
  refine Wk.less (by simp) (fun j x y hx hy => ?_)
  rw [List.getElem?_set] at hy
  split at hy
  · rename_i e
    subst e
    split at hy
    · cases hy; exact h x hx
    · cases hy
  · rw [hx] at hy; cases hy; exact .refl _ _

/-- Nothing of the blocks from m on. -/
inductive Below (m : Nat) : AV → Prop
  | d (x : DV) : Below m (.d x)
  | agg (cs : List AV) (h : ∀ c ∈ cs, Below m c) : Below m (.agg cs)
  | os (id g off n : Nat) (h : id < m) : Below m (.os id g off n)
  | ep (id g i j : Nat) (h : id < m) : Below m (.ep id g i j)
  | ip (sz : Nat) (row : List DV) (j : Nat) : Below m (.ip sz row j)
  | ts (sz : Nat) (rows : List (List AV)) (h : ∀ r ∈ rows, ∀ c ∈ r, Below m c) : Below m (.ts sz rows)
  | fn (f : FuncId) (caps : List AV) (h : ∀ c ∈ caps, Below m c) : Below m (.fn f caps)
  | yl (l : Nat) : Below m (.yl l)
  | tup (vs : List AV) (h : ∀ c ∈ vs, Below m c) : Below m (.tup vs)
  | junk : Below m .junk

theorem Rel.take {H : AHeap} {m : Nat} (hm : m ≤ H.length) (hρ : ρ.length = H.length) {x : AV} {v : Value} (h : Rel X ρ H w x v) : Below m x → Rel X (ρ.take m) (H.take m) w x v := by
  have gH : ∀ {id : Nat} {B : Blk}, id < m → H[id]? = some B → (H.take m)[id]? = some B := fun hi h => by rw [List.getElem?_take, if_pos hi]; exact h
  have gρ : ∀ {id : Nat} {B : Loc}, id < m → ρ[id]? = some B → (ρ.take m)[id]? = some B := fun hi h => by rw [List.getElem?_take, if_pos hi]; exact h
  induction h with
  | d x v h => intro _; exact .d x v h
  | agg cs vs hl h1 _ ih => intro hb; cases hb with | agg _ hb => exact .agg cs vs hl h1 (fun i x u hx hu => ih i x u hx hu (hb x (List.mem_of_getElem? hx)))
  | ts sz rows b n cap c E fz hsz hn hnc hcap hr hX hb hc hone _ ih => intro hB; cases hB with | ts _ _ hB => exact .ts sz rows b n cap c E fz hsz hn hnc hcap hr hX hb hc hone (fun i r j x u hi hj hu => ih i r j x u hi hj hu (hB r (List.mem_of_getElem? hi) x (List.mem_of_getElem? hj)))
  | os id g off n b cs cap B hB hg hρ ho hn hcap hc => intro hb; cases hb with | os _ _ _ _ hb => exact .os id g off n b cs cap B (gH hb hB) hg (gρ hb hρ) ho hn hcap hc
  | osnil id g B a hB hg hρ => intro hb; cases hb with | os _ _ _ _ hb => exact .osnil id g B a (gH hb hB) hg (gρ hb hρ)
  | osold id g off n B v hB hg hv => intro hb; cases hb with | os _ _ _ _ hb => exact .osold id g off n B v (gH hb hB) hg hv
  | ep id g i j b cs B hB hg hρ => intro hb; cases hb with | ep _ _ _ _ hb => exact .ep id g i j b cs B (gH hb hB) hg (gρ hb hρ)
  | epold id g i j B v hB hg hv => intro hb; cases hb with | ep _ _ _ _ hb => exact .epold id g i j B v (gH hb hB) hg hv
  | ip sz row j b o c E fz hl hX hb hc hone h => intro _; exact .ip sz row j b o c E fz hl hX hb hc hone h
  | fn f caps vs hl _ ih => intro hb; cases hb with | fn _ _ hb => exact .fn f caps vs hl (fun i x u hx hu => ih i x u hx hu (hb x (List.mem_of_getElem? hx)))
  | yl l => intro _; exact .yl l
  | tup cs vs hl _ ih => intro hb; cases hb with | tup _ hb => exact .tup cs vs hl (fun i x u hx hu => ih i x u hx hu (hb x (List.mem_of_getElem? hx)))
  | junk v => intro _; exact .junk v

/-- The blocks from m on are forgotten. -/
theorem Wk.trunc (m : Nat) (hm : m ≤ S.H.length) (hl : ℓ ≤ m) (hv : ∀ x ∈ vs, Below m x) (hH : ∀ B ∈ S.H.take m, ∀ r ∈ B.rows, ∀ x ∈ r, Below m x) : Wk k0 ℓ vs S vs { S with H := S.H.take m } := by
  intro C X ρ w us hk hls hle hG ha
  have hρ := hG.sim.len
  have gρ : ∀ {id : Nat} {B : Loc}, (ρ.take m)[id]? = some B → id < m ∧ ρ[id]? = some B := fun h => by
    rw [List.getElem?_take] at h
    split at h
    · exact ⟨by assumption, h⟩
    · cases h
  have gH : ∀ {id : Nat} {B : Blk}, (S.H.take m)[id]? = some B → id < m ∧ S.H[id]? = some B := fun h => by
    rw [List.getElem?_take] at h
    split at h
    · exact ⟨by assumption, h⟩
    · cases h
  have hD : Dn ℓ X ρ S.H X (ρ.take m) (S.H.take m) := ⟨fun _ h => h, fun id b cs h => ⟨id, cs, (gρ h).2⟩, fun id B hid hB => ⟨B, by rw [List.getElem?_take, if_pos (by omega)]; exact hB, Nat.le_refl _, fun _ => ⟨rfl, rfl, by rw [List.getElem?_take, if_pos (by omega)]⟩⟩⟩
  refine ⟨X, ρ.take m, hG.dn ⟨by simp [hρ], fun id B b cs hB hb => ?_, fun id B hB hb => hG.sim.none id B (gH hB).2 (gρ hb).2, fun id id' b cs cs' h h' => hG.sim.inj id id' b cs cs' (gρ h).2 (gρ h').2, hG.sim.small⟩ hG.base (fun id b cs hid h => hG.new id b cs hid (gρ h).2) hD hls, ⟨ha.len, fun i x u hx hu => (ha.rel i x u hx hu).take hm hρ (hv x (List.mem_of_getElem? hx))⟩, hD⟩
  obtain ⟨h1, h2, h3, c, E, h4, h5, h6, h7, h8⟩ := hG.sim.blk id B b cs (gH hB).2 (gρ hb).2
  exact ⟨h1, h2, h3, c, E, h4, h5, h6, h7, fun i r j x u hi hj hu => (h8 i r j x u hi hj hu).take hm hρ (hH B (List.mem_of_getElem? hB) r (List.mem_of_getElem? hi) x (List.mem_of_getElem? hj))⟩

/-- A value where the slices of one block are data from now on. -/
inductive Frz (id g sz : Nat) (rows : List (List DV)) : AV → AV → Prop
  | refl (x : AV) : Frz id g sz rows x x
  | os (off n : Nat) : Frz id g sz rows (.os id g off n) (.d (.sl sz ((rows.drop off).take n)))
  | agg (cs cs' : List AV) (hl : cs.length = cs'.length) (h : ∀ (i : Nat) (x x' : AV), cs[i]? = some x → cs'[i]? = some x' → Frz id g sz rows x x') : Frz id g sz rows (.agg cs) (.agg cs')
  | tup (cs cs' : List AV) (hl : cs.length = cs'.length) (h : ∀ (i : Nat) (x x' : AV), cs[i]? = some x → cs'[i]? = some x' → Frz id g sz rows x x') : Frz id g sz rows (.tup cs) (.tup cs')

/-- The owned heap with one block's slices data from now on; that block itself is none any more. -/
structure FrzH (id g sz : Nat) (rows : List (List DV)) (H H' : AHeap) : Prop where
  len : H'.length = H.length
  at_ : H'[id]? = some ⟨sz, g + 1, []⟩
  oth : ∀ (i : Nat) (B : Blk), i ≠ id → H[i]? = some B → ∃ B', H'[i]? = some B' ∧ B'.gen = B.gen ∧ B'.sz = B.sz ∧ B'.rows.length = B.rows.length ∧
    ∀ (k : Nat) (r r' : List AV), B.rows[k]? = some r → B'.rows[k]? = some r' → r.length = r'.length ∧ ∀ (j : Nat) (x x' : AV), r[j]? = some x → r'[j]? = some x' → Frz id g sz rows x x'

theorem get_of_len {α : Type} {l l' : List α} (h : l.length = l'.length) {i : Nat} {x : α} (hx : l'[i]? = some x) : ∃ y, l[i]? = some y :=
  ⟨l[i]'(by rw [h]; exact (List.getElem?_eq_some_iff.1 hx).1), List.getElem?_eq_getElem _⟩

theorem Wk.freeze (id : Nat) (B : Blk) (rows : List (List DV)) (H' : AHeap) (hid : k0 ≤ id) (hB : S.H[id]? = some B) (hrows : B.rows = rows.map (·.map .d)) (hsz : 0 < B.sz) (hl : vs.length = vs'.length)
    (hv : ∀ (i : Nat) (x x' : AV), vs[i]? = some x → vs'[i]? = some x' → Frz id B.gen B.sz rows x x') (hH : FrzH id B.gen B.sz rows S.H H') : Wk k0 ℓ vs S vs' { S with H := H' } := by
  intro C X ρ w us hk hls hle hG ha
  have hlt : id < S.H.length := (List.getElem?_eq_some_iff.1 hB).1
  have hltρ : id < ρ.length := by rw [hG.sim.len]; exact hlt
  -- what is owned from now on
  let X' : Nat → Prop := fun b => X b ∧ ∀ cs, ρ[id]? ≠ some (some (b, cs))
  let ρ' := ρ.set id none
  have hρid : ρ'[id]? = some none := by simp [ρ', hltρ]
  have hρne : ∀ (i : Nat), i ≠ id → ρ'[i]? = ρ[i]? := fun i e => List.getElem?_set_ne (Ne.symm e)
  have back : ∀ (i b cs : Nat), ρ'[i]? = some (some (b, cs)) → i ≠ id ∧ ρ[i]? = some (some (b, cs)) := by
    intro i b cs h
    by_cases e : i = id
    · subst e; rw [hρid] at h; cases h
    · exact ⟨e, by rw [← hρne i e]; exact h⟩
  have hst : HStays ρ S.H ρ' H' := by
    refine ⟨fun i D hD => ?_⟩
    by_cases e : i = id
    · subst e
      rw [hB] at hD; cases hD
      exact ⟨_, hH.at_, Nat.le_succ _, fun e => by simp at e⟩
    · obtain ⟨D', h1, h2, h3, h4, _⟩ := hH.oth i D e hD
      exact ⟨D', h1, by omega, fun _ => ⟨h3, h4, hρne i e⟩⟩
  have hXX : ∀ b, X' b → X b := fun b h => h.1
  have hstays : Stays X w X' w := ⟨fun b c E fz hx hb => ⟨fun h => hx h.1, hb⟩⟩
  have hD : Dn ℓ X ρ S.H X' ρ' H' := .of_step hst hXX (fun i b cs h => ⟨i, cs, (back i b cs h).2⟩)
  have rel : ∀ (x x' : AV), Frz id B.gen B.sz rows x x' → ∀ v, Rel X ρ S.H w x v → Rel X' ρ' H' w x' v := by
    intro x x' hf
    induction hf with
    | refl x => exact fun v h => h.mono hstays hst
    | os off n =>
      intro v h
      cases h with
      | os _ _ _ _ b cs cap D hD hg hρ ho hn hcap hc =>
        rw [hB] at hD; cases hD
        obtain ⟨h1, h2, h3, c, E, h4, h5, h6, h7, h8⟩ := hG.sim.blk id B b cs hB hρ
        have hnl : ((rows.drop off).take n).length = n := by
          have : B.rows.length = rows.length := by rw [hrows]; simp
          simp; omega
        have key : (off + n) * B.sz ≤ B.rows.length * B.sz := Nat.mul_le_mul_right _ ho
        have e1 : (off + n) * B.sz = off * B.sz + n * B.sz := Nat.add_mul _ _ _
        have e2 : (off + cap) * B.sz = off * B.sz + cap * B.sz := Nat.add_mul _ _ _
        refine .d _ _ (.sl B.sz _ b (off * B.sz) n cap c E (0, 0) h2 hnl hn hcap (fun r hr => ?_) (fun hx => hx.2 cs hρ) h4 (by omega) (fun k u hk1 hk2 hu => h7 k u (by omega) hu) (fun i r j x u hi hj hu => ?_))
        · have hr := List.mem_of_mem_drop (List.mem_of_mem_take hr)
          have := h3 (r.map .d) (by rw [hrows]; exact List.mem_map_of_mem hr)
          simpa using this
        · obtain ⟨hin, hi⟩ := drop_take_get hi
          have hu' : c[(off + i) * B.sz + j]? = some u := by rw [Nat.add_mul]; exact hu
          have := h8 (off + i) (r.map .d) j (.d x) u (by rw [hrows]; simp [hi]) (by simp [hj]) hu'
          exact (Rel.d_inv this).mono hstays
      | osnil _ _ D a hD hg hρ =>
        have : ((rows.drop 0).take 0) = [] := by simp
        rw [this]
        exact .d _ _ (.empty B.sz 0 a hsz (Nat.zero_le _))
      | osold _ _ _ _ D v hD hg hv => rw [hB] at hD; cases hD; omega
    | agg cs cs' hl _ ih =>
      intro v h
      cases h with
      | agg _ us hl' h1 h => exact .agg _ _ (by omega) h1 (fun i x' u hx' hu => by
          obtain ⟨x, hx⟩ := get_of_len hl hx'
          exact ih i x x' hx hx' u (h i x u hx hu))
    | tup cs cs' hl _ ih =>
      intro v h
      cases h with
      | tup _ us hl' h => exact .tup _ _ (by omega) (fun i x' u hx' hu => by
          obtain ⟨x, hx⟩ := get_of_len hl hx'
          exact ih i x x' hx hx' u (h i x u hx hu))
  refine ⟨X', ρ', hG.dn ⟨?_, fun i D' b cs hD' hb => ?_, fun i D' hD' hb => ?_, fun i i' b cs cs' h h' => hG.sim.inj i i' b cs cs' (back i b cs h).2 (back i' b cs' h').2, fun b hb => hG.sim.small b hb.1⟩ (fun b hb => ⟨hG.base b hb, fun cs h => hG.new id b cs (by omega) h hb⟩) (fun i b cs hi h => hG.new i b cs hi (back i b cs h).2) hD hls, ⟨by rw [← hl]; exact ha.len, fun i x' u hx' hu => ?_⟩, hD⟩
  · simp [ρ', hH.len, hG.sim.len]
  · obtain ⟨hne, hb'⟩ := back i b cs hb
    have hi : i < S.H.length := by rw [← hH.len]; exact (List.getElem?_eq_some_iff.1 hD').1
    obtain ⟨D'', k1, k2, k3, k4, k5⟩ := hH.oth i S.H[i] hne (List.getElem?_eq_getElem hi)
    rw [hD'] at k1; cases k1
    obtain ⟨h1, h2, h3, c, E, h4, h5, h6, h7, h8⟩ := hG.sim.blk i S.H[i] b cs (List.getElem?_eq_getElem hi) hb'
    refine ⟨⟨h1, fun cs' h => hne (hG.sim.inj i id b cs cs' hb' h)⟩, by omega, fun r' hr' => ?_, c, E, h4, h5, by rw [k3, k4]; exact h6, by rw [k3, k4]; exact h7, fun k r' j x' u hk hj hu => ?_⟩
    · obtain ⟨k, hk⟩ := List.getElem?_of_mem hr'
      obtain ⟨r, hr⟩ := get_of_len k4.symm hk
      rw [← (k5 k r r' hr hk).1, k3]
      exact h3 r (List.mem_of_getElem? hr)
    · obtain ⟨r, hr⟩ := get_of_len k4.symm hk
      obtain ⟨m1, m2⟩ := k5 k r r' hr hk
      obtain ⟨x, hx⟩ := get_of_len m1 hj
      exact rel x x' (m2 j x x' hx hj) u (h8 k r j x u hr hx (by rw [k3] at hu; exact hu))
  · by_cases e : i = id
    · subst e
      skip
      rw [hH.at_] at hD'
      cases hD'; rfl
    · have hi : i < S.H.length := by rw [← hH.len]; exact (List.getElem?_eq_some_iff.1 hD').1
      obtain ⟨D'', k1, k2, k3, k4, k5⟩ := hH.oth i S.H[i] e (List.getElem?_eq_getElem hi)
      rw [hD'] at k1; cases k1
      have := hG.sim.none i S.H[i] (List.getElem?_eq_getElem hi) (by rw [← hρne i e]; exact hb)
      rw [this] at k4
      exact List.eq_nil_of_length_eq_zero (by simpa using k4)
  · obtain ⟨x, hx⟩ := get_of_len hl hx'
    exact rel x x' (hv i x x' hx hx') u (ha.rel i x u hx hu)

/-- A nil slice that is to become one's own: a block that lies nowhere yet. -/
theorem Wk.nil (i : Nat) (sz : Nat) (hi : vs[i]? = some (.d (.sl 0 []))) : Wk k0 ℓ vs S (vs.set i (.os S.H.length 0 0 0)) { S with H := S.H ++ [⟨sz, 0, []⟩] } := by
  intro C X ρ w us hk hls hle hG ha
  obtain ⟨hG', hst, hρ⟩ := hG.ghost sz
  have hD : Dn ℓ X ρ S.H X (ρ ++ [none]) (S.H ++ [⟨sz, 0, []⟩]) := .of_step hst.hst (fun _ h => h) (fun id b cs h => by
    rcases hst.rs id b cs h with h' | h'
    · exact h'
    · have hlt := hG'.sim.small b (hG'.owned h)
      omega)
  refine ⟨X, ρ ++ [none], hG', ⟨by simpa using ha.len, fun j x u hx hu => ?_⟩, hD⟩
  rw [List.getElem?_set] at hx
  split at hx
  · rename_i e
    subst e
    split at hx
    · cases hx
      have := Rel.d_inv (ha.rel i _ u hi hu)
      cases this with
      | zero a => exact .osnil _ 0 ⟨sz, 0, []⟩ a (by simp) rfl hρ
      | empty _ _ _ h => omega
      | sl _ _ _ _ _ _ _ _ _ h => omega
    · cases hx
  · exact hst.rel hG (ha.rel j x u hx hu)

end Go.Proofs.Ytpmgmingjggegaa.AL
