/- What it means that a machine state is as the logic says, and the ways in which owned memory may turn. -/
import Derived.Test.YtpmgmingjggegaaAlB
set_option linter.unusedVariables false
namespace Go.Proofs.Ytpmgmingjggegaa.AL
open Go

/-- A loop over a function that runs: its record's place, and the record; and what was owned, the owned heap and the world as it was laid. -/
structure LRec where
  l : Nat
  r : Loop
  X : Nat → Prop
  ρ : List Loc
  H : AHeap
  w : World

/-- X₀: what was owned, by whomever, when the function began. k0: so many owned blocks were handed in. Y: the records of loops that may turn meanwhile. ls: the loops whose yield may be called. -/
structure Ctx where
  X₀ : Nat → Prop
  k0 : Nat
  Y : Nat → Prop
  ls : List LRec

def LoopSt (r : Loop) (p : Option Code) : Loop := { r with state := (match p with | none => .ready | some _ => .done), pending := p }

structure Good (C : Ctx) (X : Nat → Prop) (ρ : List Loc) (S : St) (w : World) : Prop where
  sim : Sim X ρ S.H w
  base : ∀ (b : Nat), C.X₀ b → X b
  new : ∀ (id b cs : Nat), C.k0 ≤ id → ρ[id]? = some (some (b, cs)) → ¬ C.X₀ b
  yok : ∀ (b : Nat), C.Y b → b < w.heap.size ∧ ∀ (c : Array Value) (E : TypeId) (fz : Nat × Nat), w.heap[b]? ≠ some (.cells c E fz)
  lsn : C.ls.length = S.p.length
  hist : ∀ (i : Nat) (L : LRec), C.ls[i]? = some L → Stays L.X L.w X w ∧ HStays L.ρ L.H ρ S.H
  loops : ∀ (i : Nat) (L : LRec) (p : Option Code), C.ls[i]? = some L → S.p[i]? = some p → C.Y L.l ∧ w.heap[L.l]? = some (.loop (LoopSt L.r p))

/-- From one state to a later one. -/
structure Step (C : Ctx) (X : Nat → Prop) (ρ : List Loc) (H : AHeap) (w : World) (X' : Nat → Prop) (ρ' : List Loc) (H' : AHeap) (w' : World) : Prop where
  size : w.heap.size ≤ w'.heap.size
  keep : ∀ (b : Nat), b < w.heap.size → (∀ (id cs : Nat), ρ[id]? ≠ some (some (b, cs))) → ¬ C.Y b → w'.heap[b]? = w.heap[b]?
  xs : ∀ (b : Nat), X' b → X b ∨ w.heap.size ≤ b
  rs : ∀ (id b cs : Nat), ρ'[id]? = some (some (b, cs)) → (∃ (id' cs' : Nat), ρ[id']? = some (some (b, cs'))) ∨ w.heap.size ≤ b
  hst : HStays ρ H ρ' H'
  io : w'.os = w.os ∧ w'.output = w.output

theorem Step.refl (C : Ctx) (X : Nat → Prop) (ρ : List Loc) (H : AHeap) (w : World) : Step C X ρ H w X ρ H w :=
  ⟨Nat.le_refl _, fun _ _ _ _ => rfl, fun _ h => .inl h, fun id b cs h => .inl ⟨id, cs, h⟩, .refl _ _, ⟨rfl, rfl⟩⟩

theorem Step.trans {C : Ctx} {X X' X'' : Nat → Prop} {ρ ρ' ρ'' : List Loc} {H H' H'' : AHeap} {w w' w'' : World} (h : Step C X ρ H w X' ρ' H' w') (k : Step C X' ρ' H' w' X'' ρ'' H'' w'') : Step C X ρ H w X'' ρ'' H'' w'' := by
  refine ⟨Nat.le_trans h.size k.size, fun b hb hr hy => ?_, fun b hb => ?_, fun id b cs hb => ?_, h.hst.trans k.hst, ⟨k.io.1.trans h.io.1, k.io.2.trans h.io.2⟩⟩
  · rw [k.keep b (Nat.lt_of_lt_of_le hb h.size) (fun id cs e => ?_) hy, h.keep b hb hr hy]
    rcases h.rs id b cs e with ⟨id', cs', e'⟩ | e'
    · exact hr id' cs' e'
    · omega
  · rcases k.xs b hb with h1 | h1
    · exact h.xs b h1
    · exact .inr (Nat.le_trans h.size h1)
  · rcases k.rs id b cs hb with ⟨id', cs', e⟩ | e
    · exact h.rs id' b cs' e
    · exact .inr (Nat.le_trans h.size e)

theorem Good.owned {C : Ctx} {X : Nat → Prop} {ρ : List Loc} {S : St} {w : World} (hG : Good C X ρ S w) {id b cs : Nat} (h : ρ[id]? = some (some (b, cs))) : X b := by
  have hl : id < S.H.length := by
    rw [← hG.sim.len]; exact (List.getElem?_eq_some_iff.1 h).1
  exact (hG.sim.blk id S.H[id] b cs (List.getElem?_eq_getElem hl) h).ex

/-- What is no owned memory stays, over a step. -/
theorem Step.stays {C : Ctx} {X X' : Nat → Prop} {ρ ρ' : List Loc} {S : St} {H' : AHeap} {w w' : World} (hG : Good C X ρ S w) (h : Step C X ρ S.H w X' ρ' H' w') : Stays X w X' w' := by
  refine ⟨fun b c E fz hx hb => ?_⟩
  have hlt : b < w.heap.size := (Array.getElem?_eq_some_iff.1 hb).1
  refine ⟨fun h' => ?_, ?_⟩
  · rcases h.xs b h' with h1 | h1
    · exact hx h1
    · omega
  · rw [h.keep b hlt (fun id cs e => hx (hG.owned e)) (fun hy => (hG.yok b hy).2 c E fz hb)]
    exact hb

theorem Step.rel {C : Ctx} {X X' : Nat → Prop} {ρ ρ' : List Loc} {S : St} {H' : AHeap} {w w' : World} (hG : Good C X ρ S w) (h : Step C X ρ S.H w X' ρ' H' w') {x : AV} {v : Value} (hr : Rel X ρ S.H w x v) : Rel X' ρ' H' w' x v :=
  hr.mono (h.stays hG) h.hst

theorem Good.histS {C : Ctx} {X X' : Nat → Prop} {ρ ρ' : List Loc} {S : St} {H' : AHeap} {w w' : World} (hG : Good C X ρ S w) (h : Step C X ρ S.H w X' ρ' H' w') : ∀ (i : Nat) (L : LRec), C.ls[i]? = some L → Stays L.X L.w X' w' ∧ HStays L.ρ L.H ρ' H' :=
  fun i L hi => ⟨(hG.hist i L hi).1.trans (h.stays hG), (hG.hist i L hi).2.trans h.hst⟩

/-- A block's reading carried over, its own cells being as they were. -/
theorem BSim.carry {C : Ctx} {X X' : Nat → Prop} {ρ ρ' : List Loc} {S : St} {H' : AHeap} {w w' : World} {B : Blk} {b cs : Nat} (hst : Stays X w X' w') (hh : HStays ρ S.H ρ' H') (hB : BSim X ρ S.H w B b cs) (hX : X' b) (hw : w'.heap[b]? = w.heap[b]?) : BSim X' ρ' H' w' B b cs := by
  obtain ⟨c, E, h1, h2, h3, h4, h5⟩ := hB.cell
  exact ⟨hX, hB.pos, hB.row, c, E, hw.trans h1, h2, h3, h4, fun i r j x u hi hj hu => (h5 i r j x u hi hj hu).mono hst hh⟩

/-- The world has more blocks (that nobody owns), or a draw more. -/
theorem Good.more {C : Ctx} {X : Nat → Prop} {ρ : List Loc} {S : St} {w w' : World} (hG : Good C X ρ S w) (hs : w.heap.size ≤ w'.heap.size) (hk : ∀ (b : Nat), b < w.heap.size → w'.heap[b]? = w.heap[b]?) (hio : w'.os = w.os ∧ w'.output = w.output := by exact ⟨rfl, rfl⟩) : Good C X ρ S w' ∧ Step C X ρ S.H w X ρ S.H w' := by
  have hst : Step C X ρ S.H w X ρ S.H w' := ⟨hs, fun b hb _ _ => hk b hb, fun _ h => .inl h, fun id b cs h => .inl ⟨id, cs, h⟩, .refl _ _, hio⟩
  refine ⟨⟨⟨hG.sim.len, fun id B b cs hB hb => ?_, hG.sim.none, hG.sim.inj, fun b hb => Nat.lt_of_lt_of_le (hG.sim.small b hb) hs⟩, hG.base, hG.new, fun b hb => ?_, hG.lsn, hG.histS hst, fun i L p hi hp => ?_⟩, hst⟩
  · have h0 := hG.sim.blk id B b cs hB hb
    exact BSim.carry (C := C) (hst.stays hG) (.refl _ _) h0 h0.ex (hk b (hG.sim.small b h0.ex))
  · obtain ⟨h1, h2⟩ := hG.yok b hb
    exact ⟨Nat.lt_of_lt_of_le h1 hs, fun c E fz => by rw [hk b h1]; exact h2 c E fz⟩
  · obtain ⟨h1, h2⟩ := hG.loops i L p hi hp
    exact ⟨h1, (hk _ (hG.yok _ h1).1).trans h2⟩

/-- A new owned block at the end. -/
theorem Good.alloc {C : Ctx} {X : Nat → Prop} {ρ : List Loc} {S : St} {w w' : World} (hG : Good C X ρ S w) (c : Array Value) (E : TypeId) (hs : w'.heap.size = w.heap.size + 1) (hk : ∀ (b : Nat), b < w.heap.size → w'.heap[b]? = w.heap[b]?)
    (hn : w'.heap[w.heap.size]? = some (.cells c E (0, 0))) (sz : Nat) (rows : List (List AV)) (hz : 0 < sz) (hr : ∀ r ∈ rows, r.length = sz) (hc : rows.length * sz ≤ c.size)
    (h1 : ∀ (k : Nat) (u : Value), k < rows.length * sz → c[k]? = some u → u.oneCell' = true)
    (h : ∀ (i : Nat) (r : List AV) (j : Nat) (x : AV) (u : Value), rows[i]? = some r → r[j]? = some x → c[i * sz + j]? = some u → Rel X ρ S.H w x u) (hio : w'.os = w.os ∧ w'.output = w.output := by exact ⟨rfl, rfl⟩) :
    ∃ X' ρ', Good C X' ρ' { S with H := S.H ++ [⟨sz, 0, rows⟩] } w' ∧ Step C X ρ S.H w X' ρ' (S.H ++ [⟨sz, 0, rows⟩]) w' ∧ ρ'[S.H.length]? = some (some (w.heap.size, c.size)) := by
  have hlen := hG.sim.len
  have hρ : ∀ (id : Nat), id < S.H.length → (ρ ++ [some (w.heap.size, c.size)])[id]? = ρ[id]? := fun id hid => List.getElem?_append_left (by rw [hlen]; exact hid)
  have hρn : (ρ ++ [some (w.heap.size, c.size)])[S.H.length]? = some (some (w.heap.size, c.size)) := by rw [← hlen]; simp
  have hH : ∀ (id : Nat), id < S.H.length → (S.H ++ [(⟨sz, 0, rows⟩ : Blk)])[id]? = S.H[id]? := fun id hid => List.getElem?_append_left hid
  have hst : Step C X ρ S.H w (fun b => X b ∨ b = w.heap.size) (ρ ++ [some (w.heap.size, c.size)]) (S.H ++ [⟨sz, 0, rows⟩]) w' := by
    refine ⟨by omega, fun b hb _ _ => hk b hb, fun b hb => hb.imp id (fun e => by omega), fun id b cs e => ?_, ⟨fun id B hB => ?_⟩, hio⟩
    · rcases Nat.lt_or_ge id S.H.length with hid | hid
      · rw [hρ id hid] at e; exact .inl ⟨id, cs, e⟩
      · rcases Nat.eq_or_lt_of_le hid with rfl | hid
        · rw [hρn] at e; simp only [Option.some.injEq, Prod.mk.injEq] at e; exact .inr (by omega)
        · rw [List.getElem?_eq_none (by simp; omega)] at e; cases e
    · have hid : id < S.H.length := (List.getElem?_eq_some_iff.1 hB).1
      exact ⟨B, (hH id hid).trans hB, Nat.le_refl _, fun _ => ⟨rfl, rfl, hρ id hid⟩⟩
  have hstays := hst.stays hG
  refine ⟨fun b => X b ∨ b = w.heap.size, ρ ++ [some (w.heap.size, c.size)], ⟨⟨by simp [hlen], fun id B b cs hB hb => ?_, fun id B hB hb => ?_, fun id id' b cs cs' e e' => ?_, fun b hb => ?_⟩, fun b hb => .inl (hG.base b hb), fun id b cs hid e => ?_, fun b hb => ?_, hG.lsn, hG.histS hst, fun i L p hi hp => ?_⟩, hst, hρn⟩
  · rcases Nat.lt_or_ge id S.H.length with hid | hid
    · rw [hρ id hid] at hb
      simp only [hH id hid] at hB
      have h0 := hG.sim.blk id B b cs hB hb
      exact BSim.carry (C := C) hstays hst.hst h0 (.inl h0.ex) (hk b (hG.sim.small b h0.ex))
    · rcases Nat.eq_or_lt_of_le hid with rfl | hid
      · rw [hρn] at hb
        simp only [Option.some.injEq, Prod.mk.injEq] at hb
        obtain ⟨rfl, rfl⟩ := hb
        simp only [List.getElem?_append_right (Nat.le_refl _), Nat.sub_self, List.getElem?_cons_zero, Option.some.injEq] at hB
        subst hB
        exact ⟨.inr rfl, hz, hr, c, E, hn, rfl, hc, h1, fun i r j x u hi hj hu => (h i r j x u hi hj hu).mono hstays hst.hst⟩
      · simp only [List.getElem?_eq_none (show (S.H ++ [(⟨sz, 0, rows⟩ : Blk)]).length ≤ id by simp; omega)] at hB
        cases hB
  · rcases Nat.lt_or_ge id S.H.length with hid | hid
    · rw [hρ id hid] at hb
      simp only [hH id hid] at hB
      exact hG.sim.none id B hB hb
    · rcases Nat.eq_or_lt_of_le hid with rfl | hid
      · rw [hρn] at hb; cases hb
      · simp only [List.getElem?_eq_none (show (S.H ++ [(⟨sz, 0, rows⟩ : Blk)]).length ≤ id by simp; omega)] at hB
        cases hB
  · have key : ∀ (i b cs : Nat), (ρ ++ [some (w.heap.size, c.size)])[i]? = some (some (b, cs)) → (i < S.H.length ∧ ρ[i]? = some (some (b, cs)) ∧ b < w.heap.size) ∨ (i = S.H.length ∧ b = w.heap.size) := by
      intro i b cs e
      rcases Nat.lt_or_ge i S.H.length with hi | hi
      · rw [hρ i hi] at e
        exact .inl ⟨hi, e, hG.sim.small b (hG.owned e)⟩
      · rcases Nat.eq_or_lt_of_le hi with rfl | hi
        · rw [hρn] at e
          simp only [Option.some.injEq, Prod.mk.injEq] at e
          exact .inr ⟨rfl, e.1.symm⟩
        · rw [List.getElem?_eq_none (by simp; omega)] at e; cases e
    rcases key id b cs e with ⟨h1, h2, h3⟩ | ⟨h1, h2⟩ <;> rcases key id' b cs' e' with ⟨k1, k2, k3⟩ | ⟨k1, k2⟩
    · exact hG.sim.inj id id' b cs cs' h2 k2
    · omega
    · omega
    · omega
  · rcases hb with hb | hb
    · have := hG.sim.small b hb; omega
    · omega
  · rcases Nat.lt_or_ge id S.H.length with hi | hi
    · rw [hρ id hi] at e
      exact hG.new id b cs hid e
    · rcases Nat.eq_or_lt_of_le hi with rfl | hi
      · rw [hρn] at e
        simp only [Option.some.injEq, Prod.mk.injEq] at e
        intro hx
        have := hG.sim.small b (hG.base b hx)
        omega
      · rw [List.getElem?_eq_none (by simp; omega)] at e; cases e
  · obtain ⟨h1, h2⟩ := hG.yok b hb
    exact ⟨by omega, fun c E fz => by rw [hk b h1]; exact h2 c E fz⟩
  · obtain ⟨h1, h2⟩ := hG.loops i L p hi hp
    exact ⟨h1, (hk _ (hG.yok _ h1).1).trans h2⟩

/-- An owned block turns in its place (the world's block too). -/
theorem Good.put {C : Ctx} {X : Nat → Prop} {ρ : List Loc} {S : St} {w w' : World} (hG : Good C X ρ S w) (id b cs : Nat) (B B' : Blk) (hB : S.H[id]? = some B) (hb : ρ[id]? = some (some (b, cs))) (c : Array Value) (E : TypeId)
    (hs : w'.heap.size = w.heap.size) (hk : ∀ (k : Nat), k ≠ b → w'.heap[k]? = w.heap[k]?) (hn : w'.heap[b]? = some (.cells c E (0, 0))) (hcs : c.size = cs) (hz : 0 < B'.sz) (hr : ∀ r ∈ B'.rows, r.length = B'.sz) (hc : B'.rows.length * B'.sz ≤ cs)
    (hg : B.gen ≤ B'.gen) (hsame : B'.gen = B.gen → B'.sz = B.sz ∧ B'.rows.length = B.rows.length)
    (h1 : ∀ (k : Nat) (u : Value), k < B'.rows.length * B'.sz → c[k]? = some u → u.oneCell' = true)
    (h : ∀ (i : Nat) (r : List AV) (j : Nat) (x : AV) (u : Value), B'.rows[i]? = some r → r[j]? = some x → c[i * B'.sz + j]? = some u → Rel X ρ S.H w x u) (hio : w'.os = w.os ∧ w'.output = w.output := by exact ⟨rfl, rfl⟩) :
    Good C X ρ { S with H := S.H.set id B' } w' ∧ Step C X ρ S.H w X ρ (S.H.set id B') w' := by
  have hid : id < S.H.length := (List.getElem?_eq_some_iff.1 hB).1
  have hX : X b := hG.owned hb
  have hst : Step C X ρ S.H w X ρ (S.H.set id B') w' := by
    refine ⟨by omega, fun k _ hr _ => hk k (fun e => hr id cs (by rw [e]; exact hb)), fun _ h => .inl h, fun id b cs h => .inl ⟨id, cs, h⟩, ⟨fun i D hD => ?_⟩, hio⟩
    by_cases e : i = id
    · subst e
      rw [hB] at hD; cases hD
      exact ⟨B', by simp [hid], hg, fun e => ⟨(hsame e).1, (hsame e).2, rfl⟩⟩
    · exact ⟨D, by rw [List.getElem?_set_ne (Ne.symm e)]; exact hD, Nat.le_refl _, fun _ => ⟨rfl, rfl, rfl⟩⟩
  have hstays := hst.stays hG
  refine ⟨⟨⟨by simp [hG.sim.len], fun i D b' cs' hD hb' => ?_, fun i D hD hb' => ?_, hG.sim.inj, fun b hb => by rw [hs]; exact hG.sim.small b hb⟩, hG.base, hG.new, fun k hy => ?_, hG.lsn, hG.histS hst, fun i L p hi hp => ?_⟩, hst⟩
  · by_cases e : i = id
    · subst e
      simp only [List.getElem?_set_self hid, Option.some.injEq] at hD
      subst hD
      rw [hb] at hb'; cases hb'
      exact ⟨hX, hz, hr, c, E, hn, hcs, hc, h1, fun i r j x u hi hj hu => (h i r j x u hi hj hu).mono hstays hst.hst⟩
    · simp only [List.getElem?_set_ne (Ne.symm e)] at hD
      have h0 := hG.sim.blk i D b' cs' hD hb'
      exact BSim.carry (C := C) hstays hst.hst h0 h0.ex (hk b' (fun e' => e (hG.sim.inj i id b cs' cs (by rw [← e']; exact hb') hb)))
  · by_cases e : i = id
    · subst e; rw [hb] at hb'; cases hb'
    · simp only [List.getElem?_set_ne (Ne.symm e)] at hD
      exact hG.sim.none i D hD hb'
  · obtain ⟨h1, h2⟩ := hG.yok k hy
    refine ⟨by omega, fun c' E' fz => ?_⟩
    by_cases e : k = b
    · subst e
      obtain ⟨c0, E0, hc0, _⟩ := (hG.sim.blk id B k cs hB hb).cell
      exact absurd hc0 (h2 c0 E0 (0, 0))
    · rw [hk k e]; exact h2 c' E' fz
  · obtain ⟨h1, h2⟩ := hG.loops i L p hi hp
    refine ⟨h1, (hk _ (fun e => ?_)).trans h2⟩
    obtain ⟨c0, E0, hc0, _⟩ := (hG.sim.blk id B b cs hB hb).cell
    rw [e, hc0] at h2; cases h2

/-- An owned block moves to a new place, as another generation. -/
theorem Good.move {C : Ctx} {X : Nat → Prop} {ρ : List Loc} {S : St} {w w' : World} (hG : Good C X ρ S w) (id : Nat) (B B' : Blk) (hB : S.H[id]? = some B) (c : Array Value) (E : TypeId)
    (hs : w'.heap.size = w.heap.size + 1) (hk : ∀ (k : Nat), k < w.heap.size → w'.heap[k]? = w.heap[k]?) (hn : w'.heap[w.heap.size]? = some (.cells c E (0, 0))) (hz : 0 < B'.sz) (hr : ∀ r ∈ B'.rows, r.length = B'.sz) (hc : B'.rows.length * B'.sz ≤ c.size)
    (hg : B.gen < B'.gen)
    (h1 : ∀ (k : Nat) (u : Value), k < B'.rows.length * B'.sz → c[k]? = some u → u.oneCell' = true)
    (h : ∀ (i : Nat) (r : List AV) (j : Nat) (x : AV) (u : Value), B'.rows[i]? = some r → r[j]? = some x → c[i * B'.sz + j]? = some u → Rel X ρ S.H w x u) (hio : w'.os = w.os ∧ w'.output = w.output := by exact ⟨rfl, rfl⟩) :
    ∃ X' ρ', Good C X' ρ' { S with H := S.H.set id B' } w' ∧ Step C X ρ S.H w X' ρ' (S.H.set id B') w' ∧ ρ'[id]? = some (some (w.heap.size, c.size)) := by
  have hid : id < S.H.length := (List.getElem?_eq_some_iff.1 hB).1
  have hidρ : id < ρ.length := by rw [hG.sim.len]; exact hid
  have hρn : (ρ.set id (some (w.heap.size, c.size)))[id]? = some (some (w.heap.size, c.size)) := by simp [hidρ]
  have hρ : ∀ (i : Nat), i ≠ id → (ρ.set id (some (w.heap.size, c.size)))[i]? = ρ[i]? := fun i e => List.getElem?_set_ne (Ne.symm e)
  have hst : Step C X ρ S.H w (fun b => X b ∨ b = w.heap.size) (ρ.set id (some (w.heap.size, c.size))) (S.H.set id B') w' := by
    refine ⟨by omega, fun b hb _ _ => hk b hb, fun b hb => hb.imp (fun h => h) (fun e => by omega), fun i b cs e => ?_, ⟨fun i D hD => ?_⟩, hio⟩
    · by_cases ei : i = id
      · subst ei; rw [hρn] at e; simp only [Option.some.injEq, Prod.mk.injEq] at e; exact .inr (by omega)
      · rw [hρ i ei] at e; exact .inl ⟨i, cs, e⟩
    · by_cases e : i = id
      · subst e
        rw [hB] at hD; cases hD
        exact ⟨B', by simp [hid], Nat.le_of_lt hg, fun e => by omega⟩
      · exact ⟨D, by rw [List.getElem?_set_ne (Ne.symm e)]; exact hD, Nat.le_refl _, fun _ => ⟨rfl, rfl, hρ i e⟩⟩
  have hstays := hst.stays hG
  refine ⟨fun b => X b ∨ b = w.heap.size, ρ.set id (some (w.heap.size, c.size)), ⟨⟨by simp [hG.sim.len], fun i D b' cs' hD hb' => ?_, fun i D hD hb' => ?_, fun i i' b cs cs' e e' => ?_, fun b hb => ?_⟩, fun b hb => .inl (hG.base b hb), fun i b cs hi e => ?_, fun b hy => ?_, hG.lsn, hG.histS hst, fun i L p hi hp => ?_⟩, hst, hρn⟩
  · by_cases e : i = id
    · subst e
      simp only [List.getElem?_set_self hid, Option.some.injEq] at hD
      subst hD
      rw [hρn] at hb'
      simp only [Option.some.injEq, Prod.mk.injEq] at hb'
      obtain ⟨rfl, rfl⟩ := hb'
      exact ⟨.inr rfl, hz, hr, c, E, hn, rfl, hc, h1, fun i r j x u hi hj hu => (h i r j x u hi hj hu).mono hstays hst.hst⟩
    · simp only [List.getElem?_set_ne (Ne.symm e)] at hD
      rw [hρ i e] at hb'
      have h0 := hG.sim.blk i D b' cs' hD hb'
      exact BSim.carry (C := C) hstays hst.hst h0 (.inl h0.ex) (hk b' (hG.sim.small b' h0.ex))
  · by_cases e : i = id
    · subst e; rw [hρn] at hb'; cases hb'
    · simp only [List.getElem?_set_ne (Ne.symm e)] at hD
      rw [hρ i e] at hb'
      exact hG.sim.none i D hD hb'
  · have key : ∀ (i b cs : Nat), (ρ.set id (some (w.heap.size, c.size)))[i]? = some (some (b, cs)) → (i ≠ id ∧ ρ[i]? = some (some (b, cs)) ∧ b < w.heap.size) ∨ (i = id ∧ b = w.heap.size) := by
      intro i b cs e
      by_cases ei : i = id
      · subst ei; rw [hρn] at e; simp only [Option.some.injEq, Prod.mk.injEq] at e; exact .inr ⟨rfl, e.1.symm⟩
      · rw [hρ i ei] at e; exact .inl ⟨ei, e, hG.sim.small b (hG.owned e)⟩
    rcases key i b cs e with ⟨h1, h2, h3⟩ | ⟨h1, h2⟩ <;> rcases key i' b cs' e' with ⟨k1, k2, k3⟩ | ⟨k1, k2⟩
    · exact hG.sim.inj i i' b cs cs' h2 k2
    · omega
    · omega
    · omega
  · rcases hb with hb | hb
    · have := hG.sim.small b hb; omega
    · omega
  · by_cases ei : i = id
    · subst ei
      rw [hρn] at e
      simp only [Option.some.injEq, Prod.mk.injEq] at e
      intro hx
      have := hG.sim.small b (hG.base b hx)
      omega
    · rw [hρ i ei] at e; exact hG.new i b cs hi e
  · obtain ⟨h1, h2⟩ := hG.yok b hy
    exact ⟨by omega, fun c E fz => by rw [hk b h1]; exact h2 c E fz⟩
  · obtain ⟨h1, h2⟩ := hG.loops i L p hi hp
    exact ⟨h1, (hk _ (hG.yok _ h1).1).trans h2⟩

end Go.Proofs.Ytpmgmingjggegaa.AL
