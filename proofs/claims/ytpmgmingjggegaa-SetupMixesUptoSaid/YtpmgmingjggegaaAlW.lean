/- A range over a function. -/
import Derived.Test.YtpmgmingjggegaaAlV
set_option linter.unusedVariables false
set_option linter.unusedSimpArgs false
namespace Go.Proofs.Ytpmgmingjggegaa.AL
open Go

variable {P : Program} {C : Ctx} {X : Nat → Prop} {ρ : List Loc} {S : St} {w : World} {k0 ℓ : Nat} {E : Env} {Q : KQ} {s s' : List AV} {S' : St}

def setL (s : List AV) : List Nat → List AV → List AV
  | q :: qs, x :: xs => setL (s.set q x) qs xs
  | _, _ => s

def Slots (X : Nat → Prop) (ρ : List Loc) (H : AHeap) (w : World) (κ : List Nat) (s : List AV) (tmps : Array Value) : Prop :=
  ∀ (q t : Nat) (x : AV), κ[q]? = some t → s[q]? = some x → ∃ v, tmps[t]? = some v ∧ Rel X ρ H w x v

theorem Slots.set {H : AHeap} {κ : List Nat} {tmps : Array Value} (h : Slots X ρ H w κ s tmps) (hn : κ.Nodup) {q₀ t₀ : Nat} {x₀ : AV} {v₀ : Value} (hq : κ[q₀]? = some t₀) (ht : t₀ < tmps.size) (hr : Rel X ρ H w x₀ v₀) : Slots X ρ H w κ (s.set q₀ x₀) (tmps.setIfInBounds t₀ v₀) := by
  intro q t x hqt hx
  by_cases e : q = q₀
  · subst e
    rw [hq] at hqt; cases hqt
    rw [List.getElem?_set] at hx
    simp only [if_true] at hx
    split at hx
    · cases hx
      exact ⟨v₀, by simp [ht], hr⟩
    · cases hx
  · rw [List.getElem?_set_ne (Ne.symm e)] at hx
    obtain ⟨v, h1, h2⟩ := h q t x hqt hx
    have hne : t₀ ≠ t := by
      rintro rfl
      obtain ⟨i1, e1⟩ := List.getElem?_eq_some_iff.1 hq
      obtain ⟨i2, e2⟩ := List.getElem?_eq_some_iff.1 hqt
      have hp := List.pairwise_iff_getElem.1 hn
      rcases Nat.lt_or_gt_of_ne e with h | h
      · exact hp q q₀ i2 i1 h (e2.trans e1.symm)
      · exact hp q₀ q i1 i2 h (e1.trans e2.symm)
    exact ⟨v, by rw [Array.getElem?_setIfInBounds_ne hne]; exact h1, h2⟩

theorem Slots.setL {H : AHeap} {κ : List Nat} (hn : κ.Nodup) {nt : Nat} : ∀ (ps qs : List Nat) (xs : List AV) (vs : List Value) (s : List AV) (tmps : Array Value), ps.mapM κ.idxOf? = some qs → (∀ t ∈ ps, t < nt) → tmps.size = nt → xs.length = ps.length → xs.length = vs.length →
    (∀ (i : Nat) (x : AV) (u : Value), xs[i]? = some x → vs[i]? = some u → Rel X ρ H w x u) → Slots X ρ H w κ s tmps →
    Slots X ρ H w κ (AL.setL s qs xs) ((ps.zip vs).foldl (fun tmps (p : Nat × Value) => tmps.setIfInBounds p.1 p.2) tmps) ∧ ((ps.zip vs).foldl (fun tmps (p : Nat × Value) => tmps.setIfInBounds p.1 p.2) tmps).size = nt ∧ (AL.setL s qs xs).length = s.length
  | [], qs, xs, vs, s, tmps, hm, _, hsz, hl, hv, hr, h => by
    simp at hm
    subst hm
    simp [AL.setL, hsz]
    exact h
  | p :: ps, qs, xs, vs, s, tmps, hm, hlt, hsz, hl, hv, hr, h => by
    simp only [List.mapM_cons, Option.bind_eq_bind, Option.pure_def] at hm
    cases h1 : κ.idxOf? p with
    | none => simp [h1] at hm
    | some q =>
      cases h2 : ps.mapM κ.idxOf? with
      | none => simp [h1, h2] at hm
      | some qs' =>
        simp only [h1, h2, Option.bind_some, Option.some.injEq] at hm
        subst hm
        cases xs with
        | nil => simp at hl
        | cons x xs =>
          cases vs with
          | nil => simp at hv
          | cons v vs =>
            have := Slots.setL hn ps qs' xs vs (s.set q x) (tmps.setIfInBounds p v) h2 (fun t ht => hlt t (by simp [ht])) (by simp [hsz]) (by simpa using hl) (by simpa using hv) (fun i y u hy hu => hr (i + 1) y u (by simpa using hy) (by simpa using hu))
              (h.set hn (idxOfN_spec h1) (by rw [hsz]; exact hlt p (by simp)) (hr 0 x v rfl rfl))
            simpa [AL.setL] using this

/-- The pending jump behind a round that was left so. -/
def AEx.jump : AEx → Option Code
  | .n => none
  | .r => some .ret
  | .x id => some (.exit id)

def mute (E : Env) : Env := E.map fun y => (y.1, fun _ _ _ => False)

/-- What a body that is called as 'yield' does. -/
def bodyY (P : Program) (k0 : Nat) (E : Env) (qs : List Nat) (x y : ACode) (s : List AV) : YSpec := fun args S K =>
  args.length = qs.length ∧ AW P k0 E x (KQ.then (AW P k0 E y fun e _ S' => K e.jump.isNone { S' with p := S'.p ++ [e.jump] }) (fun _ _ _ => False)) (setL s qs args) { S with p := S.p.take E.length }

/-- What holds behind the function that is ranged over. -/
def rngK (Q : KQ) (s : List AV) : K2 := fun _ S' => ∃ (e : AEx) (p : List (Option Code)), S'.p = p ++ [e.jump] ∧ Q e s { S' with p := p }

def Ctx.more (C : Ctx) (L : LRec) : Ctx := { C with Y := fun b => C.Y b ∨ b = L.l, ls := C.ls ++ [L] }

theorem Step.loop {L : LRec} {X' : Nat → Prop} {ρ' : List Loc} {H H' : AHeap} {w' : World} (h : Step C X ρ H w X' ρ' H' w') : Step (C.more L) X ρ H w X' ρ' H' w' :=
  ⟨h.size, fun b hb hr hy => h.keep b hb hr (fun e => hy (.inl e)), h.xs, h.rs, h.hst, h.io⟩

theorem Good.loop (hG : Good C X ρ S w) {L : LRec} {p : Option Code} (hY : w.heap[L.l]? = some (.loop (LoopSt L.r p))) (h1 : Stays L.X L.w X w) (h2 : HStays L.ρ L.H ρ S.H) : Good (C.more L) X ρ { S with p := S.p ++ [p] } w := by
  refine ⟨hG.sim, hG.base, hG.new, fun b hb => ?_, by simp [Ctx.more, hG.lsn], fun i M hi => ?_, fun i M p' hi hp => ?_⟩
  · rcases hb with hb | rfl
    · exact hG.yok b hb
    · exact ⟨(Array.getElem?_eq_some_iff.1 hY).1, fun c E fz => by rw [hY]; simp⟩
  · rcases Nat.lt_or_ge i C.ls.length with h | h
    · simp only [Ctx.more, List.getElem?_append_left h] at hi
      exact hG.hist i M hi
    · simp only [Ctx.more, List.getElem?_append_right h] at hi
      cases hj : i - C.ls.length with
      | zero => rw [hj] at hi; simp at hi; subst hi; exact ⟨h1, h2⟩
      | succ k => rw [hj] at hi; simp at hi
  · rcases Nat.lt_or_ge i C.ls.length with h | h
    · simp only [Ctx.more, List.getElem?_append_left h] at hi
      simp only [List.getElem?_append_left (show i < S.p.length by rw [← hG.lsn]; exact h)] at hp
      obtain ⟨a1, a2⟩ := hG.loops i M p' hi hp
      exact ⟨.inl a1, a2⟩
    · simp only [Ctx.more, List.getElem?_append_right h] at hi
      simp only [List.getElem?_append_right (show S.p.length ≤ i by rw [← hG.lsn]; exact h), ← hG.lsn] at hp
      cases hj : i - C.ls.length with
      | zero => rw [hj] at hi hp; simp at hi hp; subst hi; subst hp; exact ⟨.inr rfl, hY⟩
      | succ k => rw [hj] at hi; simp at hi

theorem Good.unloop {L : LRec} (hG : Good (C.more L) X ρ S w) (hY : ∀ (i : Nat) (M : LRec), C.ls[i]? = some M → C.Y M.l) : Good C X ρ { S with p := S.p.take C.ls.length } w ∧ ∃ p, S.p = S.p.take C.ls.length ++ [p] ∧ w.heap[L.l]? = some (.loop (LoopSt L.r p)) ∧ S.p[C.ls.length]? = some p ∧ Stays L.X L.w X w ∧ HStays L.ρ L.H ρ S.H := by
  have hl : S.p.length = C.ls.length + 1 := by have := hG.lsn; simp [Ctx.more] at this; omega
  have hp : S.p[C.ls.length]? = some S.p[C.ls.length] := List.getElem?_eq_getElem (by omega)
  have hls : ∀ (i : Nat) (M : LRec), C.ls[i]? = some M → i < C.ls.length ∧ (C.more L).ls[i]? = some M := fun i M hi => by
    have h := (List.getElem?_eq_some_iff.1 hi).1
    exact ⟨h, by simp only [Ctx.more]; rw [List.getElem?_append_left h]; exact hi⟩
  have hL : (C.more L).ls[C.ls.length]? = some L := by simp [Ctx.more]
  refine ⟨⟨hG.sim, hG.base, hG.new, fun b hb => hG.yok b (.inl hb), by simp; omega, fun i M hi => hG.hist i M (hls i M hi).2, fun i M p hi hp => ?_⟩, S.p[C.ls.length], ?_, ?_, hp, ?_⟩
  · obtain ⟨h1, h2⟩ := hls i M hi
    simp only at hp
    rw [List.getElem?_take, if_pos h1] at hp
    obtain ⟨a1, a2⟩ := hG.loops i M p h2 hp
    -- the older record is no newer one
    exact ⟨hY i M hi, a2⟩
  · have := List.take_add_one (l := S.p) (i := C.ls.length)
    rw [hp, List.take_of_length_le (by omega)] at this
    simpa using this
  · exact (hG.loops _ L _ hL hp).2
  · exact hG.hist _ L hL


/-- The statement's record as it is laid. -/
theorem enter {nt : Nat} {κ : List Nat} {rd : Option Nat} {bs : Nat} {a : Act} (hh : Here C X ρ S w nt κ rd bs s a) (fn : FuncId) (ps : Array Tmp) (assign body : Code) :
    ∃ (l : Nat) (mark : List Deferred) (w₁ : World) (r : Loop), (Instr.enterLoop fn a.tmps ps assign body rd).run P w = .ok (l, mark) w₁ ∧ w.heap.size ≤ l ∧ w₁.heap[l]? = some (.loop (LoopSt r none)) ∧ r.tmps = a.tmps ∧ r.params = ps ∧ r.assign = assign ∧ r.body = body ∧
      w.heap.size ≤ w₁.heap.size ∧ (∀ b, b < w.heap.size → w₁.heap[b]? = w.heap[b]?) ∧ (w₁.os = w.os ∧ w₁.output = w.output) ∧ Here C X ρ S w₁ nt κ rd bs s { a with defers := mark ++ a.defers } := by
  have old : ∀ (o : Obj) (w : World) (b : Nat), b < w.heap.size → (w.alloc o).heap[b]? = w.heap[b]? := fun o w b hb => by
    show (w.heap.push o)[b]? = w.heap[b]?
    exact Array.getElem?_push_lt hb |>.trans (Array.getElem?_eq_getElem hb).symm
  cases rd with
  | none =>
    let r : Loop := { state := .ready, pending := none, fn, tmps := a.tmps, params := ps, assign, body, defers := w.heap.size }
    let w₁ := (w.alloc (.deferred (some []))).alloc (.loop r)
    have hsz : w₁.heap.size = w.heap.size + 2 := by simp [w₁, World.size_alloc]
    have hk : ∀ b, b < w.heap.size → w₁.heap[b]? = w.heap[b]? := fun b hb => (old _ _ b (by rw [World.size_alloc]; omega)).trans (old _ _ b hb)
    have hL : w₁.heap[w.heap.size + 1]? = some (.loop r) := by
      have := World.alloc_heap_new (w.alloc (.deferred (some []))) (.loop r)
      rwa [World.size_alloc] at this
    have hD : w₁.heap[w.heap.size]? = some (.deferred (some [])) := (old _ _ _ (by rw [World.size_alloc]; omega)).trans (World.alloc_heap_new w _)
    obtain ⟨hG, hst⟩ := hh.good.more (w' := w₁) (by omega) hk
    refine ⟨w.heap.size + 1, _, w₁, r, run_enterLoop_outer fn a.tmps ps assign body, by omega, hL, rfl, rfl, rfl, rfl, by omega, hk, ⟨rfl, rfl⟩, hG, hh.size, hh.len, fun q t x hq hx => let ⟨v, h1, h2⟩ := hh.slot q t x hq hx; ⟨v, h1, hst.rel hh.good h2⟩, ⟨fun d hd => ?_, ?_⟩, by have := hh.bsw; omega, fun l hl => by cases hl⟩
    · rcases List.mem_append.1 hd with hd | hd
      · rw [List.mem_singleton.1 hd]
        exact ⟨_, rfl, hh.bsw, fun hy => by have := (hh.good.yok _ hy).1; omega, hD⟩
      · exact (hh.defs.step hh.good hst).mks d hd
    · refine List.pairwise_cons.2 ⟨fun d hd => ?_, hh.defs.nd⟩
      obtain ⟨r, h1, _, _, h2⟩ := hh.defs.mks d hd
      rw [h1]
      simp only [ne_eq, Target.collected.injEq]
      have := (Array.getElem?_eq_some_iff.1 h2).1
      omega
  | some l₀ =>
    obtain ⟨_, r₀, h0⟩ := hh.rd l₀ rfl
    let r : Loop := { state := .ready, pending := none, fn, tmps := a.tmps, params := ps, assign, body, defers := r₀.defers }
    let w₁ := w.alloc (.loop r)
    have hsz : w₁.heap.size = w.heap.size + 1 := by simp [w₁, World.size_alloc]
    have hk : ∀ b, b < w.heap.size → w₁.heap[b]? = w.heap[b]? := fun b hb => old _ _ b hb
    obtain ⟨hG, hst⟩ := hh.good.more (w' := w₁) (by omega) hk
    have run : (Instr.enterLoop fn a.tmps ps assign body (some l₀)).run P w = .ok (w.heap.size, []) w₁ := by
      unfold Instr.enterLoop
      simp only [Sem.run_bind, run_getLoop h0, run_newObj_alloc, Result.andThen, Sem.run_pure]
      rfl
    exact ⟨w.heap.size, [], w₁, r, run, Nat.le_refl _, World.alloc_heap_new w _, rfl, rfl, rfl, rfl, by omega, hk, ⟨rfl, rfl⟩, hG, hh.size, hh.len, fun q t x hq hx => let ⟨v, h1, h2⟩ := hh.slot q t x hq hx; ⟨v, h1, hst.rel hh.good h2⟩, hh.defs.step hh.good hst, by have := hh.bsw; omega, hh.rd.step hh.good hst⟩

theorem Step.pokeL {L : LRec} {X₁ : Nat → Prop} {ρ₁ : List Loc} {H₁ H : AHeap} {w₁ : World} (h : Step (C.more L) X₁ ρ₁ H₁ w₁ X ρ H w) (o : Obj) : Step (C.more L) X₁ ρ₁ H₁ w₁ X ρ H (w.putObj L.l o) :=
  ⟨by rw [World.putObj_size]; exact h.size, fun b hb hr hy => by
    have hne : b ≠ L.l := fun e => hy (.inr e)
    rw [World.putObj_heap_other hne]; exact h.keep b hb hr hy, h.xs, h.rs, h.hst, h.io⟩

theorem Here.slots {nt : Nat} {κ : List Nat} {rd : Option Nat} {bs : Nat} {a : Act} (hh : Here C X ρ S w nt κ rd bs s a) : Slots X ρ S.H w κ s a.tmps := hh.slot

theorem zip_fold (ps : Array Nat) (vs : Array Value) (t : Array Value) : (ps.zip vs).foldl (fun tmps (p : Nat × Value) => tmps.setIfInBounds p.1 p.2) t = (ps.toList.zip vs.toList).foldl (fun tmps (p : Nat × Value) => tmps.setIfInBounds p.1 p.2) t := by
  rw [← Array.foldl_toList, Array.toList_zip]

/-- One round. -/
theorem round {nt : Nat} {κ qs : List Nat} {owns : List Nat} {x y : ACode} {ps : Array Tmp} {assign body : Code} {L : LRec} {n : Nat} (h1 : comp P nt owns κ assign = some x) (h2 : comp P nt owns κ body = some y) (hqs : ps.toList.mapM κ.idxOf? = some qs) (hlt : ∀ t ∈ ps.toList, t < nt) (hn : κ.Nodup) (hk : C.k0 = k0) (hE : EnvOk P C E)
    (hr1 : L.r.params = ps) (hr2 : L.r.assign = assign) (hr3 : L.r.body = body) (hsz : L.r.tmps.size = nt) (hlen : s.length = κ.length) (hsl : Slots L.X L.ρ L.H L.w κ s L.r.tmps) (hLY : ¬ C.Y L.l) (hCY : ∀ (i : Nat) (M : LRec), C.ls[i]? = some M → C.Y M.l) :
    YOk P (C.more L) L C.ls.length (bodyY P k0 E qs x y s) := by
  rintro args S₁ K₁ X₁ ρ₁ w₂ vals n ⟨ha0, hb⟩ hp hG' ha
  obtain ⟨hG, p, hp1, hL, hp2, hs1, hs2⟩ := hG'.unloop hCY
  rw [hp] at hp2
  cases hp2
  rw [← hE.len] at hb
  have hqsl : ps.toList.length = qs.length := by
    have : ∀ (ps qs : List Nat), ps.mapM κ.idxOf? = some qs → ps.length = qs.length := by
      intro ps
      induction ps with
      | nil => intro qs h; simp at h; simp [h]
      | cons p ps ih =>
        intro qs h
        simp only [List.mapM_cons, Option.bind_eq_bind, Option.pure_def] at h
        cases h1 : κ.idxOf? p with
        | none => simp [h1] at h
        | some q =>
          cases h2 : ps.mapM κ.idxOf? with
          | none => simp [h1, h2] at h
          | some qs' =>
            simp only [h1, h2, Option.bind_some, Option.some.injEq] at h
            subst h
            simp [ih _ h2]
    exact this _ _ hqs
  have hvs : vals.size = L.r.params.size := by
    rw [hr1, ← ha.len, ha0, ← hqsl]; simp
  refine ⟨hvs, roundIn_of_wpIn (F := Fence.wide) trivial ?_⟩
  have e0 : (fun (tmps : Array Value) (x : Nat × Value) => match x with | (t, a) => tmps.setIfInBounds t a) = fun tmps (p : Nat × Value) => tmps.setIfInBounds p.1 p.2 := rfl
  rw [hr1, hr2, hr3, e0, zip_fold]
  obtain ⟨g1, g2, g3⟩ := Slots.setL hn ps.toList qs args vals.toList s L.r.tmps hqs hlt hsz (by rw [ha0, hqsl]) (by rw [ha.len]; simp) (fun i x u hx hu => ha.rel i x u hx (by simpa using hu)) (fun q t x hq hx => let ⟨v, a1, a2⟩ := hsl q t x hq hx; ⟨v, a1, a2.mono hs1 hs2⟩)
  have hh : Here C X₁ ρ₁ { S₁ with p := S₁.p.take C.ls.length } w₂ nt κ (some L.l) w₂.heap.size (setL s qs args) { tmps := (ps.toList.zip vals.toList).foldl (fun tmps (p : Nat × Value) => tmps.setIfInBounds p.1 p.2) L.r.tmps, defers := [] } :=
    ⟨hG, g2, by rw [g3]; exact hlen, g1, ⟨fun d hd => by simp at hd, by simp⟩, Nat.le_refl _, fun l hl => by cases hl; exact ⟨hLY, _, hL⟩⟩
  refine wpIn_mono (hb assign nt owns κ h1 C X₁ ρ₁ w₂ (some L.l) _ _ n hk hE hh) ?_
  rintro e a₃ w₃ ⟨ae, s₃, S₃, X₃, ρ₃, rfl, hq, hh₃, hst₃⟩
  cases ae with
  | r => exact hq.elim
  | x id => exact hq.elim
  | n =>
    have hL₃ : w₃.heap[L.l]? = some (.loop (LoopSt L.r none)) := hst₃.other hG hLY hL (fun _ _ _ => by simp)
    refine ⟨_, run_beginRound hL₃ rfl, ?_⟩
    have hnd : ∀ {a : Act} {w : World} {X ρ S s r}, Here C X ρ S w nt κ (some L.l) w₂.heap.size s a → w.heap[L.l]? = some (.loop r) → ∀ d ∈ a.defers, d.target ≠ .collected L.l := by
      intro a w X ρ S s r hh hl d hd e
      obtain ⟨r', k1, k2, k3, k4⟩ := hh.defs.mks d hd
      rw [k1] at e
      simp only [Target.collected.injEq] at e
      subst e
      rw [hl] at k4; cases k4
    have hh₄ := hh₃.poke (.loop { LoopSt L.r none with state := .busy }) hLY hL₃ (fun _ _ _ => by simp) (hnd hh₃ hL₃) (fun l hl e => ⟨_, rfl⟩)
    have hL₄ : (w₃.putObj L.l (.loop { LoopSt L.r none with state := .busy })).heap[L.l]? = some (.loop { LoopSt L.r none with state := .busy }) := World.putObj_heap_same (Array.getElem?_eq_some_iff.1 hL₃).1
    refine wpIn_mono (hq body nt owns κ h2 C X₃ ρ₃ _ (some L.l) _ a₃ n hk hE hh₄) ?_
    rintro e a₅ w₅ ⟨ae, s₅, S₅, X₅, ρ₅, rfl, hK, hh₅, hst₅⟩
    have hL₅ : w₅.heap[L.l]? = some (.loop { LoopSt L.r none with state := .busy }) := hst₅.other hh₄.good hLY hL₄ (fun _ _ _ => by simp)
    have hrec : (Obj.loop { ({ LoopSt L.r none with state := .busy } : Loop) with state := if ae.jump.isNone then .ready else .done, pending := ae.jump }) = .loop (LoopSt L.r ae.jump) := by
      cases ae <;> rfl
    have hend := run_endRound (P := P) ae.jump hL₅
    rw [hrec] at hend
    have hh₆ := hh₅.poke (.loop (LoopSt L.r ae.jump)) hLY hL₅ (fun _ _ _ => by simp) (hnd hh₅ hL₅) (fun l hl e => ⟨_, rfl⟩)
    have hL₆ : (w₅.putObj L.l (.loop (LoopSt L.r ae.jump))).heap[L.l]? = some (.loop (LoopSt L.r ae.jump)) := World.putObj_heap_same (Array.getElem?_eq_some_iff.1 hL₅).1
    -- the whole way
    have st : Step (C.more L) X₁ ρ₁ S₁.H w₂ X₅ ρ₅ S₅.H (w₅.putObj L.l (.loop (LoopSt L.r ae.jump))) := by
      have a1 : Step (C.more L) X₁ ρ₁ S₁.H w₂ X₃ ρ₃ S₃.H (w₃.putObj L.l (.loop { LoopSt L.r none with state := .busy })) := (hst₃.loop (L := L)).pokeL _
      exact (a1.trans (hst₅.loop (L := L))).pokeL _
    have hG₆ : Good (C.more L) X₅ ρ₅ { S₅ with p := S₅.p ++ [ae.jump] } (w₅.putObj L.l (.loop (LoopSt L.r ae.jump))) :=
      hh₆.good.loop hL₆ (hs1.trans (st.stays (S := S₁) hG')) (hs2.trans st.hst)
    cases ae with
    | n => exact ⟨_, _, hend, true, rfl, _, X₅, ρ₅, hK, hG₆, st⟩
    | r => exact ⟨_, _, hend, false, rfl, _, X₅, ρ₅, hK, hG₆, st⟩
    | x id => exact ⟨_, _, hend, false, rfl, _, X₅, ρ₅, hK, hG₆, st⟩

theorem AW.rng {f : Opd} {qs : List Nat} {x y : ACode} {id : FuncId} {caps : List AV} (hf : opd s [] f = .fn id caps)
    (h : ∀ (l : Nat), ACall P k0 (mute E ++ [(l, bodyY P k0 E qs x y s)]) id (.yl l :: caps) { S with p := S.p ++ [none] } (rngK Q s)) : AW P k0 E (.rng f qs x y) Q s S := by
  intro c nt owns κ hc C X ρ w rd bs a n hk hE hh
  unfold comp at hc
  split at hc <;> (try (split at hc)) <;> (try (split at hc)) <;> (try cases hc)
  rename_i fo ps assign body _ _ _ _ hcond hfo hqs h1 h2
  simp only [Bool.and_eq_true, decide_eq_true_eq, List.all_eq_true] at hcond
  obtain ⟨⟨_, hlt⟩, hn⟩ := hcond
  refine wpIn_rangeFunc (fun fn _ => ?_)
  obtain ⟨l, mark, w₁, r, he, hl, hL, r1, r2, r3, r4, hsz, hkeep, hio, hh₁⟩ := enter hh fn ps assign body (P := P)
  -- the function's value
  have hrel : Rel X ρ S.H w₁ (.fn id caps) (a.eval fo) := by
    rw [← hf]
    have hst := (hh.good.more (w' := w₁) hsz hkeep hio).2
    exact hst.rel hh.good (opd_rel (L := []) (κ := κ) (nt := nt) (RegInv.start hh) (j := 0) (Nat.le_refl _) (R := []) (fun k hk => by omega) hfo (fun t _ i o hi => by omega) (fun t _ i o _ ho => by simp at ho))
  generalize hq : a.eval fo = q at hrel
  cases hrel with
  | fn _ _ vs hvl hvr =>
    obtain ⟨hcall, _⟩ := h l
    let L : LRec := ⟨l, r, X, ρ, S.H, w₁⟩
    have hLY : ¬ C.Y l := fun hy => by have := (hh.good.yok l hy).1; omega
    have hG' : Good (C.more L) X ρ { S with p := S.p ++ [none] } w₁ := hh₁.good.loop (L := L) hL (.refl _ _) (.refl _ _)
    have hE' : EnvOk P (C.more L) (mute E ++ [(l, bodyY P k0 E qs x y s)]) := by
      refine ⟨by simp [Ctx.more, mute, hE.len], fun i M z hi hz => ?_⟩
      rcases Nat.lt_or_ge i C.ls.length with hlt' | hge
      · simp only [Ctx.more, List.getElem?_append_left hlt'] at hi
        rw [List.getElem?_append_left (by simp [mute, ← hE.len]; exact hlt')] at hz
        simp only [mute, List.getElem?_map, Option.map_eq_some_iff] at hz
        obtain ⟨z', hz', rfl⟩ := hz
        exact ⟨(hE.ok i M z' hi hz').1, fun args S K X ρ w vals n hy => hy.elim⟩
      · simp only [Ctx.more, List.getElem?_append_right hge] at hi
        rw [List.getElem?_append_right (by simp [mute, ← hE.len]; exact hge)] at hz
        have hml : (mute E).length = C.ls.length := by simp [mute, hE.len]
        rw [hml] at hz
        cases hj : i - C.ls.length with
        | succ k => rw [hj] at hi; simp at hi
        | zero =>
          rw [hj] at hi hz
          simp at hi hz
          subst hi; subst hz
          have hi' : i = C.ls.length := by omega
          subst hi'
          refine ⟨rfl, round h1 h2 hqs hlt hn hk hE r2 r3 r4 (by show r.tmps.size = nt; rw [r1]; exact hh.size) hh.len (by show Slots X ρ S.H w₁ κ s r.tmps; rw [r1]; exact hh₁.slots) hLY (fun i M hi => ?_) (n := n)⟩
          have hip : i < S.p.length := by rw [← hh.good.lsn]; exact (List.getElem?_eq_some_iff.1 hi).1
          exact (hh.good.loops i M S.p[i] hi (List.getElem?_eq_getElem hip)).1
    have hargs : ArgsR X ρ S.H w₁ (.yl l :: caps) (#[.func (.yield l) #[] #[]] ++ vs) := by
      refine ⟨by simp [hvl]; omega, fun i x u hx hu => ?_⟩
      cases i with
      | zero =>
        rw [Array.getElem?_append_left (by simp)] at hu
        simp at hx hu
        subst hx; subst hu
        exact .yl l
      | succ i =>
        simp only [List.getElem?_cons_succ] at hx
        rw [Array.getElem?_append_right (by simp)] at hu
        exact hvr i x u hx (by simpa using hu)
    have hcst : ∀ v, a.eval (.const v) = v := fun _ => rfl
    have hres : (resolve a.eval (rangeCall fo l) 0).run P w₁ = .ok { target := .fn (.func id) vs, args := #[.func (.yield l) #[] #[]] } w₁ := by
      simp [resolve, rangeCall, hq, hcst, Deferred.ofValue]
    refine ⟨l, mark, w₁, _, w₁, id, #[.func (.yield l) #[] #[]] ++ vs, w₁, he, hres, fun _ _ => trivial, ?_, fun h => by simp [wideR] at h, ?_⟩
    · simp [invoke, callFunc_run hcall]
    · refine CallsIn.mono (F := wideR rd) ((h l).2 (C.more L) X ρ w₁ _ (n - 1) hk hE' hG' hargs) ?_
      rintro e w₃ ⟨v, rfl, r₃, S₃, X₃, ρ₃, ⟨ae, p, hp, hQ⟩, hG₃, _, hst₃⟩
      have hCY : ∀ (i : Nat) (M : LRec), C.ls[i]? = some M → C.Y M.l := fun i M hi => by
        have hip : i < S.p.length := by rw [← hh.good.lsn]; exact (List.getElem?_eq_some_iff.1 hi).1
        exact (hh.good.loops i M S.p[i] hi (List.getElem?_eq_getElem hip)).1
      obtain ⟨hG₄, pj, hp1, hL₃, hp2, _⟩ := hG₃.unloop hCY
      have hpl : S₃.p.length = C.ls.length + 1 := by have := hG₃.lsn; simp [Ctx.more] at this; omega
      have hpp : p = S₃.p.take C.ls.length ∧ pj = ae.jump := by
        have : p.length = C.ls.length := by rw [hp] at hpl; simp at hpl; exact hpl
        rw [hp] at hp1
        have := List.append_inj hp1 (by simp; omega)
        exact ⟨by rw [hp]; exact this.1, by simpa using this.2.symm⟩
      obtain ⟨rfl, rfl⟩ := hpp
      have hst : (LoopSt r ae.jump).state ≠ .busy := by cases ae <;> simp [LoopSt, AEx.jump]
      have hend := run_endLoop (P := P) hL₃ hst
      have hpend : (LoopSt L.r ae.jump).pending = ae.jump := rfl
      rw [hpend] at hend
      have ho : ∀ (c : Array Value) (E : TypeId) (fz : Nat × Nat), Obj.loop (LoopSt L.r ae.jump) ≠ .cells c E fz := fun _ _ _ => by simp
      -- back in this frame
      have hh₃ : Here C X₃ ρ₃ { S₃ with p := S₃.p.take C.ls.length } w₃ nt κ rd bs s { a with defers := mark ++ a.defers } := by
        refine ⟨hG₄, hh₁.size, hh₁.len, fun q t x hq hx => let ⟨v, a1, a2⟩ := hh₁.slot q t x hq hx; ⟨v, a1, hst₃.rel hG' a2⟩, ⟨fun d hd => ?_, hh₁.defs.nd⟩, Nat.le_trans hh₁.bsw hst₃.size, fun l' hl' => ?_⟩
        · obtain ⟨r', k1, k2, k3, k4⟩ := hh₁.defs.mks d hd
          refine ⟨r', k1, k2, k3, hst₃.other hG' (fun hy => ?_) k4 (fun _ _ _ => by simp)⟩
          rcases hy with hy | hy
          · exact k3 hy
          · rw [show r' = l from hy, hL] at k4; cases k4
        · obtain ⟨k1, r', k2⟩ := hh.rd l' hl'
          have hl'w := (Array.getElem?_eq_some_iff.1 k2).1
          refine ⟨k1, r', hst₃.other hG' (fun hy => ?_) (by rw [hkeep l' hl'w]; exact k2) (fun _ _ _ => by simp)⟩
          rcases hy with hy | e
          · exact k1 hy
          · have : l' = l := e
            omega
      have hnd : ∀ d ∈ mark ++ a.defers, d.target ≠ .collected l := by
        intro d hd e
        obtain ⟨r', k1, k2, k3, k4⟩ := hh₁.defs.mks d hd
        rw [k1] at e
        simp only [Target.collected.injEq] at e
        subst e
        rw [hL] at k4; cases k4
      have hh₄ := hh₃.poke (.loop { LoopSt L.r ae.jump with state := .exhausted }) hLY hL₃ ho hnd (fun l' hl' e => ⟨_, rfl⟩)
      have st : Step C X ρ S.H w X₃ ρ₃ S₃.H (w₃.putObj L.l (.loop { LoopSt L.r ae.jump with state := .exhausted })) := by
        refine ⟨by rw [World.putObj_size]; exact Nat.le_trans hsz hst₃.size, fun b hb hr hy => ?_, fun b hb => ?_, fun id b cs hb => ?_, hst₃.hst, ⟨hst₃.io.1.trans hio.1, hst₃.io.2.trans hio.2⟩⟩
        · have hbl : b ≠ l := by omega
          rw [World.putObj_heap_other (show b ≠ L.l from hbl), hst₃.keep b (by omega) hr (fun hy' => hy'.elim hy hbl), hkeep b hb]
        · rcases hst₃.xs b hb with h | h
          · exact .inl h
          · exact .inr (by omega)
        · rcases hst₃.rs id b cs hb with h | h
          · exact .inl h
          · exact .inr (by omega)
      refine ⟨ae.jump, _, hend, ?_⟩
      cases ae with
      | n => exact ⟨.n, s, _, X₃, ρ₃, rfl, hQ, hh₄, st⟩
      | r => exact wpIn_ret ⟨.r, s, _, X₃, ρ₃, rfl, hQ, hh₄, st⟩
      | x i => exact wpIn_exit ⟨.x i, s, _, X₃, ρ₃, rfl, hQ, hh₄, st⟩

end Go.Proofs.Ytpmgmingjggegaa.AL
