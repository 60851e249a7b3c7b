/- Functions from their bodies; functions that touch nothing. -/
import Derived.Test.YtpmgmingjggegaaAlU
import Derived.RangeFuncRecord
set_option linter.unusedVariables false
set_option linter.unusedSimpArgs false
namespace Go.Proofs.Ytpmgmingjggegaa.AL
open Go

variable {P : Program} {C : Ctx} {X : Nat → Prop} {ρ : List Loc} {S : St} {w : World} {k0 ℓ : Nat} {E : Env} {Q : KQ} {s s' : List AV} {S' : St}

/-- A block that is no cells turns. -/
theorem Good.poke (hG : Good C X ρ S w) {b : Nat} {o : Obj} (o' : Obj) (hy : ¬ C.Y b) (hb : w.heap[b]? = some o) (ho : ∀ (c : Array Value) (E : TypeId) (fz : Nat × Nat), o ≠ .cells c E fz) :
    Good C X ρ S (w.putObj b o') ∧ Stays X w X (w.putObj b o') := by
  have hst : Stays X w X (w.putObj b o') := by
    refine ⟨fun k c E fz hx hk => ⟨hx, ?_⟩⟩
    rw [World.putObj_heap_other (fun e => by subst e; rw [hb] at hk; exact ho c E fz (Option.some.inj hk))]
    exact hk
  refine ⟨⟨⟨hG.sim.len, fun id B b' cs hB hb' => ?_, hG.sim.none, hG.sim.inj, fun b' hb' => by rw [World.putObj_size]; exact hG.sim.small b' hb'⟩, hG.base, hG.new, fun k hk => ?_, hG.lsn, fun i L hi => ⟨(hG.hist i L hi).1.trans hst, (hG.hist i L hi).2⟩, fun i L p hi hp => ?_⟩, hst⟩
  · have h0 := hG.sim.blk id B b' cs hB hb'
    obtain ⟨h1, h2, h3, c, E, h4, h5, h6, h7, h8⟩ := h0
    have hne : b' ≠ b := fun e => by subst e; rw [hb] at h4; exact ho c E (0, 0) (Option.some.inj h4)
    exact ⟨h1, h2, h3, c, E, by rw [World.putObj_heap_other hne]; exact h4, h5, h6, h7, fun i r j x u hi hj hu => (h8 i r j x u hi hj hu).mono hst (.refl _ _)⟩
  · obtain ⟨h1, h2⟩ := hG.yok k hk
    refine ⟨by rw [World.putObj_size]; exact h1, fun c E fz => ?_⟩
    have hne : k ≠ b := fun e => hy (by rw [← e]; exact hk)
    rw [World.putObj_heap_other hne]
    exact h2 c E fz
  · obtain ⟨h1, h2⟩ := hG.loops i L p hi hp
    have hne : L.l ≠ b := fun e => hy (by rw [← e]; exact h1)
    exact ⟨h1, by rw [World.putObj_heap_other hne]; exact h2⟩

theorem Here.poke {nt : Nat} {κ : List Nat} {rd : Option Nat} {bs : Nat} {a : Act} (hh : Here C X ρ S w nt κ rd bs s a) {b : Nat} {o : Obj} (o' : Obj) (hy : ¬ C.Y b) (hb : w.heap[b]? = some o) (ho : ∀ (c : Array Value) (E : TypeId) (fz : Nat × Nat), o ≠ .cells c E fz)
    (hd : ∀ d ∈ a.defers, d.target ≠ .collected b) (hr : ∀ l, rd = some l → l = b → ∃ r, o' = .loop r) : Here C X ρ S (w.putObj b o') nt κ rd bs s a := by
  obtain ⟨hG, hst⟩ := hh.good.poke o' hy hb ho
  have hlt : b < w.heap.size := (Array.getElem?_eq_some_iff.1 hb).1
  refine ⟨hG, hh.size, hh.len, fun q t x hq hx => let ⟨v, h1, h2⟩ := hh.slot q t x hq hx; ⟨v, h1, h2.mono hst (.refl _ _)⟩, ⟨fun d hm => ?_, hh.defs.nd⟩, by rw [World.putObj_size]; exact hh.bsw, fun l hl => ?_⟩
  · obtain ⟨r, h1, h2, h3, h4⟩ := hh.defs.mks d hm
    refine ⟨r, h1, h2, h3, ?_⟩
    rw [World.putObj_heap_other (fun e => hd d hm (by rw [h1, e]))]
    exact h4
  · obtain ⟨h1, r, h2⟩ := hh.rd l hl
    refine ⟨h1, ?_⟩
    by_cases e : l = b
    · obtain ⟨r', rfl⟩ := hr l hl e
      exact ⟨r', by rw [e]; exact World.putObj_heap_same hlt⟩
    · exact ⟨r, by rw [World.putObj_heap_other e]; exact h2⟩

/-- A later block turns: the way from an earlier state stays. -/
theorem Step.poke {X₁ : Nat → Prop} {ρ₁ : List Loc} {H₁ : AHeap} {w₁ : World} {H : AHeap} (h : Step C X₁ ρ₁ H₁ w₁ X ρ H w) {b : Nat} (o' : Obj) (hb : w₁.heap.size ≤ b) : Step C X₁ ρ₁ H₁ w₁ X ρ H (w.putObj b o') :=
  ⟨by rw [World.putObj_size]; exact h.size, fun k hk hr hy => by rw [World.putObj_heap_other (by omega)]; exact h.keep k hk hr hy, h.xs, h.rs, h.hst, h.io⟩

def tupV : List Value → Value
  | [v] => v
  | vs => .tuple vs.toArray

theorem results_run {fn : Func} {tmps : Array Value} {vs : List Value} (h : ∀ (f : ResultVar → Sem Value), (∀ u, f (.tmp u) = pure (tmps.getD u undef)) → (∀ b t, f (.cell b t) = (do loadVar t (← asAddr (tmps.getD b undef)))) → (fn.results.toList.mapM f).run P w = .ok vs w) :
    (results fn tmps).run P w = .ok (tupV vs) w := by
  unfold results
  generalize fn.results = rs at h
  obtain ⟨l⟩ := rs
  rw [List.mapM_toArray]
  simp only [Sem.run_bind, Sem.run_map]
  rw [h _ (fun u => rfl) (fun b t => rfl)]
  rcases vs with _ | ⟨v, _ | ⟨v', vs⟩⟩ <;> simp [tupV]

theorem tupOf_rel {H : AHeap} {l : List AV} {vs : List Value} (hl : l.length = vs.length) (h : ∀ (i : Nat) (x : AV) (u : Value), l[i]? = some x → vs[i]? = some u → Rel X ρ H w x u) : Rel X ρ H w (tupOf l) (tupV vs) := by
  rcases l with _ | ⟨x, _ | ⟨x', l⟩⟩ <;> rcases vs with _ | ⟨v, _ | ⟨v', vs⟩⟩ <;> simp at hl
  · exact .tup _ _ rfl (fun i x u hx => by simp at hx)
  · exact h 0 x v rfl rfl
  · exact .tup _ _ (by simp [hl]) (fun i y u hy hu => h i y u hy (by simpa using hu))

/-- A function's body, translated. -/
def fnB (P : Program) (fn : Func) (owns κ : List Nat) (np : Nat) : Option (ACode × List RSp) :=
  match fn.body with
  | some c => match comp P fn.ntmps owns κ c, compRes P κ fn.results.toList with
    | some ac, some sp => if fn.name != "runtime.NumGoroutine" && decide (np ≤ fn.ntmps) && κ.all (fun t => decide (t < fn.ntmps)) then some (ac, sp) else none
    | _, _ => none
  | none => none

structure FnOk (P : Program) (f : FuncId) (owns κ : List Nat) (ac : ACode) (sp : List RSp) (np : Nat) : Prop where
  ok : ∃ fn c, P.funcs[f]? = some fn ∧ fn.body = some c ∧ comp P fn.ntmps owns κ c = some ac ∧ compRes P κ fn.results.toList = some sp ∧ fn.name ≠ "runtime.NumGoroutine" ∧ np ≤ fn.ntmps ∧ κ.all (fun t => decide (t < fn.ntmps)) = true

theorem FnOk.of {f : FuncId} {fn : Func} {owns κ : List Nat} {ac : ACode} {sp : List RSp} {np : Nat} (h : P.funcs[f]? = some fn) (hb : fnB P fn owns κ np = some (ac, sp)) : FnOk P f owns κ ac sp np := by
  unfold fnB at hb
  split at hb
  · rename_i c hc
    split at hb
    · rename_i h1 h2
      split at hb
      · rename_i hx
        cases hb
        simp only [Bool.and_eq_true, bne_iff_ne, ne_eq, decide_eq_true_eq] at hx
        exact ⟨fn, c, h, hc, h1, h2, hx.1.1, hx.1.2, hx.2⟩
      · cases hb
    · cases hb
  · cases hb

def RSp.q : RSp → Nat
  | .t q => q
  | .cell q _ _ => q

theorem compRes_lt {κ : List Nat} : ∀ {rs : List ResultVar} {sp : List RSp}, compRes P κ rs = some sp → ∀ r ∈ sp, r.q < κ.length
  | [], sp, h => by simp only [compRes, Option.some.injEq] at h; subst h; simp
  | .tmp t :: rs, sp, h => by
    simp only [compRes] at h
    split at h
    · rename_i q r h1 h2
      cases h
      intro r' hr'
      rcases List.mem_cons.1 hr' with rfl | hr'
      · exact (List.getElem?_eq_some_iff.1 (idxOfN_spec h1)).1
      · exact compRes_lt h2 r' hr'
    · cases h
  | .cell a ty :: rs, sp, h => by
    simp only [compRes] at h
    split at h
    · rename_i q g m r h1 h2 h3 h4
      split at h
      · cases h
        intro r' hr'
        rcases List.mem_cons.1 hr' with rfl | hr'
        · exact (List.getElem?_eq_some_iff.1 (idxOfN_spec h1)).1
        · exact compRes_lt h4 r' hr'
      · cases h
    · cases h

/-- What must hold as the body is left. -/
def KQ.fin (k0 ℓ : Nat) (sp : List RSp) (K : K2) : KQ := fun e s S => (match e with | .x _ => False | _ => True) ∧ aRes s S sp fun l => ∃ r S', Wk k0 ℓ [tupOf l] S [r] S' ∧ K r S'

theorem leaves {n : Nat} {fn : Func} {nt : Nat} {κ : List Nat} {bs : Nat} {sp : List RSp} {K : K2} {X₁ : Nat → Prop} {ρ₁ : List Loc} {H₁ : AHeap} {w₁ : World} (hk : C.k0 = k0) (hls : ∀ (i : Nat) (L : LRec), C.ls[i]? = some L → L.H.length ≤ H₁.length) (hle : H₁.length ≤ S.H.length) (hbs : w₁.heap.size ≤ bs) (hsp : compRes P κ fn.results.toList = some sp) :
    ∀ (ds : List Deferred) (w : World) (tmps : Array Value), Here C X ρ S w nt κ none bs s { tmps := tmps, defers := ds } → Step C X₁ ρ₁ H₁ w₁ X ρ S.H w → aRes s S sp (fun l => ∃ r S', Wk k0 H₁.length [tupOf l] S [r] S' ∧ K r S') →
      LeavesInM (wideR none) n P fn tmps (fun e w' => ∃ v, e = .returned v ∧ ∃ (r : AV) (S' : St) (X' : Nat → Prop) (ρ' : List Loc), K r S' ∧ Good C X' ρ' S' w' ∧ Rel X' ρ' S'.H w' r v ∧ Step C X₁ ρ₁ H₁ w₁ X' ρ' S'.H w') ds .returning w
  | [], w, tmps, hh, hst, h => by
    unfold LeavesInM LeavesIn
    have hlt : ∀ r ∈ sp, ∀ q, (match r with | .t q' => q' | .cell q' _ _ => q') = q → q < s.length := by
      intro r hr q e
      have := compRes_lt hsp r hr
      rw [hh.len, ← e]
      cases r <;> exact this
    have run : ∃ (l : List AV) (vs : List Value), (results fn tmps).run P w = .ok (tupV vs) w ∧ (∃ r S', Wk k0 H₁.length [tupOf l] S [r] S' ∧ K r S') ∧ l.length = vs.length ∧ ∀ (i : Nat) (x : AV) (u : Value), l[i]? = some x → vs[i]? = some u → Rel X ρ S.H w x u := by
      obtain ⟨l, vs, k1, k2, k3, k4, k5⟩ := res_run hh (fun | .tmp t => pure (tmps.getD t undef) | .cell a t => do loadVar t (← asAddr (tmps.getD a undef))) (fun u => rfl) (fun b t => rfl) fn.results.toList sp _ hsp hlt h
      refine ⟨l, vs, results_run (fun f h1 h2 => ?_), k2, by omega, k5⟩
      have e : f = (fun | .tmp t => pure (tmps.getD t undef) | .cell a t => do loadVar t (← asAddr (tmps.getD a undef)) : ResultVar → Sem Value) := by
        funext x
        cases x with
        | tmp t => exact h1 t
        | cell a t => exact h2 a t
      rw [e]
      exact k1
    obtain ⟨l, vs, k1, ⟨r, S', hw, hK⟩, k3, k4⟩ := run
    have hrel := tupOf_rel k3 k4
    obtain ⟨X', ρ', hG', ha', hD⟩ := hw C X ρ w #[_] hk hls hle hh.good ⟨rfl, fun i x u hx hu => by
      cases i with
      | zero => simp at hx hu; subst hx; subst hu; exact hrel
      | succ i => simp at hx⟩
    exact ⟨_, k1, _, rfl, r, S', X', ρ', hK, hG', ha'.rel 0 r _ rfl rfl, hst.dn hD⟩
  | d :: ds, w, tmps, hh, hst, h => by
    unfold LeavesInM
    obtain ⟨r, h1, h2, h3, h4⟩ := hh.defs.mks d (by simp)
    have hnd := List.pairwise_cons.1 hh.defs.nd
    refine ⟨by simp, .inl ⟨r, _, by rw [h1], run_takeDeferred h4, ?_⟩⟩
    have hh' : Here C X ρ S w nt κ none bs s { tmps := tmps, defers := ds } := ⟨hh.good, hh.size, hh.len, hh.slot, ⟨fun d hd => hh.defs.mks d (by simp [hd]), hnd.2⟩, hh.bsw, hh.rd⟩
    refine leaves hk hls hle hbs hsp ds _ tmps (hh'.poke _ h3 h4 (fun _ _ _ => by simp) (fun d' hd' e => hnd.1 d' hd' (by rw [h1, e])) (fun l hl => by cases hl)) (hst.poke _ (by omega)) h

theorem ACall.of_body {f : FuncId} {owns κ : List Nat} {ac : ACode} {sp : List RSp} {np : Nat} {args : List AV} {K : K2} (hf : FnOk P f owns κ ac sp np) (hl : args.length = np)
    (h : AW P k0 E ac (KQ.fin k0 S.H.length sp K) (κ.map fun t => args.getD t .junk) S) : ACall P k0 E f args S K := by
  obtain ⟨fn, c, h1, h2, h3, h4, h5, h6, h7⟩ := hf.ok
  refine ⟨by simp [callable, h1, h2, h5], fun C X ρ w vals n hk hE hG ha => ?_⟩
  refine callsIn_of_wp_marks (F := Fence.wide) h1 h2 trivial ?_
  have hsz : vals.size ≤ fn.ntmps := by rw [← ha.len]; omega
  have hh : Here C X ρ S w fn.ntmps κ none w.heap.size (κ.map fun t => args.getD t .junk) { tmps := vals ++ Array.replicate (fn.ntmps - vals.size) undef, defers := [] } := by
    refine ⟨hG, by simp; omega, by simp, fun q t x hq hx => ?_, ⟨fun d hd => by simp at hd, by simp⟩, Nat.le_refl _, fun l hl => by cases hl⟩
    simp only [List.getElem?_map, hq, Option.map_some, Option.some.injEq] at hx
    subst hx
    have htn : t < fn.ntmps := by
      have := List.all_eq_true.1 h7 t (List.mem_of_getElem? hq)
      simpa using this
    rcases Nat.lt_or_ge t vals.size with ht | ht
    · have hta : t < args.length := by rw [ha.len]; exact ht
      refine ⟨vals[t], by simp [Array.getElem?_append_left ht, ht], ?_⟩
      have := ha.rel t args[t] vals[t] (List.getElem?_eq_getElem hta) (Array.getElem?_eq_getElem ht)
      simpa [List.getD, List.getElem?_eq_getElem hta] using this
    · refine ⟨undef, ?_, ?_⟩
      · rw [Array.getElem?_append_right ht, Array.getElem?_replicate, if_pos (by omega)]
      · have hta : args.length ≤ t := by rw [ha.len]; exact ht
        simp only [List.getD, List.getElem?_eq_none hta]
        exact .junk _
  refine wpIn_mono (h c fn.ntmps owns κ h3 C X ρ w none w.heap.size _ n hk hE hh) ?_
  rintro e a' w' ⟨ae, s', S', X', ρ', rfl, ⟨he, hq⟩, hh', hst⟩
  have hle : S.H.length ≤ S'.H.length := by
    cases hn : S.H.length with
    | zero => omega
    | succ k =>
      obtain ⟨B', h1, _⟩ := hst.hst.keep k S.H[k] (List.getElem?_eq_getElem (by omega))
      have := (List.getElem?_eq_some_iff.1 h1).1
      omega
  cases ae with
  | x id => exact he.elim
  | n => exact leaves hk hG.lslen hle (Nat.le_refl _) h4 a'.defers w' a'.tmps hh' hst hq
  | r => exact leaves hk hG.lslen hle (Nat.le_refl _) h4 a'.defers w' a'.tmps hh' hst hq

theorem ACall.conseq {f : FuncId} {args : List AV} {K K' : K2} (h : ACall P k0 E f args S K) (hK : ∀ r S', K r S' → K' r S') : ACall P k0 E f args S K' := by
  refine ⟨h.1, fun C X ρ w vals n hk hE hG ha => CallsIn.mono (h.2 C X ρ w vals n hk hE hG ha) ?_⟩
  rintro e w' ⟨v, rfl, r, S', X', ρ', k1, k2, k3, k4⟩
  exact ⟨v, rfl, r, S', X', ρ', hK _ _ k1, k2, k3, k4⟩

theorem Rel.away {ρ' : List Loc} {H H' : AHeap} (hρ : ρ.length = H.length) {x : AV} {v : Value} (h : Rel X ρ H w x v) (hb : Below 0 x) : Rel X ρ' H' w x v := by
  have h1 := h.take (Nat.zero_le _) hρ hb
  simp only [List.take_zero] at h1
  exact h1.mono (.refl _ _) ⟨fun id B hB => by simp at hB⟩

/-- A function that is given data only, and hands back data only, touches nothing. -/
theorem ACall.frame {f : FuncId} {args : List AV} {K : AV → Prop} (hb : ∀ x ∈ args, Below 0 x) (h : ACall P 0 [] f args ⟨[], []⟩ (fun r _ => Below 0 r ∧ K r)) : ACall P k0 E f args S (fun r S' => S' = S ∧ K r) := by
  refine ⟨h.1, fun C X ρ w vals n hk hE hG ha => ?_⟩
  let C₁ : Ctx := ⟨X, 0, fun _ => False, []⟩
  have hG₁ : Good C₁ X [] ⟨[], []⟩ w :=
    ⟨⟨rfl, fun id B b cs h => by simp at h, fun id B h => by simp at h, fun id id' b cs cs' h => by simp at h, hG.sim.small⟩, fun b h => h, fun id b cs _ h => by simp at h, fun b h => h.elim, rfl, fun i L h => by simp [C₁] at h, fun i L p h => by simp [C₁] at h⟩
  have ha₁ : ArgsR X [] [] w args vals := ⟨ha.len, fun i x u hx hu => (ha.rel i x u hx hu).away hG.sim.len (hb x (List.mem_of_getElem? hx))⟩
  refine CallsIn.mono (h.2 C₁ X [] w vals n rfl ⟨rfl, fun i L y h => by simp [C₁] at h⟩ hG₁ ha₁) ?_
  rintro e w' ⟨v, rfl, r, S', X', ρ', ⟨k0', k1⟩, k2, k3, k4⟩
  have hkeep : ∀ b, b < w.heap.size → w'.heap[b]? = w.heap[b]? := fun b hb => k4.keep b hb (fun id cs h => by simp at h) (fun h => h)
  have hstays : Stays X w X' w' := k4.stays hG₁
  have hX : ∀ b, X b → X' b := k2.base
  refine ⟨v, rfl, r, S, X', ρ, ⟨rfl, k1⟩, ⟨⟨hG.sim.len, fun id B b cs hB hb => ?_, hG.sim.none, hG.sim.inj, k2.sim.small⟩, fun b hb => hX b (hG.base b hb), hG.new, fun b hb => ?_, hG.lsn, fun i L hi => ⟨(hG.hist i L hi).1.trans hstays, (hG.hist i L hi).2⟩, fun i L p hi hp => ?_⟩, k3.away k2.sim.len k0', ⟨k4.size, fun b hb _ _ => hkeep b hb, k4.xs, fun id b cs h => .inl ⟨id, cs, h⟩, .refl _ _, k4.io⟩⟩
  · have h0 := hG.sim.blk id B b cs hB hb
    have hw := hkeep b (hG.sim.small b h0.ex)
    obtain ⟨h1, h2, h3, c, E, h4, h5, h6, h7, h8⟩ := h0
    exact ⟨hX b h1, h2, h3, c, E, hw.trans h4, h5, h6, h7, fun i r j x u hi hj hu => (h8 i r j x u hi hj hu).mono hstays (.refl _ _)⟩
  · obtain ⟨h1, h2⟩ := hG.yok b hb
    exact ⟨Nat.lt_of_lt_of_le h1 k4.size, fun c E fz => by rw [hkeep b h1]; exact h2 c E fz⟩
  · obtain ⟨h1, h2⟩ := hG.loops i L p hi hp
    exact ⟨h1, (hkeep _ (hG.yok _ h1).1).trans h2⟩

end Go.Proofs.Ytpmgmingjggegaa.AL
