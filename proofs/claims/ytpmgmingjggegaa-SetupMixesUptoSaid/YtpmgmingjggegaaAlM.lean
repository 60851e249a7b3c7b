/- Calls, and one operation's meaning as a whole: sound. -/
import Derived.Test.YtpmgmingjggegaaAlL
set_option linter.unusedVariables false
set_option linter.unusedSimpArgs false
namespace Go.Proofs.Ytpmgmingjggegaa.AL
open Go

variable {P : Program} {C : Ctx} {X : Nat → Prop} {ρ : List Loc} {S : St} {w : World}

def wideR (rd : Option Nat) : Fence := { fn := fun _ => True, depth := none, alive := false, round := rd }

/-- Machine values that read as these. -/
structure ArgsR (X : Nat → Prop) (ρ : List Loc) (H : AHeap) (w : World) (xs : List AV) (vs : Array Value) : Prop where
  len : xs.length = vs.size
  rel : ∀ (i : Nat) (x : AV) (u : Value), xs[i]? = some x → vs[i]? = some u → Rel X ρ H w x u

/-- What a loop's yield does is what is said of it. -/
def YOk (P : Program) (C : Ctx) (L : LRec) (i : Nat) (ys : YSpec) : Prop :=
  ∀ (args : List AV) (S : St) (K : Bool → St → Prop) (X : Nat → Prop) (ρ : List Loc) (w : World) (vals : Array Value) (n : Nat), ys args S K → S.p[i]? = some none → Good C X ρ S w → ArgsR X ρ S.H w args vals →
    vals.size = L.r.params.size ∧ RoundIn Fence.wide n P L.l L.r.fn ((L.r.params.zip vals).foldl (fun tmps (t, a) => tmps.setIfInBounds t a) L.r.tmps) L.r.assign L.r.body w
      (fun e w' => ∃ b : Bool, e = .returned (.bool b) ∧ ∃ (S' : St) (X' : Nat → Prop) (ρ' : List Loc), K b S' ∧ Good C X' ρ' S' w' ∧ Step C X ρ S.H w X' ρ' S'.H w')

abbrev Env := List (Nat × YSpec)

structure EnvOk (P : Program) (C : Ctx) (E : Env) : Prop where
  len : C.ls.length = E.length
  ok : ∀ (i : Nat) (L : LRec) (y : Nat × YSpec), C.ls[i]? = some L → E[i]? = some y → L.l = y.1 ∧ YOk P C L i y.2

/-- A function with a body. -/
def callable (P : Program) (f : FuncId) : Bool :=
  match P.funcs[f]? with
  | some fn => fn.body.isSome && fn.name != "runtime.NumGoroutine"
  | none => false

/-- A call comes to its end, and what it hands back, and the owned heap behind it, are as K says. -/
def ACall (P : Program) (k0 : Nat) (E : Env) (f : FuncId) (args : List AV) (S : St) (K : K2) : Prop :=
  callable P f = true ∧ ∀ (C : Ctx) (X : Nat → Prop) (ρ : List Loc) (w : World) (vals : Array Value) (n : Nat), C.k0 = k0 → EnvOk P C E → Good C X ρ S w → ArgsR X ρ S.H w args vals →
    CallsIn Fence.wide n P f vals w (fun e w' => ∃ v, e = .returned v ∧ Post C X ρ S w K v w')

def aCall (P : Program) (k0 : Nat) (E : Env) (f : AV) (args : List AV) (S : St) (K : K2) : Prop :=
  match f with
  | .fn id caps => ACall P k0 E id (args ++ caps) S K
  | .yl l => ∃ (i : Nat) (ys : YSpec), E[i]? = some (l, ys) ∧ S.p[i]? = some none ∧ ys args S (fun b S' => K (.bool b) S')
  | _ => False

def aop (P : Program) (k0 : Nat) (E : Env) (ao : AOp) (ev : Opd → AV) (S : St) (K : K2) : Prop :=
  match ao with
  | .mv x => K (ev x) S
  | .pick c x y => aPick (ev c) (ev x) (ev y) S K
  | .alloc z => K (.ep S.H.length 0 0 0) { S with H := S.H ++ [⟨z.length, 0, [z.map .d]⟩] }
  | .box n x => aBox n (ev x) S K
  | .build z ps => aBuild z (ps.map fun q => (q.1, q.2.1, ev q.2.2)) S K
  | .bsl own z n ps => aBsl own z n (ps.map fun q => (q.1, ev q.2)) S K
  | .load n g x => aLoad n g (ev x) S K
  | .store n x v => aStore n (ev x) (ev v) S K
  | .nil x => aNil (ev x) S K
  | .bin op x y => aBin op (ev x) (ev y) S K
  | .beq neq x y => aBeq neq (ev x) (ev y) S K
  | .eqs neq ks x y => aEqs neq ks (ev x) (ev y) S K
  | .sln neq x => aSln neq (ev x) S K
  | .un op x => aUn op (ev x) S K
  | .cvi k x => aCvi k (ev x) S K
  | .cvs x => aCvs (ev x) S K
  | .mkf f caps => K (.fn f (caps.map ev)) S
  | .mks z b x y => aMks z b (ev x) (ev y) S K
  | .mkd z b x y => aMkd z b (ev x) (ev y) S K
  | .slc n x lo hi mx => aSlc n (ev x) (lo.map ev) (hi.map ev) (mx.map ev) S K
  | .sls x lo hi => aSls (ev x) (lo.map ev) (hi.map ev) S K
  | .fa off x => aFa off (ev x) S K
  | .fd off n g x => aFd off n g (ev x) S K
  | .ixs n x i => aIxs n (ev x) (ev i) S K
  | .ixa m n x i => aIxa m n (ev x) (ev i) S K
  | .ixc x i => aIxc (ev x) (ev i) S K
  | .len str x => aLen str (ev x) S K
  | .app n b x y => aApp n b (ev x) (ev y) S K
  | .mnx mx xs => aMnx mx (xs.map ev) S K
  | .ext x i => aExt (ev x) i S K
  | .call f xs => aCall P k0 E (ev f) (xs.map ev) S K
  | .b2s _ | .s2b _ => False

variable {rd : Option Nat} {n : Nat} {o : Oper} {a : Act} {next : Act → World → Prop} {Q : Exit → Act → World → Prop}

theorem wpIn_value {v : Value} {w' : World} (hd : ∀ c, o.op ≠ .defer c) (h : (execOp a.eval o).run P w = .ok (.value v) w') (hn : next (a.put o.dst v) w') : o.wpIn (wideR rd) n P a w next Q := by
  refine ⟨fun _ _ => trivial, ?_⟩
  rw [Oper.semAt_eq _ _ _ hd, h]
  exact hn
theorem wpIn_skip {w' : World} (hd : ∀ c, o.op ≠ .defer c) (h : (execOp a.eval o).run P w = .ok .skip w') (hn : next (a.put o.dst undef) w') : o.wpIn (wideR rd) n P a w next Q := by
  refine ⟨fun _ _ => trivial, ?_⟩
  rw [Oper.semAt_eq _ _ _ hd, h]
  exact hn

theorem compOpds_spec {ds : List (Option Nat)} {κ : List Nat} : ∀ {xs : List Operand} {ys : List Opd}, compOpds ds κ xs = some ys → xs.length = ys.length ∧ ∀ (i : Nat) (x : Operand) (y : Opd), xs[i]? = some x → ys[i]? = some y → compOpd ds κ x = some y
  | [], ys, h => by simp [compOpds] at h; subst h; exact ⟨rfl, fun i x y h => by simp at h⟩
  | x :: xs, ys, h => by
    simp only [compOpds] at h
    split at h
    · rename_i y ys' h1 h2
      cases h
      obtain ⟨l, r⟩ := compOpds_spec h2
      refine ⟨by simp [l], fun i x y hx hy => ?_⟩
      cases i with
      | zero => simp at hx hy; subst hx; subst hy; exact h1
      | succ i => exact r i x y (by simpa using hx) (by simpa using hy)
    · cases h

theorem callFunc_run {f : FuncId} (h : callable P f = true) (args : Array Value) : (callFunc f args).run P w = .ok (.enter f args) w := by
  unfold callable at h
  cases hf : P.funcs[f]? with
  | none => simp [hf] at h
  | some fn =>
    simp only [hf, Bool.and_eq_true, bne_iff_ne, ne_eq] at h
    obtain ⟨h1, h2⟩ := h
    have h3 : (fn.name == "runtime.NumGoroutine") = false := by simpa using h2
    cases hb : fn.body with
    | none => simp [hb] at h1
    | some c => simp [callFunc, run_program, hf, h2, hb]

theorem call_sound {k0 : Nat} {E : Env} {f : Operand} {args : Array Operand} {ts : Array TypeId} {fv : AV} {xs : List AV} {K : K2} (hop : o.op = .call { callee := .value f, args := args, argTypes := ts }) (hG : Good C X ρ S w) (hE : EnvOk P C E) (hk : C.k0 = k0)
    (hf : Rel X ρ S.H w fv (a.eval f)) (ha : ArgsR X ρ S.H w xs (args.map a.eval)) (h : aCall P k0 E fv xs S K) (hK : ∀ v w', Post C X ρ S w K v w' → next (a.put o.dst v) w') : o.wpIn (wideR rd) n P a w next Q := by
  refine ⟨fun _ _ => trivial, ?_⟩
  rw [Oper.semAt_eq _ _ _ (fun c => by rw [hop]; simp)]
  unfold aCall at h
  cases hfv : fv <;> (try (simp only [hfv] at h; done))
  case fn id caps =>
    simp only [hfv] at h hf
    obtain ⟨hc, h⟩ := h
    generalize hq : a.eval f = q at hf
    cases hf with
    | fn _ _ vs hl hr =>
      have run : (execOp a.eval o).run P w = .ok (.enter id (args.map a.eval ++ vs)) w := by
        simp [execOp, hop, resolve, hq, Deferred.ofValue, invoke, callFunc_run hc]
      rw [run, Oper.uponIn_enter]
      refine ⟨fun h => by simp [wideR] at h, ?_⟩
      have hargs : ArgsR X ρ S.H w (xs ++ caps) (args.map a.eval ++ vs) := by
        refine ⟨by simp [ha.len, hl], fun i x u hx hu => ?_⟩
        rcases Nat.lt_or_ge i xs.length with hi | hi
        · rw [List.getElem?_append_left hi] at hx
          rw [Array.getElem?_append_left (by rw [← ha.len]; exact hi)] at hu
          exact ha.rel i x u hx hu
        · rw [List.getElem?_append_right hi] at hx
          rw [Array.getElem?_append_right (by rw [← ha.len]; exact hi), ← ha.len] at hu
          exact hr _ x u hx hu
      have hcall := h C X ρ w _ (n - 1) hk hE hG hargs
      refine CallsIn.mono (F := wideR rd) (n := n - 1) (P := P) (f := id) (args := args.map a.eval ++ vs) (w := w) hcall ?_
      rintro e w' ⟨v, rfl, hp⟩
      exact hK v w' hp
  case yl l =>
    simp only [hfv] at h hf
    obtain ⟨i, ys, hi, hp, h⟩ := h
    generalize hq : a.eval f = q at hf
    cases hf with
    | yl =>
      have hlt : i < C.ls.length := by rw [hE.len]; exact (List.getElem?_eq_some_iff.1 hi).1
      obtain ⟨hl, hy⟩ := hE.ok i C.ls[i] (l, ys) (List.getElem?_eq_getElem hlt) hi
      simp only at hl
      obtain ⟨hsz, hr⟩ := hy xs S _ X ρ w _ (n - 1) h hp hG ha
      obtain ⟨_, hL⟩ := hG.loops i C.ls[i] none (List.getElem?_eq_getElem hlt) hp
      rw [hl] at hL hr
      have run : (execOp a.eval o).run P w = .ok (.round l C.ls[i].r.fn ((C.ls[i].r.params.zip (args.map a.eval)).foldl (fun tmps (t, a) => tmps.setIfInBounds t a) C.ls[i].r.tmps) C.ls[i].r.assign C.ls[i].r.body) w := by
        have hg : (getObj l).run P w = .ok (.loop (LoopSt C.ls[i].r none)) w := by simp [getObj, Sem.run, hL]
        simp [execOp, hop, resolve, hq, Deferred.ofValue, invoke, Instr.yield, Instr.getLoop, hg, LoopSt, hsz]
      rw [run, Oper.uponIn_round]
      refine ⟨fun h => by simp [wideR] at h, ?_⟩
      refine RoundIn.mono (F := wideR rd) (n := n - 1) (P := P) (l := l) (w := w) hr ?_
      rintro e w' ⟨b, rfl, S', X', ρ', hb, hG', hst⟩
      exact hK (.bool b) w' ⟨.bool b, S', X', ρ', hb, hG', .d _ _ (.lit _), hst⟩

theorem ArgsR.of_opds {ds : List (Option Nat)} {κ : List Nat} {ev : Opd → AV} {args : Array Operand} {xs : List Opd} (hop : ∀ x ∈ args, ∀ (y : Opd), compOpd ds κ x = some y → Rel X ρ S.H w (ev y) (a.eval x)) (h : compOpds ds κ args.toList = some xs) :
    ArgsR X ρ S.H w (xs.map ev) (args.map a.eval) := by
  obtain ⟨hl, hr⟩ := compOpds_spec h
  refine ⟨by simpa using hl.symm, fun i x u hx hu => ?_⟩
  simp only [List.getElem?_map, Option.map_eq_some_iff] at hx
  obtain ⟨y, hy, rfl⟩ := hx
  simp only [Array.getElem?_map, Option.map_eq_some_iff] at hu
  obtain ⟨z, hz, rfl⟩ := hu
  exact hop z (Array.mem_of_getElem? hz) y (hr i z y (by simpa using hz) hy)

theorem OptR.of {ds : List (Option Nat)} {κ : List Nat} {ev : Opd → AV} {x : Option Operand} {y : Option Opd} (hop : ∀ x', x = some x' → ∀ (y : Opd), compOpd ds κ x' = some y → Rel X ρ S.H w (ev y) (a.eval x')) (h : compOpt ds κ x = some y) :
    OptR X ρ S.H w (y.map ev) (x.map a.eval) := by
  cases x with
  | none => simp [compOpt] at h; subst h; trivial
  | some x =>
    simp only [compOpt, Option.map_eq_some_iff] at h
    obtain ⟨y, hy, rfl⟩ := h
    exact hop x rfl y hy

theorem zeroOf_spec {t : TypeId} {z : List DV} (h : zeroOf P t = some z) : ZeroOk P t z := by
  unfold zeroOf at h
  cases hi : P.info? t with
  | none => simp [hi] at h
  | some i =>
    cases hz : i.zero with
    | none => simp [hi, hz] at h
    | some v =>
      simp only [hi, hz] at h
      split at h
      · rename_i hc
        cases h
        simp only [Bool.and_eq_true, beq_iff_eq, decide_eq_true_eq, List.all_eq_true] at hc
        refine ⟨⟨i, v, hi, hz, rfl, hc.1.1⟩, ?_, ⟨i, v, hi, hz, hc.2⟩⟩
        have := hc.1.1
        have := hc.1.2
        simp; omega
      · cases h

theorem tyOk_of {t : TypeId} {g : Bool} {m : Nat} (h1 : aggOf P t = some g) (h2 : sizeOf? P t = some m) : tyOk P t m g = true := by
  unfold aggOf at h1
  unfold sizeOf? at h2
  unfold tyOk
  cases hd : P.underlying t with
  | none => simp [hd] at h1
  | some d =>
    cases hi : P.info? t with
    | none => simp [hi] at h2
    | some i =>
      simp only [hd, Option.map_some, Option.some.injEq] at h1
      simp only [hi, Option.map_some, Option.some.injEq] at h2
      simp [h1, h2]

theorem sizeOf?_spec {t : TypeId} {m : Nat} (h : sizeOf? P t = some m) : ∃ i, P.info? t = some i ∧ i.size = m := by
  unfold sizeOf? at h
  cases hi : P.info? t with
  | none => simp [hi] at h
  | some i => exact ⟨i, rfl, by simpa [hi] using h⟩

theorem compParts_spec {ds : List (Option Nat)} {κ : List Nat} {places : List (Nat × Nat)} : ∀ {ps : List (Nat × Operand)} {ys : List (Nat × Nat × Opd)}, compParts ds κ places ps = some ys →
    ps.length = ys.length ∧ ∀ (i : Nat) (p : Nat × Operand) (q : Nat × Nat × Opd), ps[i]? = some p → ys[i]? = some q → places[p.1]? = some (q.1, q.2.1) ∧ compOpd ds κ p.2 = some q.2.2
  | [], ys, h => by simp [compParts] at h; subst h; exact ⟨rfl, fun i x y h => by simp at h⟩
  | (j, x) :: ps, ys, h => by
    simp only [compParts] at h
    split at h
    · rename_i p y ys' h1 h2 h3
      cases h
      obtain ⟨l, r⟩ := compParts_spec h3
      refine ⟨by simp [l], fun i x y hx hy => ?_⟩
      cases i with
      | zero => simp at hx hy; subst hx; subst hy; exact ⟨h1, h2⟩
      | succ i => exact r i x y (by simpa using hx) (by simpa using hy)
    · cases h

theorem compEls_spec {ds : List (Option Nat)} {κ : List Nat} : ∀ {ps : List (Nat × Operand)} {ys : List (Nat × Opd)}, compEls ds κ ps = some ys →
    ps.length = ys.length ∧ ∀ (i : Nat) (p : Nat × Operand) (q : Nat × Opd), ps[i]? = some p → ys[i]? = some q → p.1 = q.1 ∧ compOpd ds κ p.2 = some q.2
  | [], ys, h => by simp [compEls] at h; subst h; exact ⟨rfl, fun i x y h => by simp at h⟩
  | (j, x) :: ps, ys, h => by
    simp only [compEls] at h
    split at h
    · rename_i y ys' h1 h2
      cases h
      obtain ⟨l, r⟩ := compEls_spec h2
      refine ⟨by simp [l], fun i x y hx hy => ?_⟩
      cases i with
      | zero => simp at hx hy; subst hx; subst hy; exact ⟨rfl, h1⟩
      | succ i => exact r i x y (by simpa using hx) (by simpa using hy)
    · cases h

theorem placesOf_spec {t : TypeId} {pl : List (Nat × Nat)} (h : placesOf P t = some pl) : ∃ fields, P.underlying t = some (.struct fields) ∧ fields.toList.mapM (fun f => (P.info? f.type).map fun i => (f.offset, i.size)) = some pl := by
  unfold placesOf at h
  split at h
  · rename_i fields hd
    exact ⟨fields, hd, h⟩
  · cases h

end Go.Proofs.Ytpmgmingjggegaa.AL
