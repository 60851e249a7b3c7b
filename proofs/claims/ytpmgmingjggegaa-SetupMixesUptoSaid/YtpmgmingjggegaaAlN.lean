/- One operation: the machine does what the logic says. -/
import Derived.Test.YtpmgmingjggegaaAlM
set_option linter.unusedVariables false
set_option linter.unusedSimpArgs false
namespace Go.Proofs.Ytpmgmingjggegaa.AL
open Go

variable {P : Program} {C : Ctx} {X : Nat → Prop} {ρ : List Loc} {S : St} {w : World}
variable {rd : Option Nat} {n : Nat} {o : Oper} {a : Act} {next : Act → World → Prop} {Q : Exit → Act → World → Prop}

theorem opt_map {α β : Type} {x : Option α} {f : α → β} {y : β} (h : x.map f = some y) : ∃ z, x = some z ∧ f z = y := by
  cases x with
  | none => cases h
  | some z => exact ⟨z, rfl, by simpa using h⟩

set_option maxHeartbeats 2000000 in
theorem aop_sound {k0 : Nat} {E : Env} {own : Bool} {ds : List (Option Nat)} {κ : List Nat} {ao : AOp} {ev : Opd → AV} {K : K2} (hc : compOp P own ds κ o = some ao) (hop : ∀ x ∈ o.op.operands, ∀ (y : Opd), compOpd ds κ x = some y → Rel X ρ S.H w (ev y) (a.eval x))
    (hG : Good C X ρ S w) (hE : EnvOk P C E) (hk : C.k0 = k0) (h : aop P k0 E ao ev S K) (hK : ∀ v w', Post C X ρ S w K v w' → next (a.put o.dst v) w') : o.wpIn (wideR rd) n P a w next Q := by
  unfold compOp at hc
  split at hc
  · -- move
    rename_i x ho
    obtain ⟨y, h1, rfl⟩ := opt_map hc
    exact wpIn_value (by simp [ho]) (by simp [execOp, ho]) (hK _ _ (.same hG h (hop x (by simp [ho, Op.operands, Call.operands]) y h1)))
  · -- assign
    rename_i x ho
    obtain ⟨y, h1, rfl⟩ := opt_map hc
    exact wpIn_value (by simp [ho]) (by simp [execOp, ho]) (hK _ _ (.same hG h (hop x (by simp [ho, Op.operands, Call.operands]) y h1)))
  · -- pick
    rename_i c x y ho
    split at hc
    · rename_i c' x' y' h1 h2 h3
      cases hc
      simp only [aop, aPick] at h
      have hr := hop c (by simp [ho, Op.operands, Call.operands]) c' h1
      generalize ev c' = cc at h hr
      generalize hq : a.eval c = q at hr
      cases hr <;> try (exact h.elim)
      case d hd =>
        cases hd <;> try (exact h.elim)
        case lit =>
          cases q <;> try (exact h.elim)
          case bool b =>
            cases b with
            | true => exact wpIn_value (by simp [ho]) (by simp [execOp, ho, hq, asBool]) (hK _ _ (.same hG (h.1 rfl) (hop x (by simp [ho, Op.operands, Call.operands]) x' h2)))
            | false => exact wpIn_value (by simp [ho]) (by simp [execOp, ho, hq, asBool]) (hK _ _ (.same hG (h.2 rfl) (hop y (by simp [ho, Op.operands, Call.operands]) y' h3)))
    · cases hc
  · -- alloc
    rename_i e ho
    obtain ⟨z, h1, rfl⟩ := opt_map hc
    obtain ⟨v, w', hr, hp⟩ := alloc_sound hG (zeroOf_spec h1) h (.tuple #[])
    exact wpIn_value (by simp [ho]) (by simp [execOp, ho, hr]) (hK _ _ hp)
  · -- box
    rename_i e x ho
    split at hc
    · rename_i x' m h1 h2
      split at hc
      · rename_i hpos
        cases hc
        obtain ⟨v, w', hr, hp⟩ := box_sound (P := P) (t := e) hG hpos (hop x (by simp [ho, Op.operands, Call.operands]) x' h1) h
        exact wpIn_value (by simp [ho]) (by simp [execOp, ho, hr]) (hK _ _ hp)
      · cases hc
    · cases hc
  · -- build
    rename_i t parts ho
    split at hc
    · rename_i pl z h1 h2
      obtain ⟨ps, h3, rfl⟩ := opt_map hc
      obtain ⟨fields, h4, h5⟩ := placesOf_spec h1
      obtain ⟨hl, hr⟩ := compParts_spec h3
      obtain ⟨v, hrun, hp⟩ := build_sound (P := P) (vs := (parts.toList.map fun p => (p.1, a.eval p.2))) hG h4 (zeroOf_spec h2) h5 (by simpa using hl) (fun i p q hp hq => by
        simp only [List.getElem?_map, Option.map_eq_some_iff] at hp hq
        obtain ⟨p, hp, rfl⟩ := hp
        obtain ⟨q, hq, rfl⟩ := hq
        obtain ⟨a1, a2⟩ := hr i p q hp hq
        exact ⟨a1, hop _ (by simp only [ho, Op.operands]; exact List.mem_toArray.2 (List.mem_map.2 ⟨p, List.mem_of_getElem? hp, rfl⟩)) _ a2⟩) h
      refine wpIn_value (by simp [ho]) ?_ (hK _ _ hp)
      have e : (parts.toList.map fun p => (p.1, a.eval p.2)).toArray = parts.map fun (i, x) => (i, a.eval x) := by
        apply Array.ext'; simp
      rw [e] at hrun
      simp [execOp, ho, hrun]
    · cases hc
  · -- buildSlice
    rename_i t m parts ho
    split at hc
    · rename_i e ht
      split at hc
      · rename_i z ps h2 h3
        split at hc
        · rename_i hsm
          cases hc
          obtain ⟨hl, hr⟩ := compEls_spec h3
          obtain ⟨v, w', hrun, hp⟩ := bsl_sound (P := P) (vs := (parts.toList.map fun p => (p.1, a.eval p.2))) hG ht (zeroOf_spec h2) hsm (by simpa using hl) (fun i p q hp hq => by
            simp only [List.getElem?_map, Option.map_eq_some_iff] at hp hq
            obtain ⟨p, hp, rfl⟩ := hp
            obtain ⟨q, hq, rfl⟩ := hq
            obtain ⟨a1, a2⟩ := hr i p q hp hq
            exact ⟨a1, hop _ (by simp only [ho, Op.operands]; exact List.mem_toArray.2 (List.mem_map.2 ⟨p, List.mem_of_getElem? hp, rfl⟩)) _ a2⟩) h
          refine wpIn_value (by simp [ho]) ?_ (hK _ _ hp)
          have e : (parts.toList.map fun p => (p.1, a.eval p.2)).toArray = parts.map fun (i, x) => (i, a.eval x) := by
            apply Array.ext'; simp
          rw [e] at hrun
          simp [execOp, ho, hrun]
        · cases hc
      · cases hc
    · cases hc
  · -- load
    rename_i t x ho
    split at hc
    · rename_i x' g m h1 h2 h3
      split at hc
      · rename_i hg
        cases hc
        obtain ⟨v, hr, hp⟩ := load_sound (P := P) hG (tyOk_of h2 h3) (by intro e; subst e; simpa using hg) (hop x (by simp [ho, Op.operands, Call.operands]) x' h1) h
        exact wpIn_value (by simp [ho]) (by simp [execOp, ho, hr]) (hK _ _ hp)
      · cases hc
    · cases hc
  · -- store
    rename_i t x y ho
    split at hc
    · rename_i x' y' g m h1 h2 h3 h4
      cases hc
      obtain ⟨w', hr, hp⟩ := store_sound (P := P) hG (tyOk_of h3 h4) (hop x (by simp [ho, Op.operands, Call.operands]) x' h1) (hop y (by simp [ho, Op.operands, Call.operands]) y' h2) h
      exact wpIn_skip (by simp [ho]) (by simp [execOp, ho, hr]) (hK _ _ hp)
    · cases hc
  · -- nilCheck
    rename_i x ho
    obtain ⟨y, h1, rfl⟩ := opt_map hc
    obtain ⟨hr, hp⟩ := nil_sound (P := P) hG (hop x (by simp [ho, Op.operands, Call.operands]) y h1) h a.eval o x ho rfl
    exact wpIn_value (by simp [ho]) hr (hK _ _ hp)
  · -- binOp
    rename_i op t x y yt ho
    have fin : ∀ {v w'}, (do eqGuard op t x y (a.eval x) (a.eval y); binOp op t (a.eval x) (a.eval y) : Sem Value).run P w = .ok v w' → Post C X ρ S w K v w' → o.wpIn (wideR rd) n P a w next Q := by
      intro v w' hr hp
      refine wpIn_value (by simp [ho]) ?_ (hK _ _ hp)
      simp only [Sem.run_bind] at hr
      simp only [execOp, ho, Sem.run_bind, hr, Result.andThen_ok, Sem.run_pure]
    unfold compBin at hc
    split at hc
    · rename_i x' y' h1 h2
      have rx := hop x (by simp [ho, Op.operands, Call.operands]) x' h1
      have ry := hop y (by simp [ho, Op.operands, Call.operands]) y' h2
      split at hc
      · cases hc; obtain ⟨v, hr, hp⟩ := bin_sound (P := P) (a := x) (b := y) (t := t) hG rx ry h; exact fin hr hp
      · cases hc; obtain ⟨v, hr, hp⟩ := bin_sound (P := P) (a := x) (b := y) (t := t) hG rx ry h; exact fin hr hp
      · rename_i ht
        split at hc
        · cases hc; obtain ⟨v, hr, hp⟩ := beq_sound (P := P) (a := x) (b := y) (neq := false) hG ht rx ry h; exact fin hr hp
        · cases hc; obtain ⟨v, hr, hp⟩ := beq_sound (P := P) (a := x) (b := y) (neq := true) hG ht rx ry h; exact fin hr hp
        · cases hc
      · rename_i e ht
        split at hc
        · rename_i hn
          have hy : a.eval y = .slice none 0 0 := by
            unfold isNilSlice at hn
            split at hn
            · rfl
            · cases hn
          split at hc
          · cases hc; obtain ⟨v, hr, hp⟩ := sln_sound (P := P) (a := x) (b := y) (neq := false) hG ht rx h; rw [← hy] at hr; exact fin hr hp
          · cases hc; obtain ⟨v, hr, hp⟩ := sln_sound (P := P) (a := x) (b := y) (neq := true) hG ht rx h; rw [← hy] at hr; exact fin hr hp
          · cases hc
        · cases hc
      · rename_i fs ht
        split at hc
        · rename_i ks hks
          split at hc
          · cases hc
          · rename_i hg
            have hg : P.eqGuardType P.depth t = false := by simpa using hg
            split at hc
            · cases hc; obtain ⟨v, hr, hp⟩ := eqs_sound (P := P) (a := x) (b := y) (neq := false) hG ht hks (by omega) hg rx ry h; exact fin hr hp
            · cases hc; obtain ⟨v, hr, hp⟩ := eqs_sound (P := P) (a := x) (b := y) (neq := true) hG ht hks (by omega) hg rx ry h; exact fin hr hp
            · cases hc
        · cases hc
      · cases hc
    · cases hc
  · -- unOp
    rename_i op t x ho
    obtain ⟨y, h1, rfl⟩ := opt_map hc
    obtain ⟨v, hr, hp⟩ := un_sound (P := P) hG (hop x (by simp [ho, Op.operands, Call.operands]) y h1) h
    exact wpIn_value (by simp [ho]) (by simp [execOp, ho, hr]) (hK _ _ hp)
  · -- convert
    rename_i s t x ho
    split at hc
    · rename_i x' d k h1 h2 h3
      cases hc
      obtain ⟨v, hr, hp⟩ := cvi_sound (P := P) hG h2 h3 (hop x (by simp [ho, Op.operands, Call.operands]) x' h1) h
      exact wpIn_value (by simp [ho]) (by simp [execOp, ho, hr]) (hK _ _ hp)
    · rename_i x' h1 h2 h3
      cases hc
      obtain ⟨v, hr, hp⟩ := cvs_sound (P := P) hG h2 h3 (hop x (by simp [ho, Op.operands, Call.operands]) x' h1) h
      exact wpIn_value (by simp [ho]) (by simp [execOp, ho, hr]) (hK _ _ hp)
    · cases hc
  · -- makeFunc
    rename_i f first caps ho
    split at hc
    · rename_i hf
      obtain ⟨ys, h1, rfl⟩ := opt_map hc
      have hf : first = #[] := by simpa using hf
      subst hf
      have ha := ArgsR.of_opds (a := a) (fun x hx => hop x (by simp [ho, Op.operands, Call.operands, hx])) h1
      refine wpIn_value (by simp [ho]) (by simp [execOp, ho, Instr.makeFunc]) (hK (.func (.func f) #[] (caps.map a.eval)) w (.same hG h (.fn f _ _ ha.len ha.rel)))
    · cases hc
  · -- makeSlice
    rename_i t l c ho
    split at hc
    · rename_i e ht
      split at hc
      · rename_i z i l' c' h1 h2 h3 h4
        cases hc
        cases own with
        | false =>
          obtain ⟨v, w', hr, hp⟩ := mks_sound (P := P) hG ht (zeroOf_spec h1) (by rw [h2]; rfl) (hop l (by simp [ho, Op.operands, Call.operands]) l' h3) (hop c (by simp [ho, Op.operands, Call.operands]) c' h4) h
          exact wpIn_value (by simp [ho]) (by simp [execOp, ho, hr]) (hK _ _ hp)
        | true =>
          obtain ⟨v, w', hr, hp⟩ := mkd_sound (P := P) hG ht (zeroOf_spec h1) (by rw [h2]; rfl) (hop l (by simp [ho, Op.operands, Call.operands]) l' h3) (hop c (by simp [ho, Op.operands, Call.operands]) c' h4) h
          exact wpIn_value (by simp [ho]) (by simp [execOp, ho, hr]) (hK _ _ hp)
      · cases hc
    · cases hc
  · -- slice
    rename_i t x lo hi mx ho
    split at hc
    · rename_i e x' lo' hi' mx' ht h1 h2 h3 h4
      split at hc
      · rename_i m h5
        split at hc
        · rename_i hm
          cases hc
          obtain ⟨i, hi1, hi2⟩ := sizeOf?_spec h5
          simp only [Bool.and_eq_true, decide_eq_true_eq, Bool.or_eq_true, Option.isNone_iff_eq_none] at hm
          obtain ⟨v, hr, hp⟩ := slc_sound (P := P) hG ht hi1 hi2 hm.1 (hop x (by simp [ho, Op.operands, Call.operands]) x' h1) (OptR.of (fun x hx => hop x (by simp [ho, Op.operands, hx])) h2) (OptR.of (fun x hx => hop x (by simp [ho, Op.operands, hx])) h3) (OptR.of (fun x hx => hop x (by simp [ho, Op.operands, hx])) h4) (fun hs => by
            rcases hm.2 with h | h
            · rw [h] at hs; simp at hs
            · simpa using h) h
          exact wpIn_value (by simp [ho]) (by simp [execOp, ho, hr]) (hK _ _ hp)
        · cases hc
      · cases hc
    · rename_i x' lo' hi' ht h1 h2 h3 h4
      cases hc
      have hmx : mx = none := by
        cases mx with
        | none => rfl
        | some m => simp [compOpt] at h4
      subst hmx
      obtain ⟨v, hr, hp⟩ := sls_sound (P := P) hG ht (hop x (by simp [ho, Op.operands, Call.operands]) x' h1) (OptR.of (fun x hx => hop x (by simp [ho, Op.operands, hx])) h2) (OptR.of (fun x hx => hop x (by simp [ho, Op.operands, hx])) h3) h
      exact wpIn_value (by simp [ho]) (by simp [execOp, ho, hr]) (hK _ _ hp)
    · cases hc
  · -- fieldAddr
    rename_i s x f ho
    split at hc
    · rename_i fields x' hs h1
      split at hc
      · rename_i fd hf
        split at hc
        · rename_i m hm
          split at hc
          · cases hc
          · rename_i hz
            cases hc
            obtain ⟨i, hi1, hi2⟩ := sizeOf?_spec hm
            obtain ⟨v, hr, hp⟩ := fa_sound (P := P) hG hs hf hi1 (by omega) rfl (hop x (by simp [ho, Op.operands, Call.operands]) x' h1) h
            exact wpIn_value (by simp [ho]) (by simp [execOp, ho, hr]) (hK _ _ hp)
        · cases hc
      · cases hc
    · cases hc
  · -- field
    rename_i s x f ho
    split at hc
    · rename_i fields x' hs h1
      split at hc
      · rename_i fd hf
        split at hc
        · rename_i g m h2 h3
          split at hc
          · rename_i hg
            cases hc
            obtain ⟨v, hr, hp⟩ := fd_sound (P := P) hG hs hf (tyOk_of h2 h3) (by intro e; subst e; simpa using hg) rfl (hop x (by simp [ho, Op.operands, Call.operands]) x' h1) h
            exact wpIn_value (by simp [ho]) (by simp [execOp, ho, hr]) (hK _ _ hp)
          · cases hc
        · cases hc
      · cases hc
    · cases hc
  · -- indexAddr
    rename_i t x i ho
    split at hc
    · rename_i e x' i' ht h1 h2
      obtain ⟨m, hm, rfl⟩ := opt_map hc
      obtain ⟨ti, hi1, hi2⟩ := sizeOf?_spec hm
      obtain ⟨v, hr, hp⟩ := ixs_sound (P := P) hG ht hi1 hi2 (hop x (by simp [ho, Op.operands, Call.operands]) x' h1) (hop i (by simp [ho, Op.operands, Call.operands]) i' h2) h
      exact wpIn_value (by simp [ho]) (by simp [execOp, ho, hr]) (hK _ _ hp)
    · rename_i q e x' i' ht h1 h2
      obtain ⟨m, hm, rfl⟩ := opt_map hc
      obtain ⟨ti, hi1, hi2⟩ := sizeOf?_spec hm
      obtain ⟨v, hr, hp⟩ := ixa_sound (P := P) hG ht hi1 hi2 (hop x (by simp [ho, Op.operands, Call.operands]) x' h1) (hop i (by simp [ho, Op.operands, Call.operands]) i' h2) h
      exact wpIn_value (by simp [ho]) (by simp [execOp, ho, hr]) (hK _ _ hp)
    · cases hc
  · -- index
    rename_i t x i ho
    split at hc
    · rename_i x' i' ht h1 h2
      cases hc
      obtain ⟨v, hr, hp⟩ := ixc_sound (P := P) hG ht (hop x (by simp [ho, Op.operands, Call.operands]) x' h1) (hop i (by simp [ho, Op.operands, Call.operands]) i' h2) h
      exact wpIn_value (by simp [ho]) (by simp [execOp, ho, hr]) (hK _ _ hp)
    · cases hc
  · -- extract
    rename_i x i ho
    obtain ⟨y, h1, rfl⟩ := opt_map hc
    obtain ⟨v, hr, hp⟩ := ext_sound (P := P) hG (hop x (by simp [ho, Op.operands, Call.operands]) y h1) h
    exact wpIn_value (by simp [ho]) (by simp [execOp, ho, hr]) (hK _ _ hp)
  · -- builtin
    rename_i b args ts ho
    have fin : ∀ {v w'}, (builtin b ts o.type (args.map fun | .const _ => true | _ => false) (args.map a.eval)).run P w = .ok (.value v) w' → Post C X ρ S w K v w' → o.wpIn (wideR rd) n P a w next Q := by
      intro v w' hr hp
      refine wpIn_value (by simp [ho]) ?_ (hK _ _ hp)
      simp only [execOp, ho, resolve, Sem.run_bind, Sem.run_pure, Result.andThen_ok, invoke]
      exact hr
    unfold compBuiltin at hc
    split at hc
    · rename_i x t e1 e2
      have e1 : args = #[x] := by apply Array.ext'; simpa using e1
      have e2 : ts = #[t] := by apply Array.ext'; simpa using e2
      subst e1; subst e2
      split at hc
      · rename_i x' e h1 ht
        cases hc
        obtain ⟨v, hr, hp⟩ := len_sound (P := P) (t := t) (ty := o.type) hG (fun h => by cases h) (fun _ => ⟨e, ht⟩) (hop x (by simp [ho, Op.operands, Call.operands]) x' h1) h
        exact fin (by simp [builtin, hr]) hp
      · rename_i x' h1 ht
        cases hc
        obtain ⟨v, hr, hp⟩ := len_sound (P := P) (t := t) (ty := o.type) hG (fun _ => ht) (fun h => by cases h) (hop x (by simp [ho, Op.operands, Call.operands]) x' h1) h
        exact fin (by simp [builtin, hr]) hp
      · cases hc
    · rename_i x y t tx e1 e2
      have e1 : args = #[x, y] := by apply Array.ext'; simpa using e1
      have e2 : ts = #[t, tx] := by apply Array.ext'; simpa using e2
      subst e1; subst e2
      split at hc
      · rename_i x' y' e h1 h2 ht
        split at hc
        · rename_i i z h3 h4
          split at hc
          · rename_i hb
            cases hc
            simp only [Bool.and_eq_true, decide_eq_true_eq] at hb
            have hk' := srcOk_spec hb.2
            obtain ⟨⟨i', z', g1, g2, g3, g4⟩, gp, _⟩ := zeroOf_spec h4
            rw [h3] at g1; cases g1
            have he : ElOk P e i.size i.bytes := ⟨⟨i, z', h3, g2, rfl, rfl, g4⟩, by rw [g3] at gp; simp at gp; omega, hb.1⟩
            obtain ⟨v, w', hr, hp⟩ := app_sound (P := P) (ty := o.type) hG ht he hk' (hop x (by simp [ho, Op.operands, Call.operands]) x' h1) (hop y (by simp [ho, Op.operands, Call.operands]) y' h2) h
            exact fin (by simp [builtin, hr]) hp
          · cases hc
        · cases hc
      · cases hc
    · obtain ⟨ys, h1, rfl⟩ := opt_map hc
      have ha := ArgsR.of_opds (a := a) (fun x hx => hop x (by simp [ho, Op.operands, Call.operands, hx])) h1
      obtain ⟨v, hr, hp⟩ := mnx_sound (P := P) (mx := false) (us := (args.map a.eval).toList) (ts := ts) (ty := o.type) hG (by simpa using ha.len) (fun i y u hy hu => ha.rel i y u hy (by simpa using hu)) h
      simp only [Bool.false_eq_true, if_false, if_true, Array.toArray_toList] at hr
      exact fin (by simp [builtin, hr]) hp
    · obtain ⟨ys, h1, rfl⟩ := opt_map hc
      have ha := ArgsR.of_opds (a := a) (fun x hx => hop x (by simp [ho, Op.operands, Call.operands, hx])) h1
      obtain ⟨v, hr, hp⟩ := mnx_sound (P := P) (mx := true) (us := (args.map a.eval).toList) (ts := ts) (ty := o.type) hG (by simpa using ha.len) (fun i y u hy hu => ha.rel i y u hy (by simpa using hu)) h
      simp only [Bool.false_eq_true, if_false, if_true, Array.toArray_toList] at hr
      exact fin (by simp [builtin, hr]) hp
    · cases hc
  · -- call
    rename_i f args ts ho
    split at hc
    · rename_i f' xs h1 h2
      cases hc
      exact call_sound ho hG hE hk (hop f (by simp [ho, Op.operands, Call.operands]) f' h1) (ArgsR.of_opds (fun x hx => hop x (by simp [ho, Op.operands, Call.operands, hx])) h2) h hK
    · cases hc
  · cases hc

end Go.Proofs.Ytpmgmingjggegaa.AL
