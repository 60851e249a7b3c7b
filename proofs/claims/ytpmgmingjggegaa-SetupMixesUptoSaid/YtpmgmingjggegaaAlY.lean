/- Walking: the steps of a proof about translated code. -/
import Derived.Test.YtpmgmingjggegaaAlX
set_option linter.unusedVariables false
set_option linter.unusedSimpArgs false
namespace Go.Proofs.Ytpmgmingjggegaa.AL
open Go

theorem get_set_self {α : Type} {H : List α} {id : Nat} {B B' : α} (h : H[id]? = some B) : (H.set id B')[id]? = some B' := by
  have := (List.getElem?_eq_some_iff.1 h).1
  simp [this]
theorem get_set_ne {α : Type} {H : List α} {id id' : Nat} {B' : α} (h : id' ≠ id) : (H.set id' B')[id]? = H[id]? := List.getElem?_set_ne h
theorem get_app {α : Type} {H T : List α} {id : Nat} {B : α} (h : H[id]? = some B) : (H ++ T)[id]? = some B := by
  rw [List.getElem?_append_left (List.getElem?_eq_some_iff.1 h).1]; exact h

theorem awp_cond {P : Program} {k0 : Nat} {E : Env} {Q : KQ} {s : List AV} {S : St} {q : Nat} {x y : ACode} (b : Bool) (hb : s.getD q .junk = .bool b) (h1 : b = true → AW P k0 E x Q (s.set q .junk) S) (h2 : b = false → AW P k0 E y Q (s.set q .junk) S) : AW P k0 E (.cond (.s q) x y) Q s S := .cond hb h1 h2

/-- A slice that was built is handed back as data; all owned memory is let go. -/
theorem Wk.fin {S : St} {id g n sz : Nat} {rows : List (List DV)} (hB : S.H[id]? = some ⟨sz, g, rows.map (·.map .d)⟩) (hsz : 0 < sz) (hn : n = rows.length) : Wk 0 0 [.os id g 0 n] S [.d (.sl sz rows)] { S with H := [] } := by
  have hid : id < S.H.length := (List.getElem?_eq_some_iff.1 hB).1
  have h1 : Wk 0 0 [.os id g 0 n] S [.d (.sl sz rows)] { S with H := S.H.set id ⟨sz, g + 1, []⟩ } := by
    refine Wk.freeze id _ rows _ (Nat.zero_le _) hB rfl hsz rfl (fun i x x' hx hx' => ?_) ⟨by simp, by simp [hid], fun i B hi hB' => ⟨B, by rw [List.getElem?_set_ne (Ne.symm hi)]; exact hB', rfl, rfl, rfl, fun k r r' hr hr' => ?_⟩⟩
    · cases i with
      | zero =>
        simp at hx hx'
        subst hx; subst hx'
        have := Frz.os (id := id) (g := g) (sz := sz) (rows := rows) 0 n
        rw [List.drop_zero, List.take_of_length_le (by omega)] at this
        exact this
      | succ i => simp at hx
    · rw [hr] at hr'; cases hr'
      exact ⟨rfl, fun j x x' hx hx' => by rw [hx] at hx'; cases hx'; exact .refl _⟩
  refine h1.trans ?_
  have := Wk.trunc (k0 := 0) (ℓ := 0) (vs := [.d (.sl sz rows)]) (S := { S with H := S.H.set id ⟨sz, g + 1, []⟩ }) 0 (Nat.zero_le _) (Nat.le_refl _) (fun x hx => by rw [List.mem_singleton.1 hx]; exact .d _) (fun B hB => by simp at hB)
  simpa using this

/-- Data is handed back; all owned memory is let go. -/
theorem Wk.drop {S : St} {x : AV} (hb : Below 0 x) : Wk 0 0 [x] S [x] { S with H := [] } := by
  have := Wk.trunc (k0 := 0) (ℓ := 0) (vs := [x]) (S := S) 0 (Nat.zero_le _) (Nat.le_refl _) (fun y hy => by rw [List.mem_singleton.1 hy]; exact hb) (fun B hB => by simp at hB)
  simpa using this

/-- A nil slice within owned memory is to become one's own. -/
theorem Wk.nilcell {k0 ℓ : Nat} {vs : List AV} {S : St} (id : Nat) (B : Blk) (i : Nat) (r : List AV) (j sz : Nat) (hB : S.H[id]? = some B) (hr : B.rows[i]? = some r) (hj : r[j]? = some (.d (.sl 0 []))) :
    Wk k0 ℓ vs S vs { S with H := S.H.set id { B with rows := B.rows.set i (r.set j (.os S.H.length 0 0 0)) } ++ [(⟨sz, 0, []⟩ : Blk)] } := by
  intro C X ρ w us hk hls hle hG ha
  obtain ⟨hG', hst, hρ⟩ := hG.ghost sz
  have hid : id < S.H.length := (List.getElem?_eq_some_iff.1 hB).1
  have hH : S.H.set id { B with rows := B.rows.set i (r.set j (.os S.H.length 0 0 0)) } ++ [(⟨sz, 0, []⟩ : Blk)] = (S.H ++ [(⟨sz, 0, []⟩ : Blk)]).set id { B with rows := B.rows.set i (r.set j (.os S.H.length 0 0 0)) } := by
    rw [List.set_append_left _ _ hid]
  rw [hH]
  generalize hB' : ({ B with rows := B.rows.set i (r.set j (.os S.H.length 0 0 0)) } : Blk) = B'
  have hB1 : (S.H ++ [(⟨sz, 0, []⟩ : Blk)])[id]? = some B := by rw [List.getElem?_append_left hid]; exact hB
  have hid1 : id < (S.H ++ [(⟨sz, 0, []⟩ : Blk)]).length := by simp; omega
  have sh : B'.gen = B.gen ∧ B'.sz = B.sz ∧ B'.rows.length = B.rows.length := by rw [← hB']; simp
  have hh : HStays (ρ ++ [none]) (S.H ++ [(⟨sz, 0, []⟩ : Blk)]) (ρ ++ [none]) ((S.H ++ [(⟨sz, 0, []⟩ : Blk)]).set id B') := by
    refine ⟨fun k D hD => ?_⟩
    by_cases e : k = id
    · subst e
      rw [hB1] at hD; cases hD
      exact ⟨B', List.getElem?_set_self hid1, by omega, fun _ => ⟨sh.2.1, sh.2.2, rfl⟩⟩
    · exact ⟨D, by rw [List.getElem?_set_ne (Ne.symm e)]; exact hD, Nat.le_refl _, fun _ => ⟨rfl, rfl, rfl⟩⟩
  have hnew : ((S.H ++ [(⟨sz, 0, []⟩ : Blk)]).set id B')[S.H.length]? = some ⟨sz, 0, []⟩ := by
    rw [List.getElem?_set_ne (by omega)]; simp
  have rel : ∀ {x : AV} {v : Value}, Rel X (ρ ++ [none]) (S.H ++ [(⟨sz, 0, []⟩ : Blk)]) w x v → Rel X (ρ ++ [none]) ((S.H ++ [(⟨sz, 0, []⟩ : Blk)]).set id B') w x v := fun h => h.mono (.refl _ _) hh
  have hD : Dn ℓ X ρ S.H X (ρ ++ [none]) ((S.H ++ [(⟨sz, 0, []⟩ : Blk)]).set id B') := .of_step (hst.hst.trans hh) (fun _ h => h) (fun id b cs h => by
    rcases hst.rs id b cs h with h' | h'
    · exact h'
    · have hlt := hG'.sim.small b (hG'.owned h)
      omega)
  refine ⟨X, ρ ++ [none], hG.dn ⟨by simp [hG.sim.len], fun k D b cs hD hb => ?_, fun k D hD hb => ?_, hG'.sim.inj, hG'.sim.small⟩ hG.base hG'.new hD hls, ⟨ha.len, fun k x u hx hu => rel (hst.rel hG (ha.rel k x u hx hu))⟩, hD⟩
  · by_cases e : k = id
    · subst e
      rw [List.getElem?_set_self hid1] at hD
      cases hD
      obtain ⟨h1, h2, h3, c, E, h4, h5, h6, h7, h8⟩ := hG'.sim.blk k B b cs hB1 hb
      refine ⟨h1, by omega, fun r' hr' => ?_, c, E, h4, h5, by rw [sh.2.1, sh.2.2]; exact h6, by rw [sh.2.1, sh.2.2]; exact h7, fun i' r' j' x u hi' hj' hu => ?_⟩
      · rw [← hB'] at hr' ⊢
        rcases List.mem_or_eq_of_mem_set hr' with h | h
        · exact h3 r' h
        · rw [h, List.length_set]; exact h3 r (List.mem_of_getElem? hr)
      · rw [← hB'] at hi'
        simp only at hi'
        rw [sh.2.1] at hu
        by_cases ei : i' = i
        · subst ei
          rw [List.getElem?_set_self (List.getElem?_eq_some_iff.1 hr).1] at hi'
          cases hi'
          by_cases ej : j' = j
          · subst ej
            rw [List.getElem?_set_self (List.getElem?_eq_some_iff.1 hj).1] at hj'
            cases hj'
            have := Rel.d_inv (h8 i' r j' _ u hr hj hu)
            cases this with
            | zero a => exact .osnil _ 0 ⟨sz, 0, []⟩ a hnew rfl hρ
            | empty _ _ _ h => omega
            | sl _ _ _ _ _ _ _ _ _ h => omega
          · rw [List.getElem?_set_ne (Ne.symm ej)] at hj'
            exact rel (h8 i' r j' x u hr hj' hu)
        · rw [List.getElem?_set_ne (Ne.symm ei)] at hi'
          exact rel (h8 i' r' j' x u hi' hj' hu)
    · rw [List.getElem?_set_ne (Ne.symm e)] at hD
      obtain ⟨h1, h2, h3, c, E, h4, h5, h6, h7, h8⟩ := hG'.sim.blk k D b cs hD hb
      exact ⟨h1, h2, h3, c, E, h4, h5, h6, h7, fun i r j x u hi hj hu => rel (h8 i r j x u hi hj hu)⟩
  · by_cases e : k = id
    · subst e
      rw [List.getElem?_set_self hid1] at hD
      cases hD
      have := hG'.sim.none k B hB1 hb
      exact List.eq_nil_of_length_eq_zero (by rw [sh.2.2, this]; rfl)
    · rw [List.getElem?_set_ne (Ne.symm e)] at hD
      exact hG'.sim.none k D hD hb

/-- Some is forgotten ahead of a call. -/
theorem ACall.wk {P : Program} {k0 : Nat} {E : Env} {f : FuncId} {args args' : List AV} {S S' : St} {K : K2} (hw : Wk k0 S.H.length args S args' S') (h : ACall P k0 E f args' S' K) : ACall P k0 E f args S K := by
  refine ⟨h.1, fun C X ρ w vals n hk hE hG ha => ?_⟩
  obtain ⟨X', ρ', hG', ha', hD⟩ := hw C X ρ w vals hk hG.lslen (Nat.le_refl _) hG ha
  refine CallsIn.mono (h.2 C X' ρ' w vals n hk hE hG' ha') ?_
  rintro e w' ⟨v, rfl, r, S'', X'', ρ'', k1, k2, k3, k4⟩
  exact ⟨v, rfl, r, S'', X'', ρ'', k1, k2, k3, ((Step.refl C X ρ S.H w).dn hD).trans k4⟩

end Go.Proofs.Ytpmgmingjggegaa.AL
