/- make, structs and slice literals, strings and bytes: sound. -/
import Derived.Test.YtpmgmingjggegaaAlJ
import Derived.Great.BuildSlice
import Derived.Lib.ConvBytes
set_option linter.unusedVariables false
set_option linter.unusedSimpArgs false
namespace Go.Proofs.Ytpmgmingjggegaa.AL
open Go

variable {P : Program} {C : Ctx} {X : Nat → Prop} {ρ : List Loc} {S : St} {w : World}

/-- A row and its machine values. -/
structure RowR (X : Nat → Prop) (ρ : List Loc) (H : AHeap) (w : World) (zs : List AV) (cs : Array Value) : Prop where
  len : zs.length = cs.size
  one : ∀ (i : Nat) (u : Value), cs[i]? = some u → u.oneCell' = true
  rel : ∀ (i : Nat) (x : AV) (u : Value), zs[i]? = some x → cs[i]? = some u → Rel X ρ H w x u

theorem fold_set (vs : List Value) : ∀ (off k : Nat) (cells : Array Value), off + k + vs.length ≤ cells.size →
    ((vs.zipIdx k).foldl (fun (cs : Array Value) (p : Value × Nat) => cs.setIfInBounds (off + p.2) p.1) cells).toList = cells.toList.take (off + k) ++ vs ++ cells.toList.drop (off + k + vs.length) := by
  induction vs with
  | nil => intro off k cells h; simp
  | cons v vs ih =>
    intro off k cells h
    rw [List.zipIdx_cons, List.foldl_cons, show k + 1 = k + 1 from rfl]
    have h' : off + (k + 1) + vs.length ≤ (cells.setIfInBounds (off + k) v).size := by simp at h ⊢; omega
    rw [ih off (k + 1) _ h']
    apply List.ext_getElem?
    intro j
    have hl : off + (k + 1) + vs.length ≤ (cells.setIfInBounds (off + k) v).toList.length := by simp at h ⊢; omega
    have hl2 : off + k + (v :: vs).length ≤ cells.toList.length := by simpa using h
    rw [seg_get _ _ _ _ hl, seg_get _ _ _ _ hl2]
    simp only [Array.getElem?_toList, Array.getElem?_setIfInBounds]
    have hv : (v :: vs).length = vs.length + 1 := rfl
    rw [hv] at h hl2 ⊢
    by_cases c1 : j < off + k
    · rw [if_pos (show j < off + (k + 1) by omega), if_neg (show ¬ off + k = j by omega), if_pos c1]
    · rw [if_neg c1]
      by_cases c2 : j = off + k
      · subst c2
        rw [if_pos (show off + k < off + (k + 1) by omega), if_pos rfl, if_pos (show off + k < cells.size by omega), if_pos (show off + k < off + k + (vs.length + 1) by omega)]
        simp
      · rw [if_neg (show ¬ j < off + (k + 1) by omega)]
        by_cases c3 : j < off + (k + 1) + vs.length
        · rw [if_pos c3, if_pos (show j < off + k + (vs.length + 1) by omega), show j - (off + k) = (j - (off + (k + 1))) + 1 by omega]
          simp
        · rw [if_neg c3, if_neg (show ¬ off + k = j by omega), if_neg (show ¬ j < off + k + (vs.length + 1) by omega)]

theorem fill_sound {H : AHeap} (place : Nat → Option (Nat × Nat)) : ∀ (parts : List (Nat × Value)) (aparts : List (Nat × List AV)) (zs : List AV) (cells : Array Value), parts.length = aparts.length →
    (∀ (i : Nat) (p : Nat × Value) (q : Nat × List AV), parts[i]? = some p → aparts[i]? = some q → place p.1 = some (q.1, p.2.cells.size) ∧ p.2.cells.size = q.2.length ∧ q.1 + q.2.length ≤ zs.length ∧ (∀ u ∈ p.2.cells.toList, u.oneCell' = true) ∧
      ∀ (k : Nat) (x : AV) (u : Value), q.2[k]? = some x → p.2.cells[k]? = some u → Rel X ρ H w x u) → RowR X ρ H w zs cells →
    ∃ cells', Instr.fill place cells parts = some cells' ∧ RowR X ρ H w (fillA zs aparts) cells' ∧ (fillA zs aparts).length = zs.length
  | [], aparts, zs, cells, hl, _, hR => by
    rw [List.eq_nil_of_length_eq_zero hl.symm]
    exact ⟨cells, rfl, hR, rfl⟩
  | p :: parts, [], zs, cells, hl, _, hR => by simp at hl
  | p :: parts, q :: aparts, zs, cells, hl, hp, hR => by
    obtain ⟨h1, h2, h3, h4, h5⟩ := hp 0 p q rfl rfl
    obtain ⟨i, v⟩ := p
    obtain ⟨off, cs⟩ := q
    simp only at h1 h2 h3 h4 h5
    have hsz : off + v.cells.size ≤ cells.size := by rw [h2, ← hR.len]; exact h3
    have hf := fold_set v.cells.toList off 0 cells (by simpa using hsz)
    simp only [Nat.add_zero] at hf
    have hcl : off + v.cells.toList.length ≤ cells.toList.length := by simpa using hsz
    have hR' : RowR X ρ H w (setCells zs.length zs off cs) (v.cells.zipIdx.foldl (fun cs (p : Value × Nat) => cs.setIfInBounds (off + p.2) p.1) cells) := by
      have e : (v.cells.zipIdx.foldl (fun (cs : Array Value) (p : Value × Nat) => cs.setIfInBounds (off + p.2) p.1) cells).toList = cells.toList.take off ++ v.cells.toList ++ cells.toList.drop (off + v.cells.toList.length) := by
        rw [← hf]
        congr 1
        rw [← Array.foldl_toList]
        congr 1
        simp
      have hget : ∀ j, (v.cells.zipIdx.foldl (fun (cs : Array Value) (p : Value × Nat) => cs.setIfInBounds (off + p.2) p.1) cells)[j]? = if j < off then cells[j]? else if j < off + v.cells.toList.length then v.cells[j - off]? else cells[j]? := by
        intro j
        rw [← Array.getElem?_toList, e, seg_get _ _ _ _ hcl]
        simp
      refine ⟨?_, fun j u hu => ?_, fun j x u hx hu => ?_⟩
      · have h1 := congrArg List.length e
        rw [seg_length _ _ _ hcl, Array.length_toList, Array.length_toList] at h1
        rw [setCells_length _ _ _ _ rfl h3, h1]
        exact hR.len
      · rw [hget] at hu
        split at hu
        · exact hR.one j u hu
        · split at hu
          · exact h4 u (by rw [Array.mem_toList_iff]; exact Array.mem_of_getElem? hu)
          · exact hR.one j u hu
      · rw [setCells_get _ _ _ _ rfl h3] at hx
        rw [hget] at hu
        have e2 : v.cells.toList.length = cs.length := by simpa using h2
        rw [e2] at hu
        split at hx
        · rename_i c; rw [if_pos c] at hu; exact hR.rel j x u hx hu
        · rename_i c
          rw [if_neg c] at hu
          split at hx
          · rename_i c2; rw [if_pos c2] at hu; exact h5 _ x u hx hu
          · rename_i c2; rw [if_neg c2] at hu; exact hR.rel j x u hx hu
    have hlen : (setCells zs.length zs off cs).length = zs.length := setCells_length _ _ _ _ rfl h3
    obtain ⟨cells', r1, r2, r3⟩ := fill_sound place parts aparts (setCells zs.length zs off cs) _ (by simpa using hl) (fun i p q hp' hq' => by
      obtain ⟨a1, a2, a3, a4, a5⟩ := hp (i + 1) p q hp' hq'
      exact ⟨a1, a2, by rw [hlen]; exact a3, a4, a5⟩) hR'
    refine ⟨cells', ?_, r2, by simp only [fillA]; rw [r3, hlen]⟩
    simp only [Instr.fill, h1]
    have hc : (decide (v.cells.size ≠ v.cells.size) || decide (off + v.cells.size > cells.size)) = false := by simp; omega
    rw [if_neg (by simpa using hc)]
    exact r1

theorem Rel.d_inv {H : AHeap} {x : DV} {v : Value} (h : Rel X ρ H w (.d x) v) : DRel X w x v := by
  cases h with
  | d _ _ h => exact h

theorem mks_sound {zero : List DV} {bytes : Nat} {x y : AV} {v u : Value} {K : K2} {t e : TypeId} (hG : Good C X ρ S w) (ht : P.underlying t = some (.slice e)) (hz : ZeroOk P e zero) (hb : (P.info? e).map (·.bytes) = some bytes)
    (hx : Rel X ρ S.H w x v) (hy : Rel X ρ S.H w y u) (hK : aMks zero bytes x y S K) : ∃ v' w', (Instr.makeSlice t v u).run P w = .ok v' w' ∧ Post C X ρ S w K v' w' := by
  obtain ⟨i, z, h1, h2, h3, h4, h5, h6⟩ := hz.rows (X := X) (ρ := ρ) (H := S.H) (w := w)
  have hbb : i.bytes = bytes := by simpa [h1] using hb
  unfold aMks at hK
  cases hx <;> try (exact hK.elim)
  case d x hd =>
    cases hd <;> try (exact hK.elim)
    case lit =>
      cases v <;> try (exact hK.elim)
      case int k l =>
        cases hy <;> try (exact hK.elim)
        case d y hd =>
          cases hd <;> try (exact hK.elim)
          case lit =>
            cases u <;> try (exact hK.elim)
            case int k' c =>
              obtain ⟨rfl, h0, hbl, hm, hK⟩ := hK
              have hr := run_make (P := P) w t e i z ht h1 h2 k k' l l h0 (Int.le_refl _) (by rw [hbb]; exact hbl) hm
              have hpos := hz.pos
              have hcell : ∀ q j, q < l.toNat → j < zero.length → (madeCells z.cells (l.toNat * i.size))[q * zero.length + j]? = z.cells[j]? := by
                intro q j hq hj
                have h7 : q * zero.length + j < l.toNat * i.size := by rw [h3]; exact row_apart hq hj
                have h8 : j < z.cells.size := by omega
                have h9 : (q * zero.length + j) % z.cells.size = j := by rw [h4, Nat.add_comm, Nat.add_mul_mod_self_right, Nat.mod_eq_of_lt hj]
                simp only [madeCells]
                rw [Array.getElem?_map, Array.getElem?_range]
                rw [if_pos h7]
                simp only [Option.map_some, h9]
                rw [getElem!_pos z.cells j h8, Array.getElem?_eq_getElem h8]
              obtain ⟨X', ρ', hG', hst, hρ⟩ := hG.alloc (w' := w.alloc (.cells (madeCells z.cells (l.toNat * i.size)) e)) (madeCells z.cells (l.toNat * i.size)) e (by simp) (alloc_old w _) (alloc_new w _) zero.length (List.replicate l.toNat (zero.map .d)) hpos
                (fun r hr => by rw [(List.mem_replicate.1 hr).2]; simp) (by rw [size_madeCells, List.length_replicate, h3]; exact Nat.le_refl _)
                (fun k u hk hu => by
                  rw [List.length_replicate] at hk
                  have hq : k / zero.length < l.toNat := Nat.div_lt_of_lt_mul (by rw [Nat.mul_comm]; exact hk)
                  have := hcell (k / zero.length) (k % zero.length) hq (Nat.mod_lt _ hpos)
                  rw [Nat.div_add_mod'] at this
                  rw [this] at hu
                  exact h5 u (by rw [Array.mem_toList_iff]; exact Array.mem_of_getElem? hu))
                (fun q r j x u hq hj hu => by
                  have hr := List.mem_of_getElem? hq
                  have hr := (List.mem_replicate.1 hr).2
                  subst hr
                  have hq' : q < l.toNat := by
                    have := (List.getElem?_eq_some_iff.1 hq).1
                    simpa using this
                  have hj' : j < zero.length := by
                    have := (List.getElem?_eq_some_iff.1 hj).1
                    simpa using this
                  rw [hcell q j hq' hj'] at hu
                  exact h6 j x u hj hu)
              refine ⟨_, _, hr, _, _, X', ρ', hK, hG', ?_, hst⟩
              have := Rel.os (X := X') (ρ := ρ') (w := w.alloc (.cells (madeCells z.cells (l.toNat * i.size)) e)) S.H.length 0 0 l.toNat w.heap.size (madeCells z.cells (l.toNat * i.size)).size l.toNat (⟨zero.length, 0, List.replicate l.toNat (zero.map .d)⟩ : Blk)
                (H := S.H ++ [⟨zero.length, 0, List.replicate l.toNat (zero.map .d)⟩]) (last_get _ _) rfl hρ (by simp) (Nat.le_refl _) (by unfold maxLen; omega) (by rw [size_madeCells, h3]; simp)
              simpa using this

theorem mkd_sound {zero : List DV} {bytes : Nat} {x y : AV} {v u : Value} {K : K2} {t e : TypeId} (hG : Good C X ρ S w) (ht : P.underlying t = some (.slice e)) (hz : ZeroOk P e zero) (hb : (P.info? e).map (·.bytes) = some bytes)
    (hx : Rel X ρ S.H w x v) (hy : Rel X ρ S.H w y u) (hK : aMkd zero bytes x y S K) : ∃ v' w', (Instr.makeSlice t v u).run P w = .ok v' w' ∧ Post C X ρ S w K v' w' := by
  obtain ⟨i, z, h1, h2, h3, h4, h5, h6⟩ := hz.rows (X := X) (ρ := ρ) (H := S.H) (w := w)
  have hbb : i.bytes = bytes := by simpa [h1] using hb
  unfold aMkd at hK
  cases hx <;> try (exact hK.elim)
  case d x hd =>
    cases hd <;> try (exact hK.elim)
    case lit =>
      cases v <;> try (exact hK.elim)
      case int k l =>
        cases hy <;> try (exact hK.elim)
        case d y hd =>
          cases hd <;> try (exact hK.elim)
          case lit =>
            cases u <;> try (exact hK.elim)
            case int k' c =>
              obtain ⟨rfl, h0, hbl, hm, hK⟩ := hK
              have hr := run_make (P := P) w t e i z ht h1 h2 k k' l l h0 (Int.le_refl _) (by rw [hbb]; exact hbl) hm
              have hpos := hz.pos
              have hcell : ∀ q j, q < l.toNat → j < zero.length → (madeCells z.cells (l.toNat * i.size))[q * zero.length + j]? = z.cells[j]? := by
                intro q j hq hj
                have h7 : q * zero.length + j < l.toNat * i.size := by rw [h3]; exact row_apart hq hj
                have h8 : j < z.cells.size := by omega
                have h9 : (q * zero.length + j) % z.cells.size = j := by rw [h4, Nat.add_comm, Nat.add_mul_mod_self_right, Nat.mod_eq_of_lt hj]
                simp only [madeCells]
                rw [Array.getElem?_map, Array.getElem?_range]
                rw [if_pos h7]
                simp only [Option.map_some, h9]
                rw [getElem!_pos z.cells j h8, Array.getElem?_eq_getElem h8]
              obtain ⟨hG', hst⟩ := hG.more (w' := w.alloc (.cells (madeCells z.cells (l.toNat * i.size)) e)) (by simp) (alloc_old w _)
              have hXn : ¬ X w.heap.size := fun h => by have := hG.sim.small _ h; omega
              refine ⟨_, _, hr, _, _, X, ρ, hK, hG', ?_, hst⟩
              refine .d _ _ (.sl zero.length _ w.heap.size 0 l.toNat l.toNat _ e (0, 0) hpos (by simp) (Nat.le_refl _) (by unfold maxLen; omega) (fun r hr => by rw [(List.mem_replicate.1 hr).2]) hXn (alloc_new w _) (by rw [size_madeCells, h3]; simp)
                (fun k u _ hk hu => ?_) (fun q r j x u hq hj hu => ?_))
              · rw [Nat.zero_add] at hk
                have hq : k / zero.length < l.toNat := Nat.div_lt_of_lt_mul (by rw [Nat.mul_comm]; exact hk)
                have := hcell (k / zero.length) (k % zero.length) hq (Nat.mod_lt _ hpos)
                rw [Nat.div_add_mod'] at this
                rw [this] at hu
                exact h5 u (by rw [Array.mem_toList_iff]; exact Array.mem_of_getElem? hu)
              · have hr := (List.mem_replicate.1 (List.mem_of_getElem? hq)).2
                subst hr
                have hq' : q < l.toNat := by
                  have := (List.getElem?_eq_some_iff.1 hq).1
                  simpa using this
                have hj' : j < r.length := (List.getElem?_eq_some_iff.1 hj).1
                rw [Nat.zero_add, hcell q j hq' hj'] at hu
                exact (h6 j (.d x) u (by simp [hj]) hu).d_inv.mono (hst.stays hG)

theorem build_sound {zero : List DV} {parts : List (Nat × Nat × AV)} {vs : List (Nat × Value)} {K : K2} {t : TypeId} {fields : Array Field} {places : List (Nat × Nat)} (hG : Good C X ρ S w) (ht : P.underlying t = some (.struct fields)) (hz : ZeroOk P t zero)
    (hp : fields.toList.mapM (fun f => (P.info? f.type).map fun i => (f.offset, i.size)) = some places) (hl : vs.length = parts.length)
    (hr : ∀ (i : Nat) (p : Nat × Value) (q : Nat × Nat × AV), vs[i]? = some p → parts[i]? = some q → places[p.1]? = some (q.1, q.2.1) ∧ Rel X ρ S.H w q.2.2 p.2) (hK : aBuild zero parts S K) :
    ∃ v', (Instr.build t vs.toArray).run P w = .ok v' w ∧ Post C X ρ S w K v' w := by
  obtain ⟨i, z, h1, h2, h3, h4, h5, h6⟩ := hz.rows (X := X) (ρ := ρ) (H := S.H) (w := w)
  obtain ⟨hq, hK⟩ := hK
  have hR0 : RowR X ρ S.H w (zero.map .d) z.cells := ⟨by simp [h4], fun k u hu => h5 u (by rw [Array.mem_toList_iff]; exact Array.mem_of_getElem? hu), h6⟩
  obtain ⟨cells', r1, r2, r3⟩ := fill_sound (X := X) (ρ := ρ) (w := w) (H := S.H) (places.toArray[·]?) vs (parts.map fun q => (q.1, q.2.2.cells)) (zero.map .d) z.cells (by simp [hl]) (fun k p q hp' hq' => by
    simp only [List.getElem?_map, Option.map_eq_some_iff] at hq'
    obtain ⟨q, hq', rfl⟩ := hq'
    obtain ⟨a1, a2⟩ := hr k p q hp' hq'
    obtain ⟨b1, b2, b3⟩ := hq q (List.mem_of_getElem? hq')
    obtain ⟨c1, c2, c3⟩ := a2.storable b2
    refine ⟨?_, c1, by simp only [List.length_map]; omega, c2, c3⟩
    simp only [List.getElem?_toArray, a1, c1, b1]) hR0
  have hb : P.built t vs.toArray.toList = some cells' := by
    simp only [Program.built, h1, ht, h2, hp]
    exact r1
  refine ⟨.agg cells', run_build w t _ _ hb, .same hG hK ?_⟩
  exact .agg _ _ r2.len r2.one r2.rel

theorem RowsR.set {H : AHeap} {sz : Nat} {rows : List (List AV)} {vals : List Value} (h : RowsR X ρ H w sz rows vals) {i : Nat} {cs : List AV} {vs : List Value} (hi : i < rows.length) (hc : cs.length = sz) (hv : vs.length = sz) (h1 : ∀ u ∈ vs, u.oneCell' = true)
    (hr : ∀ (k : Nat) (x : AV) (u : Value), cs[k]? = some x → vs[k]? = some u → Rel X ρ H w x u) : RowsR X ρ H w sz (rows.set i cs) (vals.take (i * sz) ++ vs ++ vals.drop (i * sz + vs.length)) := by
  have hm : (i + 1) * sz ≤ rows.length * sz := Nat.mul_le_mul_right _ hi
  rw [Nat.add_mul, Nat.one_mul] at hm
  have hl : i * sz + vs.length ≤ vals.length := by rw [h.len]; omega
  refine ⟨fun r hr => ?_, by rw [seg_length _ _ _ hl, h.len, List.length_set], fun u hu => ?_, fun i' r j x u hi' hj hu => ?_⟩
  · rcases List.mem_or_eq_of_mem_set hr with hr | rfl
    · exact h.row r hr
    · exact hc
  · rcases List.mem_append.1 hu with hu | hu
    · rcases List.mem_append.1 hu with hu | hu
      · exact h.one u (List.mem_of_mem_take hu)
      · exact h1 u hu
    · exact h.one u (List.mem_of_mem_drop hu)
  · rw [seg_get _ _ _ _ hl] at hu
    by_cases e : i' = i
    · subst e
      rw [List.getElem?_set_self hi, Option.some.injEq] at hi'
      subst hi'
      have hjs : j < sz := by have := (List.getElem?_eq_some_iff.1 hj).1; omega
      rw [if_neg (show ¬ i' * sz + j < i' * sz by omega), if_pos (show i' * sz + j < i' * sz + vs.length by omega), show i' * sz + j - i' * sz = j by omega] at hu
      exact hr j x u hj hu
    · rw [List.getElem?_set_ne (Ne.symm e)] at hi'
      have hjs : j < sz := by
        have h1 := h.row r (List.mem_of_getElem? hi')
        have h2 := (List.getElem?_eq_some_iff.1 hj).1
        omega
      have hu' : vals[i' * sz + j]? = some u := by
        rcases Nat.lt_or_gt_of_ne e with hlt | hgt
        · have := row_apart hlt hjs
          rw [if_pos this] at hu; exact hu
        · have h9 : (i + 1) * sz ≤ i' * sz := Nat.mul_le_mul_right _ hgt
          rw [Nat.add_mul, Nat.one_mul] at h9
          rw [if_neg (show ¬ i' * sz + j < i * sz by omega), if_neg (show ¬ i' * sz + j < i * sz + vs.length by omega)] at hu
          exact hu
      exact h.rel i' r j x u hi' hj hu'

theorem fillRows_sound {H : AHeap} {sz : Nat} (z : List AV) : ∀ (parts : List (Nat × Value)) (aparts : List (Nat × AV)) (rows : List (List AV)) (cells : Array Value), parts.length = aparts.length →
    (∀ (i : Nat) (p : Nat × Value) (q : Nat × AV), parts[i]? = some p → aparts[i]? = some q → p.1 = q.1 ∧ q.1 < rows.length ∧ q.2.cells.length = sz ∧ q.2.storable = true ∧ Rel X ρ H w q.2 p.2) → RowsR X ρ H w sz rows cells.toList →
    ∃ cells', Instr.fill (fun i => some (i * sz, sz)) cells parts = some cells' ∧ RowsR X ρ H w sz (fillRows z rows (aparts.map fun q => (q.1, q.2.cells))) cells'.toList ∧ (fillRows z rows (aparts.map fun q => (q.1, q.2.cells))).length = rows.length
  | [], aparts, rows, cells, hl, _, hR => by
    rw [List.eq_nil_of_length_eq_zero hl.symm]
    exact ⟨cells, rfl, hR, rfl⟩
  | p :: parts, [], rows, cells, hl, _, hR => by simp at hl
  | p :: parts, q :: aparts, rows, cells, hl, hp, hR => by
    obtain ⟨h0, h1, h2, h3, h4⟩ := hp 0 p q rfl rfl
    obtain ⟨i, v⟩ := p
    obtain ⟨i', x⟩ := q
    simp only at h0 h1 h2 h3 h4
    subst h0
    obtain ⟨c1, c2, c3⟩ := Rel.storable (S := ⟨H, []⟩) h4 h3
    have hm : (i + 1) * sz ≤ rows.length * sz := Nat.mul_le_mul_right _ h1
    rw [Nat.add_mul, Nat.one_mul] at hm
    have hcs : cells.size = rows.length * sz := by rw [← Array.length_toList, hR.len]
    have hvl : v.cells.toList.length = sz := by rw [Array.length_toList, c1, h2]
    have hf := fold_set v.cells.toList (i * sz) 0 cells (by rw [hvl]; omega)
    simp only [Nat.add_zero] at hf
    have e : (v.cells.zipIdx.foldl (fun (cs : Array Value) (p : Value × Nat) => cs.setIfInBounds (i * sz + p.2) p.1) cells).toList = cells.toList.take (i * sz) ++ v.cells.toList ++ cells.toList.drop (i * sz + v.cells.toList.length) := by
      rw [← hf]
      congr 1
      rw [← Array.foldl_toList]
      congr 1
      simp
    have hR' := hR.set (i := i) (cs := x.cells) (vs := v.cells.toList) h1 h2 hvl c2 (fun k y u hy hu => c3 k y u hy (by simpa using hu))
    rw [← e] at hR'
    obtain ⟨cells', r1, r2, r3⟩ := fillRows_sound z parts aparts (rows.set i x.cells) _ (by simpa using hl) (fun k p q hp' hq' => by
      obtain ⟨a0, a1, a2, a3, a4⟩ := hp (k + 1) p q hp' hq'
      exact ⟨a0, by rw [List.length_set]; exact a1, a2, a3, a4⟩) hR'
    refine ⟨cells', ?_, r2, by simp only [List.map_cons, fillRows]; rw [r3, List.length_set]⟩
    simp only [Instr.fill]
    have hvs : v.cells.size = sz := by rw [c1, h2]
    have hc : (decide (v.cells.size ≠ sz) || decide (i * sz + v.cells.size > cells.size)) = false := by simp [hvs]; omega
    rw [if_neg (by simpa using hc)]
    exact r1

theorem RowsR.replicate {H : AHeap} {zero : List DV} {z : Value} (h4 : z.cells.size = zero.length) (h5 : ∀ u ∈ z.cells.toList, u.oneCell' = true) (h6 : ∀ (k : Nat) (x : AV) (u : Value), (zero.map AV.d)[k]? = some x → z.cells[k]? = some u → Rel X ρ H w x u) (n : Nat) (hpos : 0 < zero.length) :
    RowsR X ρ H w zero.length (List.replicate n (zero.map .d)) ((Array.range (n * zero.length)).map (z.cells[· % z.cells.size]!)).toList := by
  have hcell : ∀ k, k < n * zero.length → ((Array.range (n * zero.length)).map (z.cells[· % z.cells.size]!)).toList[k]? = z.cells[k % zero.length]? := by
    intro k hk
    have h8 : k % zero.length < z.cells.size := by rw [h4]; exact Nat.mod_lt _ hpos
    rw [Array.getElem?_toList, Array.getElem?_map, Array.getElem?_range, if_pos hk]
    simp only [Option.map_some, h4]
    rw [getElem!_pos z.cells _ h8, Array.getElem?_eq_getElem h8]
  refine ⟨fun r hr => by rw [(List.mem_replicate.1 hr).2]; simp, by simp, fun u hu => ?_, fun i r j x u hi hj hu => ?_⟩
  · obtain ⟨k, hk⟩ := List.mem_iff_getElem?.1 hu
    have hlt : k < n * zero.length := by
      have := (List.getElem?_eq_some_iff.1 hk).1
      simpa using this
    rw [hcell k hlt] at hk
    exact h5 u (by rw [Array.mem_toList_iff]; exact Array.mem_of_getElem? hk)
  · have hr := (List.mem_replicate.1 (List.mem_of_getElem? hi)).2
    subst hr
    have hi' : i < n := by have := (List.getElem?_eq_some_iff.1 hi).1; simpa using this
    have hj' : j < zero.length := by have := (List.getElem?_eq_some_iff.1 hj).1; simpa using this
    rw [hcell _ (row_apart hi' hj'), Nat.add_comm, Nat.add_mul_mod_self_right, Nat.mod_eq_of_lt hj'] at hu
    exact h6 j x u hj hu

theorem unD_get : ∀ {r : List AV} {l : List DV}, unD r = some l → r = l.map .d
  | [], l, h => by simp [unD] at h; subst h; rfl
  | x :: r, l, h => by
    cases x <;> try (simp [unD] at h; done)
    rename_i y
    simp only [unD] at h
    split at h
    · rename_i l' hl'
      cases h
      rw [unD_get hl']; rfl
    · cases h
theorem unDs_get : ∀ {rs : List (List AV)} {ls : List (List DV)}, unDs rs = some ls → rs = ls.map (·.map .d)
  | [], ls, h => by simp [unDs] at h; subst h; rfl
  | r :: rs, ls, h => by
    simp only [unDs] at h
    split at h
    · rename_i l ls' h1 h2
      cases h
      rw [unD_get h1, unDs_get h2]; rfl
    · cases h

theorem bsl_sound {own : Bool} {zero : List DV} {n : Nat} {parts : List (Nat × AV)} {vs : List (Nat × Value)} {K : K2} {t e : TypeId} (hG : Good C X ρ S w) (ht : P.underlying t = some (.slice e)) (hz : ZeroOk P e zero) (hsm : n * zero.length ≤ 16777216)
    (hl : vs.length = parts.length) (hr : ∀ (i : Nat) (p : Nat × Value) (q : Nat × AV), vs[i]? = some p → parts[i]? = some q → p.1 = q.1 ∧ Rel X ρ S.H w q.2 p.2) (hK : aBsl own zero n parts S K) :
    ∃ v' w', (Instr.buildSlice t n vs.toArray).run P w = .ok v' w' ∧ Post C X ρ S w K v' w' := by
  obtain ⟨i, z, h1, h2, h3, h4, h5, h6⟩ := hz.rows (X := X) (ρ := ρ) (H := S.H) (w := w)
  have hpos := hz.pos
  obtain ⟨hq, hK⟩ := hK
  have hR0 := RowsR.replicate (X := X) (ρ := ρ) (w := w) (H := S.H) h4 h5 h6 n hpos
  obtain ⟨cells', r1, r2, r3⟩ := fillRows_sound (zero.map .d) vs parts (List.replicate n (zero.map .d)) _ hl (fun k p q hp hq' => by
    obtain ⟨a, b⟩ := hr k p q hp hq'
    obtain ⟨c1, c2, c3⟩ := hq q (List.mem_of_getElem? hq')
    exact ⟨a, by simpa using c3, c1, c2, b⟩) hR0
  rw [List.length_replicate] at r3
  have run : (Instr.buildSlice t n vs.toArray).run P w = .ok (.slice (some ⟨w.heap.size, 0, none⟩) n n) (w.alloc (.cells cells' e)) := by
    by_cases h0 : n = 0
    · subst h0
      have hvs : vs = [] := by
        cases vs with
        | nil => rfl
        | cons p vs =>
          cases parts with
          | nil => simp at hl
          | cons q parts => have := (hq q (by simp)).2.2; omega
      subst hvs
      have e0 : cells' = #[] := by
        have r0 : (Array.range 0).size = 0 := Array.size_range
        simp only [Instr.fill, Nat.zero_mul, Option.some.injEq] at r1
        rw [← r1, Array.eq_empty_of_size_eq_zero r0]
        simp
      subst e0
      have r0 : Array.range 0 = #[] := Array.eq_empty_of_size_eq_zero Array.size_range
      simp [Instr.buildSlice, run_underlying ht, run_sizeOf h1, Instr.fill, newRow, r0]
    · exact run_buildSlice w t e n vs.toArray cells' i z ht h1 h2 (by rw [h3]; omega) (by rw [h3]; exact Nat.ne_of_gt (Nat.mul_pos (by omega) hpos)) (by rw [h3]; exact r1)
  have hcs : cells'.size = n * zero.length := by rw [← Array.length_toList, r2.len, r3]
  have hcc : ∀ k, k < cells'.toList.length → cells'[k]? = cells'.toList[k]? := fun k _ => by simp
  obtain ⟨g1, g2⟩ := r2.cells hcc
  cases own with
  | true =>
    simp only [if_true] at hK
    obtain ⟨X', ρ', hG', hst, hρ⟩ := hG.alloc (w' := w.alloc (.cells cells' e)) cells' e (by simp) (alloc_old w _) (alloc_new w _) zero.length _ hpos r2.row (by rw [r3, hcs]; exact Nat.le_refl _) g1 g2
    refine ⟨_, _, run, _, _, X', ρ', hK, hG', ?_, hst⟩
    have := Rel.os (X := X') (ρ := ρ') (w := w.alloc (.cells cells' e)) S.H.length 0 0 n w.heap.size cells'.size n (⟨zero.length, 0, fillRows (zero.map .d) (List.replicate n (zero.map .d)) (parts.map fun q => (q.1, q.2.cells))⟩ : Blk)
      (H := S.H ++ [⟨zero.length, 0, fillRows (zero.map .d) (List.replicate n (zero.map .d)) (parts.map fun q => (q.1, q.2.cells))⟩]) (last_get _ _) rfl hρ (by simp only [r3]; omega) (Nat.le_refl _) (by unfold maxLen; have : n ≤ n * zero.length := Nat.le_mul_of_pos_right n hpos; omega) (by simp only [Nat.zero_add, hcs]; exact Nat.le_refl _)
    simpa using this
  | false =>
    simp only [Bool.false_eq_true, if_false] at hK
    obtain ⟨hG', hst⟩ := hG.more (w' := w.alloc (.cells cells' e)) (by simp) (alloc_old w _)
    have hstays := hst.stays hG
    by_cases h0 : n = 0
    · rw [if_pos h0] at hK
      subst h0
      exact ⟨_, _, run, _, _, X, ρ, hK, hG', .d _ _ (.zero _), hst⟩
    · rw [if_neg h0] at hK
      refine ⟨_, _, run, _, _, X, ρ, hK, hG', ?_, hst⟩
      have hXn : ¬ X w.heap.size := fun h => by have := hG.sim.small _ h; omega
      have hml : n ≤ maxLen := by unfold maxLen; have : n ≤ n * zero.length := Nat.le_mul_of_pos_right n hpos; omega
      unfold mkSl
      split
      · rename_i ds hds
        have hd := unDs_get hds
        refine .d _ _ (.sl zero.length ds w.heap.size 0 n n cells' e (0, 0) hpos (by rw [← r3, hd]; simp) (Nat.le_refl _) hml (fun r hr => ?_) hXn (alloc_new w _) (by rw [hcs]; omega) (fun k u _ hk hu => g1 k u (by rw [r3]; omega) hu) (fun p r j x u hr hj hu => ?_))
        · have := r2.row (r.map .d) (by rw [hd]; exact List.mem_map.2 ⟨r, hr, rfl⟩)
          simpa using this
        · have := g2 p (r.map .d) j (.d x) u (by rw [hd]; simp [hr]) (by simp [hj]) (by simpa using hu)
          exact (this.mono hstays hst.hst).d_inv
      · exact .ts zero.length _ w.heap.size n n cells' e (0, 0) hpos r3 (Nat.le_refl _) hml r2.row hXn (alloc_new w _) (by rw [hcs]; exact Nat.le_refl _) (fun k u hk hu => g1 k u (by rw [r3]; exact hk) hu) (fun p r j x u hr hj hu => (g2 p r j x u hr hj hu).mono hstays hst.hst)

end Go.Proofs.Ytpmgmingjggegaa.AL
