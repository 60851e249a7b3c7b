/- Each operation that is no call: what the machine does is what the logic says. -/
import Derived.Test.YtpmgmingjggegaaAlC
import Derived.Deep.AppendSrc
set_option linter.unusedVariables false
set_option linter.unusedSimpArgs false
namespace Go.Proofs.Ytpmgmingjggegaa.AL
open Go

variable {P : Program} {C : Ctx} {X : Nat → Prop} {ρ : List Loc} {S : St} {w : World}

/-- What an operation has come to. -/
def Post (C : Ctx) (X : Nat → Prop) (ρ : List Loc) (S : St) (w : World) (K : K2) (v : Value) (w' : World) : Prop :=
  ∃ (r : AV) (S' : St) (X' : Nat → Prop) (ρ' : List Loc), K r S' ∧ Good C X' ρ' S' w' ∧ Rel X' ρ' S'.H w' r v ∧ Step C X ρ S.H w X' ρ' S'.H w'

theorem Post.same {K : K2} {r : AV} {v : Value} (hG : Good C X ρ S w) (hK : K r S) (hr : Rel X ρ S.H w r v) : Post C X ρ S w K v w :=
  ⟨r, S, X, ρ, hK, hG, hr, .refl _ _ _ _ _⟩

def TypeDesc.agg : TypeDesc → Bool
  | .struct _ | .array _ _ => true
  | _ => false

def tyOk (P : Program) (t : TypeId) (sz : Nat) (agg : Bool) : Bool :=
  match P.underlying t, P.info? t with
  | some d, some i => i.size == sz && TypeDesc.agg d == agg
  | _, _ => false

theorem tyOk_spec {t : TypeId} {sz : Nat} {agg : Bool} (h : tyOk P t sz agg = true) : ∃ d i, P.underlying t = some d ∧ P.info? t = some i ∧ i.size = sz ∧ TypeDesc.agg d = agg := by
  unfold tyOk at h
  cases hd : P.underlying t with
  | none => simp [hd] at h
  | some d =>
    cases hi : P.info? t with
    | none => simp [hd, hi] at h
    | some i => simp [hd, hi] at h; exact ⟨d, i, rfl, rfl, h.1, h.2⟩

theorem run_isAgg {t : TypeId} {d : TypeDesc} (hd : P.underlying t = some d) : (isAgg t).run P w = .ok (TypeDesc.agg d) w := by
  cases d <;> simp [isAgg, run_underlying hd, TypeDesc.agg]

theorem run_sizeOf {t : TypeId} {i : TypeInfo} (hi : P.info? t = some i) : (sizeOf t).run P w = .ok i.size w := by
  simp [sizeOf, typeInfo, hi]

theorem addr_add (b o k : Nat) : (⟨b, o, none⟩ : Addr).add k = ⟨b, o + k, none⟩ := by
  unfold Addr.add; split <;> simp_all

theorem cell_at {b o : Nat} {c : Array Value} {E : TypeId} {fz : Nat × Nat} (h : w.heap[b]? = some (.cells c E fz)) : w.cell? ⟨b, o, none⟩ = c[o]? := by
  simp [World.cell?, h]

theorem run_loadVar_agg {t : TypeId} {sz : Nat} (ht : tyOk P t sz true = true) (b o : Nat) (c : Array Value) (E : TypeId) (fz : Nat × Nat) (h : w.heap[b]? = some (.cells c E fz)) (hs : o + sz ≤ c.size) :
    (loadVar t ⟨b, o, none⟩).run P w = .ok (.agg (c.extract o (o + sz))) w := by
  obtain ⟨d, i, h1, h2, h3, h4⟩ := tyOk_spec ht
  have hl := run_loadCells_list (P := P) w ⟨b, o, none⟩ (c.extract o (o + sz)).toList (fun j v hj => by
    rw [addr_add, cell_at h]
    simp only [Array.getElem?_toList, Array.getElem?_extract] at hj
    split at hj
    · exact hj
    · cases hj)
  have hlen : (c.extract o (o + sz)).toList.length = sz := by simp; omega
  rw [hlen] at hl
  rw [Array.toArray_toList] at hl
  simp only [loadVar, Sem.run_bind, run_isAgg h1, h4, Result.andThen_ok, if_true, run_sizeOf h2, h3, hl, Sem.run_pure]

theorem run_loadVar_one {t : TypeId} {sz : Nat} (ht : tyOk P t sz false = true) (b o : Nat) (c : Array Value) (E : TypeId) (fz : Nat × Nat) (v : Value) (h : w.heap[b]? = some (.cells c E fz)) (hv : c[o]? = some v) :
    (loadVar t ⟨b, o, none⟩).run P w = .ok v w := by
  obtain ⟨d, i, h1, h2, h3, h4⟩ := tyOk_spec ht
  have hl : (load ⟨b, o, none⟩ : Sem Value).run P w = .ok v w := by simp [load, Sem.run, cell_at h, hv]
  simp only [loadVar, Sem.run_bind, run_isAgg h1, h4, Result.andThen_ok, Bool.false_eq_true, if_false, hl]

theorem getD_of_lt {α : Type} {l : List α} {i : Nat} {d : α} (h : i < l.length) : l[i]? = some (l.getD i d) := by
  simp [List.getD, List.getElem?_eq_getElem h]

theorem drop_take_get {α : Type} {l : List α} {j n k : Nat} {x : α} (h : ((l.drop j).take n)[k]? = some x) : k < n ∧ l[j + k]? = some x := by
  rw [List.getElem?_take] at h
  split at h
  · rename_i hk
    rw [List.getElem?_drop] at h
    exact ⟨hk, h⟩
  · cases h

theorem load_val {t : TypeId} {sz : Nat} {agg : Bool} {x : AV} {K : K2} {v : Value} (hG : Good C X ρ S w) (ht : tyOk P t sz agg = true) (h1 : agg = false → sz = 1) (hx : Rel X ρ S.H w x v) (hK : aLoad sz agg x S K) :
    ∃ v', (Instr.loadAt t v).run P w = .ok v' w ∧ ∃ r, K r S ∧ Rel X ρ S.H w r v' := by
  unfold aLoad at hK
  cases hx <;> try (exact hK.elim)
  case ip n row j b o c E fz hl hX hb hc hone h =>
    obtain ⟨hj, hK⟩ := hK
    cases agg with
    | true =>
      refine ⟨_, by simpa [Instr.loadAt, Instr.sureAddr] using run_loadVar_agg ht b (o + j) c E fz hb (by omega), _, hK, ?_⟩
      simp only [if_true]
      refine .agg _ _ (by simp; omega) (fun k u hu => ?_) (fun k x u hx hu => ?_)
      · simp only [Array.getElem?_extract] at hu
        split at hu
        · exact hone (j + k) u (by omega) (by rw [← Nat.add_assoc]; exact hu)
        · cases hu
      · simp only [List.getElem?_map, Option.map_eq_some_iff] at hx
        obtain ⟨y, hy, rfl⟩ := hx
        obtain ⟨hk, hy⟩ := drop_take_get hy
        simp only [Array.getElem?_extract] at hu
        split at hu
        · exact .d _ _ (h (j + k) y u hy (by rw [← Nat.add_assoc]; exact hu))
        · cases hu
    | false =>
      obtain rfl := h1 rfl
      have hjc : o + j < c.size := by omega
      refine ⟨_, by simpa [Instr.loadAt, Instr.sureAddr] using run_loadVar_one ht b (o + j) c E fz c[o + j] hb (Array.getElem?_eq_getElem hjc), _, hK, ?_⟩
      simp only [Bool.false_eq_true, if_false]
      exact .d _ _ (h j _ _ (getD_of_lt (by omega)) (Array.getElem?_eq_getElem hjc))
  case ep id g i j b cs B hB hg hρ =>
    simp only [hB] at hK
    obtain ⟨_, hi, hj, hK⟩ := hK
    obtain ⟨hex, hpos, hrow, c, E, hb, hcs, hlen, hone, h⟩ := hG.sim.blk id B b cs hB hρ
    have hri := getD_of_lt (d := ([] : List AV)) hi
    have hrl : (B.rows.getD i []).length = B.sz := hrow _ (List.mem_of_getElem? hri)
    have hm : (i + 1) * B.sz ≤ B.rows.length * B.sz := Nat.mul_le_mul_right _ hi
    rw [Nat.add_mul, Nat.one_mul] at hm
    cases agg with
    | true =>
      refine ⟨_, by simpa [Instr.loadAt, Instr.sureAddr] using run_loadVar_agg ht b (i * B.sz + j) c E (0, 0) hb (by omega), _, hK, ?_⟩
      simp only [if_true]
      refine .agg _ _ (by simp only [List.length_take, List.length_drop, Array.size_extract, hrl]; omega) (fun k u hu => ?_) (fun k x u hx hu => ?_)
      · simp only [Array.getElem?_extract] at hu
        split at hu
        · exact hone _ u (by omega) hu
        · cases hu
      · obtain ⟨hk, hy⟩ := drop_take_get hx
        simp only [Array.getElem?_extract] at hu
        split at hu
        · exact h i _ (j + k) x u hri hy (by rw [← Nat.add_assoc]; exact hu)
        · cases hu
    | false =>
      obtain rfl := h1 rfl
      have hjc : i * B.sz + j < c.size := by omega
      refine ⟨_, by simpa [Instr.loadAt, Instr.sureAddr] using run_loadVar_one ht b (i * B.sz + j) c E (0, 0) c[i * B.sz + j] hb (Array.getElem?_eq_getElem hjc), _, hK, ?_⟩
      simp only [Bool.false_eq_true, if_false]
      exact h i _ j _ _ hri (getD_of_lt (by omega)) (Array.getElem?_eq_getElem hjc)
  case epold id g i j B hB hg hv =>
    simp only [hB] at hK
    omega

theorem load_sound {t : TypeId} {sz : Nat} {agg : Bool} {x : AV} {K : K2} {v : Value} (hG : Good C X ρ S w) (ht : tyOk P t sz agg = true) (h1 : agg = false → sz = 1) (hx : Rel X ρ S.H w x v) (hK : aLoad sz agg x S K) :
    ∃ v', (Instr.loadAt t v).run P w = .ok v' w ∧ Post C X ρ S w K v' w := by
  obtain ⟨v', h, r, hk, hr⟩ := load_val hG ht h1 hx hK
  exact ⟨v', h, .same hG hk hr⟩

/-- The cells of a value that may be stored. -/
theorem Rel.storable {x : AV} {v : Value} (h : Rel X ρ S.H w x v) (hs : x.storable = true) :
    v.cells.size = x.cells.length ∧ (∀ u ∈ v.cells.toList, u.oneCell' = true) ∧ ∀ (k : Nat) (y : AV) (u : Value), x.cells[k]? = some y → v.cells[k]? = some u → Rel X ρ S.H w y u := by
  have one : ∀ {x : AV} {v : Value}, Rel X ρ S.H w x v → x.cells = [x] → v.cells = #[v] → v.oneCell' = true → v.cells.size = x.cells.length ∧ (∀ u ∈ v.cells.toList, u.oneCell' = true) ∧ ∀ (k : Nat) (y : AV) (u : Value), x.cells[k]? = some y → v.cells[k]? = some u → Rel X ρ S.H w y u := by
    intro x v h h1 h2 h3
    rw [h1, h2]
    refine ⟨rfl, fun u hu => by simp at hu; subst hu; exact h3, fun k y u hy hu => ?_⟩
    cases k with
    | zero => simp at hy hu; subst hy; subst hu; exact h
    | succ k => simp at hy
  cases h with
  | d x v h =>
    cases h with
    | lit v =>
      have h3 : v.oneCell' = true := by simpa [AV.storable, AV.isCell] using hs
      refine one (.d _ _ (.lit v)) rfl ?_ h3
      cases v <;> first | rfl | simp [Value.oneCell'] at h3
    | zero a => exact one (.d _ _ (.zero a)) rfl rfl rfl
    | empty sz cap a h1 h2 => exact one (.d _ _ (.empty sz cap a h1 h2)) rfl rfl rfl
    | sl sz rows b o n cap c E fz a1 a2 a3 a4 a5 a6 a7 a8 a9 a10 => exact one (.d _ _ (.sl sz rows b o n cap c E fz a1 a2 a3 a4 a5 a6 a7 a8 a9 a10)) rfl rfl rfl
  | agg cs vs hl h1 h =>
    refine ⟨by simp [Value.cells, AV.cells, hl], fun u hu => ?_, fun k y u hy hu => h k y u hy hu⟩
    obtain ⟨k, hk⟩ := List.mem_iff_getElem?.1 hu
    exact h1 k u (by simpa [Value.cells] using hk)
  | ts sz rows b n cap c E fz a1 a2 a3 a4 a5 a6 a7 a8 a9 a10 => exact one (.ts sz rows b n cap c E fz a1 a2 a3 a4 a5 a6 a7 a8 a9 a10) rfl rfl rfl
  | os id g off n b cs cap B a1 a2 a3 a4 a5 a6 a7 => exact one (.os id g off n b cs cap B a1 a2 a3 a4 a5 a6 a7) rfl rfl rfl
  | osnil id g B a a1 a2 a3 => exact one (.osnil id g B a a1 a2 a3) rfl rfl rfl
  | osold id g off n B v hB hg hv => exact one (.osold id g off n B v hB hg hv) rfl (by cases v <;> first | rfl | simp [Value.oneCell'] at hv) hv
  | ep id g i j b cs B a1 a2 a3 => exact one (.ep id g i j b cs B a1 a2 a3) rfl rfl rfl
  | epold id g i j B v hB hg hv => exact one (.epold id g i j B v hB hg hv) rfl (by cases v <;> first | rfl | simp [Value.oneCell'] at hv) hv
  | ip sz row j b o c E fz a0 a1 a2 a3 a4 a5 => exact one (.ip sz row j b o c E fz a0 a1 a2 a3 a4 a5) rfl rfl rfl
  | fn f caps vs hl h => exact one (.fn f caps vs hl h) rfl rfl rfl
  | yl l => exact one (.yl l) rfl rfl rfl
  | tup cs vs hl h => simp [AV.storable, AV.isCell] at hs
  | junk v => simp [AV.storable, AV.isCell] at hs

/-- A list with a stretch written anew. -/
theorem seg_get {α : Type} (l vs : List α) (o k : Nat) (h : o + vs.length ≤ l.length) :
    (l.take o ++ vs ++ l.drop (o + vs.length))[k]? = if k < o then l[k]? else if k < o + vs.length then vs[k - o]? else l[k]? := by
  rw [List.append_assoc]
  by_cases h1 : k < o
  · rw [if_pos h1, List.getElem?_append_left (by simp; omega), List.getElem?_take, if_pos h1]
  · rw [if_neg h1, List.getElem?_append_right (by simp; omega)]
    have e : (l.take o).length = o := by simp; omega
    rw [e]
    by_cases h2 : k < o + vs.length
    · rw [if_pos h2, List.getElem?_append_left (by omega)]
    · rw [if_neg h2, List.getElem?_append_right (by omega), List.getElem?_drop]
      congr 1
      omega

theorem setCells_length (sz : Nat) (r : List AV) (j : Nat) (cs : List AV) (hr : r.length = sz) (h : j + cs.length ≤ sz) : (setCells sz r j cs).length = sz := by
  unfold setCells
  split
  · rename_i h'; exact h'.2
  · simp; omega

theorem setCells_get (sz : Nat) (r : List AV) (j : Nat) (cs : List AV) (hr : r.length = sz) (h : j + cs.length ≤ sz) (k : Nat) :
    (setCells sz r j cs)[k]? = if k < j then r[k]? else if k < j + cs.length then cs[k - j]? else r[k]? := by
  unfold setCells
  split
  · rename_i h'
    obtain ⟨rfl, h2⟩ := h'
    rw [if_neg (Nat.not_lt_zero k)]
    by_cases hk : k < 0 + cs.length
    · rw [if_pos hk, Nat.sub_zero]
    · rw [if_neg hk, List.getElem?_eq_none (by omega), List.getElem?_eq_none (by omega)]
  · exact seg_get r cs j k (by omega)

theorem row_apart {i i' j sz : Nat} (h : i' < i) (hj : j < sz) : i' * sz + j < i * sz := by
  have : (i' + 1) * sz ≤ i * sz := Nat.mul_le_mul_right _ h
  rw [Nat.add_mul, Nat.one_mul] at this
  omega

theorem store_sound {t : TypeId} {sz : Nat} {agg : Bool} {x y : AV} {K : K2} {v u : Value} (hG : Good C X ρ S w) (ht : tyOk P t sz agg = true) (hx : Rel X ρ S.H w x v) (hy : Rel X ρ S.H w y u) (hK : aStore sz x y S K) :
    ∃ w', (Instr.storeAt t v u).run P w = .ok () w' ∧ Post C X ρ S w K undef w' := by
  unfold aStore at hK
  cases hx <;> try (exact hK.elim)
  case ep id g i j b cs B hB hg hρ =>
    simp only [hB] at hK
    obtain ⟨_, hi, hj, hl, hs, hK⟩ := hK
    obtain ⟨hsz, hone, hrel⟩ := hy.storable hs
    obtain ⟨hex, hpos, hrow, c, E, hb, hcs, hlen, hco, h⟩ := hG.sim.blk id B b cs hB hρ
    have hri := getD_of_lt (d := ([] : List AV)) hi
    have hrl : (B.rows.getD i []).length = B.sz := hrow _ (List.mem_of_getElem? hri)
    have hm : (i + 1) * B.sz ≤ B.rows.length * B.sz := Nat.mul_le_mul_right _ hi
    rw [Nat.add_mul, Nat.one_mul] at hm
    have hul : u.cells.toList.length = sz := by rw [Array.length_toList, hsz, hl]
    obtain ⟨d, ti, h1, h2, h3, h4⟩ := tyOk_spec ht
    have hrun := run_storeCells_at P b (i * B.sz + j) E u.cells.toList 0 c w hb (by omega) hone
    simp only [Nat.add_zero] at hrun
    refine ⟨w.setRow b (c.toList.take (i * B.sz + j) ++ u.cells.toList ++ c.toList.drop (i * B.sz + j + u.cells.toList.length)).toArray, ?_, ?_⟩
    · have hne : ¬ (u.cells.size ≠ sz) := by rw [hsz, hl]; simp
      simp only [Instr.storeAt, Instr.sureAddr, storeVar, Sem.run_bind, Sem.run_pure, Result.andThen_ok, run_sizeOf h2, h3, hne, if_false, hrun]
    · have hcl : i * B.sz + j + u.cells.toList.length ≤ c.toList.length := by rw [hul, Array.length_toList]; omega
      have hget := fun k => seg_get c.toList u.cells.toList (i * B.sz + j) k hcl
      obtain ⟨hG', hst⟩ := Good.put hG id b cs B { B with rows := B.rows.set i (setCells B.sz (B.rows.getD i []) j y.cells) } hB hρ
        (c.toList.take (i * B.sz + j) ++ u.cells.toList ++ c.toList.drop (i * B.sz + j + u.cells.toList.length)).toArray E
        (w' := w.setRow b (c.toList.take (i * B.sz + j) ++ u.cells.toList ++ c.toList.drop (i * B.sz + j + u.cells.toList.length)).toArray)
        (size_setRow _ _ _) (fun k hk => setRow_other w b k _ hk) (setRow_heap w b c _ E _ hb) (by simp; omega) hpos
        (fun r hr => by
          rcases List.mem_or_eq_of_mem_set hr with hr | rfl
          · exact hrow r hr
          · exact setCells_length _ _ _ _ hrl (by omega))
        (by simp only [List.length_set]; omega) (Nat.le_refl _) (fun _ => ⟨rfl, by simp⟩)
        (fun k q hk hq => by
          simp only [List.length_set] at hk
          simp only [List.getElem?_toArray] at hq
          rw [hget] at hq
          split at hq
          · exact hco k q hk (by simpa using hq)
          · split at hq
            · exact hone q (List.mem_of_getElem? hq)
            · exact hco k q hk (by simpa using hq))
        (fun i' r j' z q hr hz hq => by
          simp only at hr hq
          simp only [List.getElem?_toArray] at hq
          rw [hget, hul] at hq
          have hi' : i' < B.rows.length := by
            have := (List.getElem?_eq_some_iff.1 hr).1
            simpa using this
          by_cases e : i' = i
          · subst e
            rw [List.getElem?_set_self hi, Option.some.injEq] at hr
            subst hr
            rw [setCells_get _ _ _ _ hrl (by omega), hl] at hz
            by_cases c1 : j' < j
            · rw [if_pos c1] at hz
              rw [if_pos (by omega)] at hq
              exact h i' _ j' z q hri hz (by simpa using hq)
            · rw [if_neg c1] at hz
              rw [if_neg (by omega)] at hq
              by_cases c2 : j' < j + sz
              · rw [if_pos c2] at hz
                rw [if_pos (by omega), show i' * B.sz + j' - (i' * B.sz + j) = j' - j from by omega] at hq
                exact hrel (j' - j) z q hz (by simpa using hq)
              · rw [if_neg c2] at hz
                rw [if_neg (by omega)] at hq
                exact h i' _ j' z q hri hz (by simpa using hq)
          · rw [List.getElem?_set_ne (Ne.symm e)] at hr
            have hjs : j' < B.sz := by
              have h1 := hrow r (List.mem_of_getElem? hr)
              have h2 := (List.getElem?_eq_some_iff.1 hz).1
              omega
            have hc' : c[i' * B.sz + j']? = some q := by
              rcases Nat.lt_or_gt_of_ne e with hlt | hgt
              · have := row_apart hlt hjs
                rw [if_pos (by omega)] at hq
                simpa using hq
              · have h0 : j < B.sz ∨ sz = 0 := by omega
                have h9 : (i + 1) * B.sz ≤ i' * B.sz := Nat.mul_le_mul_right _ hgt
                rw [Nat.add_mul, Nat.one_mul] at h9
                rw [if_neg (by omega), if_neg (by omega)] at hq
                simpa using hq
            exact h i' r j' z q hr hz hc')
      exact ⟨.und, _, X, ρ, hK, hG', .d _ _ (.lit _), hst⟩
  case epold id g i j B hB hg hv =>
    simp only [hB] at hK
    omega

end Go.Proofs.Ytpmgmingjggegaa.AL
