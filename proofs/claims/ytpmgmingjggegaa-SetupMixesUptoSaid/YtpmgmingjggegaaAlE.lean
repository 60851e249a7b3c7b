/- Operations that make memory: new variables, append, make, slice literals. -/
import Derived.Test.YtpmgmingjggegaaAlD
set_option linter.unusedVariables false
set_option linter.unusedSimpArgs false
namespace Go.Proofs.Ytpmgmingjggegaa.AL
open Go

variable {P : Program} {C : Ctx} {X : Nat → Prop} {ρ : List Loc} {S : St} {w : World}

/-- Rows, and the flat list of their machine values. -/
structure RowsR (X : Nat → Prop) (ρ : List Loc) (H : AHeap) (w : World) (sz : Nat) (rows : List (List AV)) (vals : List Value) : Prop where
  row : ∀ r ∈ rows, r.length = sz
  len : vals.length = rows.length * sz
  one : ∀ u ∈ vals, u.oneCell' = true
  rel : ∀ (i : Nat) (r : List AV) (j : Nat) (x : AV) (u : Value), rows[i]? = some r → r[j]? = some x → vals[i * sz + j]? = some u → Rel X ρ H w x u

theorem RowsR.mono {X' : Nat → Prop} {ρ' : List Loc} {H H' : AHeap} {w' : World} {sz : Nat} {rows : List (List AV)} {vals : List Value} (hs : Stays X w X' w') (hh : HStays ρ H ρ' H') (h : RowsR X ρ H w sz rows vals) : RowsR X' ρ' H' w' sz rows vals :=
  ⟨h.row, h.len, h.one, fun i r j x u a b c => (h.rel i r j x u a b c).mono hs hh⟩

theorem RowsR.nil {H : AHeap} {sz : Nat} : RowsR X ρ H w sz [] [] := ⟨fun _ h => (by cases h), by simp, fun _ h => (by cases h), fun i r j x u h => (by simp at h)⟩

theorem RowsR.lt {H : AHeap} {sz : Nat} {rows : List (List AV)} {vals : List Value} (h : RowsR X ρ H w sz rows vals) {i : Nat} {r : List AV} {j : Nat} {x : AV} (hi : rows[i]? = some r) (hj : r[j]? = some x) : i * sz + j < vals.length := by
  have h1 := (List.getElem?_eq_some_iff.1 hi).1
  have h2 := (List.getElem?_eq_some_iff.1 hj).1
  have h3 := h.row r (List.mem_of_getElem? hi)
  rw [h.len]
  exact row_apart h1 (by omega)

theorem RowsR.append {H : AHeap} {sz : Nat} {r1 r2 : List (List AV)} {v1 v2 : List Value} (h1 : RowsR X ρ H w sz r1 v1) (h2 : RowsR X ρ H w sz r2 v2) : RowsR X ρ H w sz (r1 ++ r2) (v1 ++ v2) := by
  refine ⟨fun r hr => ?_, by simp [h1.len, h2.len, Nat.add_mul], fun u hu => ?_, fun i r j x u hi hj hu => ?_⟩
  · rcases List.mem_append.1 hr with h | h
    · exact h1.row r h
    · exact h2.row r h
  · rcases List.mem_append.1 hu with h | h
    · exact h1.one u h
    · exact h2.one u h
  · rcases Nat.lt_or_ge i r1.length with h | h
    · rw [List.getElem?_append_left h] at hi
      rw [List.getElem?_append_left (h1.lt hi hj)] at hu
      exact h1.rel i r j x u hi hj hu
    · rw [List.getElem?_append_right h] at hi
      have hm : r1.length * sz ≤ i * sz := Nat.mul_le_mul_right _ h
      rw [List.getElem?_append_right (by rw [h1.len]; omega), h1.len] at hu
      refine h2.rel (i - r1.length) r j x u hi hj ?_
      rw [Nat.sub_mul]
      rw [← hu]; congr 1; omega

/-- A stretch of an owned block's rows. -/
theorem BSim.rows {B : Blk} {b cs : Nat} (hB : BSim X ρ S.H w B b cs) (off n : Nat) (h : off + n ≤ B.rows.length) :
    ∃ c E, w.heap[b]? = some (.cells c E (0, 0)) ∧ c.size = cs ∧ RowsR X ρ S.H w B.sz ((B.rows.drop off).take n) ((c.toList.drop (off * B.sz)).take (n * B.sz)) := by
  obtain ⟨hex, hpos, hrow, c, E, hb, hcs, hlen, hco, hrel⟩ := hB
  have hm : (off + n) * B.sz ≤ B.rows.length * B.sz := Nat.mul_le_mul_right _ h
  rw [Nat.add_mul] at hm
  refine ⟨c, E, hb, hcs, fun r hr => hrow r (List.mem_of_mem_drop (List.mem_of_mem_take hr)), ?_, fun u hu => ?_, fun i r j x u hi hj hu => ?_⟩
  · simp only [List.length_take, List.length_drop, Array.length_toList]
    rw [Nat.min_eq_left (by omega), Nat.min_eq_left (by omega)]
  · obtain ⟨k, hk⟩ := List.mem_iff_getElem?.1 hu
    obtain ⟨h1, h2⟩ := drop_take_get hk
    exact hco (off * B.sz + k) u (by omega) (by simpa using h2)
  · obtain ⟨h1, h2⟩ := drop_take_get hi
    obtain ⟨h3, h4⟩ := drop_take_get hu
    refine hrel (off + i) r j x u h2 hj ?_
    rw [Nat.add_mul, Nat.add_assoc]
    simpa using h4

/-- A block's content, as the laws on owned blocks want it. -/
theorem RowsR.cells {H : AHeap} {sz : Nat} {rows : List (List AV)} {vals : List Value} (h : RowsR X ρ H w sz rows vals) {c : Array Value} (hc : ∀ k, k < vals.length → c[k]? = vals[k]?) :
    (∀ (k : Nat) (u : Value), k < rows.length * sz → c[k]? = some u → u.oneCell' = true) ∧
    (∀ (i : Nat) (r : List AV) (j : Nat) (x : AV) (u : Value), rows[i]? = some r → r[j]? = some x → c[i * sz + j]? = some u → Rel X ρ H w x u) := by
  refine ⟨fun k u hk hu => ?_, fun i r j x u hi hj hu => ?_⟩
  · rw [hc k (by rw [h.len]; exact hk)] at hu
    exact h.one u (List.mem_of_getElem? hu)
  · rw [hc _ (h.lt hi hj)] at hu
    exact h.rel i r j x u hi hj hu

/-- An owned block that is nowhere yet. -/
theorem Good.ghost (hG : Good C X ρ S w) (sz : Nat) : Good C X (ρ ++ [none]) { S with H := S.H ++ [⟨sz, 0, []⟩] } w ∧ Step C X ρ S.H w X (ρ ++ [none]) (S.H ++ [⟨sz, 0, []⟩]) w ∧ (ρ ++ [none])[S.H.length]? = some none := by
  have hlen := hG.sim.len
  have hρ : ∀ (id : Nat), id < S.H.length → (ρ ++ [none])[id]? = ρ[id]? := fun id hid => List.getElem?_append_left (by rw [hlen]; exact hid)
  have hρn : (ρ ++ [(none : Loc)])[S.H.length]? = some none := by rw [← hlen]; simp
  have hH : ∀ (id : Nat), id < S.H.length → (S.H ++ [(⟨sz, 0, []⟩ : Blk)])[id]? = S.H[id]? := fun id hid => List.getElem?_append_left hid
  have back : ∀ (id b cs : Nat), (ρ ++ [(none : Loc)])[id]? = some (some (b, cs)) → id < S.H.length ∧ ρ[id]? = some (some (b, cs)) := by
    intro id b cs e
    rcases Nat.lt_or_ge id S.H.length with hid | hid
    · rw [hρ id hid] at e; exact ⟨hid, e⟩
    · rcases Nat.eq_or_lt_of_le hid with rfl | hid
      · rw [hρn] at e; cases e
      · rw [List.getElem?_eq_none (by simp; omega)] at e; cases e
  have hst : Step C X ρ S.H w X (ρ ++ [none]) (S.H ++ [⟨sz, 0, []⟩]) w :=
    ⟨Nat.le_refl _, fun _ _ _ _ => rfl, fun _ h => .inl h, fun id b cs e => .inl ⟨id, cs, (back id b cs e).2⟩, ⟨fun id B hB => by
      have hid : id < S.H.length := (List.getElem?_eq_some_iff.1 hB).1
      exact ⟨B, (hH id hid).trans hB, Nat.le_refl _, fun _ => ⟨rfl, rfl, hρ id hid⟩⟩⟩, ⟨rfl, rfl⟩⟩
  refine ⟨⟨⟨by simp [hlen], fun id B b cs hB hb => ?_, fun id B hB hb => ?_, fun id id' b cs cs' e e' => hG.sim.inj id id' b cs cs' (back _ _ _ e).2 (back _ _ _ e').2, hG.sim.small⟩, hG.base, fun id b cs hid e => hG.new id b cs hid (back _ _ _ e).2, hG.yok, hG.lsn, hG.histS hst, hG.loops⟩, hst, hρn⟩
  · obtain ⟨hid, hb⟩ := back id b cs hb
    simp only [hH id hid] at hB
    have h0 := hG.sim.blk id B b cs hB hb
    exact BSim.carry (C := C) (hst.stays hG) hst.hst h0 h0.ex rfl
  · rcases Nat.lt_or_ge id S.H.length with hid | hid
    · rw [hρ id hid] at hb
      simp only [hH id hid] at hB
      exact hG.sim.none id B hB hb
    · rcases Nat.eq_or_lt_of_le hid with rfl | hid
      · simp only [List.getElem?_append_right (Nat.le_refl _), Nat.sub_self, List.getElem?_cons_zero, Option.some.injEq] at hB
        subst hB; rfl
      · simp only [List.getElem?_eq_none (show (S.H ++ [(⟨sz, 0, []⟩ : Blk)]).length ≤ id by simp; omega)] at hB
        cases hB

/-- An owned block becomes another generation with nothing known of it, or, being nowhere, stays so. -/
theorem Good.renil (hG : Good C X ρ S w) (id : Nat) (B : Blk) (hB : S.H[id]? = some B) (hb : ρ[id]? = some none) (sz g' : Nat) (hg : B.gen < g') :
    Good C X ρ { S with H := S.H.set id ⟨sz, g', []⟩ } w ∧ Step C X ρ S.H w X ρ (S.H.set id ⟨sz, g', []⟩) w := by
  have hid : id < S.H.length := (List.getElem?_eq_some_iff.1 hB).1
  have hst : Step C X ρ S.H w X ρ (S.H.set id ⟨sz, g', []⟩) w :=
    ⟨Nat.le_refl _, fun _ _ _ _ => rfl, fun _ h => .inl h, fun id b cs e => .inl ⟨id, cs, e⟩, ⟨fun i D hD => by
      by_cases e : i = id
      · subst e; rw [hB] at hD; cases hD
        exact ⟨_, List.getElem?_set_self hid, Nat.le_of_lt hg, fun e => by simp only at e; omega⟩
      · exact ⟨D, by rw [List.getElem?_set_ne (Ne.symm e)]; exact hD, Nat.le_refl _, fun _ => ⟨rfl, rfl, rfl⟩⟩⟩, ⟨rfl, rfl⟩⟩
  refine ⟨⟨⟨by simp [hG.sim.len], fun i D b cs hD hb' => ?_, fun i D hD hb' => ?_, hG.sim.inj, hG.sim.small⟩, hG.base, hG.new, hG.yok, hG.lsn, hG.histS hst, hG.loops⟩, hst⟩
  · by_cases e : i = id
    · subst e; rw [hb] at hb'; cases hb'
    · simp only [List.getElem?_set_ne (Ne.symm e)] at hD
      have h0 := hG.sim.blk i D b cs hD hb'
      exact BSim.carry (C := C) (hst.stays hG) hst.hst h0 h0.ex rfl
  · by_cases e : i = id
    · subst e
      simp only [List.getElem?_set_self hid, Option.some.injEq] at hD
      subst hD; rfl
    · simp only [List.getElem?_set_ne (Ne.symm e)] at hD
      exact hG.sim.none i D hD hb'

/-- What an append takes from its second argument, on both sides. -/
theorem src_sound {sz : Nat} {y : AV} {u : Value} {tx : TypeId} {news : List (List AV)} (hG : Good C X ρ S w) (hsz : 0 < sz) (hk : (∃ e', P.underlying tx = some (.slice e')) ∨ P.underlying tx = some .string)
    (hy : Rel X ρ S.H w y u) (h : srcRows sz y S = some news) :
    ∃ vals, Src P sz tx u news.length vals w ∧ RowsR X ρ S.H w sz news vals := by
  have mk : ∀ (a : Addr) (n cap : Nat) (vals : List Value), u = .slice (some a) n cap → n = news.length → RowsR X ρ S.H w sz news vals → (∀ j v, vals[j]? = some v → w.cell? (a.add j) = some v) → ∃ vals, Src P sz tx u news.length vals w ∧ RowsR X ρ S.H w sz news vals := by
    rintro a n cap vals rfl rfl hR hc
    refine ⟨vals, ⟨hk, fun _ => rfl, run_firstCells_some w sz _ a _ cap vals hR.len hc, run_firstCells_some w.drew sz _ a _ cap vals hR.len (by simpa using hc), hR.len, hR.one⟩, hR⟩
  have mk0 : ∀ (a : Option Addr) (cap : Nat), u = .slice a 0 cap → news = [] → ∃ vals, Src P sz tx u news.length vals w ∧ RowsR X ρ S.H w sz news vals := by
    rintro a cap rfl rfl
    refine ⟨[], ⟨hk, fun _ => rfl, ?_, ?_, by simp, fun _ h => by cases h⟩, .nil⟩ <;>
      cases a <;> simp [Builtin.firstCells, loadCells, loadCellsFrom]
  unfold srcRows at h
  cases hy <;> try (cases h; done)
  case d y hd =>
    cases hd with
    | lit =>
      cases u <;> try (cases h; done)
      case string s =>
        simp only at h
        split at h
        · rename_i e
          subst e
          cases h
          refine ⟨byteCells s, ⟨hk, fun _ => (by simp [Builtin.lenOf]), by simpa using firstCells_string s w, by simpa using firstCells_string s w.drew, by simp [byteCells], fun q hq => ?_⟩, fun r hr => ?_, by simp [byteCells], fun q hq => ?_, fun i r j x q hi hj hq => ?_⟩
          · obtain ⟨_, _, rfl⟩ := List.mem_map.1 hq; rfl
          · obtain ⟨_, _, rfl⟩ := List.mem_map.1 hr; rfl
          · obtain ⟨_, _, rfl⟩ := List.mem_map.1 hq; rfl
          · simp only [List.getElem?_map, Option.map_eq_some_iff] at hi
            obtain ⟨b, hb, rfl⟩ := hi
            cases j with
            | zero =>
              simp only [List.getElem?_cons_zero, Option.some.injEq] at hj
              subst hj
              simp only [byteCells, Nat.mul_one, Nat.add_zero, List.getElem?_map, hb, Option.map_some, Option.some.injEq] at hq
              subst hq
              exact .d _ _ (.lit _)
            | succ j => simp at hj
        · cases h
    | zero a =>
      simp only [List.map_nil, or_true, if_true, Option.some.injEq] at h
      subst h
      exact mk0 a 0 rfl rfl
    | empty z cap a h1 h2 =>
      simp only [List.map_nil, or_true, if_true, Option.some.injEq] at h
      subst h
      exact mk0 a cap rfl rfl
    | sl z rows b o n cap c E fz a1 a2 a3 a4 a5 a6 a7 a8 a9 a10 =>
      simp only at h
      split at h
      · rename_i hz
        cases h
        rcases Nat.eq_zero_or_pos n with h0 | h0
        · subst h0
          have : rows = [] := List.eq_nil_of_length_eq_zero a2
          subst this
          exact mk0 _ cap rfl rfl
        · have hz : z = sz := hz.resolve_right (fun e => by subst e; simp at a2; omega)
          subst hz
          have hm : n * z ≤ cap * z := Nat.mul_le_mul_right _ a3
          refine mk ⟨b, o, none⟩ n cap ((c.toList.drop o).take (n * z)) rfl (by simp [a2]) ⟨fun r hr => ?_, ?_, fun q hq => ?_, fun i r j x q hi hj hq => ?_⟩ (fun j v hj => ?_)
          · obtain ⟨r', hr', rfl⟩ := List.mem_map.1 hr
            simp [a5 r' hr']
          · simp only [List.length_take, List.length_drop, Array.length_toList, List.length_map, a2]
            omega
          · obtain ⟨k, hk'⟩ := List.mem_iff_getElem?.1 hq
            obtain ⟨h1, h2⟩ := drop_take_get hk'
            exact a9 (o + k) q (by omega) (by omega) (by simpa using h2)
          · simp only [List.getElem?_map, Option.map_eq_some_iff] at hi
            obtain ⟨r', hr', rfl⟩ := hi
            simp only [List.getElem?_map, Option.map_eq_some_iff] at hj
            obtain ⟨x', hx', rfl⟩ := hj
            obtain ⟨h1, h2⟩ := drop_take_get hq
            exact .d _ _ (a10 i r' j x' q hr' hx' (by rw [Nat.add_assoc]; simpa using h2))
          · obtain ⟨h1, h2⟩ := drop_take_get hj
            rw [addr_add, cell_at a7]
            simpa using h2
      · cases h
  case ts z rows b n cap c E fz a1 a2 a3 a4 a5 a6 a7 a8 a9 a10 =>
    simp only at h
    split at h
    · rename_i hz
      cases h
      subst hz
      have hm : n * z ≤ cap * z := Nat.mul_le_mul_right _ a3
      refine mk ⟨b, 0, none⟩ n cap (c.toList.take (n * z)) rfl a2.symm ⟨a5, ?_, fun q hq => ?_, fun i r j x q hi hj hq => ?_⟩ (fun j v hj => ?_)
      · simp only [List.length_take, Array.length_toList, a2]; omega
      · obtain ⟨k, hk'⟩ := List.mem_iff_getElem?.1 hq
        rw [List.getElem?_take] at hk'
        split at hk'
        · exact a9 k q (by omega) (by simpa using hk')
        · cases hk'
      · rw [List.getElem?_take] at hq
        split at hq
        · exact a10 i r j x q hi hj (by simpa using hq)
        · cases hq
      · rw [List.getElem?_take] at hj
        split at hj
        · rw [addr_add, cell_at a7]; simpa using hj
        · cases hj
    · cases h
  case os id g off n b cs cap B hB hg hρ ho hn hcap hc =>
    simp only [hB] at h
    split at h
    · rename_i hz
      cases h
      obtain ⟨_, rfl⟩ := hz
      obtain ⟨c, E, hb, hcs, hR⟩ := (hG.sim.blk id B b cs hB hρ).rows off n ho
      refine mk ⟨b, off * B.sz, none⟩ n cap _ rfl (by simp; omega) hR (fun j v hj => ?_)
      obtain ⟨h1, h2⟩ := drop_take_get hj
      rw [addr_add, cell_at hb]
      simpa using h2
    · cases h
  case osnil id g B a hB hg hρ =>
    simp only [hB] at h
    split at h
    · cases h
      exact mk0 a 0 rfl (by simp)
    · cases h
  case osold id g off n B hB hg hv =>
    simp only [hB] at h
    split at h
    · omega
    · cases h

end Go.Proofs.Ytpmgmingjggegaa.AL
