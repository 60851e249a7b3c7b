/- Append, make, new variables, slice literals: sound. -/
import Derived.Test.YtpmgmingjggegaaAlE
set_option linter.unusedVariables false
set_option linter.unusedSimpArgs false
namespace Go.Proofs.Ytpmgmingjggegaa.AL
open Go

variable {P : Program} {C : Ctx} {X : Nat → Prop} {ρ : List Loc} {S : St} {w : World}

/-- What the program must say of a slice type's elements. -/
structure ElOk (P : Program) (e : TypeId) (sz bytes : Nat) : Prop where
  ex : ∃ (i : TypeInfo) (z : Value), P.info? e = some i ∧ i.zero = some z ∧ i.size = sz ∧ i.bytes = bytes ∧ z.cells.size = sz
  pos : 0 < sz
  posb : 0 < bytes

theorem cv1_rel (v : Value) : DRel X w (cv1 v) v := by
  cases v <;> try exact .lit _
  case slice a n c =>
    show DRel X w (cvSl a n c) (.slice a n c)
    unfold cvSl
    split
    · exact .zero none
    · exact .lit _

theorem append_room {t tx ty e : TypeId} {i : TypeInfo} (ht : P.underlying t = some (.slice e)) (hi : P.info? e = some i) (b off sLen sCap : Nat) (x : Value) (n : Nat) (news : List Value) (hs : Src P i.size tx x n news w) (c : Array Value) (E : TypeId)
    (hb : w.heap[b]? = some (.cells c E (0, 0))) (hroom : sLen + n ≤ sCap) (hfit : off + sLen * i.size + news.length ≤ c.size) :
    (Builtin.append_ #[t, tx] ty #[.slice (some ⟨b, off, none⟩) sLen sCap, x]).run P w =
      .ok (.slice (some ⟨b, off, none⟩) (sLen + n) sCap) (w.setRow b (c.toList.take (off + sLen * i.size) ++ news ++ c.toList.drop (off + sLen * i.size + news.length)).toArray) := by
  have hst := run_storeCells_at P b (off + sLen * i.size) E news 0 c w hb (by simpa using hfit) hs.one
  simp only [Nat.add_zero] at hst
  rcases hs.kind with ⟨e', hk⟩ | hk <;> simp [Builtin.append_, run_underlying ht, run_underlying hk, sizeOf, typeInfo, hi, hs.len, hroom, hs.cells, Addr.add_lit, hst]

theorem app_none {t tx ty e : TypeId} {i : TypeInfo} (ht : P.underlying t = some (.slice e)) (hi : P.info? e = some i) (a : Option Addr) (x : Value) (news : List Value) (hs : Src P i.size tx x 0 news w) :
    (Builtin.append_ #[t, tx] ty #[.slice a 0 0, x]).run P w = .ok (.slice a 0 0) w := by
  have hl : news = [] := List.eq_nil_of_length_eq_zero (by simpa using hs.newsLen)
  subst hl
  rcases hs.kind with ⟨e', hk⟩ | hk <;> cases a <;> simp [Builtin.append_, run_underlying ht, run_underlying hk, sizeOf, typeInfo, hi, hs.len, hs.cells, storeCells]

theorem alloc_old (w : World) (o : Obj) (b : Nat) (h : b < w.heap.size) : (w.alloc o).heap[b]? = w.heap[b]? := by
  show (w.heap.push o)[b]? = _
  rw [Array.getElem?_push]
  split
  · omega
  · rfl
theorem alloc_new (w : World) (o : Obj) : (w.alloc o).heap[w.heap.size]? = some o := by
  show (w.heap.push o)[w.heap.size]? = some o
  simp
theorem seg_length {α : Type} (l vs : List α) (o : Nat) (h : o + vs.length ≤ l.length) : (l.take o ++ vs ++ l.drop (o + vs.length)).length = l.length := by
  simp only [List.length_append, List.length_take, List.length_drop]
  omega
theorem last_get {α : Type} (l : List α) (x : α) : (l ++ [x])[l.length]? = some x := by simp

theorem app_sound {sz bytes : Nat} {x y : AV} {u v : Value} {K : K2} {t tx ty e : TypeId} (hG : Good C X ρ S w) (ht : P.underlying t = some (.slice e)) (he : ElOk P e sz bytes)
    (hk : (∃ e', P.underlying tx = some (.slice e')) ∨ P.underlying tx = some .string) (hx : Rel X ρ S.H w x v) (hy : Rel X ρ S.H w y u) (hK : aApp sz bytes x y S K) :
    ∃ v' w', (Builtin.append_ #[t, tx] ty #[v, u]).run P w = .ok v' w' ∧ Post C X ρ S w K v' w' := by
  obtain ⟨⟨i, z, hi, hz, hsize, hbytes, hzs⟩, hpos, hposb⟩ := he
  obtain ⟨news, hsrc, hK⟩ := hK
  obtain ⟨vals, hs, hR⟩ := src_sound (P := P) hG hpos hk hy hsrc
  rw [← hsize] at hs
  have sizes : ∀ (m : Nat), m * bytes ≤ 140737488355328 → m ≤ 140737488355328 := fun m hm => Nat.le_trans (Nat.le_mul_of_pos_right m hposb) hm
  -- a new row
  have grow : ∀ (base : Option Addr) (sLen sCap : Nat) (olds : List Value) (rows : List (List AV)), v = .slice base sLen sCap → (Builtin.firstCells i.size sLen (.slice base sLen sCap)).run P w.drew = .ok olds.toArray w.drew →
      RowsR X ρ S.H w sz rows olds → rows.length = sLen → sCap < sLen + news.length → (sLen + news.length) * bytes ≤ 140737488355328 →
      ∃ (cap : Nat) (c : Array Value) (E : TypeId), (Builtin.append_ #[t, tx] ty #[v, u]).run P w = .ok (.slice (some ⟨w.heap.size, 0, none⟩) (sLen + news.length) cap) (w.drew.alloc (.cells c E)) ∧
        RowsR X ρ S.H w sz (rows ++ news) (olds ++ vals) ∧ (∀ k, k < (olds ++ vals).length → c[k]? = (olds ++ vals)[k]?) ∧ c.size = cap * sz ∧ sLen + news.length ≤ cap ∧ cap ≤ maxLen := by
    intro base sLen sCap olds rows hv hold hRo hlen hlt hb
    have h63 := sizes _ hb
    have hfit : Builtin.nextslicecap (sLen + news.length) sCap * i.bytes ≤ 281474976710656 := growslice_fits hlt (by rw [hbytes]; exact hb)
    have hr := run_append_grow_src (P := P) w t tx ty e i z ht hi hz base sLen sCap olds hold u news.length vals hs hlt (by omega) hfit
    have hge := grownCap_ge w (sLen + news.length) sCap e
    have hRR := hRo.append hR
    have hl : (olds ++ vals).length = (sLen + news.length) * sz := by rw [hRR.len, List.length_append, hlen]
    refine ⟨_, _, _, by rw [hv]; exact hr, hRR, fun k hk => ?_, ?_, hge, grownCap_le_maxLen w _ _ e (by unfold maxLen; omega)⟩
    · rw [Array.getElem?_append_left (by simpa using hk)]
      simp
    · simp only [Array.size_append, List.size_toArray, size_zeroCells, hzs, hl, ← Nat.add_mul]
      congr 1
      omega
  cases hx <;> try (exact hK.elim)
  case d x hd =>
    cases hd with
    | lit => exact hK.elim
    | empty z cap a h1 h2 =>
      cases z with
      | zero => omega
      | succ z => exact hK.elim
    | sl z rows b o n cap c E fz a1 a2 a3 a4 a5 a6 a7 a8 a9 a10 =>
      cases z with
      | zero => omega
      | succ z => exact hK.elim
    | zero a =>
      obtain ⟨hb, hK⟩ := hK
      rcases Nat.eq_zero_or_pos news.length with h0 | h0
      · have hn : news = [] := List.eq_nil_of_length_eq_zero h0
        subst hn
        obtain ⟨hG', hst, hρ⟩ := hG.ghost sz
        exact ⟨_, _, app_none ht hi a u vals hs, _, _, X, _, hK, hG', .osnil _ _ _ a (last_get _ _) rfl hρ, hst⟩
      · obtain ⟨cap, c, E, hr, hRR, hc, hcs, hle, hm⟩ := grow a 0 0 [] [] rfl (by cases a <;> simp [Builtin.firstCells, loadCells, loadCellsFrom]) .nil rfl (by omega) (by rw [Nat.zero_add]; exact hb)
        simp only [List.nil_append, Nat.zero_add] at hr hRR hc hle
        obtain ⟨hc1, hc2⟩ := hRR.cells hc
        obtain ⟨X', ρ', hG', hst, hρ⟩ := hG.alloc (w' := w.drew.alloc (.cells c E)) c E (by simp) (alloc_old w.drew _) (alloc_new w.drew _) sz news hpos hRR.row
          (by rw [hcs]; exact Nat.mul_le_mul_right _ hle) hc1 hc2
        refine ⟨_, _, hr, _, _, X', ρ', hK, hG', ?_, hst⟩
        have := Rel.os (X := X') (w := w.drew.alloc (.cells c E)) S.H.length 0 0 news.length w.heap.size c.size cap (⟨sz, 0, news⟩ : Blk) (H := S.H ++ [⟨sz, 0, news⟩]) (last_get _ _) rfl hρ (by simp) hle hm (by simp [hcs])
        simpa using this
  case os id g off n b cs cap B hB hg hρ ho hn hcap hc =>
    simp only [hB] at hK
    obtain ⟨_, hsz, hb, hK⟩ := hK
    subst hsz
    have h0 := hG.sim.blk id B b cs hB hρ
    obtain ⟨c, E, hbb, hcs, hRo⟩ := h0.rows off n ho
    by_cases hroom : n + news.length ≤ cap
    · -- in its place
      have hcap' : (off + n + news.length) * B.sz ≤ (off + cap) * B.sz := Nat.mul_le_mul_right _ (by omega)
      have hvl := hR.len
      have hfit : off * B.sz + n * i.size + vals.length ≤ c.size := by
        rw [hsize, hvl, hcs, ← Nat.add_mul, ← Nat.add_mul]; omega
      have hr := append_room (P := P) (tx := tx) (ty := ty) ht hi b (off * B.sz) n cap u news.length vals hs c E hbb hroom hfit
      rw [hsize] at hr
      have hall : RowsR X ρ S.H w B.sz (B.rows.take (off + n)) (c.toList.take ((off + n) * B.sz)) := by
        obtain ⟨c', E', e1, _, e3⟩ := h0.rows 0 (off + n) (by omega)
        rw [hbb] at e1; cases e1
        simpa using e3
      have hRR := hall.append hR
      have hcl : off * B.sz + n * B.sz + vals.length ≤ c.toList.length := by rw [Array.length_toList, ← hsize]; rw [← hsize] at hfit; exact hfit
      have hget := fun k => seg_get c.toList vals (off * B.sz + n * B.sz) k hcl
      have hlt : (c.toList.take ((off + n) * B.sz)).length = (off + n) * B.sz := by
        rw [List.length_take, Array.length_toList, hcs]
        have : (off + n) * B.sz ≤ (off + cap) * B.sz := Nat.mul_le_mul_right _ (by omega)
        omega
      have hcells : ∀ k, k < (c.toList.take ((off + n) * B.sz) ++ vals).length → (c.toList.take (off * B.sz + n * B.sz) ++ vals ++ c.toList.drop (off * B.sz + n * B.sz + vals.length)).toArray[k]? = (c.toList.take ((off + n) * B.sz) ++ vals)[k]? := by
        intro k hk
        rw [List.getElem?_toArray, ← Nat.add_mul]
        exact List.getElem?_append_left hk
      obtain ⟨hc1, hc2⟩ := hRR.cells hcells
      obtain ⟨hG', hst⟩ := Good.put hG id b cs B ⟨B.sz, g + 1, B.rows.take (off + n) ++ news⟩ hB hρ _ E (w' := w.setRow b (c.toList.take (off * B.sz + n * B.sz) ++ vals ++ c.toList.drop (off * B.sz + n * B.sz + vals.length)).toArray)
        (size_setRow _ _ _) (fun k hk => setRow_other w b k _ hk) (setRow_heap w b c _ E _ hbb) (by rw [List.size_toArray, seg_length _ _ _ hcl, Array.length_toList, hcs]) hpos hRR.row
        (by
          simp only [List.length_append, List.length_take]
          rw [Nat.min_eq_left (by omega)]
          omega)
        (by simp only; omega) (fun e => by simp only at e; omega) hc1 hc2
      have hid : id < S.H.length := (List.getElem?_eq_some_iff.1 hB).1
      have hlen : (B.rows.take (off + n) ++ news).length = off + n + news.length := by simp; omega
      have hrel := Rel.os (X := X) (ρ := ρ) (w := w.setRow b (c.toList.take (off * B.sz + n * B.sz) ++ vals ++ c.toList.drop (off * B.sz + n * B.sz + vals.length)).toArray) id (g + 1) off (n + news.length) b cs cap (⟨B.sz, g + 1, B.rows.take (off + n) ++ news⟩ : Blk) (H := S.H.set id ⟨B.sz, g + 1, B.rows.take (off + n) ++ news⟩) (List.getElem?_set_self hid) rfl hρ (by simp only [hlen]; omega) hroom hcap hc
      refine ⟨_, _, hr, .os id (g + 1) off (n + news.length), _, X, ρ, ?_, hG', hrel, hst⟩
      split at hK
      · rename_i e
        subst e
        have : takeAll n B.rows = B.rows.take (0 + n) := by
          unfold takeAll
          split
          · rename_i e; rw [Nat.zero_add, e, List.take_length]
          · rw [Nat.zero_add]
        rw [this] at hK
        exact hK
      · have hpl : (B.rows.take off).length = off := by simp; omega
        have h2 := hK (B.rows.take off)
        rw [hpl] at h2
        have e : B.rows.take (off + n) = B.rows.take off ++ (B.rows.drop off).take n := List.take_add
        rw [e]
        exact h2
    · have hold : (Builtin.firstCells i.size n (.slice (some ⟨b, off * B.sz, none⟩) n cap)).run P w.drew = .ok ((c.toList.drop (off * B.sz)).take (n * B.sz)).toArray w.drew := by
        refine run_firstCells_some w.drew i.size n ⟨b, off * B.sz, none⟩ n cap _ (by rw [hRo.len, hsize]; congr 1; simp; omega) (fun j v hj => ?_)
        obtain ⟨h1, h2⟩ := drop_take_get hj
        rw [addr_add, World.cell?_drew, cell_at hbb]
        simpa using h2
      obtain ⟨cap', c', E', hr, hRR, hc', hcs', hle, hm⟩ := grow (some ⟨b, off * B.sz, none⟩) n cap _ _ rfl hold hRo (by simp; omega) (by omega) hb
      obtain ⟨hc1, hc2⟩ := hRR.cells hc'
      have hlen : ((B.rows.drop off).take n ++ news).length = n + news.length := by simp; omega
      obtain ⟨X', ρ', hG', hst, hρ'⟩ := hG.move (w' := w.drew.alloc (.cells c' E')) id B ⟨B.sz, g + 1, (B.rows.drop off).take n ++ news⟩ hB c' E' (by simp) (alloc_old w.drew _) (alloc_new w.drew _) hpos hRR.row
        (by rw [hcs', hlen]; exact Nat.mul_le_mul_right _ hle) (by simp only; omega) hc1 hc2
      have hid : id < S.H.length := (List.getElem?_eq_some_iff.1 hB).1
      have hrel := Rel.os (X := X') (w := w.drew.alloc (.cells c' E')) id (g + 1) 0 (n + news.length) w.heap.size c'.size cap' (⟨B.sz, g + 1, (B.rows.drop off).take n ++ news⟩ : Blk) (H := S.H.set id ⟨B.sz, g + 1, (B.rows.drop off).take n ++ news⟩) (List.getElem?_set_self hid) rfl hρ' (by simp only [hlen]; omega) hle hm (by simp [hcs'])
      simp only [Nat.zero_mul] at hrel
      refine ⟨_, _, hr, .os id (g + 1) 0 (n + news.length), _, X', ρ', ?_, hG', hrel, hst⟩
      split at hK
      · rename_i e
        subst e
        have : takeAll n B.rows = (B.rows.drop 0).take n := by
          unfold takeAll
          split
          · rename_i e; rw [List.drop_zero, e, List.take_length]
          · rw [List.drop_zero]
        rw [this] at hK
        exact hK
      · exact hK []
  case osnil id g B a hB hg hρ =>
    simp only [hB] at hK
    obtain ⟨_, hsz, hb, hK⟩ := hK
    simp only [if_true, Nat.zero_add] at hK
    have hrows : B.rows = [] := hG.sim.none id B hB hρ
    have htk : takeAll 0 B.rows = [] := by rw [hrows]; rfl
    rw [htk, List.nil_append] at hK
    rcases Nat.eq_zero_or_pos news.length with h0 | h0
    · have hn : news = [] := List.eq_nil_of_length_eq_zero h0
      subst hn
      obtain ⟨hG', hst⟩ := hG.renil id B hB hρ sz (g + 1) (by omega)
      have hid : id < S.H.length := (List.getElem?_eq_some_iff.1 hB).1
      exact ⟨_, _, app_none ht hi a u vals hs, _, _, X, ρ, hK, hG', .osnil _ _ _ a (List.getElem?_set_self hid) rfl hρ, hst⟩
    · obtain ⟨cap, c, E, hr, hRR, hc, hcs, hle, hm⟩ := grow a 0 0 [] [] rfl (by cases a <;> simp [Builtin.firstCells, loadCells, loadCellsFrom]) .nil rfl (by omega) hb
      simp only [List.nil_append, Nat.zero_add] at hr hRR hc hle
      obtain ⟨hc1, hc2⟩ := hRR.cells hc
      obtain ⟨X', ρ', hG', hst, hρ'⟩ := hG.move (w' := w.drew.alloc (.cells c E)) id B ⟨sz, g + 1, news⟩ hB c E (by simp) (alloc_old w.drew _) (alloc_new w.drew _) hpos hRR.row
        (by rw [hcs]; exact Nat.mul_le_mul_right _ hle) (by simp only; omega) hc1 hc2
      have hid : id < S.H.length := (List.getElem?_eq_some_iff.1 hB).1
      refine ⟨_, _, hr, _, _, X', ρ', hK, hG', ?_, hst⟩
      have := Rel.os (X := X') (w := w.drew.alloc (.cells c E)) id (g + 1) 0 news.length w.heap.size c.size cap (⟨sz, g + 1, news⟩ : Blk) (H := S.H.set id ⟨sz, g + 1, news⟩) (List.getElem?_set_self hid) rfl hρ' (by simp) hle hm (by simp [hcs])
      simpa using this
  case osold id g off n B hB hg hv =>
    simp only [hB] at hK
    omega

end Go.Proofs.Ytpmgmingjggegaa.AL
