/- From a statement's arguments to data as the logic sees it: which data fits a type, and that what a call is handed is such data. -/
import Derived.Test.YtpmgmingjggegaaAlZ
import Derived.Test.YtpmgmingjggegaaRows
import Derived.ChangeArms
import Derived.ChangeSame
import Derived.OpenShut
import Derived.JoinedCond
import Derived.RowKit
import Derived.ReadAgain
import Derived.ChangeBears
set_option linter.unusedVariables false
set_option linter.unusedSimpArgs false
namespace Go.Proofs.Ytpmgmingjggegaa.AL
open Go Go.ChangeShapes Go.WideShapes Go.RowKit

/-- What a cell of data holds. -/
inductive CT where
  | i (k : IntKind)
  | b
  | s
  | sl (row : List CT)

mutual
def fitD : CT → DV → Prop
  | .i k, x => ∃ n, x = .int k n ∧ k.min ≤ n ∧ n ≤ k.max
  | .b, x => ∃ b, x = .bool b
  | .s, x => ∃ s, x = .str s ∧ s.size ≤ 1048576
  | .sl ts, x => ∃ rows, x = .sl ts.length rows ∧ rows.length ≤ 1048576 ∧ ∀ r ∈ rows, fitR ts r
def fitR : List CT → List DV → Prop
  | [], xs => xs = []
  | t :: ts, xs => ∃ x r, xs = x :: r ∧ fitD t x ∧ fitR ts r
end

theorem fitD_i {k : IntKind} {x : DV} (h : fitD (.i k) x) : ∃ n, x = .int k n ∧ k.min ≤ n ∧ n ≤ k.max := by rw [fitD] at h; exact h
theorem fitD_b {x : DV} (h : fitD .b x) : ∃ n, x = .bool n := by rw [fitD] at h; exact h
theorem fitD_s {x : DV} (h : fitD .s x) : ∃ n, x = .str n ∧ n.size ≤ 1048576 := by rw [fitD] at h; exact h
theorem fitR_cons {t : CT} {ts : List CT} {r : List DV} (h : fitR (t :: ts) r) : ∃ x xs, r = x :: xs ∧ fitD t x ∧ fitR ts xs := by rw [fitR] at h; exact h
theorem fitR_nil {r : List DV} (h : fitR [] r) : r = [] := by rw [fitR] at h; exact h
theorem fitR_append : ∀ {a b : List CT} {x y : List DV}, fitR a x → fitR b y → fitR (a ++ b) (x ++ y)
  | [], b, x, y, hx, hy => by rw [fitR] at hx; subst hx; exact hy
  | t :: a, b, x, y, hx, hy => by
    rw [fitR] at hx
    obtain ⟨x', r, rfl, h1, h2⟩ := hx
    rw [List.cons_append, fitR]
    exact ⟨x', r ++ y, rfl, h1, fitR_append h2 hy⟩
theorem fitR_len : ∀ {a : List CT} {x : List DV}, fitR a x → x.length = a.length
  | [], x, h => by rw [fitR] at h; subst h; rfl
  | t :: a, x, h => by
    rw [fitR] at h
    obtain ⟨x', r, rfl, h1, h2⟩ := h
    simp [fitR_len h2]
theorem list_map_of {α β : Type} {g : α → β} {φ : α → Prop} : ∀ {l : List β}, (∀ r ∈ l, ∃ a, r = g a ∧ φ a) → ∃ l' : List α, l = l'.map g ∧ ∀ a ∈ l', φ a
  | [], _ => ⟨[], rfl, fun a h => by cases h⟩
  | b :: l, h => by
    obtain ⟨a, rfl, ha⟩ := h b (by simp)
    obtain ⟨l', rfl, hl⟩ := list_map_of (l := l) (fun r hr => h r (by simp [hr]))
    exact ⟨a :: l', rfl, fun x hx => (List.mem_cons.1 hx).elim (fun e => e ▸ ha) (hl x)⟩
theorem fitD_sl {ts : List CT} {x : DV} {α : Type} {g : α → List DV} {φ : α → Prop} (h : fitD (.sl ts) x) (hr : ∀ r, fitR ts r → ∃ a, r = g a ∧ φ a) : ∃ l : List α, x = .sl ts.length (l.map g) ∧ l.length ≤ 1048576 ∧ ∀ a ∈ l, φ a := by
  rw [fitD] at h
  obtain ⟨rows, rfl, hn, h⟩ := h
  obtain ⟨l, rfl, hl⟩ := list_map_of (g := g) (φ := φ) (fun r hr' => hr r (h r hr'))
  exact ⟨l, rfl, by simpa using hn, hl⟩
/-- What is within range. -/
def okI (k : IntKind) (n : Int) : Prop := k.min ≤ n ∧ n ≤ k.max
def okS (s : ByteArray) : Prop := s.size ≤ 1048576
theorem okI.i64 {n : Int} (h : okI .i64 n) : -9223372036854775808 ≤ n ∧ n ≤ 9223372036854775807 := h
theorem okI.u64 {n : Int} (h : okI .u64 n) : 0 ≤ n ∧ n ≤ 18446744073709551615 := h
theorem fit_int {k : IntKind} {r : List DV} (h : fitR [.i k] r) : ∃ n, r = [.int k n] ∧ okI k n := by
  obtain ⟨_, _, rfl, f, h2⟩ := fitR_cons h; obtain ⟨v, rfl, hv⟩ := fitD_i f; obtain rfl := fitR_nil h2; exact ⟨v, rfl, hv⟩
theorem fit_str {r : List DV} (h : fitR [.s] r) : ∃ n, r = [.str n] ∧ okS n := by
  obtain ⟨_, _, rfl, f, h2⟩ := fitR_cons h; obtain ⟨v, rfl, hv⟩ := fitD_s f; obtain rfl := fitR_nil h2; exact ⟨v, rfl, hv⟩
theorem fit_bool {r : List DV} (h : fitR [.b] r) : ∃ n, r = [.bool n] ∧ True := by
  obtain ⟨_, _, rfl, f, h2⟩ := fitR_cons h; obtain ⟨v, rfl⟩ := fitD_b f; obtain rfl := fitR_nil h2; exact ⟨v, rfl, trivial⟩

/-- The cells of a struct's fields. -/
def ctFs (P : Program) (g : TypeId → Option (List CT)) : List Field → Nat → Option (List CT)
  | [], _ => some []
  | f :: r, off => match g f.type with
    | some l => if f.offset = off ∧ l.length = P.cellsOf f.type then (match ctFs P g r (off + l.length) with
      | some l' => some (l ++ l')
      | none => none) else none
    | none => none
/-- The cells of a type. -/
def ctOf (P : Program) : Nat → TypeId → Option (List CT)
  | 0, _ => none
  | n + 1, t => match P.underlying t with
    | some .bool => some [.b]
    | some (.int k) => some [.i k]
    | some .string => some [.s]
    | some (.slice e) => match ctOf P n e with
      | some l => if l.length = P.cellsOf e ∧ 0 < l.length then some [.sl l] else none
      | none => none
    | some (.struct fs) => match ctFs P (ctOf P n) fs.toList 0 with
      | some l => if l.length = P.cellsOf t then some l else none
      | none => none
    | _ => none

section
variable {H : Type} {enc : TypeId × Value → H} {P : Program} {w w' : World}

abbrev noX : Nat → Prop := fun _ => False

/-- A row of cells reads as data. -/
structure RowRel (w : World) (row : List DV) (cs : List Value) : Prop where
  len : row.length = cs.length
  one : ∀ u ∈ cs, u.oneCell' = true
  rel : ∀ (i : Nat) (x : DV) (u : Value), row[i]? = some x → cs[i]? = some u → DRel noX w x u

theorem RowRel.append {r r' : List DV} {c c' : List Value} (h : RowRel w r c) (h' : RowRel w r' c') : RowRel w (r ++ r') (c ++ c') := by
  refine ⟨by simp [h.len, h'.len], fun u hu => (List.mem_append.1 hu).elim (h.one u) (h'.one u), fun i x u hx hu => ?_⟩
  rcases Nat.lt_or_ge i r.length with hi | hi
  · rw [List.getElem?_append_left hi] at hx
    rw [List.getElem?_append_left (by rw [← h.len]; exact hi)] at hu
    exact h.rel i x u hx hu
  · rw [List.getElem?_append_right hi] at hx
    rw [List.getElem?_append_right (by rw [← h.len]; exact hi), ← h.len] at hu
    exact h'.rel _ x u hx hu


/-- How much a reading holds, as the statements count it. -/
theorem bulk_part {d : DataW H} {l : List (DataW H)} (h : d ∈ l) : Rows.uptoBulk d ≤ Rows.uptoBulkAll l := by
  induction l with
  | nil => cases h
  | cons x r ih =>
    simp only [Rows.uptoBulkAll]
    rcases List.mem_cons.1 h with rfl | h
    · omega
    · have := ih h; omega
theorem bulk_one (d : DataW H) : 1 ≤ Rows.uptoBulk d := by
  cases d with
  | lit l => cases l <;> simp [Rows.uptoBulk]
  | _ => simp [Rows.uptoBulk]
theorem bulk_len (l : List (DataW H)) : l.length ≤ Rows.uptoBulkAll l := by
  induction l with
  | nil => simp [Rows.uptoBulkAll]
  | cons x r ih => have := bulk_one x; simp only [Rows.uptoBulkAll, List.length_cons]; omega

theorem add_addr {b o k : Nat} : (⟨b, o, none⟩ : Addr).add k = ⟨b, o + k, none⟩ := by
  unfold Addr.add
  split
  · rename_i h; subst h; rfl
  · rfl

/-- A slice's rows, from the rows that its places read as. -/
theorem slice_rel {ts : List CT} {e : TypeId} {a : Addr} {len cap : Nat} {g : List Value → Option (DataW H × List MemPlace)} (hsz : ts.length = P.cellsOf e) (hpos : 0 < ts.length) (hcap : cap ≤ maxLen) (hlc : len ≤ cap) (hlen : len ≤ 1048576)
    (each : ∀ i, i < cap → ∃ cs y, w.cells? 0 (a.add (i * P.cellsOf e)) (P.cellsOf e) = some cs ∧ g cs = some y)
    (IH : ∀ i cs y, i < len → w.cells? 0 (a.add (i * P.cellsOf e)) (P.cellsOf e) = some cs → g cs = some y → ∃ row, fitR ts row ∧ RowRel w row cs) :
    ∃ x, fitD (.sl ts) x ∧ DRel noX w x (.slice (some a) len cap) := by
  rcases Nat.eq_zero_or_pos len with h0 | h0
  · subst h0
    exact ⟨.sl ts.length [], by rw [fitD]; exact ⟨[], rfl, by simp, fun r hr => by cases hr⟩, .empty _ _ _ hpos hcap⟩
  · rw [← hsz] at each IH
    have cellAt : ∀ i cs, w.cells? 0 (a.add (i * ts.length)) ts.length = some cs → cs.length = ts.length ∧ ∀ j, j < ts.length → w.cell? ((a.add (i * ts.length)).add j) = cs[j]? := fun i cs h => by
      obtain ⟨_, h2, h3⟩ := World.cells?_some h
      exact ⟨h2, h3⟩
    -- the block
    obtain ⟨cs0, y0, hc0, _⟩ := each 0 (by omega)
    obtain ⟨hl0, hg0⟩ := cellAt 0 cs0 hc0
    have h00 := hg0 0 hpos
    have e00 : (a.add (0 * ts.length)).add 0 = a := by simp [Addr.add]
    rw [e00] at h00
    have hsome : ∃ v, w.cell? a = some v := by rw [h00]; exact ⟨_, List.getElem?_eq_getElem (by omega)⟩
    obtain ⟨v0, hv0⟩ := hsome
    unfold World.cell? at hv0
    split at hv0
    · rename_i c E fz hb
      split at hv0
      · cases hv0
      · rename_i hspot
        obtain ⟨b, o, spot⟩ := a
        obtain rfl : spot = none := by cases spot with | none => rfl | some _ => simp at hspot
        simp only [add_addr] at each IH cellAt
        have cell : ∀ k, w.cell? ⟨b, k, none⟩ = c[k]? := fun k => by simp [World.cell?, hb]
        -- every place is there
        have hin : o + cap * ts.length ≤ c.size := by
          obtain ⟨cs, y, hc, _⟩ := each (cap - 1) (by omega)
          obtain ⟨hl, hg⟩ := cellAt _ cs hc
          have h1 := hg (ts.length - 1) (by omega)
          rw [cell, List.getElem?_eq_getElem (by omega)] at h1
          have h2 := (Array.getElem?_eq_some_iff.1 h1).1
          obtain ⟨k, rfl⟩ : ∃ k, cap = k + 1 := ⟨cap - 1, by omega⟩
          rw [Nat.add_sub_cancel] at h2
          rw [Nat.succ_mul]
          omega
        have rows : ∀ i, i < len → ∃ row, fitR ts row ∧ RowRel w row ((c.toList.drop (o + i * ts.length)).take ts.length) := fun i hi => by
          obtain ⟨cs, y, hc, hy⟩ := each i (by omega)
          obtain ⟨hl, hg⟩ := cellAt i cs hc
          have : cs = (c.toList.drop (o + i * ts.length)).take ts.length := by
            apply List.ext_getElem?
            intro j
            rw [List.getElem?_take]
            split
            · rename_i hj
              rw [List.getElem?_drop, ← hg j hj, cell]
              simp
            · rename_i hj
              rw [List.getElem?_eq_none (by omega)]
          rw [← this]
          exact IH i cs y hi hc hy
        let f : Nat → List DV := fun i => if h : i < len then Classical.choose (rows i h) else []
        have hf : ∀ i, i < len → fitR ts (f i) ∧ RowRel w (f i) ((c.toList.drop (o + i * ts.length)).take ts.length) := fun i hi => by
          have := Classical.choose_spec (rows i hi)
          simp only [f, dif_pos hi]
          exact this
        refine ⟨.sl ts.length ((List.range len).map f), ?_, .sl ts.length _ b o len cap c E fz hpos (by simp) hlc hcap ?_ (fun h => h) hb hin ?_ ?_⟩
        · rw [fitD]
          refine ⟨_, rfl, by simpa using hlen, fun r hr => ?_⟩
          obtain ⟨i, hi, rfl⟩ := List.mem_map.1 hr
          exact (hf i (by simpa using hi)).1
        · intro r hr
          obtain ⟨i, hi, rfl⟩ := List.mem_map.1 hr
          exact fitR_len (hf i (by simpa using hi)).1
        · intro k u h1 h2 hu
          have hd : 0 < ts.length := hpos
          have hk : (k - o) / ts.length < len := (Nat.div_lt_iff_lt_mul hd).2 (by omega)
          have hm := Nat.mod_lt (k - o) hd
          have he := Nat.div_add_mod (k - o) ts.length
          refine (hf _ hk).2.one u ?_
          refine List.mem_of_getElem? (i := (k - o) % ts.length) ?_
          rw [List.getElem?_take, if_pos hm, List.getElem?_drop]
          have : o + (k - o) / ts.length * ts.length + (k - o) % ts.length = k := by rw [Nat.mul_comm]; omega
          rw [this]
          simpa using hu
        · intro i r j x u hi hj hu
          simp only [List.getElem?_map, Option.map_eq_some_iff] at hi
          obtain ⟨i', hi', rfl⟩ := hi
          have hil : i < len := by
            have := (List.getElem?_eq_some_iff.1 hi').1
            simpa using this
          have : i' = i := by
            rw [List.getElem?_eq_getElem (by simpa using hil)] at hi'
            simp at hi'
            exact hi'.symm
          subst this
          have hjl : j < ts.length := by
            have := (List.getElem?_eq_some_iff.1 hj).1
            rwa [fitR_len (hf _ hil).1] at this
          refine (hf _ hil).2.rel j x u hj ?_
          rw [List.getElem?_take, if_pos hjl, List.getElem?_drop]
          simpa using hu
    · cases hv0

theorem fields_rel {g : TypeId → Option (List CT)} {cs : List Value} {tr : TypeId → List Value → Option (DataW H × List MemPlace)} (IH : ∀ t cts cs y, g t = some cts → tr t cs = some y → Rows.uptoBulk y.1 ≤ 1048576 → ∃ row, fitR cts row ∧ RowRel w row cs) :
    ∀ (fs : List Field) (off : Nat) (cts : List CT) (xs : List (DataW H × List MemPlace)), ctFs P g fs off = some cts → xs.length = fs.length → (∀ x ∈ xs, Rows.uptoBulk x.1 ≤ 1048576) → (∀ (i : Nat) (f : Field), fs[i]? = some f → tr f.type ((cs.drop f.offset).take (P.cellsOf f.type)) = xs[i]?) → off + cts.length ≤ cs.length →
      ∃ row, fitR cts row ∧ RowRel w row ((cs.drop off).take cts.length)
  | [], off, cts, xs, h, _, _, _, _ => by
    rw [ctFs] at h; cases h
    exact ⟨[], by rw [fitR], ⟨by simp, by simp, by simp⟩⟩
  | f :: fs, off, cts, xs, h, hl, hb, he, hle => by
    rw [ctFs] at h
    split at h
    · rename_i l hg
      split at h
      · rename_i hc
        obtain ⟨rfl, hlen⟩ := hc
        split at h
        · rename_i l' hr
          cases h
          cases xs with
          | nil => simp at hl
          | cons x xs =>
            have h1 := he 0 f rfl
            simp only [List.getElem?_cons_zero] at h1
            obtain ⟨row, k1, k2⟩ := IH f.type l _ x hg h1 (hb x (by simp))
            simp only [List.length_append] at hle
            obtain ⟨row', k3, k4⟩ := fields_rel IH fs (f.offset + l.length) l' xs hr (by simpa using hl) (fun x hx => hb x (by simp [hx])) (fun i f' hf => by have := he (i + 1) f' (by simpa using hf); simpa using this) (by omega)
            refine ⟨row ++ row', fitR_append k1 k3, ?_⟩
            have e : (cs.drop f.offset).take (l ++ l').length = (cs.drop f.offset).take (P.cellsOf f.type) ++ (cs.drop (f.offset + l.length)).take l'.length := by
              rw [List.length_append, List.take_add, hlen, List.drop_drop]
            rw [e]
            exact k2.append k4
        · cases h
      · cases h
    · cases h

theorem one_row {x : DV} {u : Value} (h1 : u.oneCell' = true) (h : DRel noX w x u) : RowRel w [x] [u] := by
  refine ⟨rfl, fun v hv => by rw [List.mem_singleton.1 hv]; exact h1, fun i y v hy hv => ?_⟩
  cases i with
  | zero => simp at hy hv; subst hy; subst hv; exact h
  | succ i => simp at hy

/-- What reads as data of a type is data that fits it. -/
theorem trod_ct : ∀ (n : Nat) (t : TypeId) (cts : List CT) (fuel : Nat) (cs : List Value) (y : DataW H × List MemPlace), ctOf P n t = some cts → DataW.trod enc P w 0 (fun _ => true) true fuel t cs = some y → Rows.uptoBulk y.1 ≤ 1048576 → ∃ row, fitR cts row ∧ RowRel w row cs
  | 0, t, cts, fuel, cs, y, h, _, _ => by rw [ctOf] at h; cases h
  | n + 1, t, cts, fuel, cs, y, h, ht, hbk => by
    rw [ctOf] at h
    split at h
    · rename_i hu
      cases h
      obtain ⟨b, rfl, rfl⟩ := DataW.trod_bool hu ht
      exact ⟨[.bool b], by simp [fitR, fitD], one_row rfl (.lit _)⟩
    · rename_i k hu
      cases h
      obtain ⟨m, rfl, rfl, hw⟩ := DataW.trod_int hu ht
      simp only [Lit.wf, Bool.and_eq_true, decide_eq_true_eq] at hw
      exact ⟨[.int k m], by simp [fitR, fitD, hw], one_row rfl (.lit _)⟩
    · rename_i hu
      cases h
      obtain ⟨s, rfl, rfl, hw⟩ := DataW.trod_string hu ht
      simp only [Rows.uptoBulk, Array.length_toList] at hbk
      exact ⟨[.str s], by simp [fitR, fitD]; exact Nat.le_trans (Nat.le_succ _) hbk, one_row rfl (.lit _)⟩
    · rename_i e hu
      split at h
      · rename_i l hl
        split at h
        · rename_i hc
          cases h
          rcases DataW.trod_slice hu ht with ⟨rfl, rfl⟩ | ⟨a, len, cap, elems, rest, m, rfl, rfl, rfl, _, hlc, hcap, hel, h1, h2, _⟩
          · exact ⟨[.sl l.length []], by simp [fitR, fitD], one_row rfl (.empty _ _ _ hc.2 (Nat.zero_le _))⟩
          · obtain ⟨h3, h4⟩ := h2 rfl
            simp only [Rows.uptoBulk] at hbk
            have hb1 : elems.length ≤ 1048576 := by
              have := bulk_len (elems.map (·.1)); simp at this; omega
            have get : ∀ i, i < cap → ∃ z : DataW H × List MemPlace, (w.cells? 0 (a.add (i * P.cellsOf e)) (P.cellsOf e)).bind (DataW.trod enc P w 0 (fun _ => true) true m e) = some z ∧ (i < len → Rows.uptoBulk z.1 ≤ 1048576) := fun i hi => by
              rcases Nat.lt_or_ge i len with hil | hil
              · rw [h1 i hil, List.getElem?_eq_getElem (by omega)]
                refine ⟨_, rfl, fun _ => ?_⟩
                have : Rows.uptoBulk (elems[i]'(by omega)).1 ≤ Rows.uptoBulkAll (elems.map (·.1)) := bulk_part (List.mem_map_of_mem (List.getElem_mem _))
                omega
              · have := h4 (i - len) (by omega)
                rw [show len + (i - len) = i by omega, List.getElem?_eq_getElem (by omega)] at this
                exact ⟨_, this, fun h => by omega⟩
            obtain ⟨x, hx1, hx2⟩ := slice_rel (w := w) (g := fun cs => DataW.trod enc P w 0 (fun _ => true) true m e cs) hc.1 hc.2 hcap hlc (by omega)
              (fun i hi => by
                obtain ⟨z, hz, _⟩ := get i hi
                simp only [Option.bind_eq_some_iff] at hz
                obtain ⟨cs, hz1, hz2⟩ := hz
                exact ⟨cs, z, hz1, hz2⟩)
              (fun i cs y hi hz1 hz2 => by
                obtain ⟨z, hz, hzb⟩ := get i (by omega)
                rw [hz1] at hz
                simp only [Option.bind_some] at hz
                have hz2' : DataW.trod enc P w 0 (fun _ => true) true m e cs = some y := hz2
                rw [hz2'] at hz
                cases hz
                exact trod_ct n e l m cs y hl hz2 (hzb hi))
            exact ⟨[x], by rw [fitR]; exact ⟨x, [], rfl, hx1, by rw [fitR]⟩, one_row rfl hx2⟩
        · cases h
      · cases h
    · rename_i fs hu
      split at h
      · rename_i l hl
        split at h
        · rename_i hc
          cases h
          obtain ⟨xs, m, rfl, rfl, h1, h2, h3⟩ := DataW.trod_struct hu ht
          simp only [Rows.uptoBulk] at hbk
          obtain ⟨row, k1, k2⟩ := fields_rel (w := w) (P := P) (cs := cs) (tr := DataW.trod enc P w 0 (fun _ => true) true m) (fun t cts cs y => trod_ct n t cts m cs y) fs.toList 0 cts xs hl (by simpa using h2)
            (fun x hx => by
              have : Rows.uptoBulk x.1 ≤ Rows.uptoBulkAll (xs.map (·.1)) := bulk_part (List.mem_map_of_mem hx)
              omega) (fun i f hf => h3 i f (by simpa using hf)) (by omega)
          refine ⟨row, k1, ?_⟩
          rwa [List.drop_zero, List.take_of_length_le (by omega)] at k2
        · cases h
      · cases h
    · cases h

def agOf (P : Program) (t : TypeId) : Bool :=
  match P.underlying t with
  | some (.struct _) => true
  | _ => false
def argOf (ag : Bool) (row : List DV) : AV :=
  match ag with
  | true => .agg (row.map .d)
  | false => .d (row.getD 0 default)
/-- Arguments that fit their types. -/
def ArgsFit : List (Bool × List CT) → List AV → Prop
  | [], xs => xs = []
  | (ag, ct) :: r, xs => ∃ row xs', xs = argOf ag row :: xs' ∧ fitR ct row ∧ ArgsFit r xs'

theorem arg_rel {n : Nat} {t : TypeId} {cts : List CT} {r : Reach} {base : Nat} {v : Value} {d : DataW H} {ps : List MemPlace} (hc : ctOf P n t = some cts) (hv : Value.okWide P w r base t v) (ht : DataW.Trod enc P w 0 (fun _ => true) true t v d ps) (hb : Rows.uptoBulk d ≤ 1048576) :
    ∃ row, fitR cts row ∧ Rel noX [] [] w (argOf (agOf P t) row) v := by
  obtain ⟨fuel, hf⟩ := ht
  obtain ⟨row, h1, h2⟩ := trod_ct n t cts fuel _ _ hc hf hb
  refine ⟨row, h1, ?_⟩
  have scalar : agOf P t = false → v.cells = #[v] → Rel noX [] [] w (argOf (agOf P t) row) v := fun e hcell => by
    rw [e, argOf]
    rw [hcell] at h2
    have hl := h2.len
    cases row with
    | nil => simp at hl
    | cons x row => exact .d _ _ (h2.rel 0 x v rfl rfl)
  cases n with
  | zero => rw [ctOf] at hc; cases hc
  | succ n =>
    rw [ctOf] at hc
    split at hc
    · rename_i hu; obtain ⟨b, rfl⟩ := okWide_bool hu hv; exact scalar (by simp [agOf, hu]) rfl
    · rename_i k hu; obtain ⟨b, rfl⟩ := okWide_int hu hv; exact scalar (by simp [agOf, hu]) rfl
    · rename_i hu; obtain ⟨b, rfl⟩ := okWide_string hu hv; exact scalar (by simp [agOf, hu]) rfl
    · rename_i e hu; obtain ⟨a, l, c, rfl⟩ := okWide_slice hu hv; exact scalar (by simp [agOf, hu]) rfl
    · rename_i fs hu
      obtain ⟨cs, rfl, _⟩ := okWide_struct hu hv
      have e : agOf P t = true := by simp [agOf, hu]
      rw [e, argOf]
      have h3 : RowRel w row cs.toList := h2
      refine .agg _ _ (by rw [List.length_map, h3.len]; simp) (fun i u hu => h3.one u ?_) (fun i x u hx hu => ?_)
      · exact List.mem_of_getElem? (i := i) (by simpa using hu)
      · simp only [List.getElem?_map, Option.map_eq_some_iff] at hx
        obtain ⟨y, hy, rfl⟩ := hx
        exact .d _ _ (h3.rel i y u hy (by simpa using hu))
    · cases hc

theorem args_rel {n : Nat} {r : Reach} {base : Nat} : ∀ {ts : List TypeId} {specs : List (Bool × List CT)} {vs : List Value} {ds : List (DataW H)} {ps : List MemPlace}, ts.map (fun t => (agOf P t, ctOf P n t)) = specs.map (fun q => (q.1, some q.2)) →
    (∀ (j : Nat) t v, ts[j]? = some t → vs[j]? = some v → Value.okWide P w r base t v) → DataW.TrodAll enc P w 0 (fun _ => true) true ts vs ds ps → Rows.uptoBulkAll ds ≤ 1048576 →
    ∃ xs, ArgsFit specs xs ∧ ArgsR noX [] [] w xs vs.toArray ∧ ds.length = ts.length
  | [], specs, vs, ds, ps, hs, hv, ht, hb => by
    obtain ⟨rfl, rfl, rfl⟩ := trodAll_nil ht
    cases specs with
    | nil => exact ⟨[], rfl, ⟨rfl, fun i x u h => by simp at h⟩, rfl⟩
    | cons => simp at hs
  | t :: ts, specs, vs, ds, ps, hs, hv, ht, hb => by
    obtain ⟨v, vs', d, ds', p, q, rfl, rfl, rfl, h1, h2⟩ := trodAll_cons ht
    cases specs with
    | nil => simp at hs
    | cons sp specs =>
      obtain ⟨ag, ct⟩ := sp
      simp only [List.map_cons, List.cons.injEq, Prod.mk.injEq] at hs
      obtain ⟨⟨rfl, hc⟩, hs⟩ := hs
      simp only [Rows.uptoBulkAll] at hb
      obtain ⟨row, k1, k2⟩ := arg_rel hc (hv 0 t v rfl rfl) h1 (by omega)
      obtain ⟨xs, k3, k4, k5⟩ := args_rel hs (fun j t v h h' => hv (j + 1) t v (by simpa using h) (by simpa using h')) h2 (by omega)
      refine ⟨argOf (agOf P t) row :: xs, ⟨row, xs, rfl, k1, k3⟩, ⟨by have := k4.len; simpa using this, fun i x u hx hu => ?_⟩, by simp [k5]⟩
      cases i with
      | zero => simp at hx hu; subst hx; subst hu; exact k2
      | succ i => exact k4.rel i x u (by simpa using hx) (by simpa using hu)

theorem kept_of {W W' : World} (h : ∀ b, b < W.heap.size → W'.heap[b]? = W.heap[b]?) (hio : W'.os = W.os ∧ W'.output = W.output) (may : MemPlace → Prop) : W.keptBut W' may := by
  refine ⟨hio.1, hio.2, fun i hi => ?_⟩
  rw [h i hi]
  cases e : W.heap[i]? with
  | none => rfl
  | some o => cases o <;> first | exact ⟨rfl, rfl, rfl, fun _ _ => rfl⟩ | exact .inr ⟨rfl, rfl⟩ | rfl

/-- A law that is true of all data that fits is met by every call. -/
theorem law_calls {f : FuncId} {fn : Func} {s : ChangeSpec} {n : Nat} {specs : List (Bool × List CT)} {tb : TypeId} {apart fresh handsOn again : Bool}
    (hct : fn.params.toList.map (fun t => (agOf P t, ctOf P n t)) = specs.map (fun q => (q.1, some q.2))) (hvars : s.vars = []) (hfn : ∀ ds : List (DataW H), ds.length = fn.params.size → s.fn H ds = { results := [.lit (.bool true)], args := ds })
    (hres : fn.resultTypes = #[tb]) (htb : P.underlying tb = some .bool) (hl : laidOutB P = true) (hm : mapsRowed P = true) (hz : ((List.range P.types.size).all fun t => match P.underlying t with | some (.slice e) => decide (0 < P.cellsOf e) | _ => true) = true)
    (hps : fn.params.toList.all (fun t => decide (t < P.types.size)) = true)
    (law : ∀ xs, ArgsFit specs xs → ACall P 0 [] f xs ⟨[], []⟩ (fun r _ => r = .bool true))
    (W : World) (base : Nat) (args : Array Value) (ds gs : List (DataW H)) (before : List MemPlace)
    (hval : ∀ (j : Nat) t v, fn.params[j]? = some t → args[j]? = some v → Value.okWide P W .any base t v)
    (hW : DataW.Whole enc P fn.params.toList s.vars apart W args.toList ds gs before) (hk : Rows.uptoSmall H (ds ++ gs) = true) :
    Calls P f args W fun e W' => ∃ v, e = .returned v ∧ s.post enc P fn apart fresh handsOn again W args v W' := by
  have hW' := hW
  obtain ⟨p, q, hA, hV, rfl, hfz, hnd⟩ := hW
  rw [hvars] at hV
  obtain ⟨rfl, rfl⟩ := trodVars_none hV
  simp only [List.append_nil] at hW' hk hfz hnd
  have hb : Rows.uptoBulkAll ds ≤ 1048576 := of_decide_eq_true hk
  obtain ⟨xs, h1, h2, h3⟩ := args_rel hct (fun j t v h h' => hval j t v (by simpa using h) (by simpa using h')) hA hb
  obtain ⟨hc, hcall⟩ := law xs h1
  let C₀ : Ctx := ⟨noX, 0, fun _ => False, []⟩
  have hG : Good C₀ noX [] ⟨[], []⟩ W :=
    ⟨⟨rfl, fun id B b cs h => by simp at h, fun id B h => by simp at h, fun id id' b cs cs' h => by simp at h, fun b h => h.elim⟩, fun b h => h.elim, fun id b cs _ h => by simp at h, fun b h => h.elim, rfl, fun i L h => by simp [C₀] at h, fun i L p h => by simp [C₀] at h⟩
  have ha : ArgsR noX [] [] W xs args := by simpa using h2
  refine (callsIn_wide.1 (hcall C₀ noX [] W args 0 rfl ⟨rfl, fun i L y h => by simp [C₀] at h⟩ hG ha)).mono ?_
  rintro e W' ⟨v, rfl, r, S', X', ρ', rfl, k2, k3, k4⟩
  have hv : v = .bool true := Rel.lit_eq k3
  subst hv
  have hkeep : ∀ b, b < W.heap.size → W'.heap[b]? = W.heap[b]? := fun b hb => k4.keep b hb (fun id cs h => by simp at h) (fun h => h)
  have hlen : ds.length = fn.params.size := by simpa using h3
  have hspec : s.fn H ds = { results := [.lit (.bool true)], args := ds } := hfn ds hlen
  have hlt : ∀ p' ∈ p, p'.block < W.heap.size := DataW.TrodAll.lt hA
  have hA' : DataW.TrodAll enc P W' 0 (fun _ => true) true fn.params.toList args.toList ds p := by
    have key : ∀ {ts : List TypeId} {vs : List Value} {ds : List (DataW H)} {p : List MemPlace}, DataW.TrodAll enc P W 0 (fun _ => true) true ts vs ds p → (∀ p' ∈ p, W.sameAt W' p') → DataW.TrodAll enc P W' 0 (fun _ => true) true ts vs ds p := by
      intro ts
      induction ts with
      | nil => intro vs ds p h _; obtain ⟨rfl, rfl, rfl⟩ := trodAll_nil h; exact rfl
      | cons t ts ih =>
        intro vs ds p h hs
        obtain ⟨v, vs', d, ds', p₁, q₁, rfl, rfl, rfl, ⟨fuel, h1⟩, h2⟩ := trodAll_cons h
        exact ⟨p₁, q₁, ⟨fuel, DataW.trod_carry _ _ _ _ h1 (fun p' hp' => hs p' (by simp only at hp'; simp [hp']))⟩, ih h2 (fun p' hp' => hs p' (by simp [hp'])), rfl⟩
    refine key hA (fun p' hp' => ?_)
    have := hlt p' hp'
    cases p' with
    | cell b off => simp only [World.sameAt, World.cell?]; simp only [MemPlace.block] at this; rw [hkeep b this]
    | map b => exact hkeep b this
  have hargs : ∀ sp : Nat → Bool, (∀ p' ∈ p, sp p'.block = true) → DataW.TrodAll enc P W' 0 sp true fn.params.toList args.toList ds p := fun sp hsp =>
    DataW.TrodAll.respare (kids_rows hl hm) (slices_full_of P hz) (fun t ht => by have := List.all_eq_true.1 hps t ht; simpa using this) hA' hsp
  have hresr : ∀ (b : Nat) (sp : Nat → Bool) (hd : Bool), DataW.TrodAll enc P W' b sp hd fn.resultTypes.toList ((Value.bool true).resultList fn.resultTypes.size) [.lit (.bool true)] [] := by
    intro b sp hd
    rw [hres]
    exact trodAll_mk1 (shut_bool htb true)
  have hvr : ∀ sp : Nat → Bool, DataW.TrodVars enc P W' sp s.vars ([] : List (DataW H)) [] := fun sp => by rw [hvars]; exact rfl
  refine ⟨_, rfl, ds, [], p, [], p, [], hW', ?_, ?_, ?_, World.keptBut_mono (fun p' hp' => ⟨hp', .inr (.inl hp')⟩) (kept_of hkeep k4.io (· ∈ p)), fun _ => ⟨?_, ?_⟩⟩
  · rw [List.append_nil, hspec]; exact hresr _ _ _
  · rw [List.append_nil, hspec]; exact hargs _ (fun p' hp' => by simpa using hlt p' hp')
  · rw [List.append_nil, hspec]; exact hvr _
  · exact ok_one hres rfl (okWide_bool_mk htb true)
  · refine ⟨.lit (.bool true) :: ds, [], p, ⟨p, [], ?_, hvr _, by simp, fun b off hp => ?_, hnd⟩, fun p' hp' _ => hp'⟩
    · have := trodAll_append (hargs (fun _ => true) (fun _ _ => rfl)) (hresr 0 (fun _ => true) true)
      simpa using this
    · have hb := hlt _ hp
      simp only [MemPlace.block] at hb
      have := hfz b off hp
      simp only [World.frozen?, hkeep b hb] at this ⊢
      exact this
end
end Go.Proofs.Ytpmgmingjggegaa.AL
