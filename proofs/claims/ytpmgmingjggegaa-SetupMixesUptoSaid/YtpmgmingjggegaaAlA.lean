/- Abstract values over the machine's memory, what it means that a machine value reads as one, and that readings stay. -/
import Derived.CallsIn
import Derived.RangeFuncIn
import Derived.RangeFuncLeaves
import Derived.OrdersIn
import Derived.Laws.AppendOwn
import Derived.Laws.MakeOwn
import Derived.ProofKit
import Derived.WalkKit
namespace Go.Proofs.Ytpmgmingjggegaa.AL
open Go

/-- A value that nobody writes any more: a literal, or a slice whose rows (elements, cell by cell) are such. -/
inductive DV where
  | lit (v : Value)
  | sl (sz : Nat) (rows : List (List DV))

instance : Inhabited DV := ⟨.lit default⟩

/-- A value as the logic sees it. 'd': data. 'agg': a struct or array, cell by cell. 'os': a slice of an owned block. 'ep': a pointer into an owned block. 'ip': a pointer into a row of data. 'fn': a function value. 'yl': a loop's yield. -/
inductive AV where
  | d (x : DV)
  | agg (cells : List AV)
  | os (id g off n : Nat)
  | ep (id g i j : Nat)
  | ip (sz : Nat) (row : List DV) (j : Nat)
  | ts (sz : Nat) (rows : List (List AV))
  | fn (f : FuncId) (caps : List AV)
  | yl (l : Nat)
  | tup (vs : List AV)
  | junk

instance : Inhabited AV := ⟨.junk⟩

/-- An owned block: rows of sz cells. -/
structure Blk where
  sz : Nat
  gen : Nat
  rows : List (List AV)

instance : Inhabited Blk := ⟨⟨1, 0, []⟩⟩

/-- The real block of an owned one, and its real size in cells; none: nil. -/
abbrev Loc := Option (Nat × Nat)

inductive DRel (X : Nat → Prop) (w : World) : DV → Value → Prop
  | lit (v : Value) : DRel X w (.lit v) v
  | zero (a : Option Addr) : DRel X w (.sl 0 []) (.slice a 0 0)
  | empty (sz cap : Nat) (a : Option Addr) (hsz : 0 < sz) (hcap : cap ≤ maxLen) : DRel X w (.sl sz []) (.slice a 0 cap)
  | sl (sz : Nat) (rows : List (List DV)) (b o n cap : Nat) (c : Array Value) (E : TypeId) (fz : Nat × Nat) (hsz : 0 < sz) (hn : rows.length = n) (hnc : n ≤ cap) (hcap : cap ≤ maxLen)
      (hr : ∀ r ∈ rows, r.length = sz) (hX : ¬ X b) (hb : w.heap[b]? = some (.cells c E fz)) (hc : o + cap * sz ≤ c.size)
      (h1 : ∀ (k : Nat) (u : Value), o ≤ k → k < o + n * sz → c[k]? = some u → u.oneCell' = true)
      (h : ∀ (i : Nat) (r : List DV) (j : Nat) (x : DV) (u : Value), rows[i]? = some r → r[j]? = some x → c[o + i * sz + j]? = some u → DRel X w x u) :
      DRel X w (.sl sz rows) (.slice (some ⟨b, o, none⟩) n cap)

/-- What was no owned memory stays, and is no owned memory still. -/
structure Stays (X : Nat → Prop) (w : World) (X' : Nat → Prop) (w' : World) : Prop where
  keep : ∀ (b : Nat) (c : Array Value) (E : TypeId) (fz : Nat × Nat), ¬ X b → w.heap[b]? = some (.cells c E fz) → ¬ X' b ∧ w'.heap[b]? = some (.cells c E fz)

theorem Stays.refl (X : Nat → Prop) (w : World) : Stays X w X w := ⟨fun _ _ _ _ hx hb => ⟨hx, hb⟩⟩
theorem Stays.trans {X X' X'' : Nat → Prop} {w w' w'' : World} (h : Stays X w X' w') (k : Stays X' w' X'' w'') : Stays X w X'' w'' :=
  ⟨fun b c E fz hx hb => let ⟨h1, h2⟩ := h.keep b c E fz hx hb; k.keep b c E fz h1 h2⟩

theorem DRel.mono {X X' : Nat → Prop} {w w' : World} (hs : Stays X w X' w') {x : DV} {v : Value} (h : DRel X w x v) : DRel X' w' x v := by
  induction h with
  | lit v => exact .lit v
  | zero a => exact .zero a
  | empty sz cap a hsz hcap => exact .empty sz cap a hsz hcap
  | sl sz rows b o n cap c E fz hsz hn hnc hcap hr hX hb hc hone _ ih =>
    obtain ⟨h1, h2⟩ := hs.keep b c E fz hX hb
    exact .sl sz rows b o n cap c E fz hsz hn hnc hcap hr h1 h2 hc hone ih

/-- The owned heap. -/
abbrev AHeap := List Blk

inductive Rel (X : Nat → Prop) (ρ : List Loc) (H : AHeap) (w : World) : AV → Value → Prop
  | d (x : DV) (v : Value) (h : DRel X w x v) : Rel X ρ H w (.d x) v
  | agg (cs : List AV) (vs : Array Value) (hl : cs.length = vs.size) (h1 : ∀ (i : Nat) (u : Value), vs[i]? = some u → u.oneCell' = true) (h : ∀ (i : Nat) (x : AV) (u : Value), cs[i]? = some x → vs[i]? = some u → Rel X ρ H w x u) : Rel X ρ H w (.agg cs) (.agg vs)
  | ts (sz : Nat) (rows : List (List AV)) (b n cap : Nat) (c : Array Value) (E : TypeId) (fz : Nat × Nat) (hsz : 0 < sz) (hn : rows.length = n) (hnc : n ≤ cap) (hcap : cap ≤ maxLen)
      (hr : ∀ r ∈ rows, r.length = sz) (hX : ¬ X b) (hb : w.heap[b]? = some (.cells c E fz)) (hc : cap * sz ≤ c.size)
      (h1 : ∀ (k : Nat) (u : Value), k < n * sz → c[k]? = some u → u.oneCell' = true)
      (h : ∀ (i : Nat) (r : List AV) (j : Nat) (x : AV) (u : Value), rows[i]? = some r → r[j]? = some x → c[i * sz + j]? = some u → Rel X ρ H w x u) :
      Rel X ρ H w (.ts sz rows) (.slice (some ⟨b, 0, none⟩) n cap)
  | os (id g off n b cs cap : Nat) (B : Blk) (hB : H[id]? = some B) (hg : B.gen = g) (hρ : ρ[id]? = some (some (b, cs))) (ho : off + n ≤ B.rows.length) (hn : n ≤ cap) (hcap : cap ≤ maxLen)
      (hc : (off + cap) * B.sz ≤ cs) : Rel X ρ H w (.os id g off n) (.slice (some ⟨b, off * B.sz, none⟩) n cap)
  | osnil (id g : Nat) (B : Blk) (a : Option Addr) (hB : H[id]? = some B) (hg : B.gen = g) (hρ : ρ[id]? = some none) : Rel X ρ H w (.os id g 0 0) (.slice a 0 0)
  | osold (id g off n : Nat) (B : Blk) (v : Value) (hB : H[id]? = some B) (hg : g < B.gen) (hv : v.oneCell' = true) : Rel X ρ H w (.os id g off n) v
  | ep (id g i j b cs : Nat) (B : Blk) (hB : H[id]? = some B) (hg : B.gen = g) (hρ : ρ[id]? = some (some (b, cs))) : Rel X ρ H w (.ep id g i j) (.pointer (some ⟨b, i * B.sz + j, none⟩))
  | epold (id g i j : Nat) (B : Blk) (v : Value) (hB : H[id]? = some B) (hg : g < B.gen) (hv : v.oneCell' = true) : Rel X ρ H w (.ep id g i j) v
  | ip (sz : Nat) (row : List DV) (j b o : Nat) (c : Array Value) (E : TypeId) (fz : Nat × Nat) (hl : row.length = sz) (hX : ¬ X b) (hb : w.heap[b]? = some (.cells c E fz)) (hc : o + sz ≤ c.size)
      (h1 : ∀ (k : Nat) (u : Value), k < sz → c[o + k]? = some u → u.oneCell' = true)
      (h : ∀ (k : Nat) (x : DV) (u : Value), row[k]? = some x → c[o + k]? = some u → DRel X w x u) : Rel X ρ H w (.ip sz row j) (.pointer (some ⟨b, o + j, none⟩))
  | fn (f : FuncId) (caps : List AV) (vs : Array Value) (hl : caps.length = vs.size) (h : ∀ (i : Nat) (x : AV) (u : Value), caps[i]? = some x → vs[i]? = some u → Rel X ρ H w x u) : Rel X ρ H w (.fn f caps) (.func (.func f) #[] vs)
  | yl (l : Nat) : Rel X ρ H w (.yl l) (.func (.yield l) #[] #[])
  | tup (cs : List AV) (vs : Array Value) (hl : cs.length = vs.size) (h : ∀ (i : Nat) (x : AV) (u : Value), cs[i]? = some x → vs[i]? = some u → Rel X ρ H w x u) : Rel X ρ H w (.tup cs) (.tuple vs)
  | junk (v : Value) : Rel X ρ H w .junk v

/-- How the owned heap may turn: a block keeps its shape and place, or becomes another generation. -/
structure HStays (ρ : List Loc) (H : AHeap) (ρ' : List Loc) (H' : AHeap) : Prop where
  keep : ∀ (id : Nat) (B : Blk), H[id]? = some B → ∃ B', H'[id]? = some B' ∧ B.gen ≤ B'.gen ∧ (B'.gen = B.gen → B'.sz = B.sz ∧ B'.rows.length = B.rows.length ∧ ρ'[id]? = ρ[id]?)

theorem HStays.refl (ρ : List Loc) (H : AHeap) : HStays ρ H ρ H := ⟨fun _ B h => ⟨B, h, Nat.le_refl _, fun _ => ⟨rfl, rfl, rfl⟩⟩⟩
theorem HStays.trans {ρ ρ' ρ'' : List Loc} {H H' H'' : AHeap} (h : HStays ρ H ρ' H') (k : HStays ρ' H' ρ'' H'') : HStays ρ H ρ'' H'' :=
  ⟨fun id B hB => by
    obtain ⟨B', h1, h2, h3⟩ := h.keep id B hB
    obtain ⟨B'', k1, k2, k3⟩ := k.keep id B' h1
    refine ⟨B'', k1, Nat.le_trans h2 k2, fun e => ?_⟩
    have e1 : B'.gen = B.gen := by omega
    have e2 : B''.gen = B'.gen := by omega
    obtain ⟨a1, a2, a3⟩ := h3 e1
    obtain ⟨b1, b2, b3⟩ := k3 e2
    exact ⟨b1.trans a1, b2.trans a2, b3.trans a3⟩⟩

theorem Rel.mono {X X' : Nat → Prop} {ρ ρ' : List Loc} {H H' : AHeap} {w w' : World} (hs : Stays X w X' w') (hh : HStays ρ H ρ' H') {x : AV} {v : Value} (h : Rel X ρ H w x v) : Rel X' ρ' H' w' x v := by
  induction h with
  | d x v h => exact .d x v (h.mono hs)
  | agg cs vs hl h1 _ ih => exact .agg cs vs hl h1 ih
  | ts sz rows b n cap c E fz hsz hn hnc hcap hr hX hb hc hone _ ih =>
    obtain ⟨h1, h2⟩ := hs.keep b c E fz hX hb
    exact .ts sz rows b n cap c E fz hsz hn hnc hcap hr h1 h2 hc hone ih
  | os id g off n b cs cap B hB hg hρ ho hn hcap hc =>
    obtain ⟨B', h1, h2, h3⟩ := hh.keep id B hB
    by_cases e : B'.gen = B.gen
    · obtain ⟨a1, a2, a3⟩ := h3 e
      rw [← a1]
      exact .os id g off n b cs cap B' h1 (e.trans hg) (a3.trans hρ) (by omega) hn hcap (by rw [a1]; exact hc)
    · exact .osold id g off n B' _ h1 (by omega) rfl
  | osnil id g B a hB hg hρ =>
    obtain ⟨B', h1, h2, h3⟩ := hh.keep id B hB
    by_cases e : B'.gen = B.gen
    · exact .osnil id g B' a h1 (e.trans hg) ((h3 e).2.2.trans hρ)
    · exact .osold id g 0 0 B' _ h1 (by omega) rfl
  | osold id g off n B v hB hg hv =>
    obtain ⟨B', h1, h2, h3⟩ := hh.keep id B hB
    exact .osold id g off n B' v h1 (by omega) hv
  | ep id g i j b cs B hB hg hρ =>
    obtain ⟨B', h1, h2, h3⟩ := hh.keep id B hB
    by_cases e : B'.gen = B.gen
    · obtain ⟨a1, a2, a3⟩ := h3 e
      rw [← a1]
      exact .ep id g i j b cs B' h1 (e.trans hg) (a3.trans hρ)
    · exact .epold id g i j B' _ h1 (by omega) rfl
  | epold id g i j B v hB hg hv =>
    obtain ⟨B', h1, h2, h3⟩ := hh.keep id B hB
    exact .epold id g i j B' v h1 (by omega) hv
  | ip sz row j b o c E fz hl hX hb hc hone h =>
    obtain ⟨h1, h2⟩ := hs.keep b c E fz hX hb
    exact .ip sz row j b o c E fz hl h1 h2 hc hone (fun k x u hk hu => (h k x u hk hu).mono hs)
  | fn f caps vs hl _ ih => exact .fn f caps vs hl ih
  | yl l => exact .yl l
  | tup cs vs hl _ ih => exact .tup cs vs hl ih
  | junk v => exact .junk v

/-- A block's real cells read as its rows. -/
structure BSim (X : Nat → Prop) (ρ : List Loc) (H : AHeap) (w : World) (B : Blk) (b cs : Nat) : Prop where
  ex : X b
  pos : 0 < B.sz
  row : ∀ r ∈ B.rows, r.length = B.sz
  cell : ∃ (c : Array Value) (E : TypeId), w.heap[b]? = some (.cells c E (0, 0)) ∧ c.size = cs ∧ B.rows.length * B.sz ≤ cs ∧
    (∀ (k : Nat) (u : Value), k < B.rows.length * B.sz → c[k]? = some u → u.oneCell' = true) ∧
    ∀ (i : Nat) (r : List AV) (j : Nat) (x : AV) (u : Value), B.rows[i]? = some r → r[j]? = some x → c[i * B.sz + j]? = some u → Rel X ρ H w x u

/-- The world holds the owned heap. -/
structure Sim (X : Nat → Prop) (ρ : List Loc) (H : AHeap) (w : World) : Prop where
  len : ρ.length = H.length
  blk : ∀ (id : Nat) (B : Blk) (b cs : Nat), H[id]? = some B → ρ[id]? = some (some (b, cs)) → BSim X ρ H w B b cs
  none : ∀ (id : Nat) (B : Blk), H[id]? = some B → ρ[id]? = some none → B.rows = []
  inj : ∀ (id id' b cs cs' : Nat), ρ[id]? = some (some (b, cs)) → ρ[id']? = some (some (b, cs')) → id = id'
  small : ∀ b, X b → b < w.heap.size

/-- Everything but the owned blocks (and the loops' records named by Y) is as it was. -/
structure Ext (Y : Nat → Prop) (ρ : List Loc) (w w' : World) : Prop where
  size : w.heap.size ≤ w'.heap.size
  keep : ∀ (b : Nat), b < w.heap.size → (∀ (id cs : Nat), ρ[id]? ≠ some (some (b, cs))) → ¬ Y b → w'.heap[b]? = w.heap[b]?

end Go.Proofs.Ytpmgmingjggegaa.AL
