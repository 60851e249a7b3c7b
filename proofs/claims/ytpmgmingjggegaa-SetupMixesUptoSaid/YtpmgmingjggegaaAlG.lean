/- The other operations: sound. -/
import Derived.Test.YtpmgmingjggegaaAlF
set_option linter.unusedVariables false
set_option linter.unusedSimpArgs false
namespace Go.Proofs.Ytpmgmingjggegaa.AL
open Go

variable {P : Program} {C : Ctx} {X : Nat → Prop} {ρ : List Loc} {S : St} {w : World}

theorem fa_sound {off : Nat} {x : AV} {v : Value} {K : K2} {s : TypeId} {f : Nat} {fields : Array Field} {fd : Field} {i : TypeInfo} (hG : Good C X ρ S w) (hs : P.underlying s = some (.struct fields)) (hf : fields[f]? = some fd)
    (hi : P.info? fd.type = some i) (hz : i.size ≠ 0) (ho : fd.offset = off) (hx : Rel X ρ S.H w x v) (hK : aFa off x S K) :
    ∃ v', (Instr.fieldAt s v f).run P w = .ok v' w ∧ Post C X ρ S w K v' w := by
  have run : ∀ (b o : Nat), v = .pointer (some ⟨b, o, none⟩) → (Instr.fieldAt s v f).run P w = .ok (.pointer (some ⟨b, o + off, none⟩)) w := by
    rintro b o rfl
    simp [Instr.fieldAt, run_underlying hs, hf, Instr.sureAddr, fieldPlace, run_sizeOf hi, hz, ho, addr_add]
  unfold aFa at hK
  cases hx <;> try (exact hK.elim)
  case ep id g i j b cs B hB hg hρ =>
    simp only [hB] at hK
    exact ⟨_, run _ _ rfl, .same hG hK.2 (by rw [Nat.add_assoc]; exact .ep id g i (j + off) b cs B hB hg hρ)⟩
  case epold id g i j B hB hg hv =>
    simp only [hB] at hK
    omega
  case ip n row j b o c E fz hl hX hb hc hone h => exact ⟨_, run _ _ rfl, .same hG hK (by rw [Nat.add_assoc]; exact .ip n row (j + off) b o c E fz hl hX hb hc hone h)⟩

theorem fd_sound {off sz : Nat} {agg : Bool} {x : AV} {v : Value} {K : K2} {s : TypeId} {f : Nat} {fields : Array Field} {fd : Field} (hG : Good C X ρ S w) (hs : P.underlying s = some (.struct fields)) (hf : fields[f]? = some fd)
    (ht : tyOk P fd.type sz agg = true) (h1 : agg = false → sz = 1) (ho : fd.offset = off) (hx : Rel X ρ S.H w x v) (hK : aFd off sz agg x S K) :
    ∃ v', (Instr.field s v f).run P w = .ok v' w ∧ Post C X ρ S w K v' w := by
  unfold aFd at hK
  cases hx <;> try (exact hK.elim)
  case agg cs vs hl hone h =>
    obtain ⟨hle, hK⟩ := hK
    obtain ⟨d, i, t1, t2, t3, t4⟩ := tyOk_spec ht
    cases agg with
    | true =>
      refine ⟨.agg (vs.extract off (off + sz)), ?_, .same hG hK ?_⟩
      · simp only [Instr.field, Sem.run_bind, run_underlying hs, Result.andThen_ok, hf, asAgg, Sem.run_pure, part, run_isAgg t1, t4, if_true, run_sizeOf t2, t3, ho]
      · simp only [if_true]
        refine .agg _ _ (by simp; omega) (fun k u hu => ?_) (fun k x u hx hu => ?_)
        · simp only [Array.getElem?_extract] at hu
          split at hu
          · exact hone _ u hu
          · cases hu
        · obtain ⟨h2, h3⟩ := drop_take_get hx
          simp only [Array.getElem?_extract] at hu
          split at hu
          · exact h (off + k) x u h3 hu
          · cases hu
    | false =>
      obtain rfl := h1 rfl
      have hlt : off < vs.size := by omega
      refine ⟨vs[off], ?_, .same hG hK ?_⟩
      · simp only [Instr.field, Sem.run_bind, run_underlying hs, Result.andThen_ok, hf, asAgg, Sem.run_pure, part, run_isAgg t1, t4, Bool.false_eq_true, if_false, ho, Array.getElem?_eq_getElem hlt]
      · simp only [Bool.false_eq_true, if_false]
        exact h off _ _ (getD_of_lt (by omega)) (Array.getElem?_eq_getElem hlt)

theorem ixs_sound {sz : Nat} {x y : AV} {v u : Value} {K : K2} {t e : TypeId} {i : TypeInfo} (hG : Good C X ρ S w) (ht : P.underlying t = some (.slice e)) (hi : P.info? e = some i) (hs : i.size = sz)
    (hx : Rel X ρ S.H w x v) (hy : Rel X ρ S.H w y u) (hK : aIxs sz x y S K) : ∃ v', (Instr.indexAt t v u).run P w = .ok v' w ∧ Post C X ρ S w K v' w := by
  unfold aIxs at hK
  cases hy <;> try (exact hK.elim)
  case d y hd =>
    cases hd <;> try (exact hK.elim)
    case lit =>
      cases u <;> try (exact hK.elim)
      case int k n =>
        have run : ∀ (b o m cap : Nat), v = .slice (some ⟨b, o, none⟩) m cap → 0 ≤ n → n < m → (Instr.indexAt t v (.int k n)).run P w = .ok (.pointer (some ⟨b, o + n.toNat * sz, none⟩)) w := by
          rintro b o m cap rfl h0 h1
          simp [Instr.indexAt, asIntOf, run_underlying ht, h0, h1, run_sizeOf hi, hs, addr_add]
        simp only at hK
        cases hx <;> try (exact hK.elim)
        case d x hd =>
          cases hd <;> try (exact hK.elim)
          case zero a =>
            obtain ⟨_, h1, h2, _⟩ := hK
            simp at h2; omega
          case empty z cap a a1 a2 =>
            obtain ⟨_, h1, h2, _⟩ := hK
            simp at h2; omega
          case sl z rows b o m cap c E fz a1 a2 a3 a4 a5 a6 a7 a8 a9 a10 =>
            obtain ⟨rfl, h0, h1, hK⟩ := hK
            rw [a2] at h1
            refine ⟨_, run b o m cap rfl h0 h1, .same hG hK ?_⟩
            have hn : n.toNat < rows.length := by omega
            have hr := getD_of_lt (d := ([] : List DV)) hn
            have hrl := a5 _ (List.mem_of_getElem? hr)
            have hm : (n.toNat + 1) * z ≤ m * z := Nat.mul_le_mul_right _ (by omega)
            have hmc : m * z ≤ cap * z := Nat.mul_le_mul_right _ a3
            rw [Nat.add_mul, Nat.one_mul] at hm
            exact .ip z _ 0 b (o + n.toNat * z) c E fz hrl a6 a7 (by omega) (fun q u hq hu => a9 _ u (by omega) (by omega) hu) (fun q x u hx hu => a10 n.toNat _ q x u hr hx hu)
        case os id g off m b cs cap B hB hg hρ ho hn hcap hc =>
          simp only [hB] at hK
          obtain ⟨_, hz, h0, h1, hK⟩ := hK
          refine ⟨_, run b (off * B.sz) m cap rfl h0 h1, .same hG hK ?_⟩
          have e : off * B.sz + n.toNat * sz = (off + n.toNat) * B.sz + 0 := by rw [← hz, Nat.add_mul]; rfl
          rw [e]
          exact .ep id g (off + n.toNat) 0 b cs B hB hg hρ
        case osnil id g B a hB hg hρ =>
          simp only [hB] at hK
          obtain ⟨_, hz, h0, h1, hK⟩ := hK
          omega
        case osold id g off m B hB hg hv =>
          simp only [hB] at hK
          omega

theorem ixa_sound {n sz : Nat} {x y : AV} {v u : Value} {K : K2} {t e : TypeId} {i : TypeInfo} (hG : Good C X ρ S w) (ht : P.underlying t = some (.array n e)) (hi : P.info? e = some i) (hs : i.size = sz)
    (hx : Rel X ρ S.H w x v) (hy : Rel X ρ S.H w y u) (hK : aIxa n sz x y S K) : ∃ v', (Instr.indexAt t v u).run P w = .ok v' w ∧ Post C X ρ S w K v' w := by
  unfold aIxa at hK
  cases hy <;> try (exact hK.elim)
  case d y hd =>
    cases hd <;> try (exact hK.elim)
    case lit =>
      cases u <;> try (exact hK.elim)
      case int k q =>
        have run : ∀ (b o : Nat), v = .pointer (some ⟨b, o, none⟩) → 0 ≤ q → q < n → (Instr.indexAt t v (.int k q)).run P w = .ok (.pointer (some ⟨b, o + q.toNat * sz, none⟩)) w := by
          rintro b o rfl h0 h1
          simp [Instr.indexAt, Instr.sureAddr, asIntOf, run_underlying ht, h0, h1, run_sizeOf hi, hs, addr_add]
        simp only at hK
        cases hx <;> try (exact hK.elim)
        case ep id g r j b cs B hB hg hρ =>
          simp only [hB] at hK
          obtain ⟨_, h0, h1, hK⟩ := hK
          exact ⟨_, run _ _ rfl h0 h1, .same hG hK (by rw [Nat.add_assoc]; exact .ep id g r (j + q.toNat * sz) b cs B hB hg hρ)⟩
        case epold id g r j B hB hg hv =>
          simp only [hB] at hK
          omega
        case ip z row j b o c E fz hl hX hb hc hone h =>
          obtain ⟨h0, h1, hK⟩ := hK
          exact ⟨_, run _ _ rfl h0 h1, .same hG hK (by rw [Nat.add_assoc]; exact .ip z row (j + q.toNat * sz) b o c E fz hl hX hb hc hone h)⟩

theorem ixc_sound {x y : AV} {v u : Value} {K : K2} {t : TypeId} (hG : Good C X ρ S w) (ht : P.underlying t = some .string)
    (hx : Rel X ρ S.H w x v) (hy : Rel X ρ S.H w y u) (hK : aIxc x y S K) : ∃ v', (Instr.index t v u).run P w = .ok v' w ∧ Post C X ρ S w K v' w := by
  unfold aIxc at hK
  cases hx <;> try (exact hK.elim)
  case d x hd =>
    cases hd <;> try (exact hK.elim)
    case lit =>
      cases v <;> try (exact hK.elim)
      case string s =>
        cases hy <;> try (exact hK.elim)
        case d y hd =>
          cases hd <;> try (exact hK.elim)
          case lit =>
            cases u <;> try (exact hK.elim)
            case int k n =>
              obtain ⟨h0, h1, hK⟩ := hK
              have hlt : n.toNat < s.size := by omega
              have hs : s[n.toNat]? = some s[n.toNat] := by simp [hlt]
              refine ⟨.int .u8 s[n.toNat].toNat, by simp [Instr.index, asIntOf, run_underlying ht, h0, hs], .same hG hK ?_⟩
              have e : s.data.toList.getD n.toNat 0 = s[n.toNat] := by
                have : n.toNat < s.data.toList.length := by rw [Array.length_toList]; exact hlt
                simp [List.getD, List.getElem?_eq_getElem this]
                rfl
              rw [e]
              exact .d _ _ (.lit _)

theorem len_sound {str : Bool} {x : AV} {v : Value} {K : K2} {t ty : TypeId} (hG : Good C X ρ S w) (hs : str = true → P.underlying t = some .string) (hl : str = false → ∃ e, P.underlying t = some (.slice e)) (hx : Rel X ρ S.H w x v)
    (hK : aLen str x S K) : ∃ v', (Builtin.len_ #[t] ty #[v]).run P w = .ok v' w ∧ Post C X ρ S w K v' w := by
  have run : ∀ (a : Option Addr) (n cap : Nat), str = false → v = .slice a n cap → (Builtin.len_ #[t] ty #[v]).run P w = .ok (.int .i64 n) w := by
    intro a n cap hf h
    obtain ⟨e, he⟩ := hl hf
    subst h
    simp [Builtin.len_, run_underlying he, goInt]
  unfold aLen at hK
  cases hx <;> try (exact hK.elim)
  case d x hd =>
    cases hd <;> try (exact hK.elim)
    case zero a => exact ⟨_, run a 0 0 hK.1 rfl, .same hG hK.2 (.d _ _ (.lit _))⟩
    case empty z cap a a1 a2 => exact ⟨_, run a 0 cap hK.1 rfl, .same hG hK.2 (.d _ _ (.lit _))⟩
    case sl z rows b o m cap c E fz a1 a2 a3 a4 a5 a6 a7 a8 a9 a10 =>
      simp only [a2] at hK
      exact ⟨_, run _ m cap hK.1 rfl, .same hG hK.2 (.d _ _ (.lit _))⟩
    case lit =>
      cases v <;> try (exact hK.elim)
      case string s =>
        have h := hs hK.1
        exact ⟨.int .i64 s.size, by simp [Builtin.len_, run_underlying h, goInt], .same hG hK.2 (.d _ _ (.lit _))⟩
  case ts z rows b n cap c E fz a1 a2 a3 a4 a5 a6 a7 a8 a9 a10 =>
    simp only [a2] at hK
    exact ⟨_, run _ n cap hK.1 rfl, .same hG hK.2 (.d _ _ (.lit _))⟩
  case os id g off m b cs cap B hB hg hρ ho hn hcap hc =>
    simp only [hB] at hK
    exact ⟨_, run _ m cap hK.2.1 rfl, .same hG hK.2.2 (.d _ _ (.lit _))⟩
  case osnil id g B a hB hg hρ =>
    simp only [hB] at hK
    exact ⟨_, run a 0 0 hK.2.1 rfl, .same hG hK.2.2 (.d _ _ (.lit _))⟩
  case osold id g off m B hB hg hv =>
    simp only [hB] at hK
    omega

end Go.Proofs.Ytpmgmingjggegaa.AL
