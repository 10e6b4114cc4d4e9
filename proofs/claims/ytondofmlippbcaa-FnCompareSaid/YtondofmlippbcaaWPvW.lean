import Derived.Test.YtondofmlippbcaaWPvV
set_option linter.unusedVariables false
set_option linter.unusedSimpArgs false
namespace Go.Pv

def flatGo (P : Program) : Nat → List Field → Option (List TK)
  | _, [] => some []
  | n, f :: fs => match f.name == "_", Nat.beq f.offset n, P.underlying f.type, flatGo P (n + 1) fs with
    | false, true, some (.int k), some ks => some (.int k :: ks)
    | false, true, some .bool, some ks => some (.bool :: ks)
    | false, true, some .string, some ks => some (.string :: ks)
    | _, _, _, _ => none

theorem flatGo_ok (P : Program) : ∀ (fs : List Field) (n : Nat) (ks : List TK), flatGo P n fs = some ks → FlatOk P ks n fs
  | [], n, ks, h => by simp [flatGo] at h; subst h; trivial
  | f :: fs, n, ks, h => by
    simp only [flatGo] at h
    split at h
    · rename_i k ks' h1 h2 h3 h4
      cases h
      exact ⟨h1, Nat.eq_of_beq_eq_true h2, ⟨k, h3⟩, flatGo_ok P fs _ _ h4⟩
    · rename_i ks' h1 h2 h3 h4
      cases h
      exact ⟨h1, Nat.eq_of_beq_eq_true h2, h3, flatGo_ok P fs _ _ h4⟩
    · rename_i ks' h1 h2 h3 h4
      cases h
      exact ⟨h1, Nat.eq_of_beq_eq_true h2, h3, flatGo_ok P fs _ _ h4⟩
    · cases h

/-- A struct's fields may be told of. -/
def fieldsB (P : Program) : List Field → Option (List Bool)
  | [] => some []
  | f :: fs => match Nat.beq (P.cellsOf f.type) 0, P.underlying f.type, fieldsB P fs with
    | false, some d, some bs => some (d.isRow :: bs)
    | _, _, _ => none

theorem fieldsB_ok (P : Program) : ∀ (fs : List Field) (bs : List Bool), fieldsB P fs = some bs → (∀ f ∈ fs, P.cellsOf f.type ≠ 0) ∧ (fs.map fun f => (P.underlying f.type).map TypeDesc.isRow) = bs.map some
  | [], bs, h => by simp [fieldsB] at h; subst h; exact ⟨fun f hf => (by cases hf), rfl⟩
  | f :: fs, bs, h => by
    simp only [fieldsB] at h
    split at h
    · rename_i d bs' h1 h2 h3
      cases h
      obtain ⟨g1, g2⟩ := fieldsB_ok P fs _ h3
      refine ⟨fun g hg => ?_, by simp [h2, g2]⟩
      rcases List.mem_cons.1 hg with rfl | hg
      · intro h0; rw [h0] at h1; cases h1
      · exact g1 g hg
    · cases h

/-- What is told of a type, read off the program. -/
def mkTI (P : Program) (t : TypeId) : Option TI :=
  match P.info? t, P.underlying t with
  | some i, some d => match i.zero with
    | some z => match Nat.beq i.size 0, Nat.beq i.bytes 0, Nat.beq z.cells.size i.size with
      | false, false, true => match d with
        | .int k => match Nat.beq i.size 1 with | true => some { kind := .int k, size := 1, bytes := i.bytes, zero := z.cells.toList.map constPV } | false => none
        | .bool => match Nat.beq i.size 1 with | true => some { kind := .bool, size := 1, bytes := i.bytes, zero := z.cells.toList.map constPV } | false => none
        | .string => match Nat.beq i.size 1 with | true => some { kind := .string, size := 1, bytes := i.bytes, zero := z.cells.toList.map constPV } | false => none
        | .slice e => match Nat.beq i.size 1 with | true => some { kind := .slice, size := 1, bytes := i.bytes, zero := z.cells.toList.map constPV, elem := e } | false => none
        | .interface _ => match Nat.beq i.size 1 with | true => some { kind := .iface, size := 1, bytes := i.bytes, zero := z.cells.toList.map constPV } | false => none
        | .struct fs => match fieldsB P fs.toList with
          | some bs => some { kind := .struct, size := i.size, bytes := i.bytes, zero := z.cells.toList.map constPV, offs := fs.toList.map (·.offset), szs := fs.toList.map fun f => P.cellsOf f.type, fagg := bs,
                              flat := match P.stoodInHeld t, P.eqGuardType P.depth t, flatGo P 0 fs.toList with | false, false, some ks => ks | _, _, _ => [] }
          | none => none
        | d => match d.isRow, Nat.beq i.size 1 with | false, true => some { kind := .other, size := 1, bytes := i.bytes, zero := z.cells.toList.map constPV } | _, _ => none
      | _, _, _ => none
    | none => none
  | _, _ => none

theorem constPV_cell (v : Value) : (cellB (constPV v) = true ∨ constPV v = .junk) ∧ ids (constPV v) = [] := by
  unfold constPV
  split <;> (try split) <;> simp [cellB, ids]

theorem mkTI_ok {P : Program} {t : TypeId} {ti : TI} (h : mkTI P t = some ti) : TIok P t ti := by
  unfold mkTI at h
  split at h
  · rename_i i d hi hu
    split at h
    · rename_i z hz
      split at h
      · rename_i h1 h2 h3
        have hpos : 0 < i.size := Nat.pos_of_ne_zero fun h0 => by rw [h0] at h1; cases h1
        have hbpos : 0 < i.bytes := Nat.pos_of_ne_zero fun h0 => by rw [h0] at h2; cases h2
        have hzs : z.cells.size = i.size := Nat.eq_of_beq_eq_true h3
        have hzr : ∀ (j : Nat) (x : PV), (z.cells.toList.map constPV)[j]? = some x → (∀ w ok pl lk, PRep w ok pl lk (z.cells.getD j undef) x) ∧ (cellB x = true ∨ x = .junk) ∧ ids x = [] := fun j x hx => by
          rw [List.getElem?_map] at hx
          cases hj : z.cells.toList[j]? with
          | none => rw [hj] at hx; cases hx
          | some y =>
            rw [hj] at hx; simp at hx; subst hx
            have : z.cells.getD j undef = y := by rw [Array.getElem?_toList] at hj; simp [hj]
            rw [this]
            exact ⟨fun w ok pl lk => constPV_rep w ok pl lk y, constPV_cell y⟩
        have hlen : (z.cells.toList.map constPV).length = i.size := by simpa using hzs
        split at h
        · rename_i k; split at h
          · rename_i h4; cases h; have h4 := Nat.eq_of_beq_eq_true h4
            exact ⟨hu, ⟨i, z, hi, h4, rfl, hz, by rw [hlen, hzs], by rw [hlen]; exact h4, hzr⟩, fun _ => rfl, Nat.one_pos, hbpos, fun h => absurd rfl h⟩
          · cases h
        · split at h
          · rename_i h4; cases h; have h4 := Nat.eq_of_beq_eq_true h4
            exact ⟨hu, ⟨i, z, hi, h4, rfl, hz, by rw [hlen, hzs], by rw [hlen]; exact h4, hzr⟩, fun _ => rfl, Nat.one_pos, hbpos, fun h => absurd rfl h⟩
          · cases h
        · split at h
          · rename_i h4; cases h; have h4 := Nat.eq_of_beq_eq_true h4
            exact ⟨hu, ⟨i, z, hi, h4, rfl, hz, by rw [hlen, hzs], by rw [hlen]; exact h4, hzr⟩, fun _ => rfl, Nat.one_pos, hbpos, fun h => absurd rfl h⟩
          · cases h
        · rename_i e; split at h
          · rename_i h4; cases h; have h4 := Nat.eq_of_beq_eq_true h4
            exact ⟨hu, ⟨i, z, hi, h4, rfl, hz, by rw [hlen, hzs], by rw [hlen]; exact h4, hzr⟩, fun _ => rfl, Nat.one_pos, hbpos, fun h => absurd rfl h⟩
          · cases h
        · rename_i ms; split at h
          · rename_i h4; cases h; have h4 := Nat.eq_of_beq_eq_true h4
            exact ⟨⟨ms, hu⟩, ⟨i, z, hi, h4, rfl, hz, by rw [hlen, hzs], by rw [hlen]; exact h4, hzr⟩, fun _ => rfl, Nat.one_pos, hbpos, fun h => absurd rfl h⟩
          · cases h
        · rename_i fs; split at h
          · rename_i bs hbs
            cases h
            obtain ⟨g1, g2⟩ := fieldsB_ok P _ _ hbs
            refine ⟨⟨fs, hu, rfl, rfl, g1, g2⟩, ⟨i, z, hi, rfl, rfl, hz, by rw [hlen, hzs], hlen, hzr⟩, fun h => absurd rfl h, hpos, hbpos, fun h => ?_⟩
            simp only at h
            split at h
            · rename_i ks q1 q2 q3
              refine ⟨fs, hu, q1, q2, ?_⟩
              have : (match P.stoodInHeld t, P.eqGuardType P.depth t, flatGo P 0 fs.toList with | false, false, some ks => ks | _, _, _ => []) = ks := by rw [q1, q2, q3]
              simp only [q1, q2, q3]
              exact flatGo_ok P _ _ _ q3
            · exact absurd rfl h
          · cases h
        · rename_i d' _ _ _ _ _ _; split at h
          · rename_i h5 h4; cases h; have h4 := Nat.eq_of_beq_eq_true h4
            exact ⟨⟨_, hu, h5⟩, ⟨i, z, hi, h4, rfl, hz, by rw [hlen, hzs], by rw [hlen]; exact h4, hzr⟩, fun _ => rfl, Nat.one_pos, hbpos, fun h => absurd rfl h⟩
          · cases h
      · cases h
    · cases h
  · cases h

def mkT (P : Program) : List Nat → List (Nat × Option TI)
  | [] => []
  | t :: r => (t, mkTI P t) :: mkT P r

theorem mkT_ok (P : Program) (l : List Nat) : TokE P (mkT P l) := by
  induction l with
  | nil => intro t ti h; simp [mkT, look] at h
  | cons x l ih =>
    intro t ti h
    simp only [mkT, look_cons] at h
    split at h
    · rename_i e; subst e; exact mkTI_ok h
    · exact ih t ti h

theorem TokE.of {P : Program} {l : List Nat} {T : List (Nat × Option TI)} (h : mkT P l = T) : TokE P T := h ▸ mkT_ok P l

end Go.Pv
