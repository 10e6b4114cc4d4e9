import Derived.Test.YtondofmlippbcaaWPvJ
import Derived.Laws.Slices
set_option linter.unusedVariables false
set_option linter.unusedSimpArgs false
namespace Go.Pv
variable {X : Ctx} {pl : Pl} {fr : Fr} {ob : Ob} {a : Act} {w : World}

theorem run_sliceBound {P : Program} {w : World} {k : IntKind} {i : Int} {y : Nat} {c : BoundsCode} (h0 : 0 ≤ i) (h1 : i ≤ y) : (Instr.sliceBound (.int k i) y c).run P w = .ok i.toNat w := by
  simp [Instr.sliceBound, asIntOf, h0, h1]

/-- Bounds that lie in the text or the row. -/
theorem run_sliceBounds {P : Program} {w : World} (isSlice : Bool) (len cap : Nat) (hlc : len ≤ cap) (l h : Option Int) (lv hv : Option Value) (hl : ∀ i, l = some i → ∃ k, lv = some (.int k i)) (hl' : l = none → lv = none) (hh : ∀ i, h = some i → ∃ k, hv = some (.int k i)) (hh' : h = none → hv = none)
    (h0 : 0 ≤ l.getD 0) (h1 : l.getD 0 ≤ h.getD len) (h2 : h.getD len ≤ len) : (Instr.sliceBounds isSlice len cap lv hv none).run P w = .ok ((l.getD 0).toNat, (h.getD len).toNat, cap) w := by
  cases l with
  | none =>
    rw [hl' rfl]
    cases h with
    | none => rw [hh' rfl]; simp [Instr.sliceBounds]
    | some hi =>
      obtain ⟨k, rfl⟩ := hh hi rfl
      simp at h1 h2
      have := run_sliceBound (P := P) (w := w) (k := k) (y := cap) (c := if isSlice then .sliceAcap else .sliceAlen) h1 (by omega)
      simp [Instr.sliceBounds, this]
  | some lo =>
    obtain ⟨kl, rfl⟩ := hl lo rfl
    simp at h0 h1
    cases h with
    | none =>
      rw [hh' rfl]
      simp at h1
      have := run_sliceBound (P := P) (w := w) (k := kl) (y := len) (c := .sliceB) h0 h1
      simp [Instr.sliceBounds, this]
    | some hi =>
      obtain ⟨k, rfl⟩ := hh hi rfl
      simp at h1 h2
      have e1 := run_sliceBound (P := P) (w := w) (k := k) (y := cap) (c := if isSlice then .sliceAcap else .sliceAlen) (show 0 ≤ hi by omega) (by omega)
      have e2 := run_sliceBound (P := P) (w := w) (k := kl) (y := hi.toNat) (c := .sliceB) h0 (by omega)
      simp [Instr.sliceBounds, e1, e2]

/-- A piece of rows. -/
theorem DRep.piece {w : World} {ok : Nat → Prop} {ao : Option Addr} {len c : Nat} {rows : List (List D)} (h : DRep w ok (.slice ao len c) (.sl rows)) (sz l hh : Nat) (h1 : l ≤ hh) (h2 : hh ≤ rows.length) (hs : ∀ r ∈ rows, r.length = sz) :
    len = rows.length ∧ len ≤ c ∧ DRep w ok (.slice (if c = l then ao else ao.map (·.add (l * sz))) (hh - l) (c - l)) (.sl ((rows.take hh).drop l)) := by
  cases h with
  | nil =>
    simp at h2
    obtain rfl : hh = 0 := h2
    obtain rfl : l = 0 := by omega
    exact ⟨rfl, Nat.le_refl _, by simpa using DRep.nil⟩
  | sl ad _ s _ vs hc hm hok hsz hcell hrep =>
    refine ⟨rfl, hc, ?_⟩
    have hlen : ((rows.take hh).drop l).length = hh - l := by simp; omega
    have hget : ∀ i r, ((rows.take hh).drop l)[i]? = some r → rows[l + i]? = some r := by
      intro i r hr
      rw [List.getElem?_drop, List.getElem?_take] at hr
      split at hr
      · exact hr
      · cases hr
    have hif : (if c = l then some ad else (some ad).map (·.add (l * sz))) = some (if c = l then ad else ad.add (l * sz)) := by split <;> rfl
    rw [hif, ← hlen]
    have hempty : c = l → (rows.take hh).drop l = [] := fun e => by
      apply List.eq_nil_of_length_eq_zero; rw [hlen]; omega
    refine .sl _ _ s _ (fun k => vs (l * s + k)) (by rw [hlen]; omega) (by omega) (fun hne => ?_) (fun r hr => hsz r (List.mem_of_mem_take (List.mem_of_mem_drop hr))) (fun i r hr j x hj => ?_) (fun i r hr j x hj => ?_)
    · have : ¬ c = l := fun e => hne (hempty e)
      rw [if_neg this, add_block]
      exact hok fun h0 => by subst h0; simp at hne
    · have : ¬ c = l := fun e => by rw [hempty e] at hr; simp at hr
      rw [if_neg this, add_add]
      have hss : s = sz := by
        have hm := List.mem_of_getElem? (hget i r hr)
        rw [← hs r hm, hsz r hm]
      subst hss
      have := hcell (l + i) r (hget i r hr) j x hj
      rw [Nat.add_mul, Nat.add_assoc] at this
      exact this
    · have := hrep (l + i) r (hget i r hr) j x hj
      rw [Nat.add_mul, Nat.add_assoc] at this
      exact this

theorem run_slice_str (hT : TOk X) {ty : TypeId} {ti : TI} (hti : look none X.E.T ty = some ti) (hk : ti.kind = .string) (s : ByteArray) (l h : Option Int) (lv hv : Option Value) (hl : ∀ i, l = some i → ∃ k, lv = some (.int k i)) (hl' : l = none → lv = none) (hh : ∀ i, h = some i → ∃ k, hv = some (.int k i)) (hh' : h = none → hv = none)
    (h0 : 0 ≤ l.getD 0) (h1 : l.getD 0 ≤ h.getD s.size) (h2 : h.getD s.size ≤ s.size) : (Instr.sliceAt ty (.string s) lv hv none).run X.P w = .ok (.string (s.extract (l.getD 0).toNat (h.getD s.size).toNat)) w := by
  have hu := (hT ty ti hti).und
  rw [hk] at hu
  have hu' : X.P.underlying ty = some .string := hu
  have hb := run_sliceBounds (P := X.P) (w := w) false s.size s.size (Nat.le_refl _) l h lv hv hl hl' hh hh' h0 h1 h2
  simp [Instr.sliceAt, Instr.slice, run_underlying hu', hb]

theorem run_slice_row (hT : TOk X) {ty : TypeId} {ti te : TI} (hti : look none X.E.T ty = some ti) (hk : ti.kind = .slice) (hte : look none X.E.T ti.elem = some te) (ao : Option Addr) (len c : Nat) (hlc : len ≤ c) (l h : Option Int) (lv hv : Option Value) (hl : ∀ i, l = some i → ∃ k, lv = some (.int k i)) (hl' : l = none → lv = none) (hh : ∀ i, h = some i → ∃ k, hv = some (.int k i)) (hh' : h = none → hv = none)
    (h0 : 0 ≤ l.getD 0) (h1 : l.getD 0 ≤ h.getD len) (h2 : h.getD len ≤ len) : (Instr.sliceAt ty (.slice ao len c) lv hv none).run X.P w = .ok (.slice (if c = (l.getD 0).toNat then ao else ao.map (·.add ((l.getD 0).toNat * te.size))) ((h.getD len).toNat - (l.getD 0).toNat) (c - (l.getD 0).toNat)) w := by
  have hu := (hT ty ti hti).und
  rw [hk] at hu
  have hu' : X.P.underlying ty = some (.slice ti.elem) := hu
  obtain ⟨ie, z, hi, hsz, _⟩ := (hT ti.elem te hte).info
  have hb := run_sliceBounds (P := X.P) (w := w) true len c hlc l h lv hv hl hl' hh hh' h0 h1 h2
  simp [Instr.sliceAt, Instr.slice, run_underlying hu', hb, sizeOf, typeInfo, hi, hsz]

theorem slGo_ok (hT : TOk X) {ty : TypeId} {ti : TI} (hti : look none X.E.T ty = some ti) {lk : Nat → Obj} {K : PV → Ob → List Nat → Prop} {x : PV} {l h : Option Int} (H : slGo X.E ti lk K x l h) :
    ∃ v u t, K v u t ∧ ∀ (ob : Ob), (∀ id ∈ t, lkOf ob id = lk id) → Frz ob u ∧ ids v = [] ∧ ∀ pl w fr a, Rel X pl fr ob a w → Rel X pl fr (u ++ ob) a w → ∀ val, PRep w (Imm X pl (lkOf ob) w) pl (lkOf ob) val x →
      ∀ lv hv : Option Value, (∀ i, l = some i → ∃ k, lv = some (.int k i)) → (l = none → lv = none) → (∀ i, h = some i → ∃ k, hv = some (.int k i)) → (h = none → hv = none) →
      ∃ val', (Instr.sliceAt ty val lv hv none).run X.P w = .ok val' w ∧ PRep w (Imm X pl (lkOf (u ++ ob)) w) pl (lkOf (u ++ ob)) val' v := by
  unfold slGo at H
  split at H
  · rename_i s
    split at H
    · rename_i hk
      obtain ⟨⟨h0, h1, h2⟩, H⟩ := H
      refine ⟨_, _, _, H, fun ob _ => ⟨.nil _, rfl, fun pl w fr a hr hr' val hp lv hv e1 e2 e3 e4 => ?_⟩⟩
      cases hp with
      | d hp =>
        obtain ⟨s, rfl, rfl, hs⟩ := hp.str_inv
        rw [size_data] at h1 h2 ⊢
        refine ⟨_, run_slice_str hT hti hk s l h lv hv e1 e2 e3 e4 h0 h1 h2, .d ?_⟩
        have hx : (s.extract (l.getD 0).toNat (h.getD s.size).toNat).data.toList = (s.data.toList.take (h.getD s.size).toNat).drop (l.getD 0).toNat := by
          rw [ByteArray.data_extract, Array.toList_extract, List.extract_eq_take_drop, List.drop_take]
        rw [← hx]
        refine .str _ ?_
        rw [ByteArray.size_extract]; omega
    · exact H.elim
  · rename_i rows
    split at H
    · rename_i te hk hte
      obtain ⟨⟨h0, h1, h2, h3⟩, H⟩ := H
      obtain ⟨rowsN, hrowsN, H⟩ := H
      subst hrowsN
      refine ⟨_, _, _, H, fun ob _ => ⟨.nil _, rfl, fun pl w fr a hr hr' val hp lv hv e1 e2 e3 e4 => ?_⟩⟩
      cases hp with
      | d hp =>
        have hsl : ∃ ao len c, val = .slice ao len c := by cases hp <;> exact ⟨_, _, _, rfl⟩
        obtain ⟨ao, len, c, rfl⟩ := hsl
        obtain ⟨hlen, hlc, hp'⟩ := hp.piece te.size (l.getD 0).toNat (h.getD rows.length).toNat (by omega) (by omega) h3
        have := run_slice_row (w := w) hT hti hk hte ao len c hlc l h lv hv e1 e2 e3 e4 h0 (by rw [hlen]; exact h1) (by rw [hlen]; exact h2)
        rw [hlen] at this
        exact ⟨_, by rw [hlen]; exact this, .d hp'⟩
    · exact H.elim
  · rename_i id
    split at H
    · rename_i te e sz rows hk hte hl
      split at H
      · rename_i hsz
        obtain rfl : sz = te.size := Nat.eq_of_beq_eq_true hsz
        obtain ⟨⟨h0, h1, h2⟩, H⟩ := H
        obtain ⟨rowsN, hrowsN, H⟩ := H
        subst hrowsN
        refine ⟨_, _, _, H, fun ob ht => ?_⟩
        have hlo : lkOf ob id = .row e te.size rows := (ht id (by simp)).trans hl
        refine ⟨Frz.cons (.nil _) hlo, rfl, fun pl w fr a hr hr' val hp lv hv e1 e2 e3 e4 => ?_⟩
        cases hp with
        | own hvv =>
          rename_i ao len c
          have hvv := hvv (by rw [hlo]; rfl)
          have h5 := hr'.ho id
          have h6 : lkOf ([(id, Obj.frz te.size rows)] ++ ob) id = .frz te.size rows := by simp [lkOf, look_cons]
          rw [h6] at h5
          obtain ⟨hs, hd, _⟩ := h5
          rw [← hvv] at hd
          obtain ⟨hlen, hlc, hp'⟩ := hd.piece te.size (l.getD 0).toNat (h.getD rows.length).toNat (by omega) (by omega) hs
          have := run_slice_row (w := w) hT hti hk hte ao len c hlc l h lv hv e1 e2 e3 e4 h0 (by rw [hlen]; exact h1) (by rw [hlen]; exact h2)
          rw [hlen] at this
          exact ⟨_, by rw [hlen]; exact this, .d hp'⟩
      · exact H.elim
    · rename_i te sz rows hk hte hl
      split at H
      · rename_i hsz
        obtain rfl : sz = te.size := Nat.eq_of_beq_eq_true hsz
        obtain ⟨⟨h0, h1, h2⟩, H⟩ := H
        obtain ⟨rowsN, hrowsN, H⟩ := H
        subst hrowsN
        refine ⟨_, _, _, H, fun ob ht => ?_⟩
        have hlo : lkOf ob id = .frz te.size rows := (ht id (by simp)).trans hl
        refine ⟨.nil _, rfl, fun pl w fr a hr hr' val hp lv hv e1 e2 e3 e4 => ?_⟩
        cases hp with
        | own hvv =>
          rename_i ao len c
          have hvv := hvv (by rw [hlo]; rfl)
          have h5 := hr.ho id
          rw [hlo] at h5
          obtain ⟨hs, hd, _⟩ := h5
          rw [← hvv] at hd
          obtain ⟨hlen, hlc, hp'⟩ := hd.piece te.size (l.getD 0).toNat (h.getD rows.length).toNat (by omega) (by omega) hs
          have := run_slice_row (w := w) hT hti hk hte ao len c hlc l h lv hv e1 e2 e3 e4 h0 (by rw [hlen]; exact h1) (by rw [hlen]; exact h2)
          rw [hlen] at this
          exact ⟨_, by rw [hlen]; exact this, .d hp'⟩
      · exact H.elim
    · exact H.elim
  · exact H.elim

theorem intRep {w : World} {ok : Nat → Prop} {pl : Pl} {lk : Nat → Obj} {v : Value} {k : IntKind} {i : Int} (h : PRep w ok pl lk v (.d (.int k i))) : v = .int k i := by
  cases h with
  | d h => cases h; rfl

theorem core_slice (hT : TOk X) (ty : TypeId) (x : Operand) (lo hi mx : Option Operand) {dst : Option Nat} {ins : List PV} {lk : Nat → Obj} {K : PV → Ob → List Nat → Prop} (hd : ∀ d', dst = some d' → d' < X.E.nt) (h : evCore X.E (.slice ty x lo hi mx) dst ins lk K) :
    ∃ v u t, K v u t ∧ CoreOk X (.slice ty x lo hi mx) dst ins lk v u t := by
  simp only [evCore] at h
  split at h
  · rename_i ti hti
    have fin : ∀ (p : PV) (l hh : Option Int), slGo X.E ti lk K p l hh → (∀ (fr : Fr) (ob : Ob) pl a w, Rel X pl fr ob a w → (Op.slice ty x lo hi none).operands.toList.map (opV fr) = ins →
        opV fr x = p ∧ (∀ i, l = some i → ∃ k, lo.map a.eval = some (.int k i)) ∧ (l = none → lo.map a.eval = none) ∧ (∀ i, hh = some i → ∃ k, hi.map a.eval = some (.int k i)) ∧ (hh = none → hi.map a.eval = none)) →
        ∃ v u t, K v u t ∧ CoreOk X (.slice ty x lo hi none) dst ins lk v u t := by
      intro p l hh H hop
      obtain ⟨v, u, t, hK, hv⟩ := slGo_ok hT hti H
      refine ⟨v, u, t, hK, fun o fr ob ho hdst hins ht => ?_⟩
      obtain ⟨f1, hids, hrun⟩ := hv ob ht
      refine OpOk.valueF f1 (by rw [hdst]; exact hd) fun pl a w hr hr' => ?_
      obtain ⟨q1, q2, q3, q4, q5⟩ := hop fr ob pl a w hr hins
      obtain ⟨val', r1, r2⟩ := hrun pl w fr a hr hr' (a.eval x) (by rw [← q1]; exact hr.op x) (lo.map a.eval) (hi.map a.eval) q2 q3 q4 q5
      refine ⟨val', ?_, r2, fun id hid => by rw [hids] at hid; cases hid⟩
      unfold execOp; rw [ho]
      simp only [Option.map_none, Sem.run_bind, r1, Result.andThen_ok, Sem.run_pure]
    split at h
    · refine fin _ _ _ h fun fr ob pl a w hr hins => ?_
      simp [Op.operands] at hins
      exact ⟨hins, fun i hi => (by cases hi), fun _ => rfl, fun i hi => (by cases hi), fun _ => rfl⟩
    · rename_i k l
      refine fin _ _ _ h fun fr ob pl a w hr hins => ?_
      simp [Op.operands] at hins
      refine ⟨hins.1, fun i hi => ?_, fun h => (by cases h), fun i hi => (by cases hi), fun _ => rfl⟩
      have := hr.op _ |> fun h => by rw [hins.2] at h; exact intRep h
      cases hi; exact ⟨k, by simp [this]⟩
    · rename_i k hh
      refine fin _ _ _ h fun fr ob pl a w hr hins => ?_
      simp [Op.operands] at hins
      refine ⟨hins.1, fun i hi => (by cases hi), fun h => rfl, fun i hi => ?_, fun h => (by cases h)⟩
      have := hr.op _ |> fun h => by rw [hins.2] at h; exact intRep h
      cases hi; exact ⟨k, by simp [this]⟩
    · rename_i kl l k hh
      refine fin _ _ _ h fun fr ob pl a w hr hins => ?_
      simp [Op.operands] at hins
      refine ⟨hins.1, fun i hi => ?_, fun h => (by cases h), fun i hi => ?_, fun h => (by cases h)⟩
      · have := hr.op _ |> fun h => by rw [hins.2.1] at h; exact intRep h
        cases hi; exact ⟨kl, by simp [this]⟩
      · have := hr.op _ |> fun h => by rw [hins.2.2] at h; exact intRep h
        cases hi; exact ⟨k, by simp [this]⟩
    · exact h.elim
  · exact h.elim

end Go.Pv
