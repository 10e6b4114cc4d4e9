import Derived.Test.YtondofmlippbcaaWPvF
set_option linter.unusedVariables false
set_option linter.unusedSimpArgs false
namespace Go.Pv
variable {X : Ctx} {pl : Pl} {fr : Fr} {ob : Ob} {a : Act} {w : World}

theorem add_off (g o j : Nat) : (⟨g, o, none⟩ : Addr).add j = ⟨g, o + j, none⟩ := by unfold Addr.add; split <;> simp_all

theorem exec_load (hT : TOk X) {ty : TypeId} {ti : TI} (hti : look none X.E.T ty = some ti) {o : Oper} {x : Operand} (ho : o.op = .load ty x) {ad : Addr} (hx : a.eval x = .pointer (some ad)) (f : Nat → Value)
    (hc : ∀ j, j < ti.size → w.cell? (ad.add j) = some (f j)) : (execOp a.eval o).run X.P w = .ok (.value (if ti.agg then .agg ((List.range ti.size).map f).toArray else f 0)) w := by
  unfold execOp; rw [ho]
  simp only [hx, Instr.loadAt, Instr.sureAddr, Sem.run_bind, Sem.run_pure, Result.andThen_ok, run_load hT hti ad f hc (.inr trivial)]

theorem range_getD (n : Nat) (f : Nat → Value) (i : Nat) (h : i < n) : ((List.range n).map f).toArray.getD i undef = f i := by simp [h]

/-- A row of cells, read. -/
theorem loadL_ok {ti : TI} {row : List D} {K : PV → Prop} (h : loadL ti row K) : ∃ v, K v ∧ (ti.agg = false → ti.size = 1) → True := ⟨.junk, fun _ => trivial⟩

theorem loadL_cases {ti : TI} {row : List D} {K : PV → Prop} (h : loadL ti row K) :
    (ti.agg = true ∧ ∃ cs, takeL ti.size row = some cs ∧ K (.agg cs)) ∨ (ti.agg = false ∧ ∃ x r, row = x :: r ∧ K (.d x)) := by
  unfold loadL at h
  split at h
  · rename_i hg
    split at h
    · rename_i cs hcs; exact .inl ⟨hg, cs, hcs, h⟩
    · exact h.elim
  · rename_i hg
    split at h
    · rename_i x r; rw [force_eq] at h; exact .inr ⟨hg, x, r, rfl, h⟩
    · exact h.elim

/-- What loadL gives, over cells that stand for the row. -/
theorem loadL_rep {ti : TI} (hone : ti.agg = false → ti.size = 1) {row : List D} {K : PV → Prop} (h : loadL ti row K) :
    ∃ v, K v ∧ ids v = [] ∧ ti.size ≤ row.length ∧ ∀ w ok pl lk (f : Nat → Value), (∀ j x, row[j]? = some x → DRep w ok (f j) x) →
      PRep w ok pl lk (if ti.agg then .agg ((List.range ti.size).map f).toArray else f 0) v := by
  rcases loadL_cases h with ⟨hg, cs, hcs, hK⟩ | ⟨hg, x, r, rfl, hK⟩
  · obtain ⟨h1, h2⟩ := takeL_ok _ _ hcs
    refine ⟨_, hK, rfl, ?_, fun w ok pl lk f hf => ?_⟩
    · rw [← h1]
      cases cs with
      | nil => simp
      | cons c cs =>
        have hlast : (c :: cs)[cs.length]? = some ((c :: cs)[cs.length]'(by simp)) := List.getElem?_eq_getElem (by simp)
        have := (List.getElem?_eq_some_iff.1 (h2 _ _ hlast)).1
        simp; omega
    · rw [hg, if_pos rfl]
      refine .agg (by simp [h1]) fun i x hx => ?_
      have hi : i < ti.size := by rw [← h1]; exact (List.getElem?_eq_some_iff.1 hx).1
      rw [range_getD _ _ _ hi]
      exact hf i x (h2 i x hx)
  · refine ⟨_, hK, rfl, by rw [hone hg]; simp, fun w ok pl lk f hf => ?_⟩
    rw [hg]
    exact .d (hf 0 x rfl)

theorem TIok.agg_one {P : Program} {t : TypeId} {ti : TI} (h : TIok P t ti) : ti.agg = false → ti.size = 1 := by
  intro hg
  refine h.one fun hk => ?_
  unfold TI.agg at hg; rw [hk] at hg; cases hg

/-- The cells of a row that is an object. -/
theorem row_cells {w : World} {ok : Nat → Prop} {lk : Nat → Obj} {id e sz : Nat} {rows : List (List D)} (h : Hold w ok pl lk id (.row e sz rows)) {g n c : Nat} (hv : pl.val id = .slice (some ⟨g, 0, none⟩) n c)
    {i : Nat} {row : List D} (hi : rows[i]? = some row) : ∃ f : Nat → Value, (∀ j, j < sz → w.cell? ⟨g, i * sz + j, none⟩ = some (f j)) ∧ row.length = sz ∧ ∀ j x, row[j]? = some x → DRep w ok (f j) x := by
  obtain ⟨xs, ho, hs, hr⟩ := h
  have hir : i < rows.length := (List.getElem?_eq_some_iff.1 hi).1
  have hrl : row.length = sz := hs row (List.mem_of_getElem? hi)
  refine ⟨fun j => xs.getD (i * sz + j) undef, fun j hj => ?_, hrl, fun j x hx => hr i row hi j x hx⟩
  have hk : i * sz + j < xs.length := by
    rw [ho.1]
    calc i * sz + j < i * sz + sz := by omega
      _ = (i + 1) * sz := by rw [Nat.add_mul, Nat.one_mul]
      _ ≤ rows.length * sz := Nat.mul_le_mul_right _ hir
  have := ho.cells (g := g) (by simp [hv, Value.ownBlock]) (i * sz + j) xs[i * sz + j] (List.getElem?_eq_getElem hk)
  rw [add_off, Nat.zero_add] at this
  rw [this]; simp [List.getElem?_eq_getElem hk]

/-- The cells of a still row. -/
theorem frz_cells {w : World} {ok : Nat → Prop} {v : Value} {sz : Nat} {rows : List (List D)} (h : DRep w ok v (.sl rows)) (hs : ∀ r ∈ rows, r.length = sz) {g n c : Nat} (hv : v = .slice (some ⟨g, 0, none⟩) n c)
    {i : Nat} {row : List D} (hi : rows[i]? = some row) : ∃ f : Nat → Value, (∀ j, j < sz → w.cell? ⟨g, i * sz + j, none⟩ = some (f j)) ∧ row.length = sz ∧ ∀ j x, row[j]? = some x → DRep w ok (f j) x := by
  cases h with
  | nil => simp at hi
  | sl ad cc s _ vs hc hm hok hsz hcell hrep =>
    cases hv
    have hrl : row.length = sz := hs row (List.mem_of_getElem? hi)
    have hss : s = sz := by rw [← hrl, hsz row (List.mem_of_getElem? hi)]
    subst hss
    refine ⟨fun j => vs (i * s + j), fun j hj => ?_, hrl, fun j x hx => hrep i row hi j x hx⟩
    have hj' : j < row.length := by omega
    have := hcell i row hi j row[j] (List.getElem?_eq_getElem hj')
    rw [add_off, Nat.zero_add] at this
    exact this

theorem core_load (hT : TOk X) (ty : TypeId) (x : Operand) {dst : Option Nat} {ins : List PV} {lk : Nat → Obj} {K : PV → Ob → List Nat → Prop} (hd : ∀ d', dst = some d' → d' < X.E.nt) (h : evCore X.E (.load ty x) dst ins lk K) :
    ∃ v u t, K v u t ∧ CoreOk X (.load ty x) dst ins lk v u t := by
  simp only [evCore] at h
  split at h
  · rename_i ti hti
    have hok := hT ty ti hti
    split at h
    · -- a box
      rename_i id off
      split at h
      · rename_i cs hl
        split at h
        · -- a struct
          rename_i hg
          split at h
          · rename_i ds u tc hcd
            refine ⟨_, _, _, h, fun o fr ob ho hdst hins ht => ?_⟩
            have hlo : lkOf ob id = .box cs := (ht id (by simp)).trans hl
            obtain ⟨f1, g1, l1, l2, p1⟩ := cellsD_ok (X := X) (ob := ob) ti.size (dropP off cs) hcd (fun i hi => ht i (by simp [hi]))
            refine OpOk.valueF f1 (by rw [hdst]; exact hd) fun pl a w hr hr' => ?_
            obtain ⟨hx, _⟩ := op1 hr hins
            have h0 := hr.ho id
            rw [hlo] at h0
            obtain ⟨c, e, hc, hcs, hci⟩ := h0
            generalize hxv : a.eval x = va at hx
            cases hx
            have hcell : ∀ j, j < ti.size → w.cell? ((⟨pl.blk id, off, none⟩ : Addr).add j) = some (c.getD (off + j) undef) := fun j hj => by
              have hlt : off + j < cs.length := by
                have h2 : (dropP off cs)[j]? ≠ none := by
                  rw [List.getElem?_eq_getElem (by omega)]; simp
                rw [dropP_get] at h2
                by_cases h3 : off + j < cs.length
                · exact h3
                · exact absurd (List.getElem?_eq_none (by omega)) h2
              rw [add_off, cell_of_row w _ _ c e _ hc]; simp [show off + j < c.size by omega]
            refine ⟨_, exec_load hT hti ho hxv (fun j => c.getD (off + j) undef) hcell, ?_, fun i hi => by simp [ids] at hi⟩
            rw [hg, if_pos rfl]
            refine .agg (by simp [l1]) fun i y hy => ?_
            have hi : i < ti.size := by rw [← l1]; exact (List.getElem?_eq_some_iff.1 hy).1
            rw [range_getD _ _ _ hi]
            refine p1 u f1 (fun p hp => g1.look ob hp) pl w fr a hr hr' (fun j => c.getD (off + j) undef) (fun j z hz => ?_) i y hy
            rw [dropP_get] at hz
            exact hci (off + j) z hz
          · exact h.elim
        · -- one cell
          rename_i hg
          split at h
          · rename_i v r hdp
            rw [force_eq] at h
            refine ⟨_, _, _, h, .value hd fun o fr ob ho hins ht pl a w hr => ?_⟩
            have hlo : lkOf ob id = .box cs := (ht id (by simp)).trans hl
            obtain ⟨hx, _⟩ := op1 hr hins
            have h0 := hr.ho id
            rw [hlo] at h0
            obtain ⟨c, e, hc, hcs, hci⟩ := h0
            generalize hxv : a.eval x = va at hx
            cases hx
            have hv0 : cs[off]? = some v := by have := dropP_get off cs 0; rw [hdp] at this; simpa using this.symm
            have hlt : off < cs.length := (List.getElem?_eq_some_iff.1 hv0).1
            have hcell : ∀ j, j < ti.size → w.cell? ((⟨pl.blk id, off, none⟩ : Addr).add j) = some (c.getD (off + j) undef) := fun j hj => by
              rw [hok.agg_one hg] at hj
              rw [add_off, cell_of_row w _ _ c e _ hc]; simp [show off + j < c.size by omega]
            refine ⟨_, exec_load hT hti ho hxv (fun j => c.getD (off + j) undef) hcell, ?_, fun i hi => hr.clb id cs hlo v (List.mem_of_getElem? hv0) i hi⟩
            rw [hg]
            exact (hci off v hv0).1
          · exact h.elim
      · exact h.elim
    · -- an element of still rows
      rename_i row
      obtain ⟨v, hK, hids, hlen, hrep⟩ := loadL_rep hok.agg_one h
      refine ⟨_, _, _, hK, .value hd fun o fr ob ho hins ht pl a w hr => ?_⟩
      obtain ⟨hx, _⟩ := op1 hr hins
      generalize hxv : a.eval x = va at hx
      cases hx with
      | ept vs hok' hc hdd =>
        rename_i ad
        refine ⟨_, exec_load hT hti ho hxv vs (fun j hj => ?_), hrep _ _ _ _ vs hdd, fun i hi => by rw [hids] at hi; cases hi⟩
        exact hc j (row[j]'(by omega)) (List.getElem?_eq_getElem (by omega))
    · -- an element of a row of one's own
      rename_i id sz i off
      have key : ∀ (rows : List (List D)) (row : List D) (v : PV), rows[i]? = some row → ids v = [] → ti.size ≤ (dropL off row).length →
          (∀ w ok pl lk (f : Nat → Value), (∀ j x, (dropL off row)[j]? = some x → DRep w ok (f j) x) → PRep w ok pl lk (if ti.agg then .agg ((List.range ti.size).map f).toArray else f 0) v) →
          ∀ (o : Oper) (fr : Fr) (ob : Ob), o.op = .load ty x → [x].map (opV fr) = [.owp id sz i off] → ((∃ e, lkOf ob id = .row e sz rows) ∨ lkOf ob id = .frz sz rows) → ∀ pl a w, Rel X pl fr ob a w →
          ∃ val, (execOp a.eval o).run X.P w = .ok (.value val) w ∧ PRep w (Imm X pl (lkOf ob) w) pl (lkOf ob) val v ∧ ∀ id ∈ ids v, lkOf ob id ≠ .none := by
        intro rows row v hi hids hlen hrep o fr ob ho hins hob pl a w hr
        obtain ⟨hx, _⟩ := op1 hr hins
        generalize hxv : a.eval x = va at hx
        cases hx with
        | owp hp =>
          rename_i ad
          have hrow : (lkOf ob id).isRow = true := by rcases hob with ⟨e, h⟩ | h <;> rw [h] <;> rfl
          obtain ⟨g, n, c, hv, rfl⟩ := hp hrow
          have h0 := hr.ho id
          have : ∃ f : Nat → Value, (∀ j, j < sz → w.cell? ⟨g, i * sz + j, none⟩ = some (f j)) ∧ row.length = sz ∧ ∀ j x, row[j]? = some x → DRep w (Imm X pl (lkOf ob) w) (f j) x := by
            rcases hob with ⟨e, h⟩ | h
            · rw [h] at h0; exact row_cells h0 hv hi
            · rw [h] at h0; exact frz_cells h0.2.1 h0.1 hv hi
          obtain ⟨f, hf, hrl, hfr⟩ := this
          have hdl : ∀ j, j < ti.size → off + j < sz := fun j hj => by
            have h2 : (dropL off row)[j]? ≠ none := by
              rw [List.getElem?_eq_getElem (by omega)]; simp
            rw [dropL_get] at h2
            by_cases h3 : off + j < row.length
            · omega
            · exact absurd (List.getElem?_eq_none (by omega)) h2
          refine ⟨_, exec_load hT hti ho hxv (fun j => f (off + j)) (fun j hj => ?_), hrep _ _ _ _ (fun j => f (off + j)) (fun j z hz => ?_), fun i hi => by rw [hids] at hi; cases hi⟩
          · rw [add_off, Nat.add_assoc]; exact hf _ (hdl j hj)
          · rw [dropL_get] at hz; exact hfr (off + j) z hz
      split at h
      · rename_i e sz' rows hl
        split at h
        · rename_i hsz
          obtain rfl : sz' = sz := Nat.eq_of_beq_eq_true hsz
          obtain ⟨row, _, hi, h⟩ := h
          obtain ⟨v, hK, hids, hlen, hrep⟩ := loadL_rep hok.agg_one h
          exact ⟨_, _, _, hK, .value hd fun o fr ob ho hins ht pl a w hr => key rows row v (by simpa using hi) hids hlen hrep o fr ob ho hins (.inl ⟨e, by rw [ht id (by simp), hl]⟩) pl a w hr⟩
        · exact h.elim
      · rename_i sz' rows hl
        split at h
        · rename_i hsz
          obtain rfl : sz' = sz := Nat.eq_of_beq_eq_true hsz
          obtain ⟨row, _, hi, h⟩ := h
          obtain ⟨v, hK, hids, hlen, hrep⟩ := loadL_rep hok.agg_one h
          exact ⟨_, _, _, hK, .value hd fun o fr ob ho hins ht pl a w hr => key rows row v (by simpa using hi) hids hlen hrep o fr ob ho hins (.inr (by rw [ht id (by simp), hl])) pl a w hr⟩
        · exact h.elim
      · exact h.elim
    · exact h.elim
  · exact h.elim

end Go.Pv
