import Derived.Test.YtondofmlippbcaaWPvE
set_option linter.unusedVariables false
set_option linter.unusedSimpArgs false
namespace Go.Pv
variable {X : Ctx} {pl : Pl} {fr : Fr} {ob : Ob} {a : Act} {w : World}

def Pl.setB (pl : Pl) (d b : Nat) : Pl := ⟨fun id => if id = d then b else pl.blk id, pl.val⟩
def Pl.setV (pl : Pl) (d : Nat) (v : Value) : Pl := ⟨pl.blk, fun id => if id = d then v else pl.val id⟩

theorem lk_cons (ob : Ob) (d : Nat) (o : Obj) (id : Nat) : lkOf ((d, o) :: ob) id = if d = id then o else lkOf ob id := look_cons _ _ _ _ _

theorem alloc_size (w : World) (o : Go.Obj) : (w.alloc o).heap.size = w.heap.size + 1 := by show (w.heap.push o).size = _; simp

/-- A new box. -/
theorem Rel.newBox (h : Rel X pl fr ob a w) {d : Nat} {cells : Array Value} {cs : List PV} {e : TypeId} (hnone : lkOf ob d = .none) (hs : cells.size = cs.length)
    (hc : ∀ i x, cs[i]? = some x → PRep w (Imm X pl (lkOf ob) w) pl (lkOf ob) (cells.getD i undef) x ∧ cellB x = true ∧ ∀ id ∈ ids x, lkOf ob id ≠ .none) (hd : d < X.E.nt) :
    Rel X (pl.setB d w.heap.size) ((d, .ptr d 0) :: fr) ((d, .box cs) :: ob) (a.put (some d) (.pointer (some ⟨w.heap.size, 0, none⟩))) (w.alloc (.cells cells e)) := by
  have hne : ∀ id, lkOf ob id ≠ .none → id ≠ d := fun id hn he => by subst he; exact hn hnone
  have hblk : ∀ id, lkOf ob id ≠ .none → (pl.setB d w.heap.size).blk id = pl.blk id := fun id hn => by simp [Pl.setB, hne id hn]
  have hlk : ∀ id, id ≠ d → lkOf ([(d, Obj.box cs)] ++ ob) id = lkOf ob id := fun id hn => by simp only [List.singleton_append, lk_cons]; rw [if_neg (fun h => hn h.symm)]
  have hlkd : lkOf ([(d, Obj.box cs)] ++ ob) d = .box cs := by simp [lk_cons]
  have hmbo : ∀ id b, id ≠ d → mb (pl.setB d w.heap.size) id (lkOf ([(d, Obj.box cs)] ++ ob) id) = some b → mb pl id (lkOf ob id) = some b := fun id b hn hb => by
    rw [hlk id hn] at hb
    cases ho : lkOf ob id <;> rw [ho] at hb <;> simp_all [mb, Pl.setB]
  have hrowd : ∀ id, lkOf ob id ≠ .none → (lkOf ([(d, Obj.box cs)] ++ ob) id).isRow = true → (lkOf ob id).isRow = true ∧ (pl.setB d w.heap.size).val id = pl.val id := fun id hn hr => ⟨by rw [← hlk id (hne id hn)]; exact hr, rfl⟩
  have := Rel.next (u := [(d, .box cs)]) (pl' := pl.setB d w.heap.size) (w' := w.alloc (.cells cells e)) (d := some d) (v := .ptr d 0) (val := .pointer (some ⟨w.heap.size, 0, none⟩)) h rfl rfl rfl
    (by rw [alloc_size]; omega) (fun b hb _ => heap_alloc_old w _ b hb) (fun id hn => by
      rcases hn with hn | hn
      · exact hblk id hn
      · have := h.ntb
        have : id ≠ d := by omega
        simp [Pl.setB, this]) hrowd
    (fun id b hb => by
      by_cases hid : id = d
      · subst hid
        rw [hlkd] at hb
        simp [mb, Pl.setB] at hb
        subst hb
        exact .inr ⟨Nat.le_refl _, by rw [alloc_size]; omega⟩
      · exact .inl ⟨id, hmbo id b hid hb⟩)
    (fun id id' b hb hb' => by
      by_cases hid : id = d <;> by_cases hid' : id' = d
      · rw [hid, hid']
      · subst hid
        rw [hlkd] at hb
        simp [mb, Pl.setB] at hb
        have := (h.mw id' b (hmbo id' b hid' hb')).2.2
        omega
      · subst hid'
        rw [hlkd] at hb'
        simp [mb, Pl.setB] at hb'
        have := (h.mw id b (hmbo id b hid hb)).2.2
        omega
      · exact h.inj id id' b (hmbo id b hid hb) (hmbo id' b hid' hb'))
    (fun id hn => by rw [hlk id (hne id hn)]; exact hn)
    (fun him id => by
      by_cases hid : id = d
      · subst hid
        refine .inr ⟨?_, fun cs' hcs' x hx id' hid' => ?_⟩
        · rw [hlkd]
          refine ⟨cells, e, ?_, hs, fun i x hx => ?_⟩
          · have : (pl.setB id w.heap.size).blk id = w.heap.size := by simp [Pl.setB]
            rw [this]; exact heap_alloc_new w _
          · obtain ⟨h1, h2, h3⟩ := hc i x hx
            exact ⟨h1.mono him (fun id' hid' => hblk id' (h3 id' hid')) (fun id' hid' => hrowd id' (h3 id' hid')), h2⟩
        · rw [hlkd] at hcs'
          cases hcs'
          obtain ⟨i, hi⟩ := List.mem_iff_getElem?.1 hx
          have hn := (hc i x hi).2.2 id' hid'
          rw [hlk id' (hne id' hn)]; exact hn
      · refine .inl ⟨hlk id hid, fun b hb => heap_alloc_old w _ b (h.mw id b hb).2.2⟩)
    (fun _ => by
      have : (pl.setB d w.heap.size).blk d = w.heap.size := by simp [Pl.setB]
      have h2 := PRep.ptr (w := w.alloc (.cells cells e)) (ok := Imm X (pl.setB d w.heap.size) (lkOf ([(d, Obj.box cs)] ++ ob)) (w.alloc (.cells cells e))) (pl := pl.setB d w.heap.size) (lk := lkOf ([(d, Obj.box cs)] ++ ob)) d 0
      rw [this] at h2; exact h2)
    (fun id hid => by simp [ids] at hid; subst hid; rw [hlkd]; exact fun h => by cases h) (fun d' hd' => by cases hd'; exact hd)
  exact this

theorem lkq {dst : Option Nat} {lk : Nat → Obj} {d : Nat} {o : Obj} (ht : ∀ id ∈ [d], lkOf ob id = lk id) (h : lk d = o) : lkOf ob d = o := (ht d (by simp)).trans h

theorem allCell_ok : ∀ (l : List PV), allCell l = true → ∀ x ∈ l, cellB x = true
  | [], _, x, hx => by cases hx
  | y :: l, h, x, hx => by
    simp only [allCell] at h
    split at h
    · rename_i hy
      rcases List.mem_cons.1 hx with rfl | hx
      · exact hy
      · exact allCell_ok l h x hx
    · cases h

theorem core_alloc (hT : TOk X) (ty : TypeId) {dst : Option Nat} {ins : List PV} {lk : Nat → Obj} {K : PV → Ob → List Nat → Prop} (hd : ∀ d', dst = some d' → d' < X.E.nt) (h : evCore X.E (.alloc ty) dst ins lk K) :
    ∃ v u t, K v u t ∧ CoreOk X (.alloc ty) dst ins lk v u t := by
  simp only [evCore] at h
  split at h
  · rename_i ti d hti
    split at h
    · rename_i hl hall
      have hall := allCell_ok _ hall
      refine ⟨_, _, _, h, fun o fr ob ho hdst hins ht pl a w hr K' Q hK => ?_⟩
      obtain ⟨i, z, hi, hsz, hby, hz, hzs, hzl, hzr⟩ := (hT ty ti hti).info
      have hrun : (execOp a.eval o).run X.P w = .ok (.value (.pointer (some ⟨w.heap.size, 0, none⟩))) (w.alloc (.cells z.cells ty)) := by
        unfold execOp; rw [ho]
        simp [Instr.alloc, zeroValue, typeInfo, hi, hz, newVar, newRow, newObj]; rfl
      unfold Oper.wp
      rw [hrun]
      refine hK (pl.setB d w.heap.size) _ _ ?_
      rw [hdst]
      exact hr.newBox (ht d (by simp) |>.trans hl) hzs (fun j x hj => ⟨(hzr j x hj).1 _ _ _ _, hall x (List.mem_of_getElem? hj), fun id hid => by rw [(hzr j x hj).2.2] at hid; cases hid⟩) (hd d rfl)
    · exact h.elim
  · exact h.elim

theorem core_box (ty : TypeId) (x : Operand) {dst : Option Nat} {ins : List PV} {lk : Nat → Obj} {K : PV → Ob → List Nat → Prop} (hd : ∀ d', dst = some d' → d' < X.E.nt) (h : evCore X.E (.box ty x) dst ins lk K) :
    ∃ v u t, K v u t ∧ CoreOk X (.box ty x) dst ins lk v u t := by
  simp only [evCore] at h
  split at h
  · rename_i d
    split at h
    · rename_i hl
      have hrun : ∀ (o : Oper) (a : Act) (w : World), o.op = .box ty x → (execOp a.eval o).run X.P w = .ok (.value (.pointer (some ⟨w.heap.size, 0, none⟩))) (w.alloc (.cells (a.eval x).cells ty)) := by
        intro o a w ho
        unfold execOp; rw [ho]
        simp [Instr.box, newVar, newRow, newObj]; rfl
      split at h
      · rename_i cs
        refine ⟨_, _, _, h, fun o fr ob ho hdst hins ht pl a w hr K' Q hK => ?_⟩
        obtain ⟨hx, _⟩ := op1 hr hins
        unfold Oper.wp
        rw [hrun o a w ho]
        refine hK (pl.setB d w.heap.size) _ _ ?_
        rw [hdst]
        generalize a.eval x = va at *
        cases hx with
        | agg hs hi =>
          refine hr.newBox (ht d (by simp) |>.trans hl) (by simp [Value.cells, hs]) (fun j y hj => ?_) (hd d rfl)
          rw [List.getElem?_map] at hj
          cases hcj : cs[j]? with
          | none => rw [hcj] at hj; cases hj
          | some c => rw [hcj] at hj; cases hj; exact ⟨.d (hi j c hcj), rfl, fun id hid => by simp [ids] at hid⟩
      · rename_i v hna
        split at h
        · rename_i hcb
          refine ⟨_, _, _, h, fun o fr ob ho hdst hins ht pl a w hr K' Q hK => ?_⟩
          obtain ⟨hx, hxi⟩ := op1 hr hins
          unfold Oper.wp
          rw [hrun o a w ho]
          refine hK (pl.setB d w.heap.size) _ _ ?_
          rw [hdst]
          generalize a.eval x = va at *
          have hcells : va.cells = #[va] := by
            cases hx <;> first | rfl | (rename_i hdr; cases hdr <;> rfl) | (simp [cellB] at hcb)
          refine hr.newBox (ht d (by simp) |>.trans hl) (by simp [hcells]) (fun j y hj => ?_) (hd d rfl)
          cases j with
          | zero => simp at hj; subst hj; rw [hcells]; exact ⟨hx, hcb, hxi⟩
          | succ j => simp at hj
        · exact h.elim
      · exact h.elim
    · exact h.elim
  · exact h.elim

theorem dropP_get : ∀ (n : Nat) (l : List PV) (i : Nat), (dropP n l)[i]? = l[n + i]?
  | 0, l, i => by simp [dropP]
  | n + 1, [], i => by simp [dropP]
  | n + 1, x :: l, i => by simp only [dropP]; rw [dropP_get n l i]; rw [show n + 1 + i = (n + i) + 1 by omega]; simp
theorem dropL_get : ∀ (n : Nat) (l : List D) (i : Nat), (dropL n l)[i]? = l[n + i]?
  | 0, l, i => by simp [dropL]
  | n + 1, [], i => by simp [dropL]
  | n + 1, x :: l, i => by simp only [dropL]; rw [dropL_get n l i]; rw [show n + 1 + i = (n + i) + 1 by omega]; simp
theorem takeL_ok : ∀ (n : Nat) (l : List D) {cs : List D}, takeL n l = some cs → cs.length = n ∧ ∀ (i : Nat) (x : D), cs[i]? = some x → l[i]? = some x
  | 0, l, cs, h => by simp [takeL] at h; subst h; simp
  | n + 1, [], cs, h => by simp [takeL] at h
  | n + 1, y :: l, cs, h => by
    simp only [takeL] at h
    cases hc : takeL n l with
    | none => rw [hc] at h; cases h
    | some cs' =>
      rw [hc] at h; simp at h; subst h
      obtain ⟨h1, h2⟩ := takeL_ok n l hc
      refine ⟨by simp [h1], fun i x hx => ?_⟩
      cases i with
      | zero => simpa using hx
      | succ i => simpa using h2 i x (by simpa using hx)

/-- What is read at an address, of a type that is one cell or a struct. -/
theorem run_load (hT : TOk X) {ty : TypeId} {ti : TI} (hti : look none X.E.T ty = some ti) (ad : Addr) (f : Nat → Value) (hc : ∀ j, j < ti.size → w.cell? (ad.add j) = some (f j)) (h0 : ad.spot = none ∨ True) :
    (loadVar ty ad).run X.P w = .ok (if ti.agg then .agg ((List.range ti.size).map f).toArray else f 0) w := by
  have hok := hT ty ti hti
  obtain ⟨i, z, hi, hsz, hby, hz, hzs, hzl, hzr⟩ := hok.info
  have hund := hok.und
  have hcl := run_loadCells (P := X.P) w ad ti.size f hc
  have h00 : w.cell? ad = some (f 0) := by
    have := hc 0 hok.pos
    simpa [Addr.add] using this
  unfold TI.agg
  cases hk : ti.kind <;> rw [hk] at hund <;> simp only [Bool.false_eq_true, if_false, if_true]
  case struct =>
    obtain ⟨fs, hu, _⟩ := hund
    have hagg : (isAgg ty).run X.P w = .ok true w := by unfold isAgg; rw [Sem.run_bind, run_underlying hu w]; rfl
    simp [loadVar, Sem.run_bind, hagg, sizeOf, typeInfo, hi, hsz, hcl]
  case iface =>
    obtain ⟨ms, hu⟩ := hund
    have hagg : (isAgg ty).run X.P w = .ok false w := by unfold isAgg; rw [Sem.run_bind, run_underlying hu w]; rfl
    simp [loadVar, Sem.run_bind, hagg, h00]
  case other =>
    obtain ⟨d, hu, hdr⟩ := hund
    have hagg : (isAgg ty).run X.P w = .ok false w := by unfold isAgg; rw [Sem.run_bind, run_underlying hu w]; cases d <;> simp_all [TypeDesc.isRow]
    simp [loadVar, Sem.run_bind, hagg, h00]
  all_goals
    have hagg : (isAgg ty).run X.P w = .ok false w := by unfold isAgg; rw [Sem.run_bind, run_underlying (show X.P.underlying ty = some _ from hund) w]; rfl
    simp [loadVar, Sem.run_bind, hagg, h00]

end Go.Pv
