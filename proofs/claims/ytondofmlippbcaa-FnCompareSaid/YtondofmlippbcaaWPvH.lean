import Derived.Test.YtondofmlippbcaaWPvG
set_option linter.unusedVariables false
set_option linter.unusedSimpArgs false
namespace Go.Pv
variable {X : Ctx} {pl : Pl} {fr : Fr} {ob : Ob} {a : Act} {w : World}

theorem putL_ok {α : Type} : ∀ (n : Nat) (xs l : List α) {l' : List α}, putL n xs l = some l' → l'.length = l.length ∧ (xs ≠ [] → n + xs.length ≤ l.length) ∧ ∀ (i : Nat), l'[i]? = if n ≤ i ∧ i < n + xs.length then xs[i - n]? else l[i]?
  | n, [], l, l', h => by
    have : l' = l := by cases n <;> simp [putL] at h <;> exact h.symm
    subst this
    refine ⟨rfl, fun h => absurd rfl h, fun i => ?_⟩
    rw [if_neg (by simp)]
  | 0, x :: xs, y :: l, l', h => by
    simp only [putL] at h
    cases hp : putL 0 xs l with
    | none => rw [hp] at h; cases h
    | some r =>
      rw [hp] at h; simp at h; subst h
      obtain ⟨h1, h2, h3⟩ := putL_ok 0 xs l hp
      refine ⟨by simp [h1], fun _ => ?_, fun i => ?_⟩
      · cases xs with
        | nil => simp
        | cons z xs => have := h2 (by simp); simp at this ⊢; omega
      · cases i with
        | zero => simp
        | succ i =>
          have := h3 i
          simp only [List.getElem?_cons_succ, List.length_cons]
          rw [this]
          by_cases hi : i < xs.length
          · rw [if_pos (by omega), if_pos (by omega)]; simp
          · rw [if_neg (by omega), if_neg (by omega)]
  | n + 1, x :: xs, y :: l, l', h => by
    simp only [putL] at h
    cases hp : putL n (x :: xs) l with
    | none => rw [hp] at h; cases h
    | some r =>
      rw [hp] at h; simp at h; subst h
      obtain ⟨h1, h2, h3⟩ := putL_ok n (x :: xs) l hp
      refine ⟨by simp [h1], fun _ => ?_, fun i => ?_⟩
      · have := h2 (by simp); simp at this ⊢; omega
      · cases i with
        | zero => simp
        | succ i =>
          have := h3 i
          simp only [List.getElem?_cons_succ]
          rw [this]
          by_cases hi : n ≤ i ∧ i < n + (x :: xs).length
          · rw [if_pos hi, if_pos (by omega)]; congr 1; omega
          · rw [if_neg hi, if_neg (by omega)]
  | 0, x :: xs, [], l', h => by simp [putL] at h
  | n + 1, x :: xs, [], l', h => by simp [putL] at h

/-- Cells of an array replaced from an offset on. -/
def putA (cur : Array Value) (o : Nat) (vs : List Value) : Array Value := (cur.toList.take o ++ vs ++ cur.toList.drop (o + vs.length)).toArray

theorem putA_size (cur : Array Value) (o : Nat) (vs : List Value) (h : o + vs.length ≤ cur.size) : (putA cur o vs).size = cur.size := by
  simp [putA]; omega

theorem putA_get (cur : Array Value) (o : Nat) (vs : List Value) (h : o + vs.length ≤ cur.size) (i : Nat) : (putA cur o vs).getD i undef = if o ≤ i ∧ i < o + vs.length then vs.getD (i - o) undef else cur.getD i undef := by
  have hmin : min o cur.size = o := by omega
  have key : (putA cur o vs)[i]? = if o ≤ i ∧ i < o + vs.length then vs[i - o]? else cur[i]? := by
    simp only [putA, List.getElem?_toArray, List.getElem?_append, List.length_append, List.length_take, Array.length_toList, hmin, List.getElem?_drop, List.getElem?_take]
    by_cases h1 : i < o
    · have : ¬ (o ≤ i ∧ i < o + vs.length) := by omega
      simp [show i < o + vs.length by omega, h1, this]
      intro; omega
    · by_cases h2 : i < o + vs.length
      · simp [h1, h2, show o ≤ i by omega]
      · have : ¬ (o ≤ i ∧ i < o + vs.length) := by omega
        simp [h2, this, show o + vs.length + (i - (o + vs.length)) = i by omega]
  by_cases hc : o ≤ i ∧ i < o + vs.length
  · rw [if_pos hc] at key ⊢
    simp only [Array.getD_eq_getD_getElem?, key, List.getD_eq_getElem?_getD]
  · rw [if_neg hc] at key ⊢
    simp only [Array.getD_eq_getD_getElem?, key]

theorem exec_store (hT : TOk X) {ty : TypeId} {ti : TI} (hti : look none X.E.T ty = some ti) {o : Oper} {x y : Operand} (ho : o.op = .store ty x y) {g off : Nat} (hx : a.eval x = .pointer (some ⟨g, off, none⟩)) {v : Value} (hy : a.eval y = v)
    {cur : Array Value} {e : TypeId} (hg : w.heap[g]? = some (.cells cur e (0, 0))) (hs : v.cells.size = ti.size) (hl : off + ti.size ≤ cur.size) (h1 : ∀ u ∈ v.cells.toList, u.oneCell' = true) :
    (execOp a.eval o).run X.P w = .ok .skip (w.setRow g (putA cur off v.cells.toList)) := by
  obtain ⟨i, z, hi, hsz, _⟩ := (hT ty ti hti).info
  have hst := run_storeCells_at X.P g off e v.cells.toList 0 cur w hg (by simp; omega) h1
  simp only [Nat.add_zero] at hst
  unfold execOp; rw [ho]
  have hne : ¬ (v.cells.size ≠ i.size) := by omega
  simp only [hx, hy, Instr.storeAt, Instr.sureAddr, storeVar, sizeOf, typeInfo, Sem.run_bind, Sem.run_pure, Result.andThen_ok, run_program, hi, hne, if_false, hst]
  rfl

/-- A box's cells written. -/
theorem Rel.storeBox (h : Rel X pl fr ob a w) {id : Nat} {cs cs' : List PV} {c c' : Array Value} {e : TypeId} {d : Option Nat} (hlo : lkOf ob id = .box cs) (hc : w.heap[pl.blk id]? = some (.cells c e (0, 0))) (hs : c'.size = cs'.length)
    (hi : ∀ i x, cs'[i]? = some x → PRep w (Imm X pl (lkOf ob) w) pl (lkOf ob) (c'.getD i undef) x ∧ cellB x = true ∧ ∀ id ∈ ids x, lkOf ob id ≠ .none) (hd : ∀ d', d = some d' → d' < X.E.nt) :
    Rel X pl (putF d .unit fr) ((id, .box cs') :: ob) (a.put d undef) (w.setRow (pl.blk id) c') := by
  have hlk : ∀ i, i ≠ id → lkOf ([(id, Obj.box cs')] ++ ob) i = lkOf ob i := fun i hn => by simp only [List.singleton_append, lk_cons]; rw [if_neg (fun h => hn h.symm)]
  have hlkd : lkOf ([(id, Obj.box cs')] ++ ob) id = .box cs' := by simp [lk_cons]
  have hmb : ∀ i b, mb pl i (lkOf ([(id, Obj.box cs')] ++ ob) i) = some b ↔ mb pl i (lkOf ob i) = some b := fun i b => by
    by_cases hii : i = id
    · subst hii; rw [hlkd, hlo]; simp [mb]
    · rw [hlk i hii]
  have hmbid : mb pl id (lkOf ob id) = some (pl.blk id) := by rw [hlo]; rfl
  have hrow : ∀ i, (lkOf ([(id, Obj.box cs')] ++ ob) i).isRow = true → (lkOf ob i).isRow = true := fun i hr => by
    by_cases hii : i = id
    · subst hii; rw [hlkd] at hr; cases hr
    · rw [← hlk i hii]; exact hr
  have hnn : ∀ i, lkOf ob i ≠ .none → lkOf ([(id, Obj.box cs')] ++ ob) i ≠ .none := fun i hn => by
    by_cases hii : i = id
    · subst hii; rw [hlkd]; exact fun h => by cases h
    · rw [hlk i hii]; exact hn
  have := Rel.next (u := [(id, .box cs')]) (pl' := pl) (w' := w.setRow (pl.blk id) c') (d := d) (v := .unit) (val := undef) h rfl rfl rfl (by simp) (fun b hb hnm => setRow_other w _ b c' (fun he => hnm id (by rw [hmbid, he])))
    (fun _ _ => rfl) (fun i _ hr => ⟨hrow i hr, rfl⟩) (fun i b hb => .inl ⟨i, (hmb i b).1 hb⟩) (fun i i' b hb hb' => h.inj i i' b ((hmb i b).1 hb) ((hmb i' b).1 hb')) hnn
    (fun him i => by
      by_cases hii : i = id
      · subst hii
        refine .inr ⟨?_, fun cs0 hcs0 x hx id' hid' => ?_⟩
        · rw [hlkd]
          exact ⟨c', e, setRow_heap w _ c c' e _ hc, hs, fun j x hj => ⟨(hi j x hj).1.mono him (fun _ _ => rfl) (fun i' _ hr => ⟨hrow i' hr, rfl⟩), (hi j x hj).2.1⟩⟩
        · rw [hlkd] at hcs0; cases hcs0
          obtain ⟨j, hj⟩ := List.mem_iff_getElem?.1 hx
          exact hnn id' ((hi j x hj).2.2 id' hid')
      · exact .inl ⟨hlk i hii, fun b hb => setRow_other w _ b c' (fun he => hii (h.inj i id b hb (by rw [hmbid, he])))⟩)
    (fun _ => .unit) (fun i hi => by simp [ids] at hi) hd
  exact this

/-- An element of a row written. -/
theorem Rel.storeRow (h : Rel X pl fr ob a w) {id e sz : Nat} {rows : List (List D)} {i off : Nat} {row ds row' : List D} {g n c : Nat} {cur : Array Value} {vs : List Value} {d : Option Nat} (hlo : lkOf ob id = .row e sz rows) (hv : pl.val id = .slice (some ⟨g, 0, none⟩) n c)
    (hi : rows[i]? = some row) (hput : putL off ds row = some row') (hne : ds ≠ []) (hg : w.heap[g]? = some (.cells cur e (0, 0))) (hvl : vs.length = ds.length)
    (hvs : ∀ j x, ds[j]? = some x → DRep w (Imm X pl (lkOf ob) w) (vs.getD j undef) x) (hd : ∀ d', d = some d' → d' < X.E.nt) :
    Rel X pl (putF d .unit fr) ((id, .row e sz (rows.set i row')) :: ob) (a.put d undef) (w.setRow g (putA cur (i * sz + off) vs)) ∧ i * sz + off + vs.length ≤ cur.size := by
  have hlk : ∀ j, j ≠ id → lkOf ([(id, Obj.row e sz (rows.set i row'))] ++ ob) j = lkOf ob j := fun j hn => by simp only [List.singleton_append, lk_cons]; rw [if_neg (fun h => hn h.symm)]
  have hlkd : lkOf ([(id, Obj.row e sz (rows.set i row'))] ++ ob) id = .row e sz (rows.set i row') := by simp [lk_cons]
  have hob : (pl.val id).ownBlock = some g := by simp [hv, Value.ownBlock]
  have hmb : ∀ j b, mb pl j (lkOf ([(id, Obj.row e sz (rows.set i row'))] ++ ob) j) = some b ↔ mb pl j (lkOf ob j) = some b := fun j b => by
    by_cases hii : j = id
    · subst hii; rw [hlkd, hlo]; simp [mb]
    · rw [hlk j hii]
  have hmbid : mb pl id (lkOf ob id) = some g := by rw [hlo]; exact hob
  have hrow : ∀ j, (lkOf ([(id, Obj.row e sz (rows.set i row'))] ++ ob) j).isRow = true → (lkOf ob j).isRow = true := fun j hr => by
    by_cases hii : j = id
    · subst hii; rw [hlo]; rfl
    · rw [← hlk j hii]; exact hr
  have hnn : ∀ j, lkOf ob j ≠ .none → lkOf ([(id, Obj.row e sz (rows.set i row'))] ++ ob) j ≠ .none := fun j hn => by
    by_cases hii : j = id
    · subst hii; rw [hlkd]; exact fun h => by cases h
    · rw [hlk j hii]; exact hn
  have h0 := h.ho id
  rw [hlo] at h0
  obtain ⟨xs, hown, hsz, hrep⟩ := h0
  obtain ⟨hxl, hw0⟩ := hown
  have hir : i < rows.length := (List.getElem?_eq_some_iff.1 hi).1
  have hrl : row.length = sz := hsz row (List.mem_of_getElem? hi)
  obtain ⟨p1, p2, p3⟩ := putL_ok off ds row hput
  have hoff : off + ds.length ≤ sz := by have := p2 hne; omega
  rcases hw0 with ⟨hn, _⟩ | ⟨g', cap, cur', hv', hb0, hg', hnc, hcm, hcs, htake⟩
  · rw [hv] at hn; cases hn
  rw [hv] at hv'
  cases hv'
  rw [hg] at hg'
  cases hg'
  have hle : i * sz + sz ≤ rows.length * sz := by
    calc i * sz + sz = (i + 1) * sz := by rw [Nat.add_mul, Nat.one_mul]
      _ ≤ rows.length * sz := Nat.mul_le_mul_right _ hir
  have hle2 : rows.length * sz ≤ cur.size := by rw [hcs]; exact Nat.mul_le_mul_right _ hnc
  have hfit : i * sz + off + vs.length ≤ cur.size := by omega
  refine ⟨?_, hfit⟩
  have hxg : ∀ k, k < rows.length * sz → xs.getD k undef = cur.getD k undef := fun k hk => by
    rw [← htake]
    simp [List.getD_eq_getElem?_getD, List.getElem?_take, hk]
  have := Rel.next (u := [(id, .row e sz (rows.set i row'))]) (pl' := pl) (w' := w.setRow g (putA cur (i * sz + off) vs)) (d := d) (v := .unit) (val := undef) h rfl rfl rfl (by simp) (fun b hb hnm => setRow_other w _ b _ (fun he => hnm id (by rw [hmbid, he])))
    (fun _ _ => rfl) (fun i _ hr => ⟨hrow i hr, rfl⟩) (fun i b hb => .inl ⟨i, (hmb i b).1 hb⟩) (fun i i' b hb hb' => h.inj i i' b ((hmb i b).1 hb) ((hmb i' b).1 hb')) hnn
    (fun him j => by
      by_cases hii : j = id
      · subst hii
        refine .inr ⟨?_, fun cs0 hcs0 => by rw [hlkd] at hcs0; cases hcs0⟩
        rw [hlkd]
        refine ⟨((putA cur (i * sz + off) vs).toList.take (rows.length * sz)), ⟨?_, .inr ⟨g, c, putA cur (i * sz + off) vs, ?_, hb0, setRow_heap w g cur _ e _ hg, ?_, hcm, ?_, ?_⟩⟩, fun r hr => ?_, fun k r hk q x hq => ?_⟩
        · simp [putA_size _ _ _ hfit]; omega
        · rw [hv]; simp
        · simp; exact hnc
        · rw [putA_size _ _ _ hfit, hcs]
        · simp
        · rcases List.mem_or_eq_of_mem_set hr with hr | rfl
          · exact hsz r hr
          · rw [p1, hrl]
        · have hkl : k < rows.length := by have := (List.getElem?_eq_some_iff.1 hk).1; simpa using this
          have hrs : r.length = sz := by
            rcases List.mem_or_eq_of_mem_set (List.mem_of_getElem? hk) with hr | rfl
            · exact hsz r hr
            · rw [p1, hrl]
          have hql : q < sz := by rw [← hrs]; exact (List.getElem?_eq_some_iff.1 hq).1
          have hkq : k * sz + q < rows.length * sz := by
            calc k * sz + q < k * sz + sz := by omega
              _ = (k + 1) * sz := by rw [Nat.add_mul, Nat.one_mul]
              _ ≤ rows.length * sz := Nat.mul_le_mul_right _ hkl
          have hget : ((putA cur (i * sz + off) vs).toList.take (rows.length * sz)).getD (k * sz + q) undef = (putA cur (i * sz + off) vs).getD (k * sz + q) undef := by
            simp [List.getD_eq_getElem?_getD, List.getElem?_take, hkq]
          rw [hget, putA_get _ _ _ hfit]
          by_cases hki : k = i
          · subst hki
            rw [List.getElem?_set_self hir] at hk
            cases hk
            rw [p3 q] at hq
            by_cases hqo : off ≤ q ∧ q < off + ds.length
            · rw [if_pos hqo] at hq
              rw [if_pos (by omega), show k * sz + q - (k * sz + off) = q - off by omega]
              exact (hvs (q - off) x hq).mono him
            · rw [if_neg hqo] at hq
              rw [if_neg (by omega), ← hxg _ hkq]
              exact (hrep k row hi q x hq).mono him
          · rw [List.getElem?_set_ne (fun h => hki h.symm)] at hk
            have : ¬ (i * sz + off ≤ k * sz + q ∧ k * sz + q < i * sz + off + vs.length) := by
              intro ⟨h1, h2⟩
              rcases Nat.lt_or_gt_of_ne hki with hlt | hgt
              · have : k * sz + sz ≤ i * sz := by
                  calc k * sz + sz = (k + 1) * sz := by rw [Nat.add_mul, Nat.one_mul]
                    _ ≤ i * sz := Nat.mul_le_mul_right _ hlt
                omega
              · have : i * sz + sz ≤ k * sz := by
                  calc i * sz + sz = (i + 1) * sz := by rw [Nat.add_mul, Nat.one_mul]
                    _ ≤ k * sz := Nat.mul_le_mul_right _ hgt
                omega
            rw [if_neg this, ← hxg _ hkq]
            exact (hrep k r hk q x hq).mono him
      · exact .inl ⟨hlk j hii, fun b hb => setRow_other w _ b _ (fun he => hii (h.inj j id b hb (by rw [hmbid, he])))⟩)
    (fun _ => .unit) (fun i hi => by simp [ids] at hi) hd
  exact this

end Go.Pv
