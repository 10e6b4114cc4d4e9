import Derived.Test.YtondofmlippbcaaWPvN
import Derived.Laws.IdiomStrings
import Derived.Lib.BufferRead
set_option linter.unusedVariables false
set_option linter.unusedSimpArgs false
namespace Go.Pv
variable {X : Ctx} {pl : Pl} {fr : Fr} {ob : Ob} {a : Act} {w : World}

theorem prep_int {w : World} {ok : Nat → Prop} {pl : Pl} {lk : Nat → Obj} {v : Value} {k : IntKind} {n : Int} (h : PRep w ok pl lk v (.d (.int k n))) : v = .int k n := by
  cases h with | d h => cases h; rfl
theorem prep_str {w : World} {ok : Nat → Prop} {pl : Pl} {lk : Nat → Obj} {v : Value} {l : List UInt8} (h : PRep w ok pl lk v (.d (.str l))) : ∃ s : ByteArray, v = .string s ∧ l = s.data.toList ∧ s.size ≤ maxLen := by
  cases h with | d h => exact h.str_inv
theorem DRep.mkStr {w : World} {ok : Nat → Prop} (l : List UInt8) (h : l.length ≤ maxLen) : DRep w ok (.string ⟨l.toArray⟩) (.str l) := by
  have := DRep.str (w := w) (ok := ok) ⟨l.toArray⟩ (by show l.toArray.size ≤ _; simpa using h)
  simpa using this
theorem DRep.len_le {w : World} {ok : Nat → Prop} {v : Value} {rows : List (List D)} (h : DRep w ok v (.sl rows)) : rows.length ≤ maxLen := by
  cases h with
  | nil => simp
  | sl _ _ _ _ _ hc hm => omega
theorem prep_nil {w : World} {ok : Nat → Prop} {pl : Pl} {lk : Nat → Obj} {v : Value} (h : PRep w ok pl lk v .nil) : v = .slice none 0 0 := by
  cases h; rfl
theorem prep_sl {w : World} {ok : Nat → Prop} {pl : Pl} {lk : Nat → Obj} {v : Value} {rows : List (List D)} (h : PRep w ok pl lk v (.d (.sl rows))) : DRep w ok v (.sl rows) := by
  cases h with | d h => exact h

theorem core_makeSlice (hT : TOk X) (ty : TypeId) (n c : Operand) {dst : Option Nat} {ins : List PV} {lk : Nat → Obj} {K : PV → Ob → List Nat → Prop} (hd : ∀ d', dst = some d' → d' < X.E.nt) (h : evCore X.E (.makeSlice ty n c) dst ins lk K) :
    ∃ v u t, K v u t ∧ CoreOk X (.makeSlice ty n c) dst ins lk v u t := by
  simp only [evCore] at h
  split at h
  · rename_i ti d kn nn kc cc hti
    split at h
    · rename_i te hk hte hl
      split at h
      · rename_i z hz
        obtain ⟨⟨h0, h1, h2, h3⟩, h⟩ := h
        obtain ⟨rowsN, hrowsN, h⟩ := h
        subst hrowsN
        have hok := hT ty ti hti
        have hu : X.P.underlying ty = some (.slice ti.elem) := by have := hok.und; rw [hk] at this; exact this
        obtain ⟨i, zv, hi, hzz, hsz, hby, hzs, hzl, hzr⟩ := zero_cells (X := X) (hT ti.elem te hte) hz
        have hpos := (hT ti.elem te hte).pos
        refine ⟨_, _, _, h, fun o fr ob hop hdst hins ht pl a w hr K' Q hK => ?_⟩
        have hnone : lkOf ob d = .none := (ht d (by simp)).trans hl
        have hins' : [n, c].map (opV fr) = [.d (.int kn nn), .d (.int kc cc)] := by simpa [Op.operands] using hins
        obtain ⟨p1, p2⟩ := ops2 hr hins'
        have e1 : a.eval n = .int kn nn := prep_int p1.1
        have e2 : a.eval c = .int kc cc := prep_int p2.1
        have hrun := run_make (P := X.P) w ty ti.elem i zv hu hi hzz kn kc nn cc h0 h1 (by rw [hby, Int.mul_comm]; omega) (by omega)
        unfold Oper.wp
        have hex : (execOp a.eval o).run X.P w = .ok (.value (.slice (some ⟨w.heap.size, 0, none⟩) nn.toNat cc.toNat)) (w.alloc (.cells (madeCells zv.cells (cc.toNat * i.size)) ti.elem)) := by
          unfold execOp; rw [hop]
          simp only [e1, e2, Sem.run_bind, hrun, Result.andThen_ok, Sem.run_pure]
        rw [hex]
        refine hK (pl.setV d (.slice (some ⟨w.heap.size, 0, none⟩) nn.toNat cc.toNat)) _ _ ?_
        rw [hdst]
        have hzsz : zv.cells.size = te.size := by rw [hzs, hzl]
        have hnc : nn.toNat ≤ cc.toNat := by omega
        have hrep : (List.replicate nn.toNat z).length = nn.toNat := by simp
        refine hr.putRow (u0 := []) (hd d rfl) hnone (.inl rfl) rfl rfl rfl (by rw [alloc_size]; omega) (fun k hk _ => heap_alloc_old w _ k hk) (fun g hg => ?_) ⟨_, _, _, rfl⟩ (fun ok' him => ?_)
        · simp [Value.ownBlock] at hg; subst hg; exact .inl ⟨Nat.le_refl _, by rw [alloc_size]; omega⟩
        · refine ⟨(madeCells zv.cells (cc.toNat * i.size)).toList.take (nn.toNat * te.size), ?_, fun r hr => ?_, fun k r hr j x hj => ?_⟩
          · rw [hrep]
            refine ⟨?_, .inr ⟨w.heap.size, cc.toNat, _, rfl, Nat.zero_le _, heap_alloc_new w _, hnc, by simp only [maxLen]; omega, by rw [size_madeCells, hsz], rfl⟩⟩
            rw [List.length_take, Array.length_toList, size_madeCells, hsz]
            exact Nat.min_eq_left (Nat.mul_le_mul_right _ hnc)
          · rw [List.eq_of_mem_replicate hr, hzl]
          · have hk : k < nn.toNat := by have := (List.getElem?_eq_some_iff.1 hr).1; simpa using this
            have hrz : r = z := List.eq_of_mem_replicate (List.mem_of_getElem? hr)
            subst hrz
            have hj' : j < te.size := by rw [← hzl]; exact (List.getElem?_eq_some_iff.1 hj).1
            have hlt := idx_lt hk hj'
            have hlt2 : k * te.size + j < cc.toNat * i.size := by rw [hsz]; exact Nat.lt_of_lt_of_le hlt (Nat.mul_le_mul_right _ hnc)
            have hg : ((madeCells zv.cells (cc.toNat * i.size)).toList.take (nn.toNat * te.size)).getD (k * te.size + j) undef = zv.cells.getD j undef := by
              rw [List.getD_eq_getElem?_getD, List.getElem?_take, if_pos hlt]
              have hjz : j < zv.cells.size := by rw [hzsz]; exact hj'
              have hm : (k * te.size + j) % zv.cells.size = j := by rw [hzsz]; exact (idx_div hj').2
              simp [madeCells, hlt2, hm, hjz]
            rw [hg]; exact hzr _ _ j x hj
      · exact h.elim
    · exact h.elim
  · exact h.elim

/-- What the row that is appended to is, and what becomes of it. -/
theorem append_rel (hT : TOk X) {ty e : TypeId} {ti te : TI} (hti : look none X.E.T ty = some ti) (hk : ti.kind = .slice) (hte : look none X.E.T ti.elem = some te) {o : Oper} {d : Nat} {c : Call} (hop : o.op = .call c) (hc : c.callee = .builtin .append) (hdst : o.dst = some d) {t' : TypeId} (hat : c.argTypes.toList = [ty, t'])
    {s x : Operand} (hargs : c.args.toList = [s, x]) (hd : d < X.E.nt) (hr' : Rel X pl fr ob a w) (hnone : lkOf ob d = .none) {rows0 rows : List (List D)} {xs news : List Value} {v0 : Value} (hv0 : a.eval s = v0) (hown : w.ownsRow 0 ti.elem te.size v0 rows0.length xs)
    (hl0 : ∀ r ∈ rows0, r.length = te.size) (hx0 : ∀ (i : Nat) (r : List D), rows0[i]? = some r → ∀ (j : Nat) (y : D), r[j]? = some y → DRep w (Imm X pl (lkOf ob) w) (xs.getD (i * te.size + j) undef) y)
    (hs : Src X.P te.size t' (a.eval x) rows.length news w) (hl : ∀ r ∈ rows, r.length = te.size) (hx : ∀ (i : Nat) (r : List D), rows[i]? = some r → ∀ (j : Nat) (y : D), r[j]? = some y → DRep w (Imm X pl (lkOf ob) w) (news.getD (i * te.size + j) undef) y)
    (hby : (rows0.length + rows.length) * te.bytes ≤ 140737488355328) {u0 : Ob} (hu0 : (u0 = [] ∧ v0 = .slice none 0 0) ∨ ∃ b e0 sz0, u0 = [(b, .gone)] ∧ lkOf ob b = .row e0 sz0 rows0 ∧ v0 = pl.val b)
    {K : Act → World → Prop} {Q : Exit → Act → World → Prop} (hK : ∀ pl' a' w', Rel X pl' ((d, .own d) :: fr) ((d, .row ti.elem te.size (rows0 ++ rows)) :: (u0 ++ ob)) a' w' → K a' w') : o.wp X.P a w K Q := by
  have hu : X.P.underlying ty = some (.slice ti.elem) := by have := (hT ty ti hti).und; rw [hk] at this; exact this
  obtain ⟨i, zv, hi, hsz, hbb, hzz, hzs, hzl, hzr⟩ := (hT ti.elem te hte).info
  have hpos := (hT ti.elem te hte).pos
  have hbpos := (hT ti.elem te hte).bpos
  rw [← hsz] at hown hs
  obtain ⟨v', w', hrun, h1, h2, h3⟩ := append_own_src (P := X.P) w ty t' o.type ti.elem i zv hu hi hzz (by rw [hzs, hzl, hsz]) (by omega) (by omega) v0 rows0.length xs hown (a.eval x) rows.length news hs (by rw [hbb]; exact hby)
  have hat' : c.argTypes = #[ty, t'] := by rw [← Array.toList_inj, hat]
  have hargs' : c.args = #[s, x] := by rw [← Array.toList_inj, hargs]
  have hex : (execOp a.eval o).run X.P w = .ok (.value v') w' := by
    unfold execOp; rw [hop]
    simp only [hc, hat', hargs', resolve, invoke, builtin, Sem.run_bind, Sem.run_pure, Result.andThen_ok, List.map_toArray, List.map_cons, List.map_nil, hv0, hrun]
  unfold Oper.wp
  rw [hex]
  have hv0b : ∀ k, v0.ownBlock = some k → ∃ b, u0 = [(b, .gone)] ∧ (pl.val b).ownBlock = some k := fun k hk => by
    rcases hu0 with ⟨_, rfl⟩ | ⟨b, e0, sz0, h, _, rfl⟩
    · cases hk
    · exact ⟨b, h, hk⟩
  refine hK (pl.setV d v') _ _ ?_
  rw [hdst]
  have hlt := h1.lt
  refine hr'.putRow hd hnone ?_ h2.os h2.tape h2.output h2.size (fun k hk hb => h2.block k hk fun he => ?_) (fun g hg => ?_) ?_ (fun ok' him => ?_)
  · rcases hu0 with ⟨h, _⟩ | ⟨b, e0, sz0, h, h', _⟩
    · exact .inl h
    · exact .inr ⟨b, e0, sz0, rows0, h, h'⟩
  · obtain ⟨b, hb1, hb2⟩ := hv0b k he.symm
    exact hb b hb1 hb2
  · rcases h3 with h3 | h3
    · rw [hg] at h3; exact .inr (hv0b g h3.symm)
    · rw [hg] at h3; cases h3; exact .inl ⟨Nat.le_refl _, (hlt _ hg).2⟩
  · rcases h1.2 with ⟨rfl, _⟩ | ⟨_, _, _, rfl, _⟩ <;> exact ⟨_, _, _, rfl⟩
  · rw [hsz] at h1 hown
    have hxl : xs.length = rows0.length * te.size := hown.1
    refine ⟨xs ++ news, by rw [List.length_append]; exact h1, fun r hr => ?_, fun k r hr j y hj => ?_⟩
    · rcases List.mem_append.1 hr with hr | hr
      · exact hl0 r hr
      · exact hl r hr
    · rw [List.getElem?_append] at hr
      split at hr
      · rename_i hk
        have hjl : j < te.size := by rw [← hl0 r (List.mem_of_getElem? hr)]; exact (List.getElem?_eq_some_iff.1 hj).1
        have hlt2 : k * te.size + j < xs.length := by rw [hxl]; exact idx_lt hk hjl
        have := (hx0 k r hr j y hj).mono him
        rw [List.getD_eq_getElem?_getD] at this ⊢
        rw [List.getElem?_append_left hlt2]; exact this
      · rename_i hk
        have hge : rows0.length ≤ k := by omega
        have hge2 : xs.length ≤ k * te.size + j := by rw [hxl]; exact Nat.le_trans (Nat.mul_le_mul_right _ hge) (Nat.le_add_right _ _)
        have := (hx (k - rows0.length) r hr j y hj).mono him
        rw [List.getD_eq_getElem?_getD] at this ⊢
        rw [List.getElem?_append_right hge2]
        have he : k * te.size + j - xs.length = (k - rows0.length) * te.size + j := by
          rw [hxl, Nat.sub_mul]
          have := Nat.mul_le_mul_right te.size hge
          omega
        rw [he]; exact this

theorem evAppend_ok (hT : TOk X) {ty t' : TypeId} {ti te : TI} (hti : look none X.E.T ty = some ti) (hk : ti.kind = .slice) (hte : look none X.E.T ti.elem = some te) (isStr : Bool) (hstr : isStr = true → te.size = 1) (hkind : (∃ e', X.P.underlying t' = some (.slice e')) ∨ (X.P.underlying t' = some .string))
    {c : Call} (hc : c.callee = .builtin .append) (hat : c.argTypes.toList = [ty, t']) {d : Nat} (hd : d < X.E.nt) {s x : PV} {lk : Nat → Obj} {K : PV → Ob → List Nat → Prop} (h : evAppend { te with elem := ti.elem } isStr d s x lk K) :
    ∃ v u t, K v u t ∧ CoreOk X (.call c) (some d) [s, x] lk v u t := by
  have hpos := (hT ti.elem te hte).pos
  unfold evAppend at h
  split at h
  · obtain ⟨rows, u, t, h, hm⟩ := moreG_ok (X := X) hpos h
    split at h
    · rename_i hl
      obtain ⟨hby, h⟩ := h
      obtain ⟨rowsN, hrowsN, h⟩ := h
      subst hrowsN
      refine ⟨_, _, _, h, fun o fr ob hop hdst hins ht pl a w hr K' Q hK => ?_⟩
      have hnone : lkOf ob d = .none := (ht d (by simp)).trans hl
      obtain ⟨f1, hm⟩ := hm ob fun id hid => ht id (by simp [hid])
      have hr' := hr.freeze f1
      have hins2 : c.args.toList.map (opV fr) = [.nil, x] := by simpa [Op.operands, Call.operands, hc] using hins
      obtain ⟨so, xo, hargs⟩ : ∃ so xo, c.args.toList = [so, xo] := by
        have := congrArg List.length hins2
        simp at this
        match hh : c.args.toList, this with
        | [so, xo], _ => exact ⟨so, xo, rfl⟩
        | [], h => simp [← Array.length_toList, hh] at h
        | [_], h => simp [← Array.length_toList, hh] at h
        | _ :: _ :: _ :: _, h => simp [← Array.length_toList, hh] at h
      rw [hargs] at hins2
      obtain ⟨p1, p2⟩ := ops2 hr hins2
      obtain ⟨news, hs, hl2, hx⟩ := hm pl w fr a hr hr' _ p2.1 t' hkind hstr
      have hnone' : lkOf (u ++ ob) d = .none := by
        rcases f1 d with h1 | ⟨_, _, _, h1, _⟩
        · rw [h1]; exact hnone
        · rw [hnone] at h1; cases h1
      refine append_rel (e := ti.elem) hT hti hk hte hop hc hdst hat hargs hd hr' hnone' (rows0 := []) (rows := rows) (xs := []) (news := news) (v0 := .slice none 0 0) (prep_nil p1.1) (World.ownsRow_nil w 0 ti.elem te.size) (fun _ h => by cases h) (fun i r h => by simp at h) hs hl2 hx (by simpa using hby) (u0 := []) (.inl ⟨rfl, rfl⟩) fun pl' a' w' hrel => hK pl' a' w' ?_
      rw [hdst]
      exact hrel
    · exact h.elim
  · rename_i id
    split at h
    · rename_i e sz rows0 hl0
      split at h
      · rename_i hl
        split at h
        · rename_i hes
          simp only [Bool.and_eq_true] at hes
          obtain rfl : e = ti.elem := Nat.eq_of_beq_eq_true hes.1
          obtain rfl : sz = te.size := Nat.eq_of_beq_eq_true hes.2
          obtain ⟨rows, u, t, h, hm⟩ := moreG_ok (X := X) hpos h
          split at h
          · rename_i hul
            obtain ⟨hby, h⟩ := h
            obtain ⟨rowsN, hrowsN, h⟩ := h
            subst hrowsN
            refine ⟨_, _, _, h, fun o fr ob hop hdst hins ht pl a w hr K' Q hK => ?_⟩
            have hnone : lkOf ob d = .none := (ht d (by simp)).trans hl
            have hrow : lkOf ob id = .row ti.elem te.size rows0 := (ht id (by simp)).trans hl0
            obtain ⟨f1, hm⟩ := hm ob fun id hid => ht id (by simp [hid])
            have hr' := hr.freeze f1
            have hins2 : c.args.toList.map (opV fr) = [.own id, x] := by simpa [Op.operands, Call.operands, hc] using hins
            obtain ⟨so, xo, hargs⟩ : ∃ so xo, c.args.toList = [so, xo] := by
              have := congrArg List.length hins2
              simp at this
              match hh : c.args.toList, this with
              | [so, xo], _ => exact ⟨so, xo, rfl⟩
              | [], h => simp [← Array.length_toList, hh] at h
              | [_], h => simp [← Array.length_toList, hh] at h
              | _ :: _ :: _ :: _, h => simp [← Array.length_toList, hh] at h
            rw [hargs] at hins2
            obtain ⟨p1, p2⟩ := ops2 hr hins2
            obtain ⟨news, hs, hl2, hx⟩ := hm pl w fr a hr hr' _ p2.1 t' hkind hstr
            have hnone' : lkOf (u ++ ob) d = .none := by
              rcases f1 d with h1 | ⟨_, _, _, h1, _⟩
              · rw [h1]; exact hnone
              · rw [hnone] at h1; cases h1
            have hrow' : lkOf (u ++ ob) id = .row ti.elem te.size rows0 := by
              rw [← hrow]
              have := look_append Obj.none u ob id
              rcases f1 id with h1 | ⟨e, s, r, h1, h2⟩
              · exact h1
              · exfalso
                have h3 : lkOf (u ++ ob) id = if u.any (fun p => Nat.beq p.1 id) then look .none u id else lkOf ob id := this
                rw [h2] at h3
                split at h3
                · rw [hul] at h3; cases h3
                · rw [hrow] at h3; cases h3
            have hval : a.eval so = pl.val id := by
              have hcase : ∀ v0, PRep w (Imm X pl (lkOf ob) w) pl (lkOf ob) v0 (.own id) → v0 = pl.val id := fun v0 hv => by
                cases hv with | own hh => exact hh (by rw [hrow]; rfl)
              exact hcase _ p1.1
            have hh := hr'.ho id
            rw [hrow'] at hh
            obtain ⟨xs, hown, hl00, hx00⟩ := hh
            refine append_rel (e := ti.elem) hT hti hk hte hop hc hdst hat hargs hd hr' hnone' (rows0 := rows0) (rows := rows) (xs := xs) (news := news) (v0 := pl.val id) hval hown hl00 hx00 hs hl2 hx hby (u0 := [(id, .gone)]) (.inr ⟨id, _, _, rfl, hrow', rfl⟩) fun pl' a' w' hrel => hK pl' a' w' ?_
            rw [hdst]
            exact hrel
          · exact h.elim
        · exact h.elim
      · exact h.elim
    · exact h.elim
  · exact h.elim

theorem core_append (hT : TOk X) (c : Call) (hc : c.callee = .builtin .append) {dst : Option Nat} {ins : List PV} {lk : Nat → Obj} {K : PV → Ob → List Nat → Prop} (hd : ∀ d', dst = some d' → d' < X.E.nt) (h : evCore X.E (.call c) dst ins lk K) :
    ∃ v u t, K v u t ∧ CoreOk X (.call c) dst ins lk v u t := by
  simp only [evCore, hc] at h
  split at h
  · rename_i s x d t t' hat
    split at h
    · rename_i ti ti' hti hti'
      split at h
      · rename_i te hk hte
        split at h
        · rename_i hk'
          split at h
          · rename_i htt
            obtain rfl := Nat.eq_of_beq_eq_true htt
            have hu : X.P.underlying t = some (.slice ti.elem) := by have := (hT t ti hti).und; rw [hk] at this; exact this
            exact evAppend_ok hT hti hk hte false (fun h => by cases h) (.inl ⟨_, hu⟩) hc hat (hd d rfl) h
          · exact h.elim
        · rename_i hk'
          split at h
          · rename_i hte8
            have hu : X.P.underlying t' = some .string := by have := (hT t' ti' hti').und; rw [hk'] at this; exact this
            exact evAppend_ok hT hti hk hte true (fun _ => (hT ti.elem te hte).one (by rw [hte8]; exact fun h => by cases h)) (.inr hu) hc hat (hd d rfl) h
          · exact h.elim
        · exact h.elim
      · exact h.elim
    · exact h.elim
  · exact h.elim

end Go.Pv
