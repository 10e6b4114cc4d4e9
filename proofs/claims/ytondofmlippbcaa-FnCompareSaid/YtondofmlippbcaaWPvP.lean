import Derived.Test.YtondofmlippbcaaWPvO
set_option linter.unusedVariables false
set_option linter.unusedSimpArgs false
namespace Go.Pv
variable {X : Ctx} {pl : Pl} {fr : Fr} {ob : Ob} {a : Act} {w : World}

theorem arg1 {c : Call} {b : Builtin} {x : PV} (hc : c.callee = .builtin b) (hins : (Op.call c).operands.toList.map (opV fr) = [x]) (hr : Rel X pl fr ob a w) : ∃ so, c.args = #[so] ∧ PRep w (Imm X pl (lkOf ob) w) pl (lkOf ob) (a.eval so) x := by
  have hins2 : c.args.toList.map (opV fr) = [x] := by simpa [Op.operands, Call.operands, hc] using hins
  obtain ⟨so, hargs⟩ : ∃ so, c.args.toList = [so] := by
    have := congrArg List.length hins2
    simp at this
    match hh : c.args.toList, this with
    | [so], _ => exact ⟨so, rfl⟩
    | [], h => simp [← Array.length_toList, hh] at h
    | _ :: _ :: _, h => simp [← Array.length_toList, hh] at h
  have hargs' : c.args = #[so] := by rw [← Array.toList_inj, hargs]
  rw [hargs] at hins2
  exact ⟨so, hargs', (op1 hr hins2).1⟩

theorem arg2 {c : Call} {b : Builtin} {x y : PV} (hc : c.callee = .builtin b) (hins : (Op.call c).operands.toList.map (opV fr) = [x, y]) (hr : Rel X pl fr ob a w) : ∃ so to_, c.args = #[so, to_] ∧ PRep w (Imm X pl (lkOf ob) w) pl (lkOf ob) (a.eval so) x ∧ PRep w (Imm X pl (lkOf ob) w) pl (lkOf ob) (a.eval to_) y := by
  have hins2 : c.args.toList.map (opV fr) = [x, y] := by simpa [Op.operands, Call.operands, hc] using hins
  obtain ⟨so, xo, hargs⟩ : ∃ so xo, c.args.toList = [so, xo] := by
    have := congrArg List.length hins2
    simp at this
    match hh : c.args.toList, this with
    | [so, xo], _ => exact ⟨so, xo, rfl⟩
    | [], h => simp [← Array.length_toList, hh] at h
    | [_], h => simp [← Array.length_toList, hh] at h
    | _ :: _ :: _ :: _, h => simp [← Array.length_toList, hh] at h
  have hargs' : c.args = #[so, xo] := by rw [← Array.toList_inj, hargs]
  rw [hargs] at hins2
  exact ⟨so, xo, hargs', (ops2 hr hins2).1.1, (ops2 hr hins2).2.1⟩

theorem len_rows {P : Program} {c : Call} {t e : TypeId} {so : Operand} {a : Act} {w : World} {o : Oper} (hop : o.op = .call c) (hc : c.callee = .builtin .len) (hat : c.argTypes = #[t]) (hargs : c.args = #[so]) (hu : P.underlying t = some (.slice e)) {ad : Option Addr} {n k : Nat} (hv : a.eval so = .slice ad n k) :
    (execOp a.eval o).run P w = .ok (.value (.int .i64 n)) w := by
  unfold execOp; rw [hop]
  simp [hc, hat, hargs, resolve, invoke, builtin, hv, Builtin.len_, run_underlying hu, goInt]

theorem core_len (hT : TOk X) (c : Call) (hc : c.callee = .builtin .len) {dst : Option Nat} {ins : List PV} {lk : Nat → Obj} {K : PV → Ob → List Nat → Prop} (hd : ∀ d', dst = some d' → d' < X.E.nt) (h : evCore X.E (.call c) dst ins lk K) :
    ∃ v u t, K v u t ∧ CoreOk X (.call c) dst ins lk v u t := by
  simp only [evCore, hc] at h
  split at h
  · rename_i t hat
    have hat' : c.argTypes = #[t] := by rw [← Array.toList_inj, hat]
    split at h
    · rename_i ti hti
      have fin : ∀ n : Int, ∀ w ok pl lk, PRep w ok pl lk (.int .i64 n) (.d (.int .i64 n)) := fun n w ok pl lk => .d (.int _ _)
      split at h
      · rename_i rows hk
        have hu : X.P.underlying t = some (.slice ti.elem) := by have := (hT t ti hti).und; rw [hk] at this; exact this
        obtain ⟨nN, hnN, h⟩ := h
        subst hnN
        refine ⟨_, _, _, h, .value hd fun o fr ob hop hins _ pl a w hr => ?_⟩
        obtain ⟨so, hargs, hp⟩ := arg1 hc hins hr
        have hp := prep_sl hp
        generalize hv : a.eval so = v at hp
        have : ∃ a c, v = .slice a rows.length c := by cases hp <;> exact ⟨_, _, rfl⟩
        obtain ⟨ad, k, rfl⟩ := this
        exact ⟨_, len_rows hop hc hat' hargs hu hv, fin _ _ _ _ _, fun id hid => by simp [ids] at hid⟩
      · rename_i s hk
        have hu : X.P.underlying t = some .string := by have := (hT t ti hti).und; rw [hk] at this; exact this
        refine ⟨_, _, _, h, .value hd fun o fr ob hop hins _ pl a w hr => ?_⟩
        obtain ⟨so, hargs, hp⟩ := arg1 hc hins hr
        obtain ⟨s1, hv, rfl, _⟩ := prep_str hp
        rw [size_data]
        refine ⟨.int .i64 s1.size, ?_, fin _ _ _ _ _, fun id hid => by simp [ids] at hid⟩
        unfold execOp; rw [hop]
        simp [hc, hat', hargs, resolve, invoke, builtin, hv, Builtin.len_, run_underlying hu, goInt]
      · rename_i hk
        have hu : X.P.underlying t = some (.slice ti.elem) := by have := (hT t ti hti).und; rw [hk] at this; exact this
        refine ⟨_, _, _, h, .value hd fun o fr ob hop hins _ pl a w hr => ?_⟩
        obtain ⟨so, hargs, hp⟩ := arg1 hc hins hr
        exact ⟨_, len_rows hop hc hat' hargs hu (prep_nil hp), fin _ _ _ _ _, fun id hid => by simp [ids] at hid⟩
      · rename_i id hk
        have hu : X.P.underlying t = some (.slice ti.elem) := by have := (hT t ti hti).und; rw [hk] at this; exact this
        have own : ∀ v0 pl lk ok w, PRep w ok pl lk v0 (.own id) → (lk id).isRow = true → v0 = pl.val id := fun v0 pl lk ok w hv hr => by
          cases hv with | own hh => exact hh hr
        split at h
        · rename_i e sz rows hl
          obtain ⟨nN, hnN, h⟩ := h
          subst hnN
          refine ⟨_, _, _, h, .value hd fun o fr ob hop hins ht pl a w hr => ?_⟩
          obtain ⟨so, hargs, hp⟩ := arg1 hc hins hr
          have hlo := (ht id (by simp)).trans hl
          have hv := own _ _ _ _ _ hp (by rw [hlo]; rfl)
          have hh := hr.ho id
          rw [hlo] at hh
          obtain ⟨xs, ho, _⟩ := hh
          have : ∃ a c, pl.val id = .slice a rows.length c := by
            rcases ho.2 with ⟨h, hn⟩ | ⟨_, _, _, h, _⟩
            · rw [h, hn]; exact ⟨_, _, rfl⟩
            · rw [h]; exact ⟨_, _, rfl⟩
          obtain ⟨ad, k, hpv⟩ := this
          exact ⟨_, len_rows hop hc hat' hargs hu (hv.trans hpv), fin _ _ _ _ _, fun id hid => by simp [ids] at hid⟩
        · rename_i sz rows hl
          obtain ⟨nN, hnN, h⟩ := h
          subst hnN
          refine ⟨_, _, _, h, .value hd fun o fr ob hop hins ht pl a w hr => ?_⟩
          obtain ⟨so, hargs, hp⟩ := arg1 hc hins hr
          have hlo := (ht id (by simp)).trans hl
          have hv := own _ _ _ _ _ hp (by rw [hlo]; rfl)
          have hh := hr.ho id
          rw [hlo] at hh
          obtain ⟨_, ho, _⟩ := hh
          have : ∃ a c, pl.val id = .slice a rows.length c := by
            generalize pl.val id = v at ho
            cases ho <;> exact ⟨_, _, rfl⟩
          obtain ⟨ad, k, hpv⟩ := this
          exact ⟨_, len_rows hop hc hat' hargs hu (hv.trans hpv), fin _ _ _ _ _, fun id hid => by simp [ids] at hid⟩
        · exact h.elim
      · exact h.elim
    · exact h.elim
  · exact h.elim

theorem core_max (c : Call) (hc : c.callee = .builtin .max) {dst : Option Nat} {ins : List PV} {lk : Nat → Obj} {K : PV → Ob → List Nat → Prop} (hd : ∀ d', dst = some d' → d' < X.E.nt) (h : evCore X.E (.call c) dst ins lk K) :
    ∃ v u t, K v u t ∧ CoreOk X (.call c) dst ins lk v u t := by
  simp only [evCore, hc] at h
  split at h
  · rename_i k x k' y
    refine ⟨_, _, _, h, .value hd fun o fr ob hop hins _ pl a w hr => ?_⟩
    obtain ⟨so, to_, hargs, h1, h2⟩ := arg2 hc hins hr
    refine ⟨.int k (if y > x then y else x), ?_, .d (.int _ _), fun id hid => by simp [ids] at hid⟩
    unfold execOp; rw [hop]
    simp [hc, hargs, resolve, invoke, builtin, prep_int h1, prep_int h2, Builtin.max_, Builtin.max2]
  · exact h.elim

theorem core_min (c : Call) (hc : c.callee = .builtin .min) {dst : Option Nat} {ins : List PV} {lk : Nat → Obj} {K : PV → Ob → List Nat → Prop} (hd : ∀ d', dst = some d' → d' < X.E.nt) (h : evCore X.E (.call c) dst ins lk K) :
    ∃ v u t, K v u t ∧ CoreOk X (.call c) dst ins lk v u t := by
  simp only [evCore, hc] at h
  split at h
  · rename_i k x k' y
    refine ⟨_, _, _, h, .value hd fun o fr ob hop hins _ pl a w hr => ?_⟩
    obtain ⟨so, to_, hargs, h1, h2⟩ := arg2 hc hins hr
    refine ⟨.int k (if y < x then y else x), ?_, .d (.int _ _), fun id hid => by simp [ids] at hid⟩
    unfold execOp; rw [hop]
    simp [hc, hargs, resolve, invoke, builtin, prep_int h1, prep_int h2, Builtin.min_, Builtin.min2]
  · exact h.elim

/-- The bytes of a row as a text. -/
theorem str_of_rows {P : Program} {w : World} {ok : Nat → Prop} {v : Value} {l : List UInt8} {src dst e : TypeId} (h : DRep w ok v (.sl (l.map fun b => [D.int .u8 b.toNat]))) (hs : P.underlying src = some (.slice e)) (he : P.underlying e = some (.int .u8)) (hd : P.underlying dst = some .string) :
    (convert src dst v).run P w = .ok (.string ⟨l.toArray⟩) w := by
  generalize hrows : (l.map fun b => [D.int .u8 (b.toNat : Int)]) = rows at h
  cases h with
  | nil =>
    have : l = [] := by simpa using hrows
    subst this
    exact Lib.run_convert_nil_bytes w src dst e 0 hs he hd
  | sl ad c sz _ vs hc hm hok hsz hcell hrep =>
    subst hrows
    simp only [List.length_map] at *
    refine run_convert_bytes_back w src dst e ad c l hs he hd fun j hj => ?_
    have hsz1 : sz = 1 := by
      have := hsz [D.int .u8 (l[j].toNat : Int)] (List.mem_map.2 ⟨l[j], List.getElem_mem hj, rfl⟩)
      simpa using this.symm
    subst hsz1
    have hg : (l.map fun b => [D.int .u8 (b.toNat : Int)])[j]? = some [D.int .u8 (l[j].toNat : Int)] := by rw [List.getElem?_map, List.getElem?_eq_getElem hj]; rfl
    have h1 := hcell j _ hg 0 _ rfl
    have h2 := hrep j _ hg 0 _ rfl
    simp only [Nat.mul_one, Nat.add_zero] at h1 h2
    have : ∀ v0, DRep w ok v0 (.int .u8 (l[j].toNat : Int)) → v0 = .int .u8 (l[j].toNat : Int) := fun v0 h => by cases h; rfl
    rw [h1, this _ h2]

theorem core_convert (hT : TOk X) (src t : TypeId) (x : Operand) {dst : Option Nat} {ins : List PV} {lk : Nat → Obj} {K : PV → Ob → List Nat → Prop} (hd : ∀ d', dst = some d' → d' < X.E.nt) (h : evCore X.E (.convert src t x) dst ins lk K) :
    ∃ v u tt, K v u tt ∧ CoreOk X (.convert src t x) dst ins lk v u tt := by
  simp only [evCore] at h
  split at h
  · rename_i si ti d hsi hti
    have hsrc : ∃ d, X.P.underlying src = some d := by
      have := (hT src si hsi).und
      split at this
      · exact ⟨_, this⟩
      · exact ⟨_, this⟩
      · exact ⟨_, this⟩
      · exact ⟨_, this⟩
      · obtain ⟨fs, h, _⟩ := this; exact ⟨_, h⟩
      · obtain ⟨ms, h⟩ := this; exact ⟨_, h⟩
      · obtain ⟨d, h, _⟩ := this; exact ⟨_, h⟩
    obtain ⟨sd, hsd⟩ := hsrc
    split at h
    · rename_i k n
      split at h
      · rename_i k' hk
        have hu : X.P.underlying t = some (.int k') := by have := (hT t ti hti).und; rw [hk] at this; exact this
        refine ⟨_, _, _, h, .value hd fun o fr ob hop hins _ pl a w hr => ?_⟩
        obtain ⟨hp, _⟩ := op1 hr (show [x].map (opV fr) = _ by simpa [Op.operands] using hins)
        refine ⟨.int k' (k'.wrap n), ?_, .d (.int _ _), fun id hid => by simp [ids] at hid⟩
        have hik : X.P.intKind t = k' := by simp [Program.intKind, hu]
        have := run_convert_int (P := X.P) (w := w) src t k n (by rw [hsd]; rfl) (by rw [hik]; exact hu)
        rw [hik] at this
        unfold execOp; rw [hop]
        simp only [prep_int hp, Sem.run_bind, this, Result.andThen_ok, Sem.run_pure]
      · exact h.elim
    · rename_i s
      split at h
      · rename_i hk
        have hu : X.P.underlying t = some .string := by have := (hT t ti hti).und; rw [hk] at this; exact this
        refine ⟨_, _, _, h, .value hd fun o fr ob hop hins _ pl a w hr => ?_⟩
        obtain ⟨hp, _⟩ := op1 hr (show [x].map (opV fr) = _ by simpa [Op.operands] using hins)
        obtain ⟨s, hv, rfl, hs⟩ := prep_str hp
        refine ⟨.string s, ?_, .d (.str _ hs), fun id hid => by simp [ids] at hid⟩
        have hcv : (convert src t (.string s)).run X.P w = .ok (.string s) w := by simp [convert, run_underlying hsd, run_underlying hu]
        unfold execOp; rw [hop]
        simp only [hv, Sem.run_bind, hcv, Result.andThen_ok, Sem.run_pure]
      · exact h.elim
    · rename_i rows
      split at h
      · rename_i te hk hks hte
        split at h
        · rename_i hte8
          obtain ⟨l, rfl, h⟩ := h
          have hu : X.P.underlying t = some .string := by have := (hT t ti hti).und; rw [hk] at this; exact this
          have hs : X.P.underlying src = some (.slice si.elem) := by have := (hT src si hsi).und; rw [hks] at this; exact this
          have he : X.P.underlying si.elem = some (.int .u8) := by have := (hT si.elem te hte).und; rw [hte8] at this; exact this
          refine ⟨_, _, _, h, .value hd fun o fr ob hop hins _ pl a w hr => ?_⟩
          obtain ⟨hp, _⟩ := op1 hr (show [x].map (opV fr) = _ by simpa [Op.operands] using hins)
          have := str_of_rows (prep_sl hp) hs he hu
          have hle := (prep_sl hp).len_le
          rw [List.length_map] at hle
          refine ⟨_, ?_, .d (.mkStr l hle), fun id hid => by simp [ids] at hid⟩
          unfold execOp; rw [hop]
          simp only [Sem.run_bind, this, Result.andThen_ok, Sem.run_pure]
        · exact h.elim
      · exact h.elim
    · split at h
      · rename_i te hk hks hte
        split at h
        · rename_i hte8
          have hu : X.P.underlying t = some .string := by have := (hT t ti hti).und; rw [hk] at this; exact this
          have hs : X.P.underlying src = some (.slice si.elem) := by have := (hT src si hsi).und; rw [hks] at this; exact this
          have he : X.P.underlying si.elem = some (.int .u8) := by have := (hT si.elem te hte).und; rw [hte8] at this; exact this
          refine ⟨_, _, _, h, .value hd fun o fr ob hop hins _ pl a w hr => ?_⟩
          obtain ⟨hp, _⟩ := op1 hr (show [x].map (opV fr) = _ by simpa [Op.operands] using hins)
          have := Lib.run_convert_nil_bytes (P := X.P) w src t si.elem 0 hs he hu
          refine ⟨_, ?_, .d (.mkStr [] (Nat.zero_le _)), fun id hid => by simp [ids] at hid⟩
          unfold execOp; rw [hop]
          simp only [prep_nil hp, Sem.run_bind, this, Result.andThen_ok, Sem.run_pure]
        · exact h.elim
      · exact h.elim
    · rename_i id
      have own : ∀ v0 pl lk ok w, PRep w ok pl lk v0 (.own id) → (lk id).isRow = true → v0 = pl.val id := fun v0 pl lk ok w hv hr => by
        cases hv with | own hh => exact hh hr
      split at h
      · rename_i te hk hks hte
        have hu : X.P.underlying t = some .string := by have := (hT t ti hti).und; rw [hk] at this; exact this
        have hs : X.P.underlying src = some (.slice si.elem) := by have := (hT src si hsi).und; rw [hks] at this; exact this
        split at h
        · rename_i e sz rows hte8 hl
          have he : X.P.underlying si.elem = some (.int .u8) := by have := (hT si.elem te hte).und; rw [hte8] at this; exact this
          split at h
          · obtain ⟨l, rfl, h⟩ := h
            refine ⟨_, _, _, h, .value hd fun o fr ob hop hins ht pl a w hr => ?_⟩
            obtain ⟨hp, _⟩ := op1 hr (show [x].map (opV fr) = _ by simpa [Op.operands] using hins)
            have hlo := (ht id (by simp)).trans hl
            have hv := own _ _ _ _ _ hp (by rw [hlo]; rfl)
            have hh := hr.ho id
            rw [hlo] at hh
            have hrep := row_slice hh (fun _ => True) (fun _ _ => trivial) (fun _ _ => trivial)
            rw [← hv] at hrep
            have := str_of_rows hrep hs he hu
            have hle := hrep.len_le
            rw [List.length_map] at hle
            refine ⟨_, ?_, .d (.mkStr l hle), fun id hid => by simp [ids] at hid⟩
            unfold execOp; rw [hop]
            simp only [Sem.run_bind, this, Result.andThen_ok, Sem.run_pure]
          · exact h.elim
        · rename_i sz rows hte8 hl
          have he : X.P.underlying si.elem = some (.int .u8) := by have := (hT si.elem te hte).und; rw [hte8] at this; exact this
          split at h
          · obtain ⟨l, rfl, h⟩ := h
            refine ⟨_, _, _, h, .value hd fun o fr ob hop hins ht pl a w hr => ?_⟩
            obtain ⟨hp, _⟩ := op1 hr (show [x].map (opV fr) = _ by simpa [Op.operands] using hins)
            have hlo := (ht id (by simp)).trans hl
            have hv := own _ _ _ _ _ hp (by rw [hlo]; rfl)
            have hh := hr.ho id
            rw [hlo] at hh
            have hrep := hh.2.1
            rw [← hv] at hrep
            have := str_of_rows hrep hs he hu
            have hle := hrep.len_le
            rw [List.length_map] at hle
            refine ⟨_, ?_, .d (.mkStr l hle), fun id hid => by simp [ids] at hid⟩
            unfold execOp; rw [hop]
            simp only [Sem.run_bind, this, Result.andThen_ok, Sem.run_pure]
          · exact h.elim
        · exact h.elim
      · exact h.elim
    · exact h.elim
  · exact h.elim

end Go.Pv
