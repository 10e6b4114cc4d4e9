import Derived.Test.YtondofmlippbcaaWPvL
set_option linter.unusedVariables false
set_option linter.unusedSimpArgs false
namespace Go.Pv
variable {X : Ctx} {pl : Pl} {fr : Fr} {ob : Ob} {a : Act} {w : World}

theorem fill_ok {w : World} {ok : Nat → Prop} {offs szs : List Nat} {place : Nat → Option (Nat × Nat)} (hp : ∀ (f o n : Nat), offs[f]? = some o → szs[f]? = some n → place f = some (o, n)) :
    ∀ (idx : List Nat) (cs : List (List D)) (cells : List D) {cells' : List D}, fillP offs szs idx cs cells = some cells' → ∀ (vs : List Value) (cur : Array Value), vs.length = idx.length → idx.length = cs.length →
      (∀ (i : Nat) (c : List D), cs[i]? = some c → ∃ v : Value, vs[i]? = some v ∧ v.cells.size = c.length ∧ ∀ (j : Nat) (x : D), c[j]? = some x → DRep w ok (v.cells.getD j undef) x) →
      cur.size = cells.length → (∀ (j : Nat) (x : D), cells[j]? = some x → DRep w ok (cur.getD j undef) x) →
      ∃ r, Instr.fill place cur (idx.zip vs) = some r ∧ r.size = cells'.length ∧ ∀ (j : Nat) (x : D), cells'[j]? = some x → DRep w ok (r.getD j undef) x
  | [], cs, cells, cells', h, vs, cur, hvl, hl, hv, hcs, hc => by
    cases cs with
    | nil =>
      simp only [fillP, Option.some.injEq] at h
      subst h
      cases vs with
      | nil => exact ⟨cur, rfl, hcs, hc⟩
      | cons v vs => simp at hvl
    | cons c cs => simp at hl
  | f :: idx, cs, cells, cells', h, vs, cur, hvl, hl, hv, hcs, hc => by
    cases cs with
    | nil => simp at hl
    | cons c cs =>
      cases vs with
      | nil => simp at hvl
      | cons v vs =>
        cases c with
        | nil => simp [fillP] at h
        | cons c0 c1 =>
        simp only [fillP] at h
        generalize hcc : c0 :: c1 = c at *
        have hne : c ≠ [] := by rw [← hcc]; simp
        split at h
        · rename_i o n ho hn
          split at h
          · rename_i cells1 hlen hput
            have hlen := Nat.eq_of_beq_eq_true hlen
            obtain ⟨v', hv', hvs, hvr⟩ := hv 0 c rfl
            simp at hv'; subst hv'
            obtain ⟨p1, p2, p3⟩ := putL_ok o c cells hput
            have hfit : c ≠ [] → o + c.length ≤ cur.size := fun hne => by rw [hcs]; exact p2 hne
            obtain ⟨g1, g2⟩ := Great.foldl_set o v.cells.toList 0 cur
            have hrec := fill_ok hp idx cs cells1 h vs (List.foldl (fun cs (x : Value × Nat) => cs.setIfInBounds (o + x.2) x.1) cur (v.cells.toList.zipIdx 0)) (by simpa using hvl) (by simpa using hl)
              (fun i c' hc' => hv (i + 1) c' (by simpa using hc')) (by rw [g1, hcs, p1]) (fun j x hx => ?_)
            · obtain ⟨r, hr1, hr2, hr3⟩ := hrec
              · refine ⟨r, ?_, hr2, hr3⟩
                have h1 : ¬ (v.cells.size ≠ n ∨ o + v.cells.size > cur.size) := by have := hfit hne; omega
                simp only [List.zip_cons_cons, Instr.fill, hp f o n ho hn]
                have h2 : (decide (v.cells.size ≠ n) || decide (o + v.cells.size > cur.size)) = false := by simpa using h1
                rw [if_neg (by simpa using h1)]
                rw [← Array.foldl_toList, Array.toList_zipIdx]
                exact hr1
            · have e : (List.foldl (fun cs (x : Value × Nat) => cs.setIfInBounds (o + x.2) x.1) cur (v.cells.toList.zipIdx 0)).getD j undef = if o ≤ j ∧ j < o + c.length then v.cells.getD (j - o) undef else cur.getD j undef := by
                have := g2 j
                have hjl : j < cells.length := by rw [← p1]; exact (List.getElem?_eq_some_iff.1 hx).1
                simp only [Array.getD_eq_getD_getElem?, this, Array.length_toList, hvs, Nat.add_zero]
                by_cases hin : o ≤ j ∧ j < o + c.length
                · rw [if_pos ⟨hin.1, hin.2, by omega⟩, if_pos hin]; simp
                · rw [if_neg (fun h => hin ⟨h.1, h.2.1⟩), if_neg hin]
              rw [e]
              rw [p3 j] at hx
              by_cases hin : o ≤ j ∧ j < o + c.length
              · rw [if_pos hin] at hx ⊢; exact hvr _ x hx
              · rw [if_neg hin] at hx ⊢; exact hc j x hx
          · cases h
        · cases h

theorem places_ok (P : Program) : ∀ (fs : List Field), (∀ f ∈ fs, P.cellsOf f.type ≠ 0) → fs.mapM (fun f => (P.info? f.type).map fun i => (f.offset, i.size)) = some (fs.map fun f => (f.offset, P.cellsOf f.type))
  | [], _ => rfl
  | f :: fs, h => by
    have h0 := h f (by simp)
    have ih := places_ok P fs fun g hg => h g (by simp [hg])
    unfold Program.cellsOf at h0 ⊢
    cases hi : P.info? f.type with
    | none => rw [hi] at h0; simp at h0
    | some i =>
      unfold Program.cellsOf at ih
      simp [List.mapM_cons, hi, ih]

theorem zero_cells {ti : TI} {t : TypeId} (hok : TIok X.P t ti) {lk : Nat → Obj} {z : List D} (hz : cellsD lk ti.size ti.zero = some (z, [], [])) :
    ∃ i zv, X.P.info? t = some i ∧ i.zero = some zv ∧ i.size = ti.size ∧ i.bytes = ti.bytes ∧ zv.cells.size = z.length ∧ z.length = ti.size ∧ ∀ w ok, ∀ (j : Nat) (x : D), z[j]? = some x → DRep w ok (zv.cells.getD j undef) x := by
  obtain ⟨i, zv, hi, hsz, hby, hzz, hzs, hzl, hzr⟩ := hok.info
  refine ⟨i, zv, hi, hzz, hsz, hby, ?_⟩
  have key : ∀ (n : Nat) (l : List PV) (f : Nat → Value) {z : List D}, cellsD lk n l = some (z, [], []) → (∀ (j : Nat) (x : PV), l[j]? = some x → (∀ w ok pl lk, PRep w ok pl lk (f j) x) ∧ ids x = [] ∧ (cellB x = true ∨ x = .junk)) → z.length = n ∧ n ≤ l.length ∧ ∀ w ok (j : Nat) (x : D), z[j]? = some x → DRep w ok (f j) x := by
    intro n
    induction n with
    | zero => intro l f z h _; simp [cellsD] at h; subst h; simp
    | succ n ih =>
      intro l f z h hl
      cases l with
      | nil => simp [cellsD] at h
      | cons y l =>
        simp only [cellsD] at h
        have h0 := hl 0 y rfl
        cases y with
        | d x =>
          simp only [partD] at h
          · split at h
            · rename_i cs' u' t' hc
              simp only [Option.some.injEq, Prod.mk.injEq, List.nil_append] at h
              obtain ⟨rfl, rfl, rfl⟩ := h
              obtain ⟨i1, i2, i3⟩ := ih l (fun j => f (j + 1)) hc (fun j x hj => hl (j + 1) x (by simpa using hj))
              refine ⟨by simp [i1], by simp; exact i2, fun w ok j x' hj => ?_⟩
              cases j with
              | zero =>
                simp at hj; subst hj
                have := h0.1 w ok ⟨fun _ => 0, fun _ => undef⟩ (fun _ => .none)
                have hdr : ∀ v0, PRep w ok ⟨fun _ => 0, fun _ => undef⟩ (fun _ => .none) v0 (.d x) → DRep w ok v0 x := fun v0 hv => by cases hv; assumption
                exact hdr _ this
              | succ j => exact i3 w ok j x' (by simpa using hj)
            · cases h
        | nil =>
          simp only [partD] at h
          · split at h
            · rename_i cs' u' t' hc
              simp only [Option.some.injEq, Prod.mk.injEq, List.nil_append] at h
              obtain ⟨rfl, rfl, rfl⟩ := h
              obtain ⟨i1, i2, i3⟩ := ih l (fun j => f (j + 1)) hc (fun j x hj => hl (j + 1) x (by simpa using hj))
              refine ⟨by simp [i1], by simp; exact i2, fun w ok j x' hj => ?_⟩
              cases j with
              | zero =>
                simp at hj; subst hj
                have := h0.1 w ok ⟨fun _ => 0, fun _ => undef⟩ (fun _ => .none)
                have hnil : ∀ v0, PRep w ok ⟨fun _ => 0, fun _ => undef⟩ (fun _ => .none) v0 .nil → DRep w ok v0 (.sl []) := fun v0 hv => by cases hv; exact .nil
                exact hnil _ this
              | succ j => exact i3 w ok j x' (by simpa using hj)
            · cases h
        | own id => simp [ids] at h0
        | agg cs => exact absurd h0.2.2 (by simp [cellB])
        | _ => simp [partD] at h
  obtain ⟨k1, k2, k3⟩ := key ti.size ti.zero (fun j => zv.cells.getD j undef) hz (fun j x hj => ⟨(hzr j x hj).1, (hzr j x hj).2.2, (hzr j x hj).2.1⟩)
  exact ⟨by rw [hzs, hzl, k1], k1, k3⟩

theorem partsVals (hr : Rel X pl fr ob a w) (parts : Array (Nat × Operand)) {ins : List PV} (hins : (parts.toList.map (·.2)).map (opV fr) = ins) :
    ∀ (i : Nat) (x : PV), ins[i]? = some x → ∃ v, ((parts.toList.map (·.2)).map a.eval)[i]? = some v ∧ PRep w (Imm X pl (lkOf ob) w) pl (lkOf ob) v x := by
  intro i x hx
  rw [← hins, List.getElem?_map] at hx
  rw [List.getElem?_map]
  cases hp : (parts.toList.map (·.2))[i]? with
  | none => rw [hp] at hx; cases hx
  | some y => rw [hp] at hx; simp at hx; subst hx; exact ⟨_, rfl, hr.op y⟩

theorem zip_parts (parts : Array (Nat × Operand)) (ρ : Operand → Value) : (parts.map fun (i, x) => (i, ρ x)).toList = (parts.toList.map (·.1)).zip ((parts.toList.map (·.2)).map ρ) := by
  obtain ⟨l⟩ := parts
  simp
  induction l with
  | nil => rfl
  | cons p l ih => simp [ih]

theorem core_build (hT : TOk X) (ty : TypeId) (parts : Array (Nat × Operand)) {dst : Option Nat} {ins : List PV} {lk : Nat → Obj} {K : PV → Ob → List Nat → Prop} (hd : ∀ d', dst = some d' → d' < X.E.nt) (h : evCore X.E (.build ty parts) dst ins lk K) :
    ∃ v u t, K v u t ∧ CoreOk X (.build ty parts) dst ins lk v u t := by
  simp only [evCore] at h
  split at h
  · rename_i ti hti
    split at h
    · rename_i z cs u tc hk hz hp
      split at h
      · rename_i cells hfill
        have hok := hT ty ti hti
        obtain ⟨i, zv, hi, hzz, hsz, hby, hzs, hzl, hzr⟩ := zero_cells (X := X) hok hz
        have hu := hok.und
        rw [hk] at hu
        obtain ⟨fs, hu, ho, hss, hn, hg⟩ := hu
        refine ⟨_, _, _, h, fun o fr ob hop hdst hins ht => ?_⟩
        obtain ⟨f1, g1, l1, p1⟩ := partsD_ok (X := X) (ob := ob) ins hp ht
        have hins' : (parts.toList.map (·.2)).map (opV fr) = ins := by simpa [Op.operands] using hins
        refine OpOk.valueF f1 (by rw [hdst]; exact hd) fun pl a w hr hr' => ?_
        have hpl := places_ok X.P fs.toList hn
        have hplace : ∀ (f o n : Nat), ti.offs[f]? = some o → ti.szs[f]? = some n → (fs.toList.map fun f => (f.offset, X.P.cellsOf f.type)).toArray[f]? = some (o, n) := fun f o n h1 h2 => by
          rw [← ho, List.getElem?_map] at h1
          rw [← hss, List.getElem?_map] at h2
          cases hf : fs.toList[f]? with
          | none => rw [hf] at h1; cases h1
          | some fl =>
            rw [hf] at h1 h2; simp at h1 h2
            simp only [List.getElem?_toArray, List.getElem?_map, hf, Option.map_some, h1, h2]
        have hvals := partsVals hr parts hins'
        have hlen : ((parts.toList.map (·.2)).map a.eval).length = (parts.toList.map (·.1)).length := by simp
        have hlen2 : (parts.toList.map (·.1)).length = cs.length := by rw [l1, ← hins']; simp
        have hcs : ∀ (i : Nat) (c : List D), cs[i]? = some c → ∃ v : Value, ((parts.toList.map (·.2)).map a.eval)[i]? = some v ∧ v.cells.size = c.length ∧ ∀ (j : Nat) (x : D), c[j]? = some x → DRep w (Imm X pl (lkOf (u ++ ob)) w) (v.cells.getD j undef) x := by
          intro i c hc
          have hil : i < ins.length := by rw [← l1]; exact (List.getElem?_eq_some_iff.1 hc).1
          obtain ⟨v, hv, _⟩ := hvals i ins[i] (List.getElem?_eq_getElem hil)
          have := p1 u f1 (fun p hp => g1.look ob hp) pl w fr a hr hr' (fun k => ((parts.toList.map (·.2)).map a.eval).getD k undef) (fun k x hx => by
            obtain ⟨v', hv', hvr⟩ := hvals k x hx
            have : ((parts.toList.map (·.2)).map a.eval).getD k undef = v' := by rw [List.getD_eq_getElem?_getD, hv']; rfl
            rw [this]; exact hvr) i c hc
          have hgv : ((parts.toList.map (·.2)).map a.eval).getD i undef = v := by rw [List.getD_eq_getElem?_getD, hv]; rfl
          rw [hgv] at this
          exact ⟨v, hv, this.1, this.2⟩
        obtain ⟨r, hr1, hr2, hr3⟩ := fill_ok (w := w) (ok := Imm X pl (lkOf (u ++ ob)) w) hplace _ _ _ hfill ((parts.toList.map (·.2)).map a.eval) zv.cells hlen hlen2 hcs hzs (fun j x hx => hzr w _ j x hx)
        refine ⟨.agg r, ?_, .agg hr2 hr3, fun id hid => by simp [ids] at hid⟩
        have hb : X.P.built ty (parts.map fun (i, x) => (i, a.eval x)).toList = some r := by
          unfold Program.built
          rw [hi, hu]
          simp only [hzz, hpl, zip_parts]
          exact hr1
        unfold execOp; rw [hop]
        simp only [Sem.run_bind, run_build w ty _ r hb, Result.andThen_ok, Sem.run_pure]
      · exact h.elim
    · exact h.elim
  · exact h.elim

theorem allLen_ok : ∀ (cs : List (List D)) {n : Nat}, allLen n cs = true → ∀ c ∈ cs, c.length = n
  | [], n, h, c, hc => by cases hc
  | x :: cs, n, h, c, hc => by
    simp only [allLen] at h
    split at h
    · rename_i hb
      rcases List.mem_cons.1 hc with rfl | hc
      · exact Nat.eq_of_beq_eq_true hb
      · exact allLen_ok cs h c hc
    · cases h

theorem countUp_ok : ∀ (l : List Nat) {n : Nat}, countUp n l = true → ∀ (vs : List Value), vs.length = l.length → l.zip vs = (vs.zipIdx n).map fun x => (x.2, x.1)
  | [], n, h, vs, hl => by cases vs <;> simp at hl; rfl
  | m :: l, n, h, vs, hl => by
    simp only [countUp] at h
    split at h
    · rename_i hb
      obtain rfl := Nat.eq_of_beq_eq_true hb
      cases vs with
      | nil => simp at hl
      | cons v vs => simp only [List.zip_cons_cons, List.zipIdx_cons, List.map_cons]; rw [countUp_ok l h vs (by simpa using hl)]
    · cases h

theorem core_buildSlice (hT : TOk X) (ty : TypeId) (len : Nat) (parts : Array (Nat × Operand)) {dst : Option Nat} {ins : List PV} {lk : Nat → Obj} {K : PV → Ob → List Nat → Prop} (hd : ∀ d', dst = some d' → d' < X.E.nt) (h : evCore X.E (.buildSlice ty len parts) dst ins lk K) :
    ∃ v u t, K v u t ∧ CoreOk X (.buildSlice ty len parts) dst ins lk v u t := by
  simp only [evCore] at h
  split at h
  · rename_i ti d hti
    split at h
    · rename_i te hk hte
      split at h
      · rename_i hl
        split at h
        · rename_i rows u tc hp hcu hps
          split at h
          · rename_i hall
            simp only [Bool.and_eq_true] at hall
            obtain ⟨hall, hbig⟩ := hall
            have hbig := Nat.le_of_ble_eq_true hbig
            have hall := allLen_ok _ hall
            have hps := Nat.eq_of_beq_eq_true hps
            have hok := hT ty ti hti
            have hu : X.P.underlying ty = some (.slice ti.elem) := by have := hok.und; rw [hk] at this; exact this
            obtain ⟨ie, z, hi, hsz, hby, hz, hzs, hzl, hzr⟩ := (hT ti.elem te hte).info
            have hpos := (hT ti.elem te hte).pos
            obtain ⟨rowsN, hrowsN, h⟩ := h
            subst hrowsN
            refine ⟨_, _, _, h, fun o fr ob hop hdst hins ht pl a w hr K' Q hK => ?_⟩
            have hnone : lkOf ob d = .none := (ht d (by simp)).trans hl
            obtain ⟨f1, g1, l1, p1⟩ := partsD_ok (X := X) (ob := ob) ins hp (fun id hid => ht id (by simp [hid]))
            have hins' : (parts.toList.map (·.2)).map (opV fr) = ins := by simpa [Op.operands] using hins
            have hr' := hr.freeze f1
            have hvals := partsVals hr parts hins'
            have hvl : ((parts.toList.map (·.2)).map a.eval).length = len := by simp [hps]
            have hrl : rows.length = len := by rw [l1, ← hins']; simp [hps]
            generalize hvs : (parts.toList.map (·.2)).map a.eval = vs at *
            have hcd : ∀ (i : Nat) (c : List D), rows[i]? = some c → CellsD X pl u ob w (vs.getD i undef).cells c := fun i c hc =>
              p1 u f1 (fun p hp => g1.look ob hp) pl w fr a hr hr' (fun k => vs.getD k undef) (fun k x hx => by
                obtain ⟨v', hv', hvr⟩ := hvals k x hx
                have : vs.getD k undef = v' := by rw [List.getD_eq_getElem?_getD, hv']; rfl
                rw [this]; exact hvr) i c hc
            have hsize : ∀ v ∈ vs, v.cells.size = te.size := fun v hv => by
              obtain ⟨i, hi⟩ := List.mem_iff_getElem?.1 hv
              have hil : i < rows.length := by rw [hrl, ← hvl]; exact (List.getElem?_eq_some_iff.1 hi).1
              have := hcd i rows[i] (List.getElem?_eq_getElem hil)
              have hg : vs.getD i undef = v := by rw [List.getD_eq_getElem?_getD, hi]; rfl
              rw [hg] at this
              rw [this.1]; exact hall _ (List.getElem_mem hil)
            -- the machine's cells
            have hrun : (Instr.buildSlice ty len (parts.map fun (i, x) => (i, a.eval x))).run X.P w = .ok (.slice (some ⟨w.heap.size, 0, none⟩) len len) (w.alloc (.cells (vs.flatMap fun v => v.cells.toList).toArray ti.elem)) := by
              have hzip : (parts.map fun (i, x) => (i, a.eval x)).toList = (vs.zipIdx 0).map fun x => (x.2, x.1) := by
                rw [zip_parts, hvs]; exact countUp_ok _ hcu vs (by rw [hvl]; simp [hps])
              by_cases h0 : len = 0
              · subst h0
                have hv0 : vs = [] := List.eq_nil_of_length_eq_zero hvl
                subst hv0
                have hpl0 : parts.toList = [] := by
                  have : parts.toList.length = 0 := by simp [hps]
                  exact List.eq_nil_of_length_eq_zero this
                have hp0 : (parts.map fun (i, x) => (i, a.eval x)).toList = [] := by rw [zip_parts, hpl0]; rfl
                simp [Instr.buildSlice, run_underlying hu, sizeOf, typeInfo, hi, hp0, Instr.fill, newRow]
                rw [hpl0]
                have hr0 : (Array.range 0).map (fun _ => (default : Value)) = #[] := by simp
                rw [hr0]; rfl
              · have hp1 : ¬ len * ie.size = 0 := by rw [hsz]; exact Nat.mul_ne_zero h0 (by omega)
                refine run_buildSlice w ty ti.elem len _ _ ie z hu hi hz (by rw [hsz]; omega) hp1 ?_
                rw [hzip, hsz]
                exact Great.fill_whole hpos vs _ hsize (by simp [hvl])
            unfold Oper.wp
            have hex : (execOp a.eval o).run X.P w = .ok (.value (.slice (some ⟨w.heap.size, 0, none⟩) len len)) (w.alloc (.cells (vs.flatMap fun v => v.cells.toList).toArray ti.elem)) := by
              unfold execOp; rw [hop]
              simp only [Sem.run_bind, hrun, Result.andThen_ok, Sem.run_pure]
            rw [hex]
            have hfl : (vs.flatMap fun v => v.cells.toList).length = len * te.size := by
              have : ∀ (l : List Value), (∀ v ∈ l, v.cells.size = te.size) → (l.flatMap fun v => v.cells.toList).length = l.length * te.size := by
                intro l
                induction l with
                | nil => intro _; simp
                | cons v l ih =>
                  intro h
                  rw [List.flatMap_cons, List.length_append, ih fun v hv => h v (by simp [hv])]
                  simp [h v (by simp), Nat.add_mul, Nat.add_comm]
              rw [this vs hsize, hvl]
            refine hK (pl.setV d (.slice (some ⟨w.heap.size, 0, none⟩) len len)) _ _ ?_
            rw [hdst]
            refine hr'.putRow (u0 := []) (hd d rfl) ?_ (.inl rfl) rfl rfl rfl (by rw [alloc_size]; omega) (fun k hk _ => heap_alloc_old w _ k hk) (fun g hg => ?_) ⟨_, _, _, rfl⟩ (fun ok' him => ?_)
            · rcases f1 d with h1 | ⟨_, _, _, h1, _⟩
              · rw [h1]; exact hnone
              · rw [hnone] at h1; cases h1
            · simp [Value.ownBlock] at hg; subst hg; exact .inl ⟨Nat.le_refl _, by rw [alloc_size]; omega⟩
            · refine ⟨(vs.flatMap fun v => v.cells.toList), ?_, hall, fun i r hi' j x hj => ?_⟩
              · rw [hrl]
                have := World.ownsRow_lit (e := ti.elem) (size := te.size) (base := 0) w (vs.flatMap fun v => v.cells.toList).toArray len (Nat.zero_le _) (by simp only [maxLen]; have : len ≤ len * te.size := Nat.le_mul_of_pos_right _ hpos; omega) (by simpa using hfl)
                simpa using this
              · have hil : i < rows.length := (List.getElem?_eq_some_iff.1 hi').1
                have hrlen : r.length = te.size := hall r (List.mem_of_getElem? hi')
                have hjl : j < te.size := by rw [← hrlen]; exact (List.getElem?_eq_some_iff.1 hj).1
                have hc := (hcd i r hi').2 j x hj
                have hg : (vs.flatMap fun v => v.cells.toList).getD (i * te.size + j) undef = (vs.getD i undef).cells.getD j undef := by
                  rw [List.getD_eq_getElem?_getD, Great.flat_get hpos vs hsize]
                  have e1 : (i * te.size + j) / te.size = i := by rw [Nat.mul_comm, Nat.mul_add_div hpos, Nat.div_eq_of_lt hjl, Nat.add_zero]
                  have e2 : (i * te.size + j) % te.size = j := by rw [Nat.mul_comm, Nat.mul_add_mod, Nat.mod_eq_of_lt hjl]
                  rw [e1, e2]
                  have hil' : i < vs.length := by omega
                  simp [List.getD_eq_getElem?_getD, hil']
                rw [hg]
                exact hc.mono him
          · exact h.elim
        · exact h.elim
      · exact h.elim
    · exact h.elim
  · exact h.elim

end Go.Pv
