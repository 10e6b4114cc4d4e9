import Derived.Test.YtondofmlippbcaaPvU
set_option linter.unusedVariables false
set_option linter.unusedSimpArgs false
namespace Go.Pv
variable {X : Ctx} {pl : Pl} {fr : Fr} {ob : Ob} {a : Act} {w : World}

/-- A CONTRACT: called with these, the function returns that; it writes nothing that was there. -/
def FnOk (P : Program) (f : FuncId) (vs : List PV) (v : PV) : Prop :=
  (∃ fn c, P.funcs[f]? = some fn ∧ (fn.name == "runtime.NumGoroutine") = false ∧ fn.body = some c) ∧
  ∀ (w : World) (ok : Nat → Prop) (pl : Pl) (lk : Nat → Obj) (vals : Array Value), (∀ b, ok b → b < w.heap.size) → vals.size = vs.length → (∀ i x, vs[i]? = some x → PRep w ok pl lk (vals.getD i undef) x) →
    Calls P f vals w (fun e w' => ∃ val, e = .returned val ∧ (∀ pl' lk', PRep w' (fun b => ok b ∨ (w.heap.size ≤ b ∧ b < w'.heap.size)) pl' lk' val v) ∧ w'.os = w.os ∧ w'.tape = w.tape ∧ w'.output = w.output ∧ w.heap.size ≤ w'.heap.size ∧
      ∀ b, b < w.heap.size → w'.heap[b]? = w.heap[b]?)

/-- Operands of a call: own rows become still. -/
def argP (lk : Nat → Obj) : PV → Option (PV × Ob × List Nat)
  | .d x => some (.d x, [], [])
  | .nil => some (.d (.sl []), [], [])
  | .agg cs => some (.agg cs, [], [])
  | .err b => some (.err b, [], [])
  | .fn f [] [] => some (.fn f [] [], [], [])
  | .own id => match lk id with
    | .row _ sz rows => some (.d (.sl rows), [(id, .frz sz rows)], [id])
    | .frz _ rows => some (.d (.sl rows), [], [id])
    | _ => Option.none
  | _ => Option.none

def argsP (lk : Nat → Obj) : List PV → Option (List PV × Ob × List Nat)
  | [] => some ([], [], [])
  | x :: l => match argP lk x with
    | some (c, u, t) => match argsP lk l with
      | some (cs, u', t') => some (c :: cs, u ++ u', t ++ t')
      | Option.none => Option.none
    | Option.none => Option.none

theorem argP_ok {lk : Nat → Obj} {v v' : PV} {u : Ob} {t : List Nat} (h : argP lk v = some (v', u, t)) (hob : ∀ id ∈ t, lkOf ob id = lk id) :
    Frz ob u ∧ AllFrz u ∧ ids v' = [] ∧ ∀ U : Ob, Frz ob U → (∀ p ∈ u, ∃ sz rows, lkOf (U ++ ob) p.1 = .frz sz rows) → ∀ pl w fr a, Rel X pl fr ob a w → Rel X pl fr (U ++ ob) a w → ∀ val, PRep w (Imm X pl (lkOf ob) w) pl (lkOf ob) val v →
      PRep w (Imm X pl (lkOf (U ++ ob)) w) pl (lkOf (U ++ ob)) val v' := by
  have him : ∀ (U : Ob), Frz ob U → ∀ pl w, ∀ b, Imm X pl (lkOf ob) w b → Imm X pl (lkOf (U ++ ob)) w b ∧ w.heap[b]? = w.heap[b]? := fun U hU pl w b hb => ⟨hU.imm pl w b hb, rfl⟩
  unfold argP at h
  split at h
  · simp only [Option.some.injEq, Prod.mk.injEq] at h
    obtain ⟨rfl, rfl, rfl⟩ := h
    refine ⟨.nil _, .nil, rfl, fun U hU _ pl w fr a hr hr' val hp => ?_⟩
    cases hp with | d hp => exact .d (hp.mono (him U hU pl w))
  · simp only [Option.some.injEq, Prod.mk.injEq] at h
    obtain ⟨rfl, rfl, rfl⟩ := h
    refine ⟨.nil _, .nil, rfl, fun U hU _ pl w fr a hr hr' val hp => ?_⟩
    cases hp; exact .d .nil
  · simp only [Option.some.injEq, Prod.mk.injEq] at h
    obtain ⟨rfl, rfl, rfl⟩ := h
    refine ⟨.nil _, .nil, rfl, fun U hU _ pl w fr a hr hr' val hp => ?_⟩
    cases hp with | agg h1 h2 => exact .agg h1 fun i x hx => (h2 i x hx).mono (him U hU pl w)
  · simp only [Option.some.injEq, Prod.mk.injEq] at h
    obtain ⟨rfl, rfl, rfl⟩ := h
    refine ⟨.nil _, .nil, rfl, fun U hU _ pl w fr a hr hr' val hp => ?_⟩
    cases hp
    · exact .errN
    · exact .errS _ _
  · simp only [Option.some.injEq, Prod.mk.injEq] at h
    obtain ⟨rfl, rfl, rfl⟩ := h
    refine ⟨.nil _, .nil, rfl, fun U hU _ pl w fr a hr hr' val hp => ?_⟩
    cases hp
    exact .fn _ [] []
  · rename_i id
    split at h
    · rename_i e sz rows hl
      simp only [Option.some.injEq, Prod.mk.injEq] at h
      obtain ⟨rfl, rfl, rfl⟩ := h
      have hlo : lkOf ob id = .row e sz rows := (hob id (by simp)).trans hl
      refine ⟨Frz.cons (.nil _) hlo, fun p hp => by simp at hp; subst hp; exact ⟨_, _, rfl⟩, rfl, fun U hU hal pl w fr a hr hr' val hp => ?_⟩
      have hown : ∀ v0, PRep w (Imm X pl (lkOf ob) w) pl (lkOf ob) v0 (.own id) → v0 = pl.val id := fun v0 hv => by
        cases hv with | own hh => exact hh (by rw [hlo]; rfl)
      rw [hown _ hp]
      obtain ⟨sz2, rows2, h2⟩ := hal (id, .frz sz rows) (by simp)
      have h3 := hr'.ho id
      rw [h2] at h3
      have : rows2 = rows := by
        rcases hU id with h | ⟨e', s', r', h4, h5⟩
        · rw [h, hlo] at h2; cases h2
        · rw [hlo] at h4; cases h4; rw [h5] at h2; cases h2; rfl
      subst this
      exact .d h3.2.1
    · rename_i sz rows hl
      simp only [Option.some.injEq, Prod.mk.injEq] at h
      obtain ⟨rfl, rfl, rfl⟩ := h
      have hlo : lkOf ob id = .frz sz rows := (hob id (by simp)).trans hl
      refine ⟨.nil _, .nil, rfl, fun U hU hal pl w fr a hr hr' val hp => ?_⟩
      have hown : ∀ v0, PRep w (Imm X pl (lkOf ob) w) pl (lkOf ob) v0 (.own id) → v0 = pl.val id := fun v0 hv => by
        cases hv with | own hh => exact hh (by rw [hlo]; rfl)
      rw [hown _ hp]
      have h3 := hr.ho id
      rw [hlo] at h3
      exact .d (h3.2.1.mono (him U hU pl w))
    · cases h
  · cases h

theorem argsP_ok {lk : Nat → Obj} : ∀ (l : List PV) {l' : List PV} {u : Ob} {t : List Nat}, argsP lk l = some (l', u, t) → (∀ id ∈ t, lkOf ob id = lk id) →
    Frz ob u ∧ AllFrz u ∧ l'.length = l.length ∧ (∀ x ∈ l', ids x = []) ∧ ∀ U : Ob, Frz ob U → (∀ p ∈ u, ∃ sz rows, lkOf (U ++ ob) p.1 = .frz sz rows) → ∀ pl w fr a, Rel X pl fr ob a w → Rel X pl fr (U ++ ob) a w →
      ∀ (f : Nat → Value), (∀ i x, l[i]? = some x → PRep w (Imm X pl (lkOf ob) w) pl (lkOf ob) (f i) x) → ∀ i x, l'[i]? = some x → PRep w (Imm X pl (lkOf (U ++ ob)) w) pl (lkOf (U ++ ob)) (f i) x
  | [], l', u, t, h, _ => by
    simp only [argsP, Option.some.injEq, Prod.mk.injEq] at h
    obtain ⟨rfl, rfl, rfl⟩ := h
    exact ⟨.nil _, .nil, rfl, fun x hx => (by cases hx), fun U hU _ pl w fr a _ _ f _ i x hi => by simp at hi⟩
  | x :: l, l', u, t, h, hob => by
    simp only [argsP] at h
    split at h
    · rename_i c u1 t1 hc
      split at h
      · rename_i cs u2 t2 hcs
        simp only [Option.some.injEq, Prod.mk.injEq] at h
        obtain ⟨rfl, rfl, rfl⟩ := h
        obtain ⟨a1, a2, a3, a4⟩ := argP_ok (X := X) hc fun id hid => hob id (by simp [hid])
        obtain ⟨b1, b2, b3, b4, b5⟩ := argsP_ok l hcs fun id hid => hob id (by simp [hid])
        refine ⟨a1.append b1, a2.append b2, by simp [b3], fun y hy => ?_, fun U hU hal pl w fr a hr hr' f hf i y hi => ?_⟩
        · rcases List.mem_cons.1 hy with rfl | hy
          · exact a3
          · exact b4 y hy
        · cases i with
          | zero =>
            simp at hi; subst hi
            exact a4 U hU (fun p hp => hal p (by simp [hp])) pl w fr a hr hr' _ (hf 0 x rfl)
          | succ i => exact b5 U hU (fun p hp => hal p (by simp [hp])) pl w fr a hr hr' (fun i => f (i + 1)) (fun i x hx => hf (i + 1) x (by simpa using hx)) i y (by simpa using hi)
      · cases h
    · cases h

/-- A CALL, by a contract. -/
theorem CallG.pure {f : FuncId} {vs vs' : List PV} {dst : Option Nat} {lk : Nat → Obj} {K : PV → Ob → List Nat → Prop} {v : PV} {u : Ob} {t : List Nat} (hargs : argsP lk vs = some (vs', u, t)) (hf : FnOk X.P f vs' v) (hv : ids v = []) (hK : K v u t) : CallG X f vs dst lk K := by
  refine ⟨fun hX hd => ?_⟩
  refine ⟨v, u, t, hK, fun fr ob pl a w vals hr ht hsz hvals hids => ⟨hf.1, ?_⟩⟩
  obtain ⟨f1, g1, l1, n1, p1⟩ := argsP_ok (X := X) (ob := ob) vs hargs ht
  have hr' := hr.freeze f1
  refine Calls.mono (hf.2 w (Imm X pl (lkOf (u ++ ob)) w) pl (lkOf (u ++ ob)) vals (fun b hb => ?_) (by rw [l1]; exact hsz) (p1 u f1 (fun p hp => g1.look ob hp) pl w fr a hr hr' (fun i => vals.getD i undef) hvals)) fun e w' he => ?_
  · rcases hb with hb | ⟨_, hb, _⟩
    · have := hr.ok0 b hb; have := hr.keep.size; omega
    · exact hb
  · obtain ⟨val, rfl, hp, hos, htape, hout, hsize, hheap⟩ := he
    refine ⟨val, pl, rfl, ?_⟩
    have := Rel.next (u := []) (pl' := pl) (w' := w') (d := dst) (v := v) (val := val) hr' hos htape hout hsize (fun b hb _ => hheap b hb) (fun _ _ => rfl) (fun id _ hrow => ⟨hrow, rfl⟩) (fun id b hb => .inl ⟨id, hb⟩) hr'.inj (fun id hn => hn)
      (fun _ id => .inl ⟨rfl, fun b hb => hheap b (hr'.mw id b hb).2.2⟩)
      (fun him => (hp pl (lkOf ([] ++ (u ++ ob)))).mono (fun b hb => by
        refine ⟨?_, rfl⟩
        rcases hb with hb | ⟨h1, h2⟩
        · exact (him b hb).1
        · exact .inr ⟨.inl (by have := hr.keep.size; omega), h2, fun id hid => by have := (hr'.mw id b hid).2.2; omega⟩) (fun _ _ => rfl) (fun id hid => by rw [hv] at hid; cases hid))
      (fun id hid => by rw [hv] at hid; cases hid) (fun d' hd' => hd d' hd')
    exact this

/-- What a function hands back: no word of its own memory is left in it. -/
def finP (lk : Nat → Obj) : PV → Option PV
  | .d x => some (.d x)
  | .nil => some (.d (.sl []))
  | .agg cs => some (.agg cs)
  | .err b => some (.err b)
  | .unit => some .unit
  | .own id => match lk id with
    | .row _ _ rows => some (.d (.sl rows))
    | .frz _ rows => some (.d (.sl rows))
    | _ => Option.none
  | _ => Option.none

def finK (lk : Nat → Obj) (x : PV) (K : PV → Prop) : Prop := match finP lk x with | some v => K v | Option.none => False

def resV (X : Ctx) (fr : Fr) (ob : Ob) (r : ResultVar) (K : PV → Prop) : Prop :=
  match r with
  | .tmp t => finK (lkOf ob) (look .junk fr t) K
  | .cell a t => match look .junk fr a with
    | .ptr id off => match lkOf ob id, look Option.none X.E.T t with
      | .box cs, some ti => match ti.agg with
        | true => match cellsD (lkOf ob) ti.size (dropP off cs) with
          | some (ds, _, _) => K (.agg ds)
          | Option.none => False
        | false => match dropP off cs with
          | v :: _ => finK (lkOf ob) v K
          | [] => False
      | _, _ => False
    | _ => False

def resVs (X : Ctx) (fr : Fr) (ob : Ob) : List ResultVar → (List PV → Prop) → Prop
  | [], K => K []
  | r :: l, K => resV X fr ob r fun v => resVs X fr ob l fun vs => K (v :: vs)

def RetG (X : Ctx) (fr : Fr) (ob : Ob) (rs : List ResultVar) (K : PV → Prop) : Prop :=
  resVs X fr ob rs fun vs => match vs with | [] => K .unit | [v] => K v | vs => K (.tup vs)

def OkF (X : Ctx) (w : World) (b : Nat) : Prop := X.ok0 b ∨ (X.N ≤ b ∧ b < w.heap.size)

def OutHeld (X : Ctx) (ob : Ob) : Prop := ∀ id b, X.outPl id = some b → ∃ cs, lkOf ob id = .box cs

theorem Imm.okF (hout : OutHeld X ob) (hr : Rel X pl fr ob a w) {b : Nat} (h : Imm X pl (lkOf ob) w b) : OkF X w b := by
  rcases h with h | ⟨h1 | h1, h2, h3⟩
  · exact .inl h
  · exact .inr ⟨h1, h2⟩
  · obtain ⟨id, hid⟩ := h1
    obtain ⟨cs, hcs⟩ := hout id b hid
    exact absurd (by rw [hcs]; show some (pl.blk id) = some b; rw [hr.outb id b hid]) (h3 id)

theorem OutHeld.frz {u : Ob} (hout : OutHeld X ob) (hf : Frz ob u) : OutHeld X (u ++ ob) := fun id b hb => by
  obtain ⟨cs, hcs⟩ := hout id b hb
  rcases hf id with h | ⟨_, _, _, h, _⟩
  · exact ⟨cs, h.trans hcs⟩
  · rw [hcs] at h; cases h

theorem finP_ok (hout : OutHeld X ob) (hr : Rel X pl fr ob a w) {x v : PV} {val : Value} (h : finP (lkOf ob) x = some v) (hp : PRep w (Imm X pl (lkOf ob) w) pl (lkOf ob) val x) : ids v = [] ∧ ∀ pl' lk', PRep w (OkF X w) pl' lk' val v := by
  have him : ∀ b, Imm X pl (lkOf ob) w b → OkF X w b ∧ w.heap[b]? = w.heap[b]? := fun b hb => ⟨hb.okF hout hr, rfl⟩
  unfold finP at h
  split at h
  · cases h; cases hp with | d hp => exact ⟨rfl, fun _ _ => .d (hp.mono him)⟩
  · cases h; cases hp; exact ⟨rfl, fun _ _ => .d .nil⟩
  · cases h; cases hp with | agg h1 h2 => exact ⟨rfl, fun _ _ => .agg h1 fun i x hx => (h2 i x hx).mono him⟩
  · cases h
    cases hp
    · exact ⟨rfl, fun _ _ => .errN⟩
    · exact ⟨rfl, fun _ _ => .errS _ _⟩
  · cases h; cases hp; exact ⟨rfl, fun _ _ => .unit⟩
  · rename_i id
    have hown : ∀ v0, (lkOf ob id).isRow = true → PRep w (Imm X pl (lkOf ob) w) pl (lkOf ob) v0 (.own id) → v0 = pl.val id := fun v0 hh hv => by
      cases hv with | own h => exact h hh
    split at h
    · rename_i e sz rows hl
      cases h
      have hh := hr.ho id
      rw [hl] at hh
      refine ⟨rfl, fun _ _ => .d ?_⟩
      rw [hown val (by rw [hl]; rfl) hp]
      exact row_slice hh _ (fun b hb => hb.okF hout hr) fun b hb => by
        have := hr.mw id b (by rw [hl]; exact hb)
        rcases this.1 with h1 | h1
        · exact .inr ⟨h1, this.2.2⟩
        · obtain ⟨id0, hid0⟩ := h1
          obtain ⟨cs, hcs⟩ := hout id0 b hid0
          have h2 : mb pl id0 (lkOf ob id0) = some b := by rw [hcs]; show some (pl.blk id0) = some b; rw [hr.outb id0 b hid0]
          have h3 := hr.inj id id0 b (by rw [hl]; exact hb) h2
          subst h3
          rw [hl] at hcs; cases hcs
    · rename_i sz rows hl
      cases h
      have hh := hr.ho id
      rw [hl] at hh
      refine ⟨rfl, fun _ _ => .d ?_⟩
      rw [hown val (by rw [hl]; rfl) hp]
      exact hh.2.1.mono him
    · cases h
  · cases h

def resM (tmps : Array Value) (r : ResultVar) : Sem Value :=
  match r with
  | .tmp t => Pure.pure (tmps.getD t Go.undef)
  | .cell b t => do loadVar t (← asAddr (tmps.getD b Go.undef))

theorem resV_ok (hX : Fine X) (hout : OutHeld X ob) (hr : Rel X pl fr ob a w) {r : ResultVar} {K : PV → Prop} (h : resV X fr ob r K) :
    ∃ v val, K v ∧ ids v = [] ∧ (∀ pl' lk', PRep w (OkF X w) pl' lk' val v) ∧ (resM a.tmps r).run X.P w = .ok val w := by
  cases r with
  | tmp t =>
    simp only [resV, finK] at h
    split at h
    · rename_i v hv
      obtain ⟨h1, h2⟩ := finP_ok hout hr hv (hr.sv t)
      exact ⟨v, _, h, h1, h2, rfl⟩
    · exact h.elim
  | cell b t =>
    simp only [resV] at h
    split at h
    · rename_i id off hptr
      split at h
      · rename_i cs ti hl hti
        have hp := hr.sv b
        rw [hptr] at hp
        have hv : a.tmps.getD b undef = .pointer (some ⟨pl.blk id, off, none⟩) := by
          generalize a.tmps.getD b undef = v at hp
          cases hp; rfl
        have h0 := hr.ho id
        rw [hl] at h0
        obtain ⟨c, e, hc, hcs, hci⟩ := h0
        split at h
        · rename_i hg
          split at h
          · rename_i ds u tc hcd
            obtain ⟨f1, g1, l1, l2, p1⟩ := cellsD_ok (X := X) (ob := ob) ti.size (dropP off cs) hcd (fun i hi => rfl)
            have hr' := hr.freeze f1
            have hcell : ∀ j, j < ti.size → w.cell? ((⟨pl.blk id, off, none⟩ : Addr).add j) = some (c.getD (off + j) undef) := fun j hj => by
              have hlt : off + j < cs.length := by
                have h2 : (dropP off cs)[j]? ≠ none := by
                  rw [List.getElem?_eq_getElem (by omega)]; simp
                rw [dropP_get] at h2
                by_cases h3 : off + j < cs.length
                · exact h3
                · exact absurd (List.getElem?_eq_none (by omega)) h2
              rw [add_off, cell_of_row w _ _ c e _ hc]; simp [show off + j < c.size by omega]
            have hrun := run_load hX.tok hti _ (fun j => c.getD (off + j) undef) hcell (.inr trivial)
            rw [hg, if_pos rfl] at hrun
            refine ⟨_, _, h, rfl, fun pl' lk' => ?_, by simp only [resM, Sem.run_bind, hv, asAddr, Sem.run_pure, Result.andThen_ok]; exact hrun⟩
            refine .agg (by simp [l1]) fun i y hy => ?_
            have hi : i < ti.size := by rw [← l1]; exact (List.getElem?_eq_some_iff.1 hy).1
            rw [range_getD _ _ _ hi]
            refine (p1 u f1 (fun p hp => g1.look ob hp) pl w fr a hr hr' (fun j => c.getD (off + j) undef) (fun j z hz => ?_) i y hy).mono fun b hb => ⟨hb.okF (hout.frz f1) hr', rfl⟩
            rw [dropP_get] at hz
            exact hci (off + j) z hz
          · exact h.elim
        · rename_i hg
          split at h
          · rename_i v0 r hdp
            simp only [finK] at h
            split at h
            · rename_i v hv1
              have hv0 : cs[off]? = some v0 := by have := dropP_get off cs 0; rw [hdp] at this; simpa using this.symm
              have hlt : off < cs.length := (List.getElem?_eq_some_iff.1 hv0).1
              obtain ⟨h1, h2⟩ := finP_ok hout hr hv1 (hci off v0 hv0).1
              have hsz : ti.size = 1 := (hX.tok t ti hti).one fun hk => by simp [TI.agg, hk] at hg
              have hrun := run_load hX.tok hti ⟨pl.blk id, off, none⟩ (fun j => c.getD (off + j) undef) (w := w) (fun j hj => by
                have hj0 : j = 0 := by omega
                subst hj0
                rw [add_off, cell_of_row w _ _ c e _ hc]; simp [show off < c.size by omega]) (.inr trivial)
              rw [hg, if_neg (by simp)] at hrun
              exact ⟨v, _, h, h1, h2, by simp only [resM, Sem.run_bind, hv, asAddr, Sem.run_pure, Result.andThen_ok]; exact hrun⟩
            · exact h.elim
          · exact h.elim
      · exact h.elim
    · exact h.elim

theorem resVs_ok (hX : Fine X) (hout : OutHeld X ob) (hr : Rel X pl fr ob a w) : ∀ (rs : List ResultVar) {K : List PV → Prop}, resVs X fr ob rs K →
    ∃ (vs : List PV) (vals : List Value), K vs ∧ vals.length = vs.length ∧ vs.length = rs.length ∧ (∀ v ∈ vs, ids v = []) ∧ (∀ (i : Nat) (v : PV), vs[i]? = some v → ∃ val, vals[i]? = some val ∧ ∀ pl' lk', PRep w (OkF X w) pl' lk' val v) ∧
      (rs.mapM (resM a.tmps)).run X.P w = .ok vals w
  | [], K, h => ⟨[], [], h, rfl, rfl, fun v hv => (by cases hv), fun i v hi => (by simp at hi), rfl⟩
  | r :: rs, K, h => by
    simp only [resVs] at h
    obtain ⟨v, val, h1, h2, h3, h4⟩ := resV_ok hX hout hr h
    obtain ⟨vs, vals, g1, g2, g3, g4, g5, g6⟩ := resVs_ok hX hout hr rs h1
    refine ⟨v :: vs, val :: vals, g1, by simp [g2], by simp [g3], fun x hx => ?_, fun i x hi => ?_, ?_⟩
    · rcases List.mem_cons.1 hx with rfl | hx
      · exact h2
      · exact g4 x hx
    · cases i with
      | zero => simp at hi; subst hi; exact ⟨val, rfl, h3⟩
      | succ i => simpa using g5 i x (by simpa using hi)
    · simp only [List.mapM_cons, Sem.run_bind, h4, Result.andThen_ok, g6, Sem.run_pure]

def argF : Nat → List PV → Fr
  | _, [] => []
  | n, v :: r => (n, v) :: argF (n + 1) r

theorem look_argF : ∀ (l : List PV) (n k : Nat), look .junk (argF n l) k = if n ≤ k then l.getD (k - n) .junk else .junk
  | [], n, k => by simp [argF, look]
  | v :: r, n, k => by
    simp only [argF, look_cons, look_argF r]
    by_cases h : n = k
    · subst h; simp
    · rw [if_neg h]
      by_cases h2 : n ≤ k
      · rw [if_pos h2, if_pos (by omega)]
        have : k - n = (k - (n + 1)) + 1 := by omega
        rw [this]; simp
      · rw [if_neg h2, if_neg (by omega)]

def TokE (P : Program) (T : List (Nat × Option TI)) : Prop := ∀ t ti, look none T t = some ti → TIok P t ti

/-- What a body has to do. -/
def Ret (X : Ctx) (rs : List ResultVar) (v : PV) : QP := fun e fr ob => match e with
  | .normal => RetG X fr ob rs (· = v)
  | .ret => RetG X fr ob rs (· = v)
  | _ => False

def idFree : List PV → Bool
  | [] => true
  | v :: r => match ids v with | [] => idFree r | _ => false

theorem idFree_ok : ∀ (l : List PV), idFree l = true → ∀ v ∈ l, ids v = []
  | [], _, v, hv => by cases hv
  | x :: l, h, v, hv => by
    simp only [idFree] at h
    split at h
    · rename_i hx
      rcases List.mem_cons.1 hv with rfl | hv
      · exact hx
      · exact idFree_ok l h v hv
    · cases h

/-- A CONTRACT, by the pure weakest precondition of the body. -/
theorem FnOk.intro {P : Program} {f : FuncId} {fn : Func} {c : Code} {T : List (Nat × Option TI)} {vs : List PV} {v : PV} (hf : P.funcs[f]? = some fn) (hname : (fn.name == "runtime.NumGoroutine") = false) (hb : fn.body = some c) (hfol : P.follows .mixedOrders = true) (hT : TokE P T)
    (hc : codeOk fn.ntmps c = true) (hn : vs.length ≤ fn.ntmps) (hids : idFree vs = true) (hv : ids v = [])
    (h : ∀ N ok W0, WpG ⟨P, ⟨T, fn.ntmps⟩, N, ok, fun _ => none, W0⟩ c (argF 0 vs) [] (Ret ⟨P, ⟨T, fn.ntmps⟩, N, ok, fun _ => none, W0⟩ fn.results.toList v)) : FnOk P f vs v := by
  refine ⟨⟨fn, c, hf, hname, hb⟩, fun w ok pl lk vals hok hsz hvals => ?_⟩
  have hids' := idFree_ok vs hids
  have hX : Fine ⟨P, ⟨T, fn.ntmps⟩, w.heap.size, ok, fun _ => none, w⟩ := ⟨hT, hfol⟩
  generalize hXX : (⟨P, ⟨T, fn.ntmps⟩, w.heap.size, ok, fun _ => none, w⟩ : Ctx) = X at hX
  have h := h w.heap.size ok w
  rw [hXX] at h
  have hXP : X.P = P := by rw [← hXX]
  have hXE : X.E = ⟨T, fn.ntmps⟩ := by rw [← hXX]
  have hXN : X.N = w.heap.size := by rw [← hXX]
  have hXok : X.ok0 = ok := by rw [← hXX]
  have hXout : ∀ ob, OutHeld X ob := fun ob => by rw [← hXX]; intro id b h; cases h
  have hXout' : ∀ b, ¬ X.out b := by rw [← hXX]; rintro b ⟨id, h⟩; cases h
  have hXW : X.W0 = w := by rw [← hXX]
  have hlk : ∀ n id, id ∈ ids (look .junk (argF 0 vs) n) → False := fun n id hid => by
    rw [look_argF] at hid
    simp only [Nat.zero_le, if_true, Nat.sub_zero] at hid
    cases hv : vs[n]? with
    | none => rw [List.getD_eq_getElem?_getD, hv] at hid; simp [ids] at hid
    | some x =>
      rw [List.getD_eq_getElem?_getD, hv] at hid
      simp only [Option.getD_some] at hid
      rw [hids' x (List.mem_of_getElem? hv)] at hid
      cases hid
  have hrel : Rel X pl (argF 0 vs) [] { tmps := vals ++ Array.replicate (fn.ntmps - vals.size) undef, defers := [] } w := by
    refine ⟨?_, rfl, fun n => ?_, fun n id hid => (hlk n id hid).elim, fun id cs h => by simp [lkOf, look] at h, fun id => trivial, fun id id' b h => by simp [lkOf, look, mb] at h, fun id b h => by simp [lkOf, look, mb] at h, ?_, ?_, fun id b h => (by rw [← hXX] at h; cases h), fun id b h => (by rw [← hXX] at h; cases h)⟩
    · rw [hXE]; simp; omega
    · rw [look_argF]
      simp only [Nat.zero_le, if_true, Nat.sub_zero]
      cases hv : vs[n]? with
      | none => rw [List.getD_eq_getElem?_getD, hv]; exact .junk _
      | some x =>
        rw [List.getD_eq_getElem?_getD, hv]
        simp only [Option.getD_some]
        have hlt : n < vals.size := by rw [hsz]; exact (List.getElem?_eq_some_iff.1 hv).1
        have hg : (vals ++ Array.replicate (fn.ntmps - vals.size) undef).getD n undef = vals.getD n undef := by
          simp [Array.getElem?_append, hlt]
        rw [hg]
        exact (hvals n x hv).mono (fun b hb => ⟨.inl (by rw [hXok]; exact hb), rfl⟩) (fun _ _ => rfl) (fun id hid => by rw [hids' x (List.mem_of_getElem? hv)] at hid; cases hid)
    · exact ⟨by rw [hXW], by rw [hXW], by rw [hXW], by rw [hXN]; exact Nat.le_refl _, fun b _ _ => by rw [hXW]⟩
    · rw [hXok, hXN]; exact hok
  have hwp := h hX (by rw [hXE]; exact hc) pl _ w hrel
  rw [hXP] at hwp
  refine calls_of_wp hf hb (wp_mono hwp fun e a w' hp => ?_)
  obtain ⟨pl', fr', ob', hr, hq⟩ := hp
  -- what is handed back
  have done : RetG X fr' ob' fn.results.toList (· = v) → a.defers = [] ∧ ∃ val, (results fn a.tmps).run P w' = .ok val w' ∧ (∃ val', Ending.returned val = .returned val' ∧ (∀ pl' lk', PRep w' (fun b => ok b ∨ (w.heap.size ≤ b ∧ b < w'.heap.size)) pl' lk' val' v) ∧ w'.os = w.os ∧ w'.tape = w.tape ∧ w'.output = w.output ∧ w.heap.size ≤ w'.heap.size ∧
      ∀ b, b < w.heap.size → w'.heap[b]? = w.heap[b]?) := by
    intro hret
    refine ⟨hr.df, ?_⟩
    obtain ⟨vs2, vals2, g1, g2, g3, g4, g5, g6⟩ := resVs_ok hX (hXout _) hr _ hret
    have hk := hr.keep
    have hokf : OkF X w' = fun b => ok b ∨ (w.heap.size ≤ b ∧ b < w'.heap.size) := by
      funext b; unfold OkF; rw [hXok, hXN]
    have hkeep : w'.os = w.os ∧ w'.tape = w.tape ∧ w'.output = w.output ∧ w.heap.size ≤ w'.heap.size ∧ ∀ b, b < w.heap.size → w'.heap[b]? = w.heap[b]? :=
      ⟨by rw [hk.os, hXW], by rw [hk.tape, hXW], by rw [hk.output, hXW], by rw [← hXN]; exact hk.size, fun b hb => by rw [hk.blocks b (by rw [hXN]; exact hb) (hXout' b), hXW]⟩
    have hres : (results fn a.tmps).run P w' = .ok (if h : vals2.toArray.size = 1 then vals2.toArray[0] else .tuple vals2.toArray) w' := by
      have hm : (fn.results.mapM (resM a.tmps)).run P w' = .ok vals2.toArray w' := by
        rw [Array.mapM_eq_mapM_toList, Sem.run_map]
        rw [hXP] at g6
        rw [g6]; rfl
      have heq : results fn a.tmps = (do let vs ← fn.results.mapM (resM a.tmps); pure (if h : vs.size = 1 then vs[0] else .tuple vs)) := by
        unfold results
        have hfun : resM a.tmps = (fun x : ResultVar => match x with
          | .tmp t => (Pure.pure (a.tmps.getD t Go.undef) : Sem Value)
          | .cell b t => do loadVar t (← asAddr (a.tmps.getD b Go.undef))) := by funext r; cases r <;> rfl
        rw [hfun]
        rfl
      rw [heq, Sem.run_bind, hm]
      simp only [Result.andThen_ok, Sem.run_pure]
    refine ⟨_, hres, _, rfl, fun pl'' lk'' => ?_, hkeep⟩
    rw [← hokf]
    -- none, one, many
    match vs2, vals2, g1, g2, g5 with
    | [], [], g1, _, _ => subst g1; exact .unit
    | [x], [val], g1, _, g5 =>
      subst g1
      obtain ⟨val', q1, q2⟩ := g5 0 _ rfl
      simp at q1; subst q1
      exact q2 _ _
    | x :: y :: r, v0 :: v1 :: rv, g1, gl, g5 =>
      subst g1
      refine .tup (by simpa using gl) fun i p hp => ?_
      obtain ⟨val', q1, q2⟩ := g5 i p hp
      have : ((v0 :: v1 :: rv).toArray).getD i undef = val' := by simp [q1]
      rw [this]; exact q2 _ _
    | [], _ :: _, _, gl, _ => simp at gl
    | [_], [], _, gl, _ => simp at gl
    | [_], _ :: _ :: _, _, gl, _ => simp at gl
    | _ :: _ :: _, [], _, gl, _ => simp at gl
    | _ :: _ :: _, [_], _, gl, _ => simp at gl
  cases e with
  | normal => exact done hq
  | ret => exact done hq
  | _ => exact hq.elim

end Go.Pv
