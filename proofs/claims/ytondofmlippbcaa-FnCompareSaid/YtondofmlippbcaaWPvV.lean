import Derived.Test.YtondofmlippbcaaWPvU
set_option linter.unusedVariables false
set_option linter.unusedSimpArgs false
namespace Go.Pv
variable {X : Ctx} {pl : Pl} {fr : Fr} {ob : Ob} {a : Act} {w : World}

/-- A CONTRACT: called with these values and objects the function returns that, and leaves those objects; it writes nothing else that was there. -/
def FnG (P : Program) (f : FuncId) (vs : List PV) (O : Ob) (v : PV) (O' : Ob) : Prop :=
  (∃ fn c, P.funcs[f]? = some fn ∧ (fn.name == "runtime.NumGoroutine") = false ∧ fn.body = some c) ∧
  ∀ (w : World) (ok : Nat → Prop) (pl : Pl) (vals : Array Value), (∀ b, ok b → b < w.heap.size) → vals.size = vs.length → (∀ i x, vs[i]? = some x → PRep w ok pl (lkOf O) (vals.getD i undef) x) →
    (∀ id, Hold w ok pl (lkOf O) id (lkOf O id)) → (∀ id id' b, mb pl id (lkOf O id) = some b → mb pl id' (lkOf O id') = some b → id = id') → (∀ id b, mb pl id (lkOf O id) = some b → ¬ ok b ∧ b < w.heap.size) →
    Calls P f vals w (fun e w' => ∃ val pl', e = .returned val ∧ (∀ id, base ≤ id → pl'.blk id = pl.blk id ∧ pl'.val id = pl.val id) ∧
      ∃ ok' : Nat → Prop, (∀ b, ok' b ↔ ok b ∨ ((w.heap.size ≤ b ∨ ∃ id, mb pl id (lkOf O id) = some b) ∧ b < w'.heap.size ∧ ∀ id, mb pl' id (lkOf O' id) ≠ some b)) ∧
      PRep w' ok' pl' (lkOf O') val v ∧ (∀ id, Hold w' ok' pl' (lkOf O') id (lkOf O' id)) ∧
      (∀ id id' b, mb pl' id (lkOf O' id) = some b → mb pl' id' (lkOf O' id') = some b → id = id') ∧
      (∀ id b, mb pl' id (lkOf O' id) = some b → ¬ ok b ∧ b < w'.heap.size ∧ (w.heap.size ≤ b ∨ ∃ id0, mb pl id0 (lkOf O id0) = some b)) ∧
      (∀ id ∈ ids v, lkOf O' id ≠ .none) ∧ (∀ id cs, lkOf O' id = .box cs → ∀ x ∈ cs, ∀ id' ∈ ids x, lkOf O' id' ≠ .none) ∧
      w'.os = w.os ∧ w'.tape = w.tape ∧ w'.output = w.output ∧ w.heap.size ≤ w'.heap.size ∧
      ∀ b, b < w.heap.size → (∀ id, mb pl id (lkOf O id) ≠ some b) → w'.heap[b]? = w.heap[b]?)

/-- A contract of a function of data alone. -/
abbrev FnOk (P : Program) (f : FuncId) (vs : List PV) (v : PV) : Prop := FnG P f vs [] v []

theorem has_false {x : Nat} {l : List Nat} (h : has x l = false) : x ∉ l := fun hm => by rw [(has_iff x l).2 hm] at h; cases h

def allHas (ks : List Nat) : List Nat → Bool
  | [] => true
  | x :: l => match has x ks with | true => allHas ks l | false => false

theorem allHas_ok {ks : List Nat} : ∀ (l : List Nat), allHas ks l = true → ∀ x ∈ l, x ∈ ks
  | [], _, x, h => by cases h
  | y :: l, h, x, hx => by
    simp only [allHas] at h
    split at h
    · rename_i hy
      rcases List.mem_cons.1 hx with rfl | hx
      · exact (has_iff _ _).1 hy
      · exact allHas_ok l h x hx
    · cases h

/-- A value as it is handed on: rows that are not kept are data from now on. -/
def convV (ks : List Nat) (lk : Nat → Obj) : PV → Option PV
  | .d x => some (.d x)
  | .nil => some (.d (.sl []))
  | .agg cs => some (.agg cs)
  | .err b => some (.err b)
  | .unit => some .unit
  | .own id => match has id ks with
    | true => some (.own id)
    | false => match lk id with
      | .row _ _ rows => some (.d (.sl rows))
      | .frz _ rows => some (.d (.sl rows))
      | _ => Option.none
  | .ptr id off => match has id ks with | true => some (.ptr id off) | false => Option.none
  | .fn f a b => match allHas ks a, allHas ks b with | true, true => some (.fn f a b) | _, _ => Option.none
  | _ => Option.none

def convL (ks : List Nat) (lk : Nat → Obj) : List PV → Option (List PV)
  | [] => some []
  | x :: l => match convV ks lk x, convL ks lk l with | some y, some r => some (y :: r) | _, _ => Option.none

def convO (ks : List Nat) (lk : Nat → Obj) : List Nat → Option Ob
  | [] => some []
  | k :: r => match lk k with
    | .box cs => match convL ks lk cs, convO ks lk r with | some cs, some O => some ((k, .box cs) :: O) | _, _ => Option.none
    | .row e sz rows => match convO ks lk r with | some O => some ((k, .row e sz rows) :: O) | _ => Option.none
    | .frz sz rows => match convO ks lk r with | some O => some ((k, .frz sz rows) :: O) | _ => Option.none
    | .gone => match convO ks lk r with | some O => some ((k, .gone) :: O) | _ => Option.none
    | .none => Option.none

theorem convL_ok {ks : List Nat} {lk : Nat → Obj} : ∀ {l l' : List PV}, convL ks lk l = some l' → l'.length = l.length ∧ ∀ (i : Nat) (y : PV), l'[i]? = some y → ∃ x, l[i]? = some x ∧ convV ks lk x = some y
  | [], l', h => by simp [convL] at h; subst h; exact ⟨rfl, fun i y hi => by simp at hi⟩
  | x :: l, l', h => by
    simp only [convL] at h
    split at h
    · rename_i y r h1 h2
      cases h
      obtain ⟨g1, g2⟩ := convL_ok h2
      refine ⟨by simp [g1], fun i z hi => ?_⟩
      cases i with
      | zero => simp at hi; subst hi; exact ⟨x, rfl, h1⟩
      | succ i => simpa using g2 i z (by simpa using hi)
    · cases h

/-- What an object becomes. -/
def ConvObj (ks : List Nat) (lk : Nat → Obj) (o o' : Obj) : Prop := (∃ cs cs', o = .box cs ∧ o' = .box cs' ∧ convL ks lk cs = some cs') ∨ (o' = o ∧ o ≠ .none ∧ ∀ cs, o ≠ .box cs)

theorem convO_ok {ks : List Nat} {lk : Nat → Obj} : ∀ {l : List Nat} {O : Ob}, convO ks lk l = some O → keys O = l ∧ ∀ id, (id ∈ l ∧ ConvObj ks lk (lk id) (lkOf O id)) ∨ (id ∉ l ∧ lkOf O id = .none)
  | [], O, h => by simp [convO] at h; subst h; exact ⟨rfl, fun id => .inr ⟨by simp, rfl⟩⟩
  | k :: r, O, h => by
    have step : ∀ (o' : Obj) (O1 : Ob), convO ks lk r = some O1 → ConvObj ks lk (lk k) o' → keys ((k, o') :: O1) = k :: r ∧ ∀ id, (id ∈ k :: r ∧ ConvObj ks lk (lk id) (lkOf ((k, o') :: O1) id)) ∨ (id ∉ k :: r ∧ lkOf ((k, o') :: O1) id = .none) := by
      intro o' O1 h1 h2
      obtain ⟨g1, g2⟩ := convO_ok h1
      refine ⟨by simp [keys, g1], fun id => ?_⟩
      simp only [lkOf, look_cons]
      by_cases hk : k = id
      · subst hk; rw [if_pos rfl]; exact .inl ⟨by simp, h2⟩
      · rw [if_neg hk]
        rcases g2 id with ⟨q1, q2⟩ | ⟨q1, q2⟩
        · exact .inl ⟨by simp [q1], q2⟩
        · exact .inr ⟨by simp [q1]; exact fun h => hk h.symm, q2⟩
    simp only [convO] at h
    split at h
    · rename_i cs hcs
      split at h
      · rename_i cs' O1 h1 h2
        cases h
        exact step _ _ h2 (.inl ⟨cs, cs', hcs, rfl, h1⟩)
      · cases h
    · rename_i e sz rows hl
      split at h
      · rename_i O1 h1; cases h; exact step _ _ h1 (.inr ⟨hl.symm, (by rw [hl]; intro h; cases h), (fun cs => by rw [hl]; intro h; cases h)⟩)
      · cases h
    · rename_i sz rows hl
      split at h
      · rename_i O1 h1; cases h; exact step _ _ h1 (.inr ⟨hl.symm, (by rw [hl]; intro h; cases h), (fun cs => by rw [hl]; intro h; cases h)⟩)
      · cases h
    · rename_i hl
      split at h
      · rename_i O1 h1; cases h; exact step _ _ h1 (.inr ⟨hl.symm, (by rw [hl]; intro h; cases h), (fun cs => by rw [hl]; intro h; cases h)⟩)
      · cases h
    · cases h

/-- All that is told of memory at an end. -/
structure Ends (X : Ctx) (pl : Pl) (ob O' : Ob) (w : World) : Prop where
  mbo : ∀ id b, mb pl id (lkOf O' id) = some b → mb pl id (lkOf ob id) = some b
  imm : ∀ b, Imm X pl (lkOf ob) w b → Imm X pl (lkOf O') w b
  row : ∀ id, (lkOf O' id).isRow = true → (lkOf ob id).isRow = true

theorem convO_ends {ks : List Nat} {O' : Ob} (h : convO ks (lkOf ob) ks = some O') (pl : Pl) (w : World) : Ends X pl ob O' w := by
  obtain ⟨h1, h2⟩ := convO_ok h
  have hmb : ∀ id b, mb pl id (lkOf O' id) = some b → mb pl id (lkOf ob id) = some b := fun id b hb => by
    rcases h2 id with ⟨_, ⟨cs, cs', q1, q2, _⟩ | ⟨q, _⟩⟩ | ⟨_, q⟩
    · rw [q2] at hb; rw [q1]; exact hb
    · rw [q] at hb; exact hb
    · rw [q] at hb; cases hb
  refine ⟨hmb, fun b hb => ?_, fun id hr => ?_⟩
  · rcases hb with hb | ⟨g1, g2, g3⟩
    · exact .inl hb
    · exact .inr ⟨g1, g2, fun id hid => g3 id (hmb id b hid)⟩
  · rcases h2 id with ⟨_, ⟨cs, cs', q1, q2, _⟩ | ⟨q, _⟩⟩ | ⟨_, q⟩
    · rw [q2] at hr; cases hr
    · rw [q] at hr; exact hr
    · rw [q] at hr; cases hr

theorem convV_ok {ks : List Nat} {O' : Ob} (hO : convO ks (lkOf ob) ks = some O') (hr : Rel X pl fr ob a w) {x y : PV} (h : convV ks (lkOf ob) x = some y) {val : Value} (hp : PRep w (Imm X pl (lkOf ob) w) pl (lkOf ob) val x) :
    PRep w (Imm X pl (lkOf O') w) pl (lkOf O') val y ∧ (∀ id ∈ ids y, lkOf O' id ≠ .none) ∧ (cellB x = true → cellB y = true) := by
  have he := convO_ends (X := X) hO pl w
  obtain ⟨h1, h2⟩ := convO_ok hO
  have him : ∀ b, Imm X pl (lkOf ob) w b → Imm X pl (lkOf O') w b ∧ w.heap[b]? = w.heap[b]? := fun b hb => ⟨he.imm b hb, rfl⟩
  have hmem : ∀ id ∈ ks, lkOf O' id ≠ .none := fun id hid => by
    rcases h2 id with ⟨_, ⟨cs, cs', q1, q2, _⟩ | ⟨q, q1, _⟩⟩ | ⟨q, _⟩
    · rw [q2]; exact fun h => by cases h
    · rw [q]; exact q1
    · exact absurd hid q
  have keep : ∀ {z : PV}, z = x → (∀ id ∈ ids z, id ∈ ks) → PRep w (Imm X pl (lkOf O') w) pl (lkOf O') val z ∧ (∀ id ∈ ids z, lkOf O' id ≠ .none) := by
    rintro z rfl hids
    exact ⟨hp.mono him (fun _ _ => rfl) (fun id _ hrw => ⟨he.row id hrw, rfl⟩), fun id hid => hmem id (hids id hid)⟩
  cases x with
  | d x => simp [convV] at h; subst h; exact ⟨(keep rfl (fun id hid => by simp [ids] at hid)).1, fun id hid => by simp [ids] at hid, fun h => h⟩
  | nil => simp [convV] at h; subst h; cases hp; exact ⟨.d .nil, fun id hid => by simp [ids] at hid, fun _ => rfl⟩
  | agg cs => simp [convV] at h; subst h; exact ⟨(keep rfl (fun id hid => by simp [ids] at hid)).1, fun id hid => by simp [ids] at hid, fun h => h⟩
  | err b => simp [convV] at h; subst h; exact ⟨(keep rfl (fun id hid => by simp [ids] at hid)).1, fun id hid => by simp [ids] at hid, fun h => h⟩
  | unit => simp [convV] at h; subst h; exact ⟨(keep rfl (fun id hid => by simp [ids] at hid)).1, fun id hid => by simp [ids] at hid, fun h => h⟩
  | ptr id off =>
    simp only [convV] at h
    split at h
    · rename_i hk
      cases h
      have := keep rfl (fun id' hid => by simp [ids] at hid; subst hid; exact (has_iff _ _).1 hk)
      exact ⟨this.1, this.2, fun h => h⟩
    · cases h
  | fn f l1 l2 =>
    simp only [convV] at h
    split at h
    · rename_i hk1 hk2
      cases h
      have := keep rfl (fun id' hid => by
        simp only [ids, List.mem_append] at hid
        rcases hid with hid | hid
        · exact allHas_ok _ hk1 _ hid
        · exact allHas_ok _ hk2 _ hid)
      exact ⟨this.1, this.2, fun h => h⟩
    · cases h
  | own id =>
    simp only [convV] at h
    split at h
    · rename_i hk
      cases h
      have := keep rfl (fun id' hid => by simp [ids] at hid; subst hid; exact (has_iff _ _).1 hk)
      exact ⟨this.1, this.2, fun h => h⟩
    · rename_i hk
      have hk := has_false hk
      have hno : lkOf O' id = .none := by
        rcases h2 id with ⟨q, _⟩ | ⟨_, q⟩
        · exact absurd q hk
        · exact q
      split at h
      · rename_i e sz rows hl
        cases h
        refine ⟨.d ?_, fun id hid => by simp [ids] at hid, fun _ => rfl⟩
        have h0 := hr.ho id
        rw [hl] at h0
        have hv : val = pl.val id := by cases hp with | own hh => exact hh (by rw [hl]; rfl)
        rw [hv]
        refine row_slice h0 _ (fun b hb => (him b hb).1) fun b hb => ?_
        have hm : mb pl id (lkOf ob id) = some b := by rw [hl]; exact hb
        obtain ⟨m1, m2, m3⟩ := hr.mw id b hm
        refine .inr ⟨m1, m3, fun id' hid' => ?_⟩
        have := hr.inj id id' b hm (he.mbo id' b hid')
        subst this
        rw [hno] at hid'; cases hid'
      · rename_i sz rows hl
        cases h
        refine ⟨.d ?_, fun id hid => by simp [ids] at hid, fun _ => rfl⟩
        have h0 := hr.ho id
        rw [hl] at h0
        have hv : val = pl.val id := by cases hp with | own hh => exact hh (by rw [hl]; rfl)
        rw [hv]
        exact h0.2.1.mono him
      · cases h
  | _ => simp [convV] at h

/-- The objects at the end. -/
theorem convO_hold {ks : List Nat} {O' : Ob} (hO : convO ks (lkOf ob) ks = some O') (hr : Rel X pl fr ob a w) :
    (∀ id, Hold w (Imm X pl (lkOf O') w) pl (lkOf O') id (lkOf O' id)) ∧ (∀ id cs, lkOf O' id = .box cs → ∀ x ∈ cs, ∀ id' ∈ ids x, lkOf O' id' ≠ .none) := by
  have he := convO_ends (X := X) hO pl w
  obtain ⟨h1, h2⟩ := convO_ok hO
  have him : ∀ b, Imm X pl (lkOf ob) w b → Imm X pl (lkOf O') w b ∧ w.heap[b]? = w.heap[b]? := fun b hb => ⟨he.imm b hb, rfl⟩
  refine ⟨fun id => ?_, fun id cs hcs x hx id' hid' => ?_⟩
  · rcases h2 id with ⟨_, ⟨cs, cs', q1, q2, q3⟩ | ⟨q, _, q4⟩⟩ | ⟨_, q⟩
    · rw [q2]
      have h0 := hr.ho id
      rw [q1] at h0
      obtain ⟨c, e, r1, r2, r3⟩ := h0
      obtain ⟨g1, g2⟩ := convL_ok q3
      refine ⟨c, e, r1, by rw [r2, g1], fun i y hy => ?_⟩
      obtain ⟨x, hx, hxy⟩ := g2 i y hy
      obtain ⟨p1, _, p3⟩ := convV_ok hO hr hxy (r3 i x hx).1
      exact ⟨p1, p3 (r3 i x hx).2⟩
    · rw [q]
      exact (hr.ho id).mono him (fun _ _ => rfl) rfl (fun _ => rfl) fun cs hcs => absurd hcs (q4 cs)
    · rw [q]; trivial
  · rcases h2 id with ⟨_, ⟨cs0, cs', q1, q2, q3⟩ | ⟨q, _, q4⟩⟩ | ⟨_, q⟩
    · rw [q2] at hcs; cases hcs
      have h0 := hr.ho id
      rw [q1] at h0
      obtain ⟨c, e, r1, r2, r3⟩ := h0
      obtain ⟨g1, g2⟩ := convL_ok q3
      obtain ⟨i, hi⟩ := List.mem_iff_getElem?.1 hx
      obtain ⟨x0, hx0, hxy⟩ := g2 i x hi
      exact (convV_ok hO hr hxy (r3 i x0 hx0).1).2.1 id' hid'
    · rw [q] at hcs; exact absurd hcs (q4 cs)
    · rw [q] at hcs; cases hcs

/-- A result, as it stands. -/
def resV (X : Ctx) (fr : Fr) (ob : Ob) (r : ResultVar) (K : PV → Ob → Prop) : Prop :=
  match r with
  | .tmp t => K (look .junk fr t) ob
  | .cell a t => match look .junk fr a with
    | .ptr id off => match lkOf ob id, look Option.none X.E.T t with
      | .box cs, some ti => match ti.agg with
        | true => match cellsD (lkOf ob) ti.size (dropP off cs) with
          | some (ds, u, _) => K (.agg ds) (u ++ ob)
          | Option.none => False
        | false => match dropP off cs with
          | v :: _ => K v ob
          | [] => False
      | _, _ => False
    | _ => False

def resVs (X : Ctx) (fr : Fr) : Ob → List ResultVar → (List PV → Ob → Prop) → Prop
  | ob, [], K => K [] ob
  | ob, r :: l, K => resV X fr ob r fun v ob => resVs X fr ob l fun vs ob => K (v :: vs) ob

/-- What is handed back: ks: the objects that are kept as such. -/
def RetG (X : Ctx) (fr : Fr) (ob : Ob) (rs : List ResultVar) (ks : List Nat) (K : List PV → Ob → Prop) : Prop :=
  resVs X fr ob rs fun vs ob => match convL ks (lkOf ob) vs, convO ks (lkOf ob) ks with
    | some vs', some O' => K vs' O'
    | _, _ => False

def resM (tmps : Array Value) (r : ResultVar) : Sem Value :=
  match r with
  | .tmp t => Pure.pure (tmps.getD t Go.undef)
  | .cell b t => do loadVar t (← asAddr (tmps.getD b Go.undef))

theorem resV_ok (hX : Fine X) (hr : Rel X pl fr ob a w) {r : ResultVar} {K : PV → Ob → Prop} (h : resV X fr ob r K) :
    ∃ v ob2 val, K v ob2 ∧ Rel X pl fr ob2 a w ∧ Frz ob ob2 = Frz ob ob2 ∧ (∃ u, ob2 = u ++ ob ∧ Frz ob u) ∧ PRep w (Imm X pl (lkOf ob2) w) pl (lkOf ob2) val v ∧ (∀ id ∈ ids v, lkOf ob2 id ≠ .none) ∧ (resM a.tmps r).run X.P w = .ok val w := by
  cases r with
  | tmp t => exact ⟨_, ob, _, h, hr, rfl, ⟨[], rfl, .nil _⟩, hr.sv t, hr.cl t, rfl⟩
  | cell b t =>
    simp only [resV] at h
    split at h
    · rename_i id off hptr
      split at h
      · rename_i cs ti hl hti
        have hp := hr.sv b
        rw [hptr] at hp
        have hv : a.tmps.getD b undef = .pointer (some ⟨pl.blk id, off, none⟩) := by
          generalize a.tmps.getD b undef = v at hp
          cases hp; rfl
        have h0 := hr.ho id
        rw [hl] at h0
        obtain ⟨c, e, hc, hcs, hci⟩ := h0
        split at h
        · rename_i hg
          split at h
          · rename_i ds u tc hcd
            obtain ⟨f1, g1, l1, l2, p1⟩ := cellsD_ok (X := X) (ob := ob) ti.size (dropP off cs) hcd (fun i hi => rfl)
            have hr' := hr.freeze f1
            have hcell : ∀ j, j < ti.size → w.cell? ((⟨pl.blk id, off, none⟩ : Addr).add j) = some (c.getD (off + j) undef) := fun j hj => by
              have hlt : off + j < cs.length := by
                have h2 : (dropP off cs)[j]? ≠ none := by
                  rw [List.getElem?_eq_getElem (by omega)]; simp
                rw [dropP_get] at h2
                by_cases h3 : off + j < cs.length
                · exact h3
                · exact absurd (List.getElem?_eq_none (by omega)) h2
              rw [add_off, cell_of_row w _ _ c e _ hc]; simp [show off + j < c.size by omega]
            have hrun := run_load hX.tok hti _ (fun j => c.getD (off + j) undef) hcell (.inr trivial)
            rw [hg, if_pos rfl] at hrun
            refine ⟨_, _, _, h, hr', rfl, ⟨u, rfl, f1⟩, ?_, fun id hid => by simp [ids] at hid, by simp only [resM, Sem.run_bind, hv, asAddr, Sem.run_pure, Result.andThen_ok]; exact hrun⟩
            refine .agg (by simp [l1]) fun i y hy => ?_
            have hi : i < ti.size := by rw [← l1]; exact (List.getElem?_eq_some_iff.1 hy).1
            rw [range_getD _ _ _ hi]
            refine p1 u f1 (fun p hp => g1.look ob hp) pl w fr a hr hr' (fun j => c.getD (off + j) undef) (fun j z hz => ?_) i y hy
            rw [dropP_get] at hz
            exact hci (off + j) z hz
          · exact h.elim
        · rename_i hg
          split at h
          · rename_i v0 r hdp
            have hv0 : cs[off]? = some v0 := by have := dropP_get off cs 0; rw [hdp] at this; simpa using this.symm
            have hlt : off < cs.length := (List.getElem?_eq_some_iff.1 hv0).1
            have hsz : ti.size = 1 := (hX.tok t ti hti).one fun hk => by simp [TI.agg, hk] at hg
            have hrun := run_load hX.tok hti ⟨pl.blk id, off, none⟩ (fun j => c.getD (off + j) undef) (w := w) (fun j hj => by
              have hj0 : j = 0 := by omega
              subst hj0
              rw [add_off, cell_of_row w _ _ c e _ hc]; simp [show off < c.size by omega]) (.inr trivial)
            rw [hg, if_neg (by simp)] at hrun
            exact ⟨_, ob, _, h, hr, rfl, ⟨[], rfl, .nil _⟩, (hci off v0 hv0).1, hr.clb id cs hl v0 (List.mem_of_getElem? hv0), by simp only [resM, Sem.run_bind, hv, asAddr, Sem.run_pure, Result.andThen_ok]; exact hrun⟩
          · exact h.elim
      · exact h.elim
    · exact h.elim

theorem Rel.freezeV {u : Ob} (hf : Frz ob u) {v : PV} {val : Value} (hp : PRep w (Imm X pl (lkOf ob) w) pl (lkOf ob) val v) (hc : ∀ id ∈ ids v, lkOf ob id ≠ .none) :
    PRep w (Imm X pl (lkOf (u ++ ob)) w) pl (lkOf (u ++ ob)) val v ∧ ∀ id ∈ ids v, lkOf (u ++ ob) id ≠ .none :=
  ⟨hp.mono (fun b hb => ⟨hf.imm pl w b hb, rfl⟩) (fun _ _ => rfl) (fun id _ hr => ⟨by
    rcases hf id with h1 | ⟨e, sz, rows, h1, h2⟩
    · rw [← h1]; exact hr
    · rw [h1]; rfl, rfl⟩), fun id hid => hf.notNone id (hc id hid)⟩

theorem resVs_ok (hX : Fine X) : ∀ (rs : List ResultVar) {ob : Ob} {K : List PV → Ob → Prop}, Rel X pl fr ob a w → resVs X fr ob rs K →
    ∃ (vs : List PV) (vals : List Value) (ob2 : Ob), K vs ob2 ∧ Rel X pl fr ob2 a w ∧ (∃ u, ob2 = u ++ ob ∧ Frz ob u) ∧ vals.length = vs.length ∧ vs.length = rs.length ∧ (∀ (i : Nat) (v : PV), vs[i]? = some v → ∃ val, vals[i]? = some val ∧ PRep w (Imm X pl (lkOf ob2) w) pl (lkOf ob2) val v ∧ ∀ id ∈ ids v, lkOf ob2 id ≠ .none) ∧
      (rs.mapM (resM a.tmps)).run X.P w = .ok vals w
  | [], ob, K, hr, h => ⟨[], [], ob, h, hr, ⟨[], rfl, .nil _⟩, rfl, rfl, fun i v hi => (by simp at hi), rfl⟩
  | r :: rs, ob, K, hr, h => by
    simp only [resVs] at h
    obtain ⟨v, ob1, val, h1, hr1, _, ⟨u1, hu1, hf1⟩, h2, h3, h4⟩ := resV_ok hX hr h
    obtain ⟨vs, vals, ob2, g1, hr2, ⟨u2, hu2, hf2⟩, g2, g3, g5, g6⟩ := resVs_ok hX rs hr1 h1
    refine ⟨v :: vs, val :: vals, ob2, g1, hr2, ⟨u2 ++ u1, by rw [hu2, hu1, List.append_assoc], ?_⟩, by simp [g2], by simp [g3], fun i x hi => ?_, ?_⟩
    · intro id
      rw [List.append_assoc, ← hu1]
      rcases hf2 id with q | ⟨e, sz, rows, q1, q2⟩
      · rw [q, hu1]; exact hf1 id
      · rw [q2]
        rcases hf1 id with p | ⟨e', sz', rows', p1, p2⟩
        · rw [hu1, p] at q1; exact .inr ⟨e, sz, rows, q1, rfl⟩
        · rw [hu1, p2] at q1; cases q1
    · cases i with
      | zero =>
        simp at hi; subst hi
        have := Rel.freezeV hf2 h2 h3
        rw [← hu2] at this
        exact ⟨val, rfl, this⟩
      | succ i => simpa using g5 i x (by simpa using hi)
    · simp only [List.mapM_cons, Sem.run_bind, h4, Result.andThen_ok, g6, Sem.run_pure]

def argF : Nat → List PV → Fr
  | _, [] => []
  | n, v :: r => (n, v) :: argF (n + 1) r

theorem look_argF : ∀ (l : List PV) (n k : Nat), look .junk (argF n l) k = if n ≤ k then l.getD (k - n) .junk else .junk
  | [], n, k => by simp [argF, look]
  | v :: r, n, k => by
    simp only [argF, look_cons, look_argF r]
    by_cases h : n = k
    · subst h; simp
    · rw [if_neg h]
      by_cases h2 : n ≤ k
      · rw [if_pos h2, if_pos (by omega)]
        have : k - n = (k - (n + 1)) + 1 := by omega
        rw [this]; simp
      · rw [if_neg h2, if_neg (by omega)]

def TokE (P : Program) (T : List (Nat × Option TI)) : Prop := ∀ t ti, look none T t = some ti → TIok P t ti

/-- The results of a call, as one value. -/
def tupV : List PV → PV
  | [] => .unit
  | [x] => x
  | l => .tup l

/-- What a body has to do. -/
def Ret (X : Ctx) (rs : List ResultVar) (ks : List Nat) (vres : List PV) (O' : Ob) : QP := fun e fr ob => match e with
  | .normal => ∃ fr' ob', Cover X fr ob fr' ob' ∧ RetG X fr' ob' rs ks fun vs O => vs = vres ∧ O = O'
  | .ret => ∃ fr' ob', Cover X fr ob fr' ob' ∧ RetG X fr' ob' rs ks fun vs O => vs = vres ∧ O = O'
  | _ => False

/-- The objects that are handed in: boxes whose words speak of what is handed in alone, rows. -/
def inO (ks : List Nat) : Ob → Bool
  | [] => true
  | (_, .box cs) :: r => match allHas ks (ids.idsL cs) with | true => inO ks r | false => false
  | (_, .none) :: _ => false
  | _ :: r => inO ks r

theorem inO_ok {ks : List Nat} : ∀ {O : Ob}, inO ks O = true → ∀ id, (id ∈ keys O → lkOf O id ≠ .none) ∧ ∀ cs, lkOf O id = .box cs → ∀ x ∈ cs, ∀ id' ∈ ids x, id' ∈ ks
  | [], _, id => ⟨fun h => by simp [keys] at h, fun cs h => by cases h⟩
  | (k, o) :: r, h, id => by
    have hr : inO ks r = true := by
      cases o with
      | box cs => simp only [inO] at h; split at h <;> first | exact h | cases h
      | none => simp [inO] at h
      | _ => exact h
    have ih := inO_ok hr id
    simp only [lkOf, look_cons, keys, List.mem_cons]
    by_cases hk : k = id
    · subst hk
      simp only [if_true]
      refine ⟨fun _ => ?_, fun cs hcs x hx id' hid' => ?_⟩
      · intro ho; subst ho; simp [inO] at h
      · subst hcs
        simp only [inO] at h
        split at h
        · rename_i hb
          refine allHas_ok _ hb id' ?_
          have key : ∀ (l : List PV), x ∈ l → id' ∈ ids.idsL l := by
            intro l
            induction l with
            | nil => intro h; cases h
            | cons y l ih =>
              intro h
              simp only [ids.idsL, List.mem_append]
              rcases List.mem_cons.1 h with rfl | h
              · exact .inl hid'
              · exact .inr (ih h)
          exact key cs hx
        · cases h
    · rw [if_neg hk]
      exact ⟨fun h => ih.1 (by rcases h with h | h; exact absurd h.symm hk; exact h), ih.2⟩

theorem keys_of_look {O : Ob} {id : Nat} (h : lkOf O id ≠ .none) : id ∈ keys O := by
  induction O with
  | nil => exact absurd rfl h
  | cons p r ih =>
    obtain ⟨k, o⟩ := p
    simp only [lkOf, look_cons] at h
    simp only [keys, List.mem_cons]
    by_cases hk : k = id
    · exact .inl hk.symm
    · rw [if_neg hk] at h; exact .inr (ih h)

def allGe (n : Nat) : List Nat → Bool
  | [] => true
  | x :: l => match Nat.ble n x with | true => allGe n l | false => false

theorem allGe_ok (n : Nat) : ∀ (l : List Nat), allGe n l = true → ∀ k ∈ l, n ≤ k
  | [], _, k, h => by cases h
  | x :: l, h, k, hk => by
    simp only [allGe] at h
    split at h
    · rename_i hb
      rcases List.mem_cons.1 hk with rfl | hk
      · exact Nat.le_of_ble_eq_true hb
      · exact allGe_ok n l h k hk
    · cases h

/-- A CONTRACT, by the pure weakest precondition of the body. -/
theorem FnG.intro {P : Program} {f : FuncId} {fn : Func} {c : Code} {T : List (Nat × Option TI)} {vs : List PV} {O O' : Ob} (vres : List PV) (hf : P.funcs[f]? = some fn) (hname : (fn.name == "runtime.NumGoroutine") = false) (hb : fn.body = some c) (hfol : P.follows .mixedOrders = true) (hT : TokE P T)
    (hc : codeOk fn.ntmps c = true) (hn : Nat.ble vs.length fn.ntmps = true) (hnb : Nat.ble fn.ntmps base = true) (hids : allHas (keys O) (ids.idsL vs) = true) (hO : inO (keys O) O = true) (hge : allGe base (keys O) = true)
    (h : ∀ N ok out pl0 W0, WpG ⟨P, ⟨T, fn.ntmps⟩, N, ok, out, pl0, W0⟩ c (argF 0 vs) O (Ret ⟨P, ⟨T, fn.ntmps⟩, N, ok, out, pl0, W0⟩ fn.results.toList (keys O') vres O')) : FnG P f vs O (tupV vres) O' := by
  refine ⟨⟨fn, c, hf, hname, hb⟩, fun w ok pl vals hok hsz hvals hhold hinj hmw => ?_⟩
  have hn := Nat.le_of_ble_eq_true hn
  have hX : Fine ⟨P, ⟨T, fn.ntmps⟩, w.heap.size, ok, fun b => ∃ id, mb pl id (lkOf O id) = some b, pl, w⟩ := ⟨hT, hfol⟩
  generalize hXX : (⟨P, ⟨T, fn.ntmps⟩, w.heap.size, ok, fun b => ∃ id, mb pl id (lkOf O id) = some b, pl, w⟩ : Ctx) = X at hX
  have h := h w.heap.size ok (fun b => ∃ id, mb pl id (lkOf O id) = some b) pl w
  rw [hXX] at h
  have hXP : X.P = P := by rw [← hXX]
  have hXE : X.E = ⟨T, fn.ntmps⟩ := by rw [← hXX]
  have hXN : X.N = w.heap.size := by rw [← hXX]
  have hXok : X.ok0 = ok := by rw [← hXX]
  have hXo : X.out = fun b => ∃ id, mb pl id (lkOf O id) = some b := by rw [← hXX]
  have hXpl : X.pl0 = pl := by rw [← hXX]
  have hXW : X.W0 = w := by rw [← hXX]
  have hmemL : ∀ (l : List PV) (x : PV) (id : Nat), x ∈ l → id ∈ ids x → id ∈ ids.idsL l := by
    intro l x id
    induction l with
    | nil => intro h; cases h
    | cons y l ih =>
      intro h hid
      simp only [ids.idsL, List.mem_append]
      rcases List.mem_cons.1 h with rfl | h
      · exact .inl hid
      · exact .inr (ih h hid)
  have him0 : ∀ b, ok b → Imm X pl (lkOf O) w b ∧ w.heap[b]? = w.heap[b]? := fun b hb => ⟨.inl (by rw [hXok]; exact hb), rfl⟩
  have hrel : Rel X pl (argF 0 vs) O { tmps := vals ++ Array.replicate (fn.ntmps - vals.size) undef, defers := [] } w := by
    refine ⟨?_, rfl, fun n => ?_, fun n id hid => ?_, fun id cs hcs x hx id' hid' => (inO_ok hO id').1 ((inO_ok hO id).2 cs hcs x hx id' hid'), fun id => (hhold id).mono him0 (fun _ _ => rfl) rfl (fun _ => rfl) fun cs _ x _ id' _ => ⟨rfl, fun hr => ⟨hr, rfl⟩⟩, hinj,
      fun id b hb => ⟨.inr (by rw [hXo]; exact ⟨id, hb⟩), by rw [hXok]; exact (hmw id b hb).1, (hmw id b hb).2⟩, ?_, ?_, ?_, fun id _ => ?_⟩
    · rw [hXE]; simp; omega
    · rw [look_argF]
      simp only [Nat.zero_le, if_true, Nat.sub_zero]
      cases hv : vs[n]? with
      | none => rw [List.getD_eq_getElem?_getD, hv]; exact .junk _
      | some x =>
        rw [List.getD_eq_getElem?_getD, hv]
        simp only [Option.getD_some]
        have hlt : n < vals.size := by rw [hsz]; exact (List.getElem?_eq_some_iff.1 hv).1
        have hg : (vals ++ Array.replicate (fn.ntmps - vals.size) undef).getD n undef = vals.getD n undef := by
          simp [Array.getElem?_append, hlt]
        rw [hg]
        exact (hvals n x hv).mono him0 (fun _ _ => rfl) (fun id _ hr => ⟨hr, rfl⟩)
    · rw [look_argF] at hid
      simp only [Nat.zero_le, if_true, Nat.sub_zero] at hid
      cases hv : vs[n]? with
      | none => rw [List.getD_eq_getElem?_getD, hv] at hid; simp [ids] at hid
      | some x =>
        rw [List.getD_eq_getElem?_getD, hv] at hid
        simp only [Option.getD_some] at hid
        exact (inO_ok hO id).1 (allHas_ok _ hids id (hmemL vs x id (List.mem_of_getElem? hv) hid))
    · exact ⟨by rw [hXW], by rw [hXW], by rw [hXW], by rw [hXN]; exact Nat.le_refl _, fun b _ _ => by rw [hXW]⟩
    · rw [hXok, hXN]; exact hok
    · rw [hXE]; exact Nat.le_of_ble_eq_true hnb
    · rw [hXpl]; exact ⟨rfl, rfl⟩
  have hwp := h hX (by rw [hXE]; exact hc) pl _ w hrel
  rw [hXP] at hwp
  refine calls_of_wp hf hb (wp_mono hwp fun e a w' hp => ?_)
  obtain ⟨pl', fr', ob', hr, hq⟩ := hp
  have done : ∀ (pl' : Pl) (fr' : Fr) (ob' : Ob), Rel X pl' fr' ob' a w' → (RetG X fr' ob' fn.results.toList (keys O') fun vs O => vs = vres ∧ O = O') → a.defers = [] ∧ ∃ val, (results fn a.tmps).run P w' = .ok val w' ∧ (∃ val0 pl1, Ending.returned val = .returned val0 ∧ (∀ id, base ≤ id → pl1.blk id = pl.blk id ∧ pl1.val id = pl.val id) ∧
      ∃ ok' : Nat → Prop, (∀ b, ok' b ↔ ok b ∨ ((w.heap.size ≤ b ∨ ∃ id, mb pl id (lkOf O id) = some b) ∧ b < w'.heap.size ∧ ∀ id, mb pl1 id (lkOf O' id) ≠ some b)) ∧
      PRep w' ok' pl1 (lkOf O') val0 (tupV vres) ∧ (∀ id, Hold w' ok' pl1 (lkOf O') id (lkOf O' id)) ∧
      (∀ id id' b, mb pl1 id (lkOf O' id) = some b → mb pl1 id' (lkOf O' id') = some b → id = id') ∧
      (∀ id b, mb pl1 id (lkOf O' id) = some b → ¬ ok b ∧ b < w'.heap.size ∧ (w.heap.size ≤ b ∨ ∃ id0, mb pl id0 (lkOf O id0) = some b)) ∧
      (∀ id ∈ ids (tupV vres), lkOf O' id ≠ .none) ∧ (∀ id cs, lkOf O' id = .box cs → ∀ x ∈ cs, ∀ id' ∈ ids x, lkOf O' id' ≠ .none) ∧
      w'.os = w.os ∧ w'.tape = w.tape ∧ w'.output = w.output ∧ w.heap.size ≤ w'.heap.size ∧
      ∀ b, b < w.heap.size → (∀ id, mb pl id (lkOf O id) ≠ some b) → w'.heap[b]? = w.heap[b]?) := by
    intro pl' fr' ob' hr hret
    refine ⟨hr.df, ?_⟩
    obtain ⟨vs2, vals2, ob2, g1, hr2, _, g2, g3, g5, g6⟩ := resVs_ok hX _ hr hret
    split at g1
    · rename_i vs3 O3 hcv hco
      obtain ⟨rfl, rfl⟩ := g1
      have he := convO_ends (X := X) hco pl' w'
      obtain ⟨o1, o2⟩ := convO_hold hco hr2
      obtain ⟨c1, c2⟩ := convL_ok hcv
      have hk := hr2.keep
      have hres : (results fn a.tmps).run P w' = .ok (if h : vals2.toArray.size = 1 then vals2.toArray[0] else .tuple vals2.toArray) w' := by
        have hm : (fn.results.mapM (resM a.tmps)).run P w' = .ok vals2.toArray w' := by
          rw [Array.mapM_eq_mapM_toList, Sem.run_map]
          rw [hXP] at g6
          rw [g6]; rfl
        have heq : results fn a.tmps = (do let vs ← fn.results.mapM (resM a.tmps); pure (if h : vs.size = 1 then vs[0] else .tuple vs)) := by
          unfold results
          have hfun : resM a.tmps = (fun x : ResultVar => match x with
            | .tmp t => (Pure.pure (a.tmps.getD t Go.undef) : Sem Value)
            | .cell b t => do loadVar t (← asAddr (a.tmps.getD b Go.undef))) := by funext r; cases r <;> rfl
          rw [hfun]
          rfl
        rw [heq, Sem.run_bind, hm]
        simp only [Result.andThen_ok, Sem.run_pure]
      have each : ∀ (i : Nat) (v : PV), vs3[i]? = some v → PRep w' (Imm X pl' (lkOf O3) w') pl' (lkOf O3) (vals2.toArray.getD i undef) v ∧ ∀ id ∈ ids v, lkOf O3 id ≠ .none := fun i v hi => by
        obtain ⟨x, hx, hxy⟩ := c2 i v hi
        obtain ⟨val, q1, q2, q3⟩ := g5 i x hx
        have hg : vals2.toArray.getD i undef = val := by simp [q1]
        rw [hg]
        obtain ⟨p1, p2, _⟩ := convV_ok hco hr2 hxy q2
        exact ⟨p1, p2⟩
      refine ⟨_, hres, _, pl', rfl, fun id hid => by rw [← hXpl]; exact hr2.fixd id hid, Imm X pl' (lkOf O3) w', fun b => ?_, ?_, o1, fun id id' b hb hb' => hr2.inj id id' b (he.mbo id b hb) (he.mbo id' b hb'), fun id b hb => ?_, ?_, o2,
        by rw [hk.os, hXW], by rw [hk.tape, hXW], by rw [hk.output, hXW], by rw [← hXN]; exact hk.size, fun b hb hno => by
          rw [hk.blocks b (by rw [hXN]; exact hb) (fun ho => by rw [hXo] at ho; obtain ⟨id, hid⟩ := ho; exact hno id hid), hXW]⟩
      · show X.ok0 b ∨ _ ↔ _
        rw [hXok, hXN, hXo]
      · have hl3 : vs3.length = vals2.length := by omega
        match vs3, vals2, hl3, each with
        | [], [], _, _ => exact .unit
        | [x], [val], _, each => exact (each 0 x rfl).1
        | x :: y :: r, v0 :: v1 :: rv, gl, each =>
          refine .tup (by simpa using gl.symm) fun i p hp => ?_
          exact (each i p hp).1
        | [], _ :: _, gl, _ => simp at gl
        | [_], [], gl, _ => simp at gl
        | [_], _ :: _ :: _, gl, _ => simp at gl
        | _ :: _ :: _, [], gl, _ => simp at gl
        | _ :: _ :: _, [_], gl, _ => simp at gl
      · obtain ⟨m1, m2, m3⟩ := hr2.mw id b (he.mbo id b hb)
        rw [hXok] at m2; rw [hXN, hXo] at m1
        exact ⟨m2, m3, m1⟩
      · have eachL : ∀ (l : List PV), (∀ v ∈ l, ∀ id ∈ ids v, lkOf O3 id ≠ .none) → ∀ id ∈ ids (tupV l), lkOf O3 id ≠ .none := by
          intro l hl id hid
          match l, hl, hid with
          | [], _, hid => simp [tupV, ids] at hid
          | [x], hl, hid => exact hl x (by simp) id hid
          | x :: y :: r, hl, hid =>
            have hid : id ∈ ids.idsL (x :: y :: r) := hid
            have key : ∀ (l : List PV), (∀ v ∈ l, ∀ id ∈ ids v, lkOf O3 id ≠ .none) → id ∈ ids.idsL l → lkOf O3 id ≠ .none := by
              intro l
              induction l with
              | nil => intro _ h; simp [ids.idsL] at h
              | cons z l ih =>
                intro h1 h2
                simp only [ids.idsL, List.mem_append] at h2
                rcases h2 with h2 | h2
                · exact h1 z (by simp) id h2
                · exact ih (fun v hv => h1 v (by simp [hv])) h2
            exact key _ hl hid
        refine eachL vs3 fun v hv => ?_
        obtain ⟨i, hi⟩ := List.mem_iff_getElem?.1 hv
        exact (each i v hi).2
    · exact g1.elim
  cases e with
  | normal =>
    obtain ⟨fr2, ob2, hcv, hq⟩ := hq
    obtain ⟨pl2, hr2⟩ := hcv _ _ _ hr
    obtain ⟨q1, q2⟩ := done _ _ _ hr2 hq
    exact ⟨q1, q2⟩
  | ret =>
    obtain ⟨fr2, ob2, hcv, hq⟩ := hq
    obtain ⟨pl2, hr2⟩ := hcv _ _ _ hr
    obtain ⟨q1, q2⟩ := done _ _ _ hr2 hq
    exact ⟨q1, q2⟩
  | _ => exact hq.elim

end Go.Pv
