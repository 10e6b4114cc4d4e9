import Derived.Test.YtondofmlippbcaaWPvC
set_option linter.unusedVariables false
set_option linter.unusedSimpArgs false
namespace Go.Pv
variable {X : Ctx} {pl : Pl} {fr : Fr} {ob : Ob} {a : Act} {w : World}

/-- Each object of u is a row of ob that becomes still. -/
def Frz (ob u : Ob) : Prop := ∀ id, (lkOf (u ++ ob) id = lkOf ob id) ∨ ∃ e sz rows, lkOf ob id = .row e sz rows ∧ lkOf (u ++ ob) id = .frz sz rows

theorem Frz.nil (ob : Ob) : Frz ob [] := fun _ => .inl rfl

theorem Frz.cons {ob u : Ob} {id e sz : Nat} {rows : List (List D)} (h : Frz ob u) (hl : lkOf ob id = .row e sz rows) : Frz ob ((id, .frz sz rows) :: u) := by
  intro id'
  simp only [List.cons_append, lkOf, look_cons]
  by_cases hid : id = id'
  · subst hid; exact .inr ⟨e, sz, rows, hl, by simp⟩
  · simp only [hid, if_false]; exact h id'

theorem look_append {α : Type} (dv : α) (u ob : List (Nat × α)) (id : Nat) : look dv (u ++ ob) id = (if u.any (fun p => Nat.beq p.1 id) then look dv u id else look dv ob id) := by
  induction u with
  | nil => rfl
  | cons p u ih =>
    obtain ⟨m, v⟩ := p
    simp only [List.cons_append, look_cons, List.any_cons]
    by_cases h : m = id
    · subst h; simp
    · have : Nat.beq m id = false := by rw [Bool.eq_false_iff]; intro hh; exact h (Nat.eq_of_beq_eq_true hh)
      simp only [h, this, ih, if_false, Bool.false_or]

theorem Frz.append {ob u u' : Ob} (h : Frz ob u) (h' : Frz ob u') : Frz ob (u ++ u') := by
  intro id
  rw [List.append_assoc]
  simp only [lkOf]
  rw [look_append]
  have h1 := h id
  have h2 := h' id
  simp only [lkOf] at h1 h2
  rw [look_append] at h1
  split
  · rename_i hh
    rw [if_pos hh] at h1
    exact h1
  · exact h2

theorem Frz.notNone {ob u : Ob} (h : Frz ob u) (id : Nat) (hn : lkOf ob id ≠ .none) : lkOf (u ++ ob) id ≠ .none := by
  rcases h id with h | ⟨e, sz, rows, h1, h2⟩
  · rw [h]; exact hn
  · rw [h2]; exact fun h => by cases h

theorem Frz.mb {ob u : Ob} (h : Frz ob u) (id b : Nat) (hb : mb pl id (lkOf (u ++ ob) id) = some b) : mb pl id (lkOf ob id) = some b ∧ lkOf (u ++ ob) id = lkOf ob id := by
  rcases h id with h | ⟨e, sz, rows, h1, h2⟩
  · rw [h] at hb; exact ⟨hb, h⟩
  · rw [h2] at hb; cases hb

theorem Rel.freeze (h : Rel X pl fr ob a w) {u : Ob} (hu : Frz ob u) : Rel X pl fr (u ++ ob) a w := by
  have := Rel.next (u := u) (pl' := pl) (w' := w) (d := none) (v := .unit) (val := undef) h rfl rfl rfl (Nat.le_refl _) (fun _ _ _ => rfl) (fun _ _ => rfl)
    (fun id hn hr => ⟨by
      rcases hu id with h1 | ⟨e, sz, rows, h1, h2⟩
      · rw [← h1]; exact hr
      · rw [h1]; rfl, rfl⟩) (fun id b hb => .inl ⟨id, (hu.mb id b hb).1⟩) (fun id id' b hb hb' => h.inj id id' b (hu.mb id b hb).1 (hu.mb id' b hb').1) (fun id hn => hu.notNone id hn)
    (fun him id => by
      rcases hu id with h1 | ⟨e, sz, rows, h1, h2⟩
      · exact .inl ⟨h1, fun _ _ => rfl⟩
      · refine .inr ⟨?_, fun cs hcs => by rw [h2] at hcs; cases hcs⟩
        rw [h2]
        have h0 := h.ho id
        rw [h1] at h0
        obtain ⟨xs, ho, hs, hi⟩ := h0
        refine ⟨hs, row_slice (lk := lkOf ob) (e := e) (sz := sz) ⟨xs, ho, hs, hi⟩ _ (fun b hb => (him b hb).1) (fun b hb => ?_), fun a n c hv => ?_⟩
        · have hm := h.mw id b (by rw [h1]; exact hb)
          refine .inr ⟨hm.1, hm.2.2, fun id' hid' => ?_⟩
          have h3 := hu.mb id' b hid'
          have : id' = id := h.inj id' id b h3.1 (by rw [h1]; exact hb)
          subst this
          rw [h2] at hid'; cases hid'
        · rcases ho.2 with ⟨hv', _⟩ | ⟨g, cap, cur, hv', _⟩
          · rw [hv'] at hv; cases hv
          · rw [hv'] at hv; cases hv; exact ⟨rfl, rfl⟩)
    (fun _ => .unit) (fun id hid => by simp [ids] at hid) (fun d' hd => by cases hd)
  exact this

theorem OpOk.valueF {o : Oper} {v : PV} {u : Ob} (hu : Frz ob u) (hd : ∀ d', o.dst = some d' → d' < X.E.nt)
    (h : ∀ pl a w, Rel X pl fr ob a w → Rel X pl fr (u ++ ob) a w → ∃ val, (execOp a.eval o).run X.P w = .ok (.value val) w ∧ PRep w (Imm X pl (lkOf (u ++ ob)) w) pl (lkOf (u ++ ob)) val v ∧ ∀ id ∈ ids v, lkOf (u ++ ob) id ≠ .none) :
    OpOk X o fr ob v u := by
  intro pl a w hr K Q hK
  have hr' := hr.freeze hu
  obtain ⟨val, h1, h2, h3⟩ := h pl a w hr hr'
  unfold Oper.wp
  rw [h1]
  exact hK pl _ w (hr'.same hd h2 h3)

/-- A list of objects that are all still. -/
def AllFrz (u : Ob) : Prop := ∀ p ∈ u, ∃ sz rows, p.2 = Obj.frz sz rows

theorem AllFrz.look {u : Ob} (h : AllFrz u) (ob : Ob) {p : Nat × Obj} (hp : p ∈ u) : ∃ sz rows, lkOf (u ++ ob) p.1 = .frz sz rows := by
  induction u with
  | nil => cases hp
  | cons q u ih =>
    obtain ⟨m, o⟩ := q
    simp only [List.cons_append, lkOf, look_cons]
    by_cases hm : m = p.1
    · rw [if_pos hm]
      exact h (m, o) (by simp)
    · rw [if_neg hm]
      rcases List.mem_cons.1 hp with rfl | hp
      · exact absurd rfl hm
      · exact ih (fun q hq => h q (by simp [hq])) hp

theorem AllFrz.nil : AllFrz [] := fun p hp => by cases hp

theorem AllFrz.append {u u' : Ob} (h : AllFrz u) (h' : AllFrz u') : AllFrz (u ++ u') := by
  intro p hp
  rcases List.mem_append.1 hp with hp | hp
  · exact h p hp
  · exact h' p hp

theorem Frz.imm {u : Ob} (hf : Frz ob u) (pl : Pl) (w : World) : ∀ b, Imm X pl (lkOf ob) w b → Imm X pl (lkOf (u ++ ob)) w b := by
  intro b hb
  rcases hb with hb | ⟨h1, h2, h3⟩
  · exact .inl hb
  · exact .inr ⟨h1, h2, fun id hid => h3 id (hf.mb id b hid).1⟩

/-- Cells that stand for data. -/
def CellsD (X : Ctx) (pl : Pl) (U ob : Ob) (w : World) (cells : Array Value) (cs : List D) : Prop :=
  cells.size = cs.length ∧ ∀ i x, cs[i]? = some x → DRep w (Imm X pl (lkOf (U ++ ob)) w) (cells.getD i undef) x

/-- What a part of a value is. -/
theorem partD_ok {lk : Nat → Obj} {v : PV} {cs : List D} {u : Ob} {t : List Nat} (h : partD lk v = some (cs, u, t)) (hob : ∀ id ∈ t, lkOf ob id = lk id) :
    Frz ob u ∧ AllFrz u ∧ ∀ U, Frz ob U → (∀ p ∈ u, ∃ sz rows, lkOf (U ++ ob) p.1 = .frz sz rows) → ∀ pl w fr a, Rel X pl fr ob a w → Rel X pl fr (U ++ ob) a w →
      ∀ val, PRep w (Imm X pl (lkOf ob) w) pl (lkOf ob) val v → CellsD X pl U ob w val.cells cs ∧ (cellB v = true → val.cells = #[val]) := by
  cases v with
  | d x =>
    simp only [partD, Option.some.injEq, Prod.mk.injEq] at h
    obtain ⟨rfl, rfl, rfl⟩ := h
    refine ⟨.nil _, AllFrz.nil, fun U hU _ pl w fr a hr hr' val hp => ?_⟩
    cases hp with
    | d hd =>
      have hsz : val.cells = #[val] := by cases hd <;> rfl
      refine ⟨⟨by rw [hsz]; rfl, fun i y hy => ?_⟩, fun _ => hsz⟩
      cases i with
      | zero =>
        simp at hy; subst hy
        rw [hsz]
        exact hd.mono fun b hb => ⟨hU.imm pl w b hb, rfl⟩
      | succ i => simp at hy
  | nil =>
    simp only [partD, Option.some.injEq, Prod.mk.injEq] at h
    obtain ⟨rfl, rfl, rfl⟩ := h
    refine ⟨.nil _, AllFrz.nil, fun U hU _ pl w fr a hr hr' val hp => ?_⟩
    cases hp
    refine ⟨⟨rfl, fun i y hy => ?_⟩, fun _ => rfl⟩
    cases i with
    | zero => simp at hy; subst hy; exact .nil
    | succ i => simp at hy
  | agg ds =>
    simp only [partD, Option.some.injEq, Prod.mk.injEq] at h
    obtain ⟨rfl, rfl, rfl⟩ := h
    refine ⟨.nil _, AllFrz.nil, fun U hU _ pl w fr a hr hr' val hp => ?_⟩
    cases hp with
    | agg hs hi => exact ⟨⟨hs, fun i x hx => (hi i x hx).mono fun b hb => ⟨hU.imm pl w b hb, rfl⟩⟩, fun hc => by cases hc⟩
  | own id =>
    simp only [partD] at h
    split at h
    · rename_i e sz rows hl
      simp only [Option.some.injEq, Prod.mk.injEq] at h
      obtain ⟨rfl, rfl, rfl⟩ := h
      have hlo : lkOf ob id = .row e sz rows := by rw [hob id (by simp)]; exact hl
      refine ⟨Frz.cons (.nil _) hlo, (fun p hp => by simp at hp; subst hp; exact ⟨_, _, rfl⟩), fun U hU hin pl w fr a hr hr' val hp => ?_⟩
      cases hp with
      | own ho =>
        have hv := ho (by rw [hlo]; rfl)
        refine ⟨⟨rfl, fun i y hy => ?_⟩, fun _ => rfl⟩
        cases i with
        | zero =>
          simp at hy; subst hy
          have h0 := hr'.ho id
          obtain ⟨sz', rows', h2⟩ := hin (id, Obj.frz sz rows) (by simp)
          have h1 : lkOf (U ++ ob) id = .frz sz rows := by
            rcases hU id with h3 | ⟨e3, sz3, rows3, h3, h4⟩
            · rw [h3, hlo] at h2; cases h2
            · rw [hlo] at h3; cases h3; exact h4
          rw [h1] at h0
          show DRep _ _ (Value.slice _ _ _) _
          rw [hv]
          exact h0.2.1
        | succ i => simp at hy
    · rename_i sz rows hl
      simp only [Option.some.injEq, Prod.mk.injEq] at h
      obtain ⟨rfl, rfl, rfl⟩ := h
      have hlo : lkOf ob id = .frz sz rows := by rw [hob id (by simp)]; exact hl
      refine ⟨.nil _, AllFrz.nil, fun U hU _ pl w fr a hr hr' val hp => ?_⟩
      cases hp with
      | own ho =>
        have hv := ho (by rw [hlo]; rfl)
        refine ⟨⟨rfl, fun i y hy => ?_⟩, fun _ => rfl⟩
        cases i with
        | zero =>
          simp at hy; subst hy
          have h0 := hr.ho id
          rw [hlo] at h0
          show DRep _ _ (Value.slice _ _ _) _
          rw [hv]
          exact h0.2.1.mono fun b hb => ⟨hU.imm pl w b hb, rfl⟩
        | succ i => simp at hy
    · cases h
  | _ => simp [partD] at h

/-- Several cells, read as data. -/
theorem cellsD_ok {lk : Nat → Obj} : ∀ (n : Nat) (l : List PV) {cs : List D} {u : Ob} {t : List Nat}, cellsD lk n l = some (cs, u, t) → (∀ id ∈ t, lkOf ob id = lk id) →
    Frz ob u ∧ AllFrz u ∧ cs.length = n ∧ n ≤ l.length ∧ ∀ U, Frz ob U → (∀ p ∈ u, ∃ sz rows, lkOf (U ++ ob) p.1 = .frz sz rows) → ∀ pl w fr a, Rel X pl fr ob a w → Rel X pl fr (U ++ ob) a w →
      ∀ (f : Nat → Value), (∀ i x, l[i]? = some x → PRep w (Imm X pl (lkOf ob) w) pl (lkOf ob) (f i) x ∧ cellB x = true) → ∀ i x, cs[i]? = some x → DRep w (Imm X pl (lkOf (U ++ ob)) w) (f i) x
  | 0, l, cs, u, t, h, hob => by
    simp only [cellsD, Option.some.injEq, Prod.mk.injEq] at h
    obtain ⟨rfl, rfl, rfl⟩ := h
    exact ⟨.nil _, AllFrz.nil, rfl, Nat.zero_le _, fun U _ _ pl w fr a _ _ f _ i x hx => by simp at hx⟩
  | n + 1, [], cs, u, t, h, hob => by simp [cellsD] at h
  | n + 1, x :: l, cs, u, t, h, hob => by
    simp only [cellsD] at h
    split at h
    · rename_i c u1 t1 hp
      split at h
      · rename_i cs' u' t' hc
        simp only [Option.some.injEq, Prod.mk.injEq] at h
        obtain ⟨rfl, rfl, rfl⟩ := h
        obtain ⟨f1, g1, p1⟩ := partD_ok (X := X) hp (fun id hid => hob id (by simp [hid]))
        obtain ⟨f2, g2, l2, l3, p2⟩ := cellsD_ok n l hc (fun id hid => hob id (by simp [hid]))
        refine ⟨f1.append f2, g1.append g2, by simp [l2], by simp; exact l3, fun U hU hin pl w fr a hr hr' f hf i y hy => ?_⟩
        cases i with
        | zero =>
          simp at hy; subst hy
          obtain ⟨q1, q2⟩ := p1 U hU (fun p hp => hin p (by simp [hp])) pl w fr a hr hr' (f 0) (hf 0 x rfl).1
          have := q1.2 0 c rfl
          rw [q2 (hf 0 x rfl).2] at this
          exact this
        | succ i =>
          exact p2 U hU (fun p hp => hin p (by simp [hp])) pl w fr a hr hr' (fun k => f (k + 1)) (fun k x hx => hf (k + 1) x (by simpa using hx)) i y (by simpa using hy)
      · cases h
    · cases h

theorem partsD_ok {lk : Nat → Obj} : ∀ (l : List PV) {cs : List (List D)} {u : Ob} {t : List Nat}, partsD lk l = some (cs, u, t) → (∀ id ∈ t, lkOf ob id = lk id) →
    Frz ob u ∧ AllFrz u ∧ cs.length = l.length ∧ ∀ U, Frz ob U → (∀ p ∈ u, ∃ sz rows, lkOf (U ++ ob) p.1 = .frz sz rows) → ∀ pl w fr a, Rel X pl fr ob a w → Rel X pl fr (U ++ ob) a w →
      ∀ (f : Nat → Value), (∀ i x, l[i]? = some x → PRep w (Imm X pl (lkOf ob) w) pl (lkOf ob) (f i) x) → ∀ i c, cs[i]? = some c → CellsD X pl U ob w (f i).cells c
  | [], cs, u, t, h, hob => by
    simp only [partsD, Option.some.injEq, Prod.mk.injEq] at h
    obtain ⟨rfl, rfl, rfl⟩ := h
    exact ⟨.nil _, AllFrz.nil, rfl, fun U _ _ pl w fr a _ _ f _ i x hx => by simp at hx⟩
  | x :: l, cs, u, t, h, hob => by
    simp only [partsD] at h
    split at h
    · rename_i c u1 t1 hp
      split at h
      · rename_i cs' u' t' hc
        simp only [Option.some.injEq, Prod.mk.injEq] at h
        obtain ⟨rfl, rfl, rfl⟩ := h
        obtain ⟨f1, g1, p1⟩ := partD_ok (X := X) hp (fun id hid => hob id (by simp [hid]))
        obtain ⟨f2, g2, l2, p2⟩ := partsD_ok l hc (fun id hid => hob id (by simp [hid]))
        refine ⟨f1.append f2, g1.append g2, by simp [l2], fun U hU hin pl w fr a hr hr' f hf i y hy => ?_⟩
        cases i with
        | zero =>
          simp at hy; subst hy
          exact (p1 U hU (fun p hp => hin p (by simp [hp])) pl w fr a hr hr' (f 0) (hf 0 x rfl)).1
        | succ i =>
          exact p2 U hU (fun p hp => hin p (by simp [hp])) pl w fr a hr hr' (fun k => f (k + 1)) (fun k x hx => hf (k + 1) x (by simpa using hx)) i y (by simpa using hy)
      · cases h
    · cases h

end Go.Pv
