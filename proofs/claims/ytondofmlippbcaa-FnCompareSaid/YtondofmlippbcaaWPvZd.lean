import Derived.Test.YtondofmlippbcaaWPvZc
set_option linter.unusedSimpArgs false
set_option linter.unusedVariables false
namespace Go.Pv
variable {X : Ctx} {fr : Fr} {ob : Ob}
theorem WpG.cover {c : Code} {fr' : Fr} {ob' : Ob} {Q : QP} (hc : Cover X fr ob fr' ob') (h : WpG X c fr' ob' Q) : WpG X c fr ob Q := fun hX hk pl a w hr => by
  obtain ⟨pl2, hr2⟩ := hc pl a w hr
  exact h hX hk pl2 a w hr2

/-- A row goes to another name. -/
theorem Cover.move (s old d e sz : Nat) (rows : List (List D)) (hs : look .junk fr s = .own old) (ho : lkOf ob old = .row e sz rows) (hn : lkOf ob d = .none) (hd : Nat.blt d base = true) : Cover X fr ob ((s, .own d) :: fr) ((d, .row e sz rows) :: (old, .gone) :: ob) := by
  intro pl a w hr
  rw [Nat.blt_eq] at hd
  have hod : old ≠ d := fun h => by subst h; rw [ho] at hn; cases hn
  generalize hob : ((d, Obj.row e sz rows) :: (old, Obj.gone) :: ob : Ob) = ob'
  have hlk : ∀ id, id ≠ d → id ≠ old → lkOf ob' id = lkOf ob id := fun id h h' => by rw [← hob, lk_cons, if_neg (fun e => h e.symm), lk_cons, if_neg (fun e => h' e.symm)]
  have hlkd : lkOf ob' d = .row e sz rows := by rw [← hob, lk_cons, if_pos rfl]
  have hlko : lkOf ob' old = .gone := by rw [← hob, lk_cons, if_neg (fun e => hod e.symm), lk_cons, if_pos rfl]
  generalize hpl2 : pl.setV d (pl.val old) = pl2
  have hv : ∀ id, id ≠ d → pl2.val id = pl.val id := fun id h => by rw [← hpl2]; simp [Pl.setV, h]
  have hvd : pl2.val d = pl.val old := by rw [← hpl2]; simp [Pl.setV]
  have hbk : ∀ id, pl2.blk id = pl.blk id := fun id => by rw [← hpl2]; rfl
  have hne : ∀ id, lkOf ob id ≠ .none → id ≠ d := fun id h e => by subst e; exact h hn
  have hmb : ∀ id b, mb pl2 id (lkOf ob' id) = some b → (id = d ∧ mb pl old (lkOf ob old) = some b) ∨ (id ≠ d ∧ id ≠ old ∧ mb pl id (lkOf ob id) = some b) := fun id b hb => by
    by_cases h : id = d
    · subst h; rw [hlkd] at hb; rw [ho]; simp only [mb, hvd] at hb; exact .inl ⟨rfl, hb⟩
    · by_cases h' : id = old
      · subst h'; rw [hlko] at hb; cases hb
      · rw [hlk id h h', mb_congr (hbk id) (hv id h)] at hb; exact .inr ⟨h, h', hb⟩
  have hmb1 : ∀ id b, mb pl2 id (lkOf ob' id) = some b → ∃ id0, mb pl id0 (lkOf ob id0) = some b := fun id b hb => by
    rcases hmb id b hb with ⟨_, h⟩ | ⟨_, _, h⟩
    · exact ⟨_, h⟩
    · exact ⟨_, h⟩
  have him : ∀ b, Imm X pl (lkOf ob) w b → Imm X pl2 (lkOf ob') w b ∧ w.heap[b]? = w.heap[b]? := fun b hb => by
    refine ⟨?_, rfl⟩
    rcases hb with hb | ⟨g1, g2, g3⟩
    · exact .inl hb
    · exact .inr ⟨g1, g2, fun id hid => by obtain ⟨id0, h0⟩ := hmb1 id b hid; exact g3 id0 h0⟩
  have row : ∀ id, lkOf ob id ≠ .none → (lkOf ob' id).isRow = true → (lkOf ob id).isRow = true ∧ pl2.val id = pl.val id := fun id hx h => by
    have h1 := hne id hx
    by_cases h' : id = old
    · subst h'; rw [hlko] at h; cases h
    · rw [hlk id h1 h'] at h; exact ⟨h, hv id h1⟩
  have word : ∀ (x : PV) (val : Value), (∀ k ∈ ids x, lkOf ob k ≠ .none) → PRep w (Imm X pl (lkOf ob) w) pl (lkOf ob) val x → PRep w (Imm X pl2 (lkOf ob') w) pl2 (lkOf ob') val x := fun x val hx hp =>
    hp.mono him (fun id _ => hbk id) fun id hid h => row id (hx id hid) h
  have closed : ∀ id, lkOf ob id ≠ .none → lkOf ob' id ≠ .none := fun id h => by
    by_cases h' : id = old
    · subst h'; rw [hlko]; intro h; cases h
    · rw [hlk id (hne id h) h']; exact h
  refine ⟨pl2, hr.nt, hr.df, fun n => ?_, fun n id hid => ?_, fun id cs hcs x hx id' hid' => ?_, fun id => ?_, fun id id' b g1 g2 => ?_, fun id b g => ?_, hr.keep, hr.ok0, hr.ntb, fun id hid => ?_⟩
  · simp only [look_cons]
    by_cases h : s = n
    · subst h
      rw [if_pos rfl]
      have := hr.sv s
      rw [hs] at this
      generalize a.tmps.getD s undef = v at this
      cases this with
      | own hh => exact .own fun _ => by rw [hvd]; exact hh (by rw [ho]; rfl)
    · rw [if_neg h]; exact word _ _ (hr.cl n) (hr.sv n)
  · simp only [look_cons] at hid
    by_cases h : s = n
    · subst h
      rw [if_pos rfl] at hid
      simp [ids] at hid; subst hid
      rw [hlkd]; intro h; cases h
    · rw [if_neg h] at hid; exact closed id (hr.cl n id hid)
  · by_cases h : id = d
    · subst h; rw [hlkd] at hcs; cases hcs
    · by_cases h' : id = old
      · subst h'; rw [hlko] at hcs; cases hcs
      · rw [hlk id h h'] at hcs; exact closed id' (hr.clb id cs hcs x hx id' hid')
  · by_cases h : id = d
    · subst h
      rw [hlkd]
      have h0 := hr.ho old
      rw [ho] at h0
      obtain ⟨xs, q1, q2, q3⟩ := h0
      refine ⟨xs, by rw [hvd]; exact q1, q2, fun i r hi j x hj => (q3 i r hi j x hj).mono him⟩
    · by_cases h' : id = old
      · subst h'; rw [hlko]; trivial
      · rw [hlk id h h']
        cases ho' : lkOf ob id with
        | none => trivial
        | _ =>
          rw [← ho']
          refine (hr.ho id).mono him (fun _ _ => rfl) (hbk id) (fun _ => hv id h) fun cs hcs x hx id' hid' => ⟨hbk id', fun hrw => ?_⟩
          exact row id' (hr.clb id cs hcs x hx id' hid') hrw
  · rcases hmb _ _ g1 with ⟨h1, m1⟩ | ⟨h1, h1', m1⟩ <;> rcases hmb _ _ g2 with ⟨h2, m2⟩ | ⟨h2, h2', m2⟩
    · rw [h1, h2]
    · exact absurd (hr.inj _ _ b m2 m1) h2'
    · exact absurd (hr.inj _ _ b m1 m2) h1'
    · exact hr.inj _ _ b m1 m2
  · obtain ⟨id0, h0⟩ := hmb1 id b g; exact hr.mw id0 b h0
  · have hfx := hr.fixd id hid
    have : id ≠ d := by omega
    exact ⟨by rw [hbk]; exact hfx.1, by rw [hv id this]; exact hfx.2⟩
end Go.Pv
