import Derived.Test.YtondofmlippbcaaWPvK
import Derived.Great.FillDense
import Derived.Great.BuildSlice
import Derived.Laws.MakeOwn
import Derived.Laws.OwnMore
set_option linter.unusedVariables false
set_option linter.unusedSimpArgs false
namespace Go.Pv
variable {X : Ctx} {pl : Pl} {fr : Fr} {ob : Ob} {a : Act} {w : World}

/-- A new row of one's own; the row that it grew out of is gone. -/
theorem Rel.putRow (h : Rel X pl fr ob a w) {d e sz : Nat} {rows : List (List D)} {v : Value} {w' : World} {u0 : Ob} (hd : d < X.E.nt) (hnone : lkOf ob d = .none)
    (hu0 : u0 = [] ∨ ∃ b e0 sz0 rows0, u0 = [(b, .gone)] ∧ lkOf ob b = .row e0 sz0 rows0)
    (hos : w'.os = w.os) (htape : w'.tape = w.tape) (hout : w'.output = w.output) (hsz : w.heap.size ≤ w'.heap.size)
    (hheap : ∀ k, k < w.heap.size → (∀ b, u0 = [(b, .gone)] → (pl.val b).ownBlock ≠ some k) → w'.heap[k]? = w.heap[k]?)
    (hb : ∀ g, v.ownBlock = some g → (w.heap.size ≤ g ∧ g < w'.heap.size) ∨ ∃ b, u0 = [(b, .gone)] ∧ (pl.val b).ownBlock = some g)
    (hv : ∃ ao n c, v = .slice ao n c)
    (hold : ∀ ok', (∀ b, Imm X pl (lkOf ob) w b → ok' b ∧ w'.heap[b]? = w.heap[b]?) → ∃ xs, w'.ownsRow 0 e sz v rows.length xs ∧ (∀ r ∈ rows, r.length = sz) ∧ ∀ i r, rows[i]? = some r → ∀ j x, r[j]? = some x → DRep w' ok' (xs.getD (i * sz + j) undef) x) :
    Rel X (pl.setV d v) ((d, .own d) :: fr) ((d, .row e sz rows) :: (u0 ++ ob)) (a.put (some d) v) w' := by
  have hlkd : lkOf (((d, Obj.row e sz rows) :: u0) ++ ob) d = .row e sz rows := by simp [lk_cons]
  have hlk : ∀ id, id ≠ d → lkOf (((d, Obj.row e sz rows) :: u0) ++ ob) id = lkOf (u0 ++ ob) id := fun id hn => by simp only [List.cons_append, lk_cons]; rw [if_neg (fun h => hn h.symm)]
  -- what the second list says
  have hlk0 : ∀ id, lkOf (u0 ++ ob) id = lkOf ob id ∨ (lkOf (u0 ++ ob) id = .gone ∧ u0 = [(id, .gone)] ∧ ∃ e0 sz0 rows0, lkOf ob id = .row e0 sz0 rows0) := fun id => by
    rcases hu0 with rfl | ⟨b, e0, sz0, rows0, rfl, hb0⟩
    · exact .inl rfl
    · simp only [List.singleton_append, lk_cons]
      by_cases hbi : b = id
      · subst hbi; exact .inr ⟨by simp, rfl, e0, sz0, rows0, hb0⟩
      · exact .inl (by rw [if_neg hbi])
  have hnn0 : ∀ id, lkOf ob id ≠ .none → lkOf (u0 ++ ob) id ≠ .none := fun id hn => by
    rcases hlk0 id with h | ⟨h, _⟩ <;> rw [h]
    · exact hn
    · exact fun h => by cases h
  have hne : ∀ id, lkOf ob id ≠ .none → id ≠ d := fun id hn he => by subst he; exact hn hnone
  have hnn : ∀ id, lkOf ob id ≠ .none → lkOf (((d, Obj.row e sz rows) :: u0) ++ ob) id ≠ .none := fun id hn => by rw [hlk id (hne id hn)]; exact hnn0 id hn
  have hmb0 : ∀ id b, id ≠ d → mb (pl.setV d v) id (lkOf (((d, Obj.row e sz rows) :: u0) ++ ob) id) = some b → mb pl id (lkOf ob id) = some b ∧ lkOf (u0 ++ ob) id = lkOf ob id := fun id b hn hm => by
    rw [hlk id hn] at hm
    rcases hlk0 id with h | ⟨h, _⟩
    · rw [h] at hm
      refine ⟨?_, h⟩
      cases ho : lkOf ob id <;> rw [ho] at hm <;> simp_all [mb, Pl.setV]
    · rw [h] at hm; cases hm
  have hmbd : ∀ b, mb (pl.setV d v) d (lkOf (((d, Obj.row e sz rows) :: u0) ++ ob) d) = some b → v.ownBlock = some b := fun b hm => by
    rw [hlkd] at hm; simpa [mb, Pl.setV] using hm
  have hgone : ∀ b g, u0 = [(b, .gone)] → (pl.val b).ownBlock = some g → mb pl b (lkOf ob b) = some g := fun b g hub hg => by
    rcases hu0 with h0 | ⟨b', e0, sz0, rows0, h0, hb0⟩
    · rw [h0] at hub; cases hub
    · rw [h0] at hub; cases hub; rw [hb0]; exact hg
  have hrow : ∀ id, lkOf ob id ≠ .none → (lkOf (((d, Obj.row e sz rows) :: u0) ++ ob) id).isRow = true → (lkOf ob id).isRow = true ∧ (pl.setV d v).val id = pl.val id := fun id hn hr => by
    have hid := hne id hn
    rw [hlk id hid] at hr
    refine ⟨?_, by simp [Pl.setV, hid]⟩
    rcases hlk0 id with h | ⟨h, _⟩
    · rw [← h]; exact hr
    · rw [h] at hr; cases hr
  have hdist : ∀ id b, id ≠ d → mb (pl.setV d v) id (lkOf (((d, Obj.row e sz rows) :: u0) ++ ob) id) = some b → v.ownBlock ≠ some b := fun id b hn hm hvb => by
    obtain ⟨m1, m2⟩ := hmb0 id b hn hm
    rcases hb b hvb with ⟨h1, _⟩ | ⟨b', hb1, hb2⟩
    · have := (h.mw id b m1).2.2; omega
    · have := h.inj id b' b m1 (hgone b' b hb1 hb2)
      subst this
      rw [hb1] at m2
      have : lkOf ([(id, Obj.gone)] ++ ob) id = .gone := by simp [lk_cons]
      rw [this] at m2; rw [← m2] at m1; cases m1
  have := Rel.next (u := (d, .row e sz rows) :: u0) (pl' := pl.setV d v) (w' := w') (d := some d) (v := .own d) (val := v) h hos htape hout hsz
    (fun k hk hnm => hheap k hk fun b hub hg => hnm b (hgone b k hub hg)) (fun _ _ => rfl) hrow
    (fun id b hm => by
      by_cases hid : id = d
      · subst hid
        rcases hb b (hmbd b hm) with h1 | ⟨b', hb1, hb2⟩
        · exact .inr h1
        · exact .inl ⟨b', hgone b' b hb1 hb2⟩
      · exact .inl ⟨id, (hmb0 id b hid hm).1⟩)
    (fun id id' b hm hm' => by
      by_cases hid : id = d <;> by_cases hid' : id' = d
      · rw [hid, hid']
      · subst hid; exact absurd (hmbd b hm) (hdist id' b hid' hm')
      · subst hid'; exact absurd (hmbd b hm') (hdist id b hid hm)
      · exact h.inj id id' b (hmb0 id b hid hm).1 (hmb0 id' b hid' hm').1)
    hnn
    (fun him id => by
      by_cases hid : id = d
      · subst hid
        refine .inr ⟨?_, fun cs hcs => by rw [hlkd] at hcs; cases hcs⟩
        rw [hlkd]
        have hvd : (pl.setV id v).val id = v := by simp [Pl.setV]
        obtain ⟨xs, h1, h2, h3⟩ := hold _ him
        exact ⟨xs, by rw [hvd]; exact h1, h2, h3⟩
      · rcases hlk0 id with h1 | ⟨h1, h2, _⟩
        · refine .inl ⟨by rw [hlk id hid, h1], fun b hm => hheap b (h.mw id b hm).2.2 fun b' hub hg => ?_⟩
          have h3 := h.inj id b' b hm (hgone b' b hub hg)
          subst h3
          rw [hub] at h1
          have : lkOf ([(id, Obj.gone)] ++ ob) id = .gone := by simp [lk_cons]
          rw [this] at h1; rw [← h1] at hm; cases hm
        · refine .inr ⟨?_, fun cs hcs => ?_⟩
          · rw [hlk id hid, h1]; trivial
          · rw [hlk id hid, h1] at hcs; cases hcs)
    (fun him => by
      obtain ⟨ao, n, c, rfl⟩ := hv
      exact .own fun _ => by simp [Pl.setV]) (fun id hid => by simp [ids] at hid; subst hid; rw [hlkd]; exact fun h => by cases h) (fun d' hd' => by cases hd'; exact hd) (fun id hid => by
      have := h.ntb
      have : id ≠ d := by omega
      simp [Pl.setV, this])
  exact this

end Go.Pv
