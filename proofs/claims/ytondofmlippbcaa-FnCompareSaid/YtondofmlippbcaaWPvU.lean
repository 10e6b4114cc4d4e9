import Derived.Test.YtondofmlippbcaaWPvT
import Derived.LoopN
set_option linter.unusedVariables false
set_option linter.unusedSimpArgs false
namespace Go.Pv
variable {X : Ctx} {pl : Pl} {fr : Fr} {ob : Ob} {a : Act} {w : World}

theorem Post.mono {Q Q' : QP} (h : ∀ e fr ob, Q e fr ob → Q' e fr ob) {e : Exit} {a : Act} {w : World} (hp : Post X Q e a w) : Post X Q' e a w :=
  let ⟨pl, fr, ob, h1, h2⟩ := hp; ⟨pl, fr, ob, h1, h _ _ _ h2⟩

theorem WpG.mono {c : Code} {Q Q' : QP} (h : ∀ e fr ob, Q e fr ob → Q' e fr ob) (hw : WpG X c fr ob Q) : WpG X c fr ob Q' :=
  fun hX hc pl a w hr => wp_mono (hw hX hc pl a w hr) fun _ _ _ hp => hp.mono h

/-- The pure weakest precondition is sound. -/
theorem PW_ok : ∀ (c : Code) {fr : Fr} {ob : Ob} {N : Fr → Ob → Prop} {Q : QP}, PW X c fr ob N Q → WpG X c fr ob (nq N Q) := by
  intro c
  induction c with
  | skip => intro fr ob N Q h hX hc pl a w hr; exact wp_skip ⟨pl, fr, ob, hr, h⟩
  | region id ops draw => intro fr ob N Q h hX hc pl a w hr; exact region_wp (Q := nq N Q) hX hc h hr
  | seq x y ihx ihy =>
    intro fr ob N Q h hX hc pl a w hr
    simp only [codeOk, Bool.and_eq_true] at hc
    refine wp_seq (wp_mono (ihx h hX hc.1 pl a w hr) fun e a w hp => ?_)
    obtain ⟨pl, fr, ob, hr, hq⟩ := hp
    cases e with
    | normal => exact ihy hq hX hc.2 pl a w hr
    | _ => exact ⟨pl, fr, ob, hr, hq⟩
  | cond c x y ihx ihy =>
    intro fr ob N Q h hX hc pl a w hr
    simp only [codeOk, Bool.and_eq_true] at hc
    have h : opnd fr c fun v => match v with
      | .d (.bool t) => BranchG t (PW X x fr ob N Q) (PW X y fr ob N Q)
      | _ => False := h
    rw [opnd_eq] at h
    split at h
    · rename_i t ht
      have hp := hr.op c
      rw [ht] at hp
      have hv : a.eval c = .bool t := by
        generalize a.eval c = v at hp
        cases hp with | d hp => cases hp; rfl
      refine wp_cond hv ?_
      cases t with
      | true => exact ihx h hX hc.1 pl a w hr
      | false => exact ihy h hX hc.2 pl a w hr
    · exact h.elim
  | block id c ih =>
    intro fr ob N Q h hX hc pl a w hr
    simp only [codeOk] at hc
    refine wp_block (wp_mono (ih h hX hc pl a w hr) fun e a w hp => ?_)
    obtain ⟨pl, fr, ob, hr, hq⟩ := hp
    cases e with
    | exit i =>
      simp only [Exit.inBlock]
      simp only [nq] at hq
      split at hq
      · rename_i hb
        rw [if_pos (Nat.eq_of_beq_eq_true hb)]
        exact ⟨pl, fr, ob, hr, hq⟩
      · rename_i hb
        rw [if_neg (fun e => by subst e; simp at hb)]
        exact ⟨pl, fr, ob, hr, hq⟩
    | _ => exact ⟨pl, fr, ob, hr, hq⟩
  | loop c ih => intro fr ob N Q h; exact LoopG.out h
  | exit id => intro fr ob N Q h hX hc pl a w hr; exact wp_exit ⟨pl, fr, ob, hr, h⟩
  | ret => intro fr ob N Q h hX hc pl a w hr; exact wp_ret ⟨pl, fr, ob, hr, h⟩
  | _ => intro fr ob N Q h; exact False.elim h

theorem PW_top {c : Code} {fr : Fr} {ob : Ob} {Q : QP} (h : PW X c fr ob (Q .normal) Q) : WpG X c fr ob Q :=
  WpG.mono (fun e fr ob h => by cases e <;> exact h) (PW_ok c h)

/-- What is told of a state may be told so. -/
def Cover (X : Ctx) (fr : Fr) (ob : Ob) (fr' : Fr) (ob' : Ob) : Prop := ∀ pl a w, Rel X pl fr ob a w → ∃ pl', Rel X pl' fr' ob' a w

theorem rounds_succ_mono {P : Program} {c : Code} {Q : Exit → Act → World → Prop} : ∀ (n : Nat) (a : Act) (w : World), Code.rounds P c Q n a w → Code.rounds P c Q (n + 1) a w
  | 0, _, _, h => h.elim
  | n + 1, a, w, h => wp_mono h fun e a w hq => by
    cases e with
    | normal => exact rounds_succ_mono n a w hq
    | _ => exact hq

theorem rounds_mono {P : Program} {c : Code} {Q : Exit → Act → World → Prop} {m n : Nat} {a : Act} {w : World} (h : m ≤ n) (hr : Code.rounds P c Q m a w) : Code.rounds P c Q n a w := by
  induction h with
  | refl => exact hr
  | step _ ih => exact rounds_succ_mono _ _ _ ih

/-- A LOOP: a family of states at its head, and a measure that falls. -/
theorem LoopG.intro {c : Code} {N : Fr → Ob → Prop} {Q : QP} {ι : Type} (S : ι → Fr × Ob) (μ : ι → Nat) (x0 : ι) (h0 : Cover X fr ob (S x0).1 (S x0).2)
    (round : ∀ x, WpG X c (S x).1 (S x).2 fun e fr ob => match e with | .normal => ∃ y, μ y < μ x ∧ Cover X fr ob (S y).1 (S y).2 | e => Q e fr ob) : LoopG X c fr ob N Q := by
  refine ⟨?_⟩
  intro hX hc pl a w hr
  simp only [codeOk] at hc
  obtain ⟨pl0, hr0⟩ := h0 pl a w hr
  have key : ∀ n x pl a w, μ x < n → Rel X pl (S x).1 (S x).2 a w → Code.rounds X.P c (Post X (nq N Q)) n a w := by
    intro n
    induction n with
    | zero => intro x pl a w h; omega
    | succ n ih =>
      intro x pl a w hn hr
      refine wp_mono (round x hX hc pl a w hr) fun e a w hp => ?_
      obtain ⟨pl, fr, ob, hr, hq⟩ := hp
      cases e with
      | normal =>
        obtain ⟨y, hy, hcov⟩ := hq
        obtain ⟨pl', hr'⟩ := hcov pl a w hr
        exact ih y pl' a w (by omega) hr'
      | _ => exact ⟨pl, fr, ob, hr, hq⟩
  exact wp_loop_rounds _ (key (μ x0 + 1) x0 pl0 a w (by omega) hr0)

/-- A cut: the code in between is gone through once. -/
theorem WpG.seq {x y : Code} {Q : QP} {ι : Type} (S : ι → Fr × Ob) (hx : WpG X x fr ob fun e fr ob => match e with | .normal => ∃ z, Cover X fr ob (S z).1 (S z).2 | e => Q e fr ob) (hy : ∀ z, WpG X y (S z).1 (S z).2 Q) : WpG X (.seq x y) fr ob Q := by
  intro hX hc pl a w hr
  simp only [codeOk, Bool.and_eq_true] at hc
  refine wp_seq (wp_mono (hx hX hc.1 pl a w hr) fun e a w hp => ?_)
  obtain ⟨pl, fr, ob, hr, hq⟩ := hp
  cases e with
  | normal =>
    obtain ⟨z, hz⟩ := hq
    obtain ⟨pl', hr'⟩ := hz pl a w hr
    exact hy z hX hc.2 pl' a w hr'
  | _ => exact ⟨pl, fr, ob, hr, hq⟩

/-- Of slots and objects, fewer: nothing that stays speaks of what goes. -/
theorem Cover.drop {fr fr' : Fr} {ob ob' : Ob} (hf : ∀ n, look .junk fr' n = .junk ∨ look .junk fr' n = look .junk fr n)
    (ho : ∀ id, lkOf ob' id = .none ∨ lkOf ob' id = lkOf ob id)
    (hc : ∀ n, ∀ id ∈ ids (look .junk fr' n), lkOf ob id ≠ .none → lkOf ob' id = lkOf ob id)
    (hcb : ∀ id cs, lkOf ob' id = .box cs → ∀ x ∈ cs, ∀ id' ∈ ids x, lkOf ob id' ≠ .none → lkOf ob' id' = lkOf ob id') : Cover X fr ob fr' ob' := by
  intro pl a w hr
  have hmb : ∀ id b, mb pl id (lkOf ob' id) = some b → mb pl id (lkOf ob id) = some b := fun id b hb => by
    rcases ho id with h | h
    · rw [h] at hb; cases hb
    · rw [← h]; exact hb
  have him : ∀ b, Imm X pl (lkOf ob) w b → Imm X pl (lkOf ob') w b ∧ w.heap[b]? = w.heap[b]? := fun b hb => by
    refine ⟨?_, rfl⟩
    rcases hb with hb | ⟨h1, h2, h3⟩
    · exact .inl hb
    · exact .inr ⟨h1, h2, fun id hid => h3 id (hmb id b hid)⟩
  have hrow : ∀ id, (lkOf ob' id).isRow = true → (lkOf ob id).isRow = true ∧ pl.val id = pl.val id := fun id h => by
    rcases ho id with h' | h'
    · rw [h'] at h; cases h
    · rw [← h']; exact ⟨h, rfl⟩
  refine ⟨pl, hr.nt, hr.df, fun n => ?_, fun n id hid => ?_, fun id cs hcs x hx id' hid' => ?_, fun id => ?_, fun id id' b h1 h2 => hr.inj id id' b (hmb _ _ h1) (hmb _ _ h2), fun id b h => hr.mw id b (hmb _ _ h), hr.keep, hr.ok0, hr.ntb, hr.fixd⟩
  · rcases hf n with h | h
    · rw [h]; exact .junk _
    · rw [h]
      exact (hr.sv n).mono him (fun _ _ => rfl) (fun id _ => hrow id)
  · rcases hf n with h | h
    · rw [h] at hid; simp [ids] at hid
    · have hid2 := hid
      rw [h] at hid2
      have hne := hr.cl n id hid2
      rw [hc n id hid hne]; exact hne
  · have hcs2 : lkOf ob id = .box cs := by
      rcases ho id with h | h
      · rw [h] at hcs; cases hcs
      · rw [← h]; exact hcs
    have hne := hr.clb id cs hcs2 x hx id' hid'
    rw [hcb id cs hcs x hx id' hid' hne]; exact hne
  · rcases ho id with h | h
    · rw [h]; trivial
    · rw [h]
      exact (hr.ho id).mono him (fun _ _ => rfl) rfl (fun _ => rfl) fun cs _ x _ id' _ => ⟨rfl, hrow id'⟩

theorem Cover.refl (fr : Fr) (ob : Ob) : Cover X fr ob fr ob := fun pl a w h => ⟨pl, h⟩
theorem Cover.trans {fr1 fr2 fr3 : Fr} {ob1 ob2 ob3 : Ob} (h : Cover X fr1 ob1 fr2 ob2) (h' : Cover X fr2 ob2 fr3 ob3) : Cover X fr1 ob1 fr3 ob3 := fun pl a w hr =>
  let ⟨pl', hr'⟩ := h pl a w hr; h' pl' a w hr'

end Go.Pv
