import Derived.Test.YtondofmlippbcaaWPvY
set_option linter.unusedVariables false
set_option linter.unusedSimpArgs false
namespace Go.Pv
variable {X : Ctx} {pl : Pl} {fr : Fr} {ob : Ob} {a : Act} {w : World}

theorem mb_congr {pl pl' : Pl} {id id' : Nat} (h1 : pl'.blk id' = pl.blk id) (h2 : pl'.val id' = pl.val id) (o : Obj) : mb pl' id' o = mb pl id o := by
  cases o <;> simp only [mb, h1, h2]

def rowKeep (O O' : Ob) : List Nat → Bool
  | [] => true
  | k :: r => match (lkOf O' k).isRow, (lkOf O k).isRow with | true, false => false | _, _ => rowKeep O O' r

theorem rowKeep_ok {O O' : Ob} : ∀ {l : List Nat}, rowKeep O O' l = true → ∀ k ∈ l, (lkOf O' k).isRow = true → (lkOf O k).isRow = true
  | [], _, k, h, _ => by cases h
  | x :: l, h, k, hk, hr => by
    simp only [rowKeep] at h
    split at h
    · cases h
    · rename_i hno
      rcases List.mem_cons.1 hk with rfl | hk
      · cases hb : (lkOf O k).isRow with
        | true => rfl
        | false => exact absurd hb (fun hb => hno hr hb)
      · exact rowKeep_ok h k hk hr

/-- A CALL, by a contract. σ: the objects that are handed in (the callee's names, the caller's); τ: those that are new. -/
theorem CallG.genK (ks : List Bool) {f : FuncId} {vs vs' : List PV} {dst : Option Nat} {lk : Nat → Obj} {K : PV → Ob → List Nat → Prop} {v : PV} {u : Ob} {t : List Nat} {O O' : Ob} (σ τ : List (Nat × Nat)) (hargs : argsK σ lk vs ks = some (vs', u, t)) (hf : FnG X.P f vs' O v O')
    (hσ : sigB (σ ++ τ) (σ ++ τ) = true) (hσ0 : sigB σ σ = true) (hS : SigG (σ ++ τ) lk O σ) (hF : FreshG lk τ)
    (hk1 : allHas (keys σ) (keys O) = true) (hk2 : allHas (keys O) (keys σ) = true) (hk3 : allHas (keys (σ ++ τ)) (keys O') = true) (hk4 : allHas (keys O') (keys (σ ++ τ)) = true) (hge : allGe base (keys σ) = true) (hin : inO (keys O) O = true) (hd : meets (keys u) (sndL (σ ++ τ)) = false) (hin' : inO (keys O') O' = true) (hrk : rowKeep O O' (keys σ) = true)
    (hK : K (renV (σ ++ τ) v) (outU (σ ++ τ) O' (σ ++ τ) ++ u) (sndL (σ ++ τ) ++ t)) : CallG X f vs dst lk K := by
  generalize hρ : σ ++ τ = ρ at *
  refine ⟨fun hX hdst => ?_⟩
  refine ⟨_, _, _, hK, fun fr ob pl a w vals hr ht hsz hvals hids => ⟨hf.1, ?_⟩⟩
  have hS := SigG_mem σ hS
  have hF := FreshG_mem τ hF
  have hsg := sigB_ok ρ ρ hσ
  have hsg0 := sigB_ok σ σ hσ0
  have hk1 := allHas_ok _ hk1
  have hk2 := allHas_ok _ hk2
  have hk3 := allHas_ok _ hk3
  have hk4 := allHas_ok _ hk4
  have hge := allGe_ok _ _ hge
  have hσρ : ∀ k id, (k, id) ∈ σ → (k, id) ∈ ρ := fun k id h => by rw [← hρ]; simp [h]
  have hτρ : ∀ k id, (k, id) ∈ τ → (k, id) ∈ ρ := fun k id h => by rw [← hρ]; simp [h]
  have hρc : ∀ k id, (k, id) ∈ ρ → (k, id) ∈ σ ∨ (k, id) ∈ τ := fun k id h => by rw [← hρ] at h; simpa using h
  have hlook : ∀ k id, (k, id) ∈ σ → look 0 σ k = id ∧ look 0 ρ k = id := fun k id h => ⟨(hsg0 k id h).1, (hsg k id (hσρ k id h)).1⟩
  obtain ⟨f1, g1, l1, p1⟩ := argsG_ok (X := X) (ob := ob) hσ0 vs hargs fun id hid => ht id (by simp [hid])
  have hr' := hr.freeze f1
  have hdis : ∀ id, id ∈ sndL ρ → lkOf (u ++ ob) id = lkOf ob id := fun id hid => by
    simp only [lkOf]
    rw [look_append]
    rw [if_neg]
    intro hany
    obtain ⟨p, hp, hpi⟩ := List.any_eq_true.1 hany
    have hpi := Nat.eq_of_beq_eq_true hpi
    have : meets (keys u) (sndL ρ) = true := (meets_iff _ _).2 ⟨id, by rw [← hpi]; exact mem_keys u p.1 p.2 hp, hid⟩
    rw [hd] at this; cases this
  have hob : ∀ k id, (k, id) ∈ ρ → lkOf (u ++ ob) id = lk id := fun k id h => by
    have hs := sndL_mem ρ k id h
    rw [hdis id hs]; exact ht id (by simp [hs])
  have hsame : ∀ k id, (k, id) ∈ σ → lkOf (u ++ ob) id = renO ρ (lkOf O k) := fun k id h => by rw [hob k id (hσρ k id h), hS k id h]
  have hnew : ∀ k id, (k, id) ∈ τ → lkOf (u ++ ob) id = .none ∧ id < base := fun k id h => ⟨by rw [hob k id (hτρ k id h)]; exact (hF k id h).1, (hF k id h).2⟩
  have hOk : ∀ k, lkOf O k ≠ .none → (k, look 0 σ k) ∈ σ := fun k hk => by
    obtain ⟨id, hid⟩ := keys_mem σ k (hk1 k (keys_of_look hk))
    rw [(hlook k id hid).1]; exact hid
  -- objects and their memory, under both names
  have hmbr : ∀ (pl1 pl2 : Pl) (k id : Nat) (o : Obj), pl2.blk id = pl1.blk k → pl2.val id = pl1.val k → mb pl2 id (renO ρ o) = mb pl1 k o := fun pl1 pl2 k id o h1 h2 => by
    cases o <;> simp only [renO, mb, h1, h2]
  have hmbc : ∀ k b, mb (plC σ pl) k (lkOf O k) = some b → (k, look 0 σ k) ∈ σ ∧ mb pl (look 0 σ k) (lkOf (u ++ ob) (look 0 σ k)) = some b := fun k b hb => by
    have hm := hOk k fun h0 => by rw [h0] at hb; cases hb
    refine ⟨hm, ?_⟩
    rw [hsame k _ hm, hmbr (plC σ pl) pl k (look 0 σ k) _ rfl rfl]; exact hb
  have hkeyO : ∀ k x cs, lkOf O k = .box cs → x ∈ cs → ∀ k' ∈ ids x, (k', look 0 σ k') ∈ σ := fun k x cs hcs hx k' hk' => by
    have hm := (inO_ok hin k).2 cs hcs x hx k' hk'
    obtain ⟨id, hid⟩ := keys_mem σ k' (hk1 k' hm)
    rw [(hlook k' id hid).1]; exact hid
  refine Calls.mono (hf.2 w (Imm X pl (lkOf (u ++ ob)) w) (plC σ pl) vals (fun b hb => ?_) (by rw [l1]; exact hsz) (p1 u f1 (fun p hp => g1.look ob hp) pl w fr a hr hr' (fun i => vals.getD i undef) hvals _ (fun k id hm hrw => ?_)) (fun k => ?_) (fun k k' b hb hb' => ?_) (fun k b hb => ?_)) fun e w' he => ?_
  · rcases hb with hb | ⟨_, hb, _⟩
    · have := hr.ok0 b hb; have := hr.keep.size; omega
    · exact hb
  · have h1 := hsame k id hm
    rw [hdis id (sndL_mem ρ k id (hσρ k id hm))] at h1
    rw [h1, renO_row]; exact hrw
  · by_cases hn : lkOf O k = .none
    · rw [hn]; trivial
    · have hm := hOk k hn
      have hh := hr'.ho (look 0 σ k)
      rw [hsame k _ hm] at hh
      cases ho : lkOf O k with
      | none => trivial
      | gone => trivial
      | box cs =>
        rw [ho] at hh
        simp only [renO] at hh
        obtain ⟨c, e, q1, q2, q3⟩ := hh
        refine ⟨c, e, q1, by rw [q2, renL_eq, List.length_map], fun i x hx => ?_⟩
        obtain ⟨r1, r2⟩ := q3 i (renV ρ x) (by rw [renL_eq, List.getElem?_map, hx]; rfl)
        rw [cellB_ren] at r2
        refine ⟨?_, r2⟩
        -- back to the callee's names
        have hxk := hkeyO k x cs ho (List.mem_of_getElem? hx)
        have back : ∀ (x : PV), cellB x = true → (∀ k' ∈ ids x, (k', look 0 σ k') ∈ σ) → ∀ val, PRep w (Imm X pl (lkOf (u ++ ob)) w) pl (lkOf (u ++ ob)) val (renV ρ x) → PRep w (Imm X pl (lkOf (u ++ ob)) w) (plC σ pl) (lkOf O) val x := by
          intro x hc hxk val hp
          have hlk : ∀ k' ∈ ids x, look 0 ρ k' = look 0 σ k' := fun k' hk' => by rw [(hlook k' _ (hxk k' hk')).2]
          have hrw : ∀ k' ∈ ids x, (lkOf O k').isRow = true → (lkOf (u ++ ob) (look 0 σ k')).isRow = true := fun k' hk' h => by rw [hsame k' _ (hxk k' hk'), renO_row]; exact h
          cases x with
          | d x => cases hp with | d h => exact .d h
          | nil => cases hp; exact .nil
          | agg cs => cases hc
          | ptr k' off =>
            simp only [renV] at hp
            cases hp
            have := hlk k' (by simp [ids])
            have h2 := PRep.ptr (w := w) (ok := Imm X pl (lkOf (u ++ ob)) w) (pl := plC σ pl) (lk := lkOf O) k' off
            have h3 : (plC σ pl).blk k' = pl.blk (look 0 ρ k') := by simp [plC, this]
            rw [h3] at h2; exact h2
          | ept row => cases hp with | ept vs h1 h2 h3 => exact .ept vs h1 h2 h3
          | own k' =>
            simp only [renV] at hp
            cases hp with
            | own hh =>
              refine .own fun h => ?_
              have := hh (by rw [hlk k' (by simp [ids])]; exact hrw k' (by simp [ids]) h)
              rw [this, hlk k' (by simp [ids])]; rfl
          | owp k' sz i off =>
            simp only [renV] at hp
            cases hp with
            | owp hh =>
              refine .owp fun h => ?_
              have := hh (by rw [hlk k' (by simp [ids])]; exact hrw k' (by simp [ids]) h)
              rw [hlk k' (by simp [ids])] at this; exact this
          | fn f a b =>
            simp only [renV] at hp
            cases hp
            have h3 := PRep.fn (w := w) (ok := Imm X pl (lkOf (u ++ ob)) w) (pl := plC σ pl) (lk := lkOf O) f a b
            have e1 : a.map (ptrV (plC σ pl)) = (a.map (look 0 ρ)).map (ptrV pl) := by
              rw [List.map_map]; exact List.map_congr_left fun id hid => by simp only [ptrV, Function.comp, plC]; rw [hlk id (by simp [ids, hid])]
            have e2 : b.map (ptrV (plC σ pl)) = (b.map (look 0 ρ)).map (ptrV pl) := by
              rw [List.map_map]; exact List.map_congr_left fun id hid => by simp only [ptrV, Function.comp, plC]; rw [hlk id (by simp [ids, hid])]
            rw [e1, e2] at h3; exact h3
          | tup vs => cases hc
          | err b => cases hp; exact .errN; exact .errS _ _
          | unit => cases hc
          | junk => cases hc
        exact back x r2 hxk _ r1
      | row e sz rows => rw [ho] at hh; simp only [renO] at hh; exact hh
      | frz sz rows => rw [ho] at hh; simp only [renO] at hh; exact hh
  · obtain ⟨m1, m2⟩ := hmbc k b hb
    obtain ⟨m1', m2'⟩ := hmbc k' b hb'
    have := hr'.inj _ _ b m2 m2'
    have e1 := (hsg0 _ _ m1).2
    have e2 := (hsg0 _ _ m1').2
    rw [this] at e1
    rw [e1] at e2; cases e2; rfl
  · obtain ⟨m1, m2⟩ := hmbc k b hb
    obtain ⟨q1, q2, q3⟩ := hr'.mw _ b m2
    refine ⟨fun him => ?_, q3⟩
    rcases him with h | ⟨_, _, h⟩
    · exact q2 h
    · exact h _ m2
  · obtain ⟨val, pl', rfl, hfix, ok', hok', hp, hho, hinj', hmb', hcv, hcb, hos, htape, hout, hsize, hheap⟩ := he
    -- where all lies now
    let pl2 : Pl := ⟨fun id => match invO τ id with | some k => pl'.blk k | none => pl.blk id, fun id => match invO τ id with | some k => pl'.val k | none => pl.val id⟩
    have hinτ : ∀ id k, invO τ id = some k → (k, id) ∈ τ := fun id k h => invO_mem τ id k h
    have hpl2o : ∀ id, (∀ k, (k, id) ∉ τ) → pl2.blk id = pl.blk id ∧ pl2.val id = pl.val id := fun id h => by
      have : invO τ id = none := by
        cases hi : invO τ id with
        | none => rfl
        | some k => exact absurd (hinτ id k hi) (h k)
      exact ⟨by simp only [pl2, this], by simp only [pl2, this]⟩
    have hnotτ : ∀ k id, (k, id) ∈ σ → ∀ k', (k', id) ∉ τ := fun k id h k' h' => by
      have h1 := hsame k id h
      rw [(hnew k' id h').1] at h1
      have h2 := (renO_none ρ _).1 h1.symm
      exact (inO_ok hin k).1 (hk2 k (mem_keys σ k id h)) h2
    have hρpl : ∀ k id, (k, id) ∈ ρ → pl2.blk id = pl'.blk k ∧ pl2.val id = pl'.val k := fun k id h => by
      rcases hρc k id h with h | h
      · obtain ⟨q1, q2⟩ := hpl2o id (hnotτ k id h)
        obtain ⟨q3, q4⟩ := hfix k (hge k (mem_keys σ k id h))
        rw [q1, q2, q3, q4]
        exact ⟨by simp only [plC, (hlook k id h).1], by simp only [plC, (hlook k id h).1]⟩
      · have : invO τ id = some k := by
          cases hi : invO τ id with
          | none =>
            exfalso
            have : ∀ (l : List (Nat × Nat)), (k, id) ∈ l → invO l id ≠ none := by
              intro l
              induction l with
              | nil => intro h; cases h
              | cons p l ih =>
                intro hm
                obtain ⟨k0, id0⟩ := p
                simp only [invO]
                split
                · exact fun h => by cases h
                · rename_i hb
                  rcases List.mem_cons.1 hm with e | hm
                  · cases e; simp at hb
                  · exact ih hm
            exact this τ h hi
          | some k0 =>
            have := hinτ id k0 hi
            have h1 := (hsg k id (hτρ k id h)).2
            have h2 := (hsg k0 id (hτρ k0 id this)).2
            rw [h1] at h2; cases h2; rfl
        exact ⟨by simp only [pl2, this], by simp only [pl2, this]⟩
    have hlk := fun id => lk_outU ρ O' (u ++ ob) ρ id
    have hinρ : ∀ id k, invO ρ id = some k → (k, id) ∈ ρ := fun id k h => invO_mem ρ id k h
    have hlkρ : ∀ k id, (k, id) ∈ ρ → lkOf (outU ρ O' ρ ++ (u ++ ob)) id = renO ρ (lkOf O' k) := fun k id h => by rw [hlk, (hsg k id h).2]
    have hOk' : ∀ k, lkOf O' k ≠ .none → (k, look 0 ρ k) ∈ ρ := fun k hk => by
      obtain ⟨id, hid⟩ := keys_mem ρ k (hk3 k (keys_of_look hk))
      rw [(hsg k id hid).1]; exact hid
    -- the memory that the callee had and has
    have hO2 : ∀ b, (∃ id0, mb (plC σ pl) id0 (lkOf O id0) = some b) → ∃ id0, mb pl id0 (lkOf (u ++ ob) id0) = some b := fun b ⟨k, hk⟩ => ⟨_, (hmbc k b hk).2⟩
    have hmb2 : ∀ id b, mb pl2 id (lkOf (outU ρ O' ρ ++ (u ++ ob)) id) = some b → (∃ k, (k, id) ∈ ρ ∧ mb pl' k (lkOf O' k) = some b) ∨ ((∀ k, (k, id) ∉ ρ) ∧ mb pl id (lkOf (u ++ ob) id) = some b) := fun id b hb => by
      rw [hlk] at hb
      cases hi : invO ρ id with
      | some k =>
        rw [hi] at hb
        have hm := hinρ id k hi
        obtain ⟨q1, q2⟩ := hρpl k id hm
        simp only at hb
        rw [hmbr pl' pl2 k id _ q1 q2] at hb
        exact .inl ⟨k, hm, hb⟩
      | none =>
        rw [hi] at hb
        have hno : ∀ k, (k, id) ∉ ρ := fun k h => by have := (hsg k id h).2; rw [hi] at this; cases this
        obtain ⟨q1, q2⟩ := hpl2o id fun k h => hno k (hτρ k id h)
        refine .inr ⟨hno, ?_⟩
        simp only at hb
        rwa [mb_congr q1 q2] at hb
    have hfar : ∀ id b, (∀ k, (k, id) ∉ ρ) → mb pl id (lkOf (u ++ ob) id) = some b → ∀ k, mb (plC σ pl) k (lkOf O k) ≠ some b := fun id b hno hb k hk => by
      obtain ⟨m1, m2⟩ := hmbc k b hk
      have := hr'.inj id _ b hb m2
      subst this
      exact hno k (hσρ k _ m1)
    have himok : ∀ b, ok' b → (∀ id, mb pl2 id (lkOf (outU ρ O' ρ ++ (u ++ ob)) id) ≠ some b) → Imm X pl2 (lkOf (outU ρ O' ρ ++ (u ++ ob))) w' b := fun b hb hno => by
      rcases (hok' b).1 hb with h | ⟨h1, h2, _⟩
      · rcases h with h | ⟨h1, h2, h3⟩
        · exact .inl h
        · exact .inr ⟨h1, by omega, hno⟩
      · rcases h1 with h1 | h1
        · exact .inr ⟨.inl (by have := hr.keep.size; omega), h2, hno⟩
        · obtain ⟨id0, h0⟩ := hO2 b h1
          exact .inr ⟨(hr'.mw id0 b h0).1, h2, hno⟩
    have hokmb : ∀ b, ok' b → ∀ id, mb pl2 id (lkOf (outU ρ O' ρ ++ (u ++ ob)) id) ≠ some b := fun b hb id hid => by
      rcases hmb2 id b hid with ⟨k, hm, hk⟩ | ⟨hno, hk⟩
      · obtain ⟨q1, q2, q3⟩ := hmb' k b hk
        rcases (hok' b).1 hb with h | ⟨_, _, h⟩
        · exact q1 h
        · exact h k hk
      · rcases (hok' b).1 hb with h | ⟨h1, _, _⟩
        · rcases h with h | ⟨_, _, h⟩
          · exact (hr'.mw id b hk).2.1 h
          · exact h id hk
        · rcases h1 with h1 | ⟨k, h1⟩
          · have := (hr'.mw id b hk).2.2; omega
          · exact hfar id b hno hk k h1
    have him' : ∀ b, ok' b → Imm X pl2 (lkOf (outU ρ O' ρ ++ (u ++ ob))) w' b ∧ w'.heap[b]? = w'.heap[b]? := fun b hb => ⟨himok b hb (hokmb b hb), rfl⟩
    have hren : ∀ (x : PV) (val : Value), (∀ k ∈ ids x, lkOf O' k ≠ .none) → PRep w' ok' pl' (lkOf O') val x → PRep w' (Imm X pl2 (lkOf (outU ρ O' ρ ++ (u ++ ob))) w') pl2 (lkOf (outU ρ O' ρ ++ (u ++ ob))) val (renV ρ x) := fun x val hx hp => by
      have h1 := PRep.mono (pl' := pl') (lk' := lkOf O') him' (fun _ _ => rfl) (fun id _ hr => ⟨hr, rfl⟩) hp
      refine PRep.ren h1 (fun k hk => (hρpl k _ (hOk' k (hx k hk))).1) (fun k hk hrw => ?_)
      have hm := hOk' k (hx k hk)
      rw [hlkρ k _ hm, renO_row] at hrw
      exact ⟨hrw, (hρpl k _ hm).2⟩
    have := Rel.next (u := outU ρ O' ρ) (pl' := pl2) (w' := w') (d := dst) (v := renV ρ v) (val := val) hr' hos htape hout hsize (fun b hb hno => hheap b hb fun k hk => hno _ (hmbc k b hk).2)
      (fun id hid => by
        refine (hpl2o id fun k hk => ?_).1
        obtain ⟨q1, q2⟩ := hnew k id hk
        rcases hid with h | h
        · exact h q1
        · omega)
      (fun id hn hrow => by
        have hnτ : ∀ k, (k, id) ∉ τ := fun k hk => hn (hnew k id hk).1
        refine ⟨?_, (hpl2o id hnτ).2⟩
        rw [hlk] at hrow
        cases hi : invO ρ id with
        | none => rw [hi] at hrow; exact hrow
        | some k =>
          rw [hi] at hrow
          have hm := hinρ id k hi
          rcases hρc k id hm with hm | hm
          · simp only [renO_row] at hrow
            -- a row behind the call was one before
            have h2 := hsame k id hm
            rw [h2, renO_row]
            exact rowKeep_ok hrk k (mem_keys σ k id hm) hrow
          · exact absurd hm (hnτ k))
      (fun id b hb => by
        rcases hmb2 id b hb with ⟨k, hm, hk⟩ | ⟨_, hk⟩
        · obtain ⟨_, q2, q3⟩ := hmb' k b hk
          rcases q3 with q3 | q3
          · exact .inr ⟨q3, q2⟩
          · exact .inl (hO2 b q3)
        · exact .inl ⟨id, hk⟩)
      (fun id id' b hb hb' => by
        rcases hmb2 id b hb with ⟨k, hm, hk⟩ | ⟨hno, hk⟩ <;> rcases hmb2 id' b hb' with ⟨k', hm', hk'⟩ | ⟨hno', hk'⟩
        · have := hinj' k k' b hk hk'
          subst this
          rw [← (hsg k id hm).1, ← (hsg k id' hm').1]
        · exfalso
          obtain ⟨_, _, q3⟩ := hmb' k b hk
          rcases q3 with q3 | ⟨k0, q3⟩
          · have := (hr'.mw id' b hk').2.2; omega
          · exact hfar id' b hno' hk' k0 q3
        · exfalso
          obtain ⟨_, _, q3⟩ := hmb' k' b hk'
          rcases q3 with q3 | ⟨k0, q3⟩
          · have := (hr'.mw id b hk).2.2; omega
          · exact hfar id b hno hk k0 q3
        · exact hr'.inj id id' b hk hk')
      (fun id hn => by
        rw [hlk]
        cases hi : invO ρ id with
        | none => exact hn
        | some k =>
          have hm := hinρ id k hi
          have hk' := hk4 k (mem_keys ρ k id hm)
          intro h0
          exact (inO_ok hin' k).1 hk' ((renO_none ρ _).1 h0))
      (fun him id => by
        cases hi : invO ρ id with
        | none =>
          refine .inl ⟨by rw [hlk, hi], fun b hb => hheap b (hr'.mw id b hb).2.2 fun k hk => ?_⟩
          have hno : ∀ k, (k, id) ∉ ρ := fun k h => by have := (hsg k id h).2; rw [hi] at this; cases this
          exact hfar id b hno hb k hk
        | some k =>
          have hm := hinρ id k hi
          have hlk2 := hlkρ k id hm
          obtain ⟨q1, q2⟩ := hρpl k id hm
          refine .inr ⟨?_, fun cs' hcs' x hx id' hid' => ?_⟩
          · rw [hlk2]
            have h0 := hho k
            cases ho : lkOf O' k with
            | none => trivial
            | gone => trivial
            | box cs =>
              rw [ho] at h0
              obtain ⟨c, e, r1, r2, r3⟩ := h0
              simp only [renO]
              refine ⟨c, e, by rw [q1]; exact r1, by rw [renL_eq, List.length_map]; exact r2, fun i x hx => ?_⟩
              rw [renL_eq, List.getElem?_map] at hx
              cases hx2 : cs[i]? with
              | none => rw [hx2] at hx; cases hx
              | some y =>
                rw [hx2] at hx; cases hx
                obtain ⟨s1, s2⟩ := r3 i y hx2
                exact ⟨hren y _ (hcb k cs ho y (List.mem_of_getElem? hx2)) s1, by rw [cellB_ren]; exact s2⟩
            | row e sz rows =>
              rw [ho] at h0
              simp only [renO]
              obtain ⟨xs, r1, r2, r3⟩ := h0
              exact ⟨xs, by rw [q2]; exact r1, r2, fun i r hi j x hx => (r3 i r hi j x hx).mono him'⟩
            | frz sz rows =>
              rw [ho] at h0
              simp only [renO]
              exact ⟨h0.1, by rw [q2]; exact h0.2.1.mono him', by rw [q2]; exact h0.2.2⟩
          · rw [hlk2] at hcs'
            cases ho : lkOf O' k with
            | box cs =>
              rw [ho] at hcs'
              simp only [renO, Obj.box.injEq] at hcs'
              subst hcs'
              rw [renL_eq] at hx
              obtain ⟨y, hy, rfl⟩ := List.mem_map.1 hx
              obtain ⟨k', hk', rfl⟩ := ids_ren ρ _ y (Nat.le_refl _) id' hid'
              have hn' := hcb k cs ho y hy k' hk'
              rw [hlkρ k' _ (hOk' k' hn')]
              exact fun h => hn' ((renO_none ρ _).1 h)
            | _ => rw [ho] at hcs'; simp [renO] at hcs')
      (fun him => hren v val hcv hp)
      (fun id hid => by
        obtain ⟨k, hk, rfl⟩ := ids_ren ρ _ v (Nat.le_refl _) id hid
        have hn' := hcv k hk
        rw [hlkρ k _ (hOk' k hn')]
        exact fun h => hn' ((renO_none ρ _).1 h))
      (fun d' hd' => hdst d' hd') (fun id hid => by
        refine (hpl2o id fun k hk => ?_).2
        have := (hnew k id hk).2; omega)
    rw [← List.append_assoc] at this
    exact ⟨val, pl2, rfl, this⟩

theorem CallG.gen {f : FuncId} {vs vs' : List PV} {dst : Option Nat} {lk : Nat → Obj} {K : PV → Ob → List Nat → Prop} {v : PV} {u : Ob} {t : List Nat} {O O' : Ob} (σ τ : List (Nat × Nat)) (hargs : argsG σ lk vs = some (vs', u, t)) (hf : FnG X.P f vs' O v O')
    (hσ : sigB (σ ++ τ) (σ ++ τ) = true) (hσ0 : sigB σ σ = true) (hS : SigG (σ ++ τ) lk O σ) (hF : FreshG lk τ)
    (hk1 : allHas (keys σ) (keys O) = true) (hk2 : allHas (keys O) (keys σ) = true) (hk3 : allHas (keys (σ ++ τ)) (keys O') = true) (hk4 : allHas (keys O') (keys (σ ++ τ)) = true) (hge : allGe base (keys σ) = true) (hin : inO (keys O) O = true) (hd : meets (keys u) (sndL (σ ++ τ)) = false) (hin' : inO (keys O') O' = true) (hrk : rowKeep O O' (keys σ) = true)
    (hK : K (renV (σ ++ τ) v) (outU (σ ++ τ) O' (σ ++ τ) ++ u) (sndL (σ ++ τ) ++ t)) : CallG X f vs dst lk K :=
  CallG.genK [] σ τ hargs hf hσ hσ0 hS hF hk1 hk2 hk3 hk4 hge hin hd hin' hrk hK

end Go.Pv
