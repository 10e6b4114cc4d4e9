import Derived.Test.YtondofmlippbcaaPvZ
set_option linter.unusedVariables false
set_option linter.unusedSimpArgs false
namespace Go.Pv
variable {X : Ctx} {pl : Pl} {fr : Fr} {ob : Ob} {a : Act} {w : World}

/-- Which of the callee's variables it is. -/
def invO : List (Nat × Nat) → Nat → Option Nat
  | [], _ => none
  | (k, id) :: r, n => match Nat.beq id n with | true => some k | false => invO r n

def invL (σ : List (Nat × Nat)) : List Nat → Option (List Nat)
  | [] => some []
  | x :: l => match invO σ x, invL σ l with | some y, some r => some (y :: r) | _, _ => none

theorem invO_mem : ∀ (σ : List (Nat × Nat)) (n k : Nat), invO σ n = some k → (k, n) ∈ σ
  | [], n, k, h => by cases h
  | (k', id) :: r, n, k, h => by
    simp only [invO] at h
    split at h
    · rename_i hb
      have := Nat.eq_of_beq_eq_true hb
      subst this; cases h; simp
    · exact List.mem_cons_of_mem _ (invO_mem r n k h)

def sigB (σ : List (Nat × Nat)) : List (Nat × Nat) → Bool
  | [] => true
  | (k, id) :: r => match Nat.beq (look 0 σ k) id, invO σ id with
    | true, some k' => match Nat.beq k' k with | true => sigB σ r | false => false
    | _, _ => false

theorem sigB_ok (σ : List (Nat × Nat)) : ∀ (l : List (Nat × Nat)), sigB σ l = true → ∀ k id, (k, id) ∈ l → look 0 σ k = id ∧ invO σ id = some k
  | [], _, k, id, h => by cases h
  | (k', id') :: r, h, k, id, hm => by
    simp only [sigB] at h
    split at h
    · rename_i k2 h1 h2
      split at h
      · rename_i h3
        rcases List.mem_cons.1 hm with e | hm
        · cases e
          exact ⟨Nat.eq_of_beq_eq_true h1, by rw [h2, Nat.eq_of_beq_eq_true h3]⟩
        · exact sigB_ok σ r h k id hm
      · cases h
    · cases h

def outU (O' : Ob) : List (Nat × Nat) → Ob
  | [] => []
  | (k, id) :: r => (id, lkOf O' k) :: outU O' r

theorem lk_outU (O' ob : Ob) : ∀ (σ : List (Nat × Nat)) (id : Nat), lkOf (outU O' σ ++ ob) id = match invO σ id with | some k => lkOf O' k | none => lkOf ob id
  | [], id => rfl
  | (k, id') :: r, id => by
    simp only [outU, List.cons_append, lkOf, look_cons, invO]
    by_cases h : id' = id
    · subst h; simp
    · have : Nat.beq id' id = false := by rw [Bool.eq_false_iff]; intro hh; exact h (Nat.eq_of_beq_eq_true hh)
      rw [if_neg h, this]
      exact lk_outU O' ob r id

def SigO (lk : Nat → Obj) (O : Ob) : List (Nat × Nat) → Prop
  | [] => True
  | (k, id) :: r => lk id = lkOf O k ∧ SigO lk O r

theorem SigO_mem {lk : Nat → Obj} {O : Ob} : ∀ (σ : List (Nat × Nat)), SigO lk O σ → ∀ k id, (k, id) ∈ σ → lk id = lkOf O k
  | [], _, k, id, h => by cases h
  | (k', id') :: r, h, k, id, hm => by
    rcases List.mem_cons.1 hm with e | hm
    · cases e; exact h.1
    · exact SigO_mem r h.2 k id hm

def argO (σ : List (Nat × Nat)) (lk : Nat → Obj) : PV → Option (PV × Ob × List Nat)
  | .ptr id off => match invO σ id with | some k => some (.ptr k off, [], []) | none => none
  | .fn f first caps => match invL σ first, invL σ caps with | some a, some b => some (.fn f a b, [], []) | _, _ => none
  | x => argP lk x

def argsO (σ : List (Nat × Nat)) (lk : Nat → Obj) : List PV → Option (List PV × Ob × List Nat)
  | [] => some ([], [], [])
  | x :: l => match argO σ lk x with
    | some (c, u, t) => match argsO σ lk l with
      | some (cs, u', t') => some (c :: cs, u ++ u', t ++ t')
      | Option.none => Option.none
    | Option.none => Option.none

/-- Where the callee's variables lie. -/
def plC (σ : List (Nat × Nat)) (pl : Pl) : Pl := ⟨fun k => pl.blk (look 0 σ k), pl.val⟩

theorem invL_map {σ : List (Nat × Nat)} (hσ : sigB σ σ = true) (pl : Pl) : ∀ (l l' : List Nat), invL σ l = some l' → l'.map (ptrV (plC σ pl)) = l.map (ptrV pl)
  | [], l', h => by simp [invL] at h; subst h; rfl
  | x :: l, l', h => by
    simp only [invL] at h
    split at h
    · rename_i y r h1 h2
      cases h
      have := (sigB_ok σ σ hσ y x (invO_mem σ x y h1)).1
      simp only [List.map_cons, invL_map hσ pl l r h2]
      congr 1
      simp [ptrV, plC, this]
    · cases h

theorem argO_ok {σ : List (Nat × Nat)} (hσ : sigB σ σ = true) {lk : Nat → Obj} {v v' : PV} {u : Ob} {t : List Nat} (h : argO σ lk v = some (v', u, t)) (hob : ∀ id ∈ t, lkOf ob id = lk id) :
    Frz ob u ∧ AllFrz u ∧ ∀ U : Ob, Frz ob U → (∀ p ∈ u, ∃ sz rows, lkOf (U ++ ob) p.1 = .frz sz rows) → ∀ pl w fr a, Rel X pl fr ob a w → Rel X pl fr (U ++ ob) a w → ∀ val, PRep w (Imm X pl (lkOf ob) w) pl (lkOf ob) val v →
      ∀ lk', PRep w (Imm X pl (lkOf (U ++ ob)) w) (plC σ pl) lk' val v' := by
  have gen : ∀ {v v' : PV} {u : Ob} {t : List Nat}, argP lk v = some (v', u, t) → (∀ id ∈ t, lkOf ob id = lk id) → Frz ob u ∧ AllFrz u ∧ ∀ U : Ob, Frz ob U → (∀ p ∈ u, ∃ sz rows, lkOf (U ++ ob) p.1 = .frz sz rows) → ∀ pl w fr a, Rel X pl fr ob a w → Rel X pl fr (U ++ ob) a w → ∀ val, PRep w (Imm X pl (lkOf ob) w) pl (lkOf ob) val v →
      ∀ lk', PRep w (Imm X pl (lkOf (U ++ ob)) w) (plC σ pl) lk' val v' := by
    intro v v' u t h hob
    obtain ⟨f1, g1, n1, p1⟩ := argP_ok (X := X) h hob
    exact ⟨f1, g1, fun U hU hal pl w fr a hr hr' val hp lk' => finL_any (p1 U hU hal pl w fr a hr hr' val hp) n1⟩
  cases v with
  | ptr id off =>
    simp only [argO] at h
    split at h
    · rename_i k hk
      cases h
      refine ⟨.nil _, .nil, fun U hU _ pl w fr a hr hr' val hp lk' => ?_⟩
      cases hp
      have := (sigB_ok σ σ hσ k id (invO_mem σ id k hk)).1
      have h2 := PRep.ptr (w := w) (ok := Imm X pl (lkOf (U ++ ob)) w) (pl := plC σ pl) (lk := lk') k off
      have h3 : (plC σ pl).blk k = pl.blk id := by simp [plC, this]
      rw [h3] at h2; exact h2
    · cases h
  | fn f first caps =>
    simp only [argO] at h
    split at h
    · rename_i a1 b1 h1 h2
      cases h
      refine ⟨.nil _, .nil, fun U hU _ pl w fr a hr hr' val hp lk' => ?_⟩
      cases hp
      have h3 := PRep.fn (w := w) (ok := Imm X pl (lkOf (U ++ ob)) w) (pl := plC σ pl) (lk := lk') f a1 b1
      rw [invL_map hσ pl _ _ h1, invL_map hσ pl _ _ h2] at h3
      exact h3
    · cases h
  | _ => exact gen h hob

theorem argsO_ok {σ : List (Nat × Nat)} (hσ : sigB σ σ = true) {lk : Nat → Obj} : ∀ (l : List PV) {l' : List PV} {u : Ob} {t : List Nat}, argsO σ lk l = some (l', u, t) → (∀ id ∈ t, lkOf ob id = lk id) →
    Frz ob u ∧ AllFrz u ∧ l'.length = l.length ∧ ∀ U : Ob, Frz ob U → (∀ p ∈ u, ∃ sz rows, lkOf (U ++ ob) p.1 = .frz sz rows) → ∀ pl w fr a, Rel X pl fr ob a w → Rel X pl fr (U ++ ob) a w →
      ∀ (f : Nat → Value), (∀ i x, l[i]? = some x → PRep w (Imm X pl (lkOf ob) w) pl (lkOf ob) (f i) x) → ∀ lk' i x, l'[i]? = some x → PRep w (Imm X pl (lkOf (U ++ ob)) w) (plC σ pl) lk' (f i) x
  | [], l', u, t, h, _ => by
    simp only [argsO, Option.some.injEq, Prod.mk.injEq] at h
    obtain ⟨rfl, rfl, rfl⟩ := h
    exact ⟨.nil _, .nil, rfl, fun U hU _ pl w fr a _ _ f _ lk' i x hi => by simp at hi⟩
  | x :: l, l', u, t, h, hob => by
    simp only [argsO] at h
    split at h
    · rename_i c u1 t1 hc
      split at h
      · rename_i cs u2 t2 hcs
        simp only [Option.some.injEq, Prod.mk.injEq] at h
        obtain ⟨rfl, rfl, rfl⟩ := h
        obtain ⟨a1, a2, a4⟩ := argO_ok (X := X) hσ hc fun id hid => hob id (by simp [hid])
        obtain ⟨b1, b2, b3, b5⟩ := argsO_ok hσ l hcs fun id hid => hob id (by simp [hid])
        refine ⟨a1.append b1, a2.append b2, by simp [b3], fun U hU hal pl w fr a hr hr' f hf lk' i y hi => ?_⟩
        cases i with
        | zero =>
          simp at hi; subst hi
          exact a4 U hU (fun p hp => hal p (by simp [hp])) pl w fr a hr hr' _ (hf 0 x rfl) lk'
        | succ i => exact b5 U hU (fun p hp => hal p (by simp [hp])) pl w fr a hr hr' (fun i => f (i + 1)) (fun i x hx => hf (i + 1) x (by simpa using hx)) lk' i y (by simpa using hi)
      · cases h
    · cases h

def sndL : List (Nat × Nat) → List Nat
  | [] => []
  | (_, id) :: r => id :: sndL r

theorem sndL_mem : ∀ (σ : List (Nat × Nat)) (k id : Nat), (k, id) ∈ σ → id ∈ sndL σ
  | [], k, id, h => by cases h
  | (k', id') :: r, k, id, h => by
    simp only [sndL, List.mem_cons]
    rcases List.mem_cons.1 h with e | h
    · cases e; exact .inl rfl
    · exact .inr (sndL_mem r k id h)

theorem keys_mem : ∀ (σ : List (Nat × Nat)) (k : Nat), k ∈ keys σ → ∃ id, (k, id) ∈ σ
  | [], k, h => by cases h
  | (k', id') :: r, k, h => by
    simp only [keys, List.mem_cons] at h
    rcases h with rfl | h
    · exact ⟨id', by simp⟩
    · obtain ⟨id, hid⟩ := keys_mem r k h; exact ⟨id, by simp [hid]⟩

theorem mem_keys : ∀ (σ : List (Nat × Nat)) (k id : Nat), (k, id) ∈ σ → k ∈ keys σ
  | [], k, id, h => by cases h
  | (k', id') :: r, k, id, h => by
    simp only [keys, List.mem_cons]
    rcases List.mem_cons.1 h with e | h
    · cases e; exact .inl rfl
    · exact .inr (mem_keys r k id h)

/-- A CALL, by a contract that speaks of variables. -/
theorem CallG.outer {f : FuncId} {vs vs' : List PV} {dst : Option Nat} {lk : Nat → Obj} {K : PV → Ob → List Nat → Prop} {v : PV} {u : Ob} {t : List Nat} {O O' : Ob} (σ : List (Nat × Nat)) (hargs : argsO σ lk vs = some (vs', u, t)) (hf : FnOkO X.P f vs' O v O') (hσ : sigB σ σ = true) (hS : SigO lk O σ)
    (hO : plainO O = true) (hO' : plainO O' = true) (hk : allIn (keys O) (keys σ) = true) (hk' : allIn (keys σ) (keys O) = true) (hk2 : allIn (keys σ) (keys O') = true) (hv : ids v = []) (hK : K v (outU O' σ ++ u) (sndL σ ++ t)) : CallG X f vs dst lk K := by
  refine ⟨fun hX hd => ?_⟩
  refine ⟨v, _, _, hK, fun fr ob pl a w vals hr ht hsz hvals hids => ⟨hf.1, ?_⟩⟩
  have hS := SigO_mem σ hS
  have hsg := sigB_ok σ σ hσ
  have hk := allIn_ok _ _ hk
  have hk' := allIn_ok _ _ hk'
  have hk2 := allIn_ok _ _ hk2
  obtain ⟨f1, g1, l1, p1⟩ := argsO_ok (X := X) (ob := ob) hσ vs hargs fun id hid => ht id (by simp [hid])
  have hr' := hr.freeze f1
  -- the variables, as the caller has them
  have hbox : ∀ k id, (k, id) ∈ σ → ∃ cs, lkOf O k = .box cs ∧ lkOf (u ++ ob) id = .box cs ∧ ∀ x ∈ cs, ids x = [] ∧ cellB x = true := fun k id hm => by
    obtain ⟨cs, hcs⟩ := keys_lk O hO k (hk' k (mem_keys σ k id hm))
    obtain ⟨cs', h1, h2⟩ := plainO_ok O hO k (by rw [hcs]; exact fun h => by cases h)
    rw [hcs] at h1; cases h1
    have hlo : lkOf ob id = .box cs := by rw [ht id (by simp [sndL_mem σ k id hm]), hS k id hm, hcs]
    refine ⟨cs, hcs, ?_, h2⟩
    rcases f1 id with h | ⟨_, _, _, h, _⟩
    · rw [h, hlo]
    · rw [hlo] at h; cases h
  have hOk : ∀ k, lkOf O k ≠ .none → (k, look 0 σ k) ∈ σ := fun k hk0 => by
    obtain ⟨id, hid⟩ := keys_mem σ k (hk k (lk_keys O k hk0))
    rw [(hsg k id hid).1]; exact hid
  have hmbc : ∀ k b, mb (plC σ pl) k (lkOf O k) = some b → (k, look 0 σ k) ∈ σ ∧ mb pl (look 0 σ k) (lkOf (u ++ ob) (look 0 σ k)) = some b := fun k b hb => by
    have hm := hOk k fun h0 => by rw [h0] at hb; cases hb
    obtain ⟨cs, h1, h2, _⟩ := hbox k _ hm
    rw [h1] at hb
    exact ⟨hm, by rw [h2]; exact hb⟩
  have hO2 : ∀ k id, (k, id) ∈ σ → ∃ cs, lkOf O' k = .box cs ∧ ∀ x ∈ cs, ids x = [] ∧ cellB x = true := fun k id hm => by
    obtain ⟨cs, hcs⟩ := keys_lk O' hO' k (hk2 k (mem_keys σ k id hm))
    obtain ⟨cs', h1, h2⟩ := plainO_ok O' hO' k (by rw [hcs]; exact fun h => by cases h)
    rw [hcs] at h1; cases h1
    exact ⟨cs, hcs, h2⟩
  refine Calls.mono (hf.2 w (Imm X pl (lkOf (u ++ ob)) w) (plC σ pl) vals (fun b hb => ?_) (by rw [l1]; exact hsz) (p1 u f1 (fun p hp => g1.look ob hp) pl w fr a hr hr' (fun i => vals.getD i undef) hvals _) (fun k => ?_) (fun k k' b hb hb' => ?_) (fun k b hb => ?_)) fun e w' he => ?_
  · rcases hb with hb | ⟨_, hb, _⟩
    · have := hr.ok0 b hb; have := hr.keep.size; omega
    · exact hb
  · by_cases hn : lkOf O k = .none
    · rw [hn]; trivial
    · obtain ⟨cs, h1, h2, h3⟩ := hbox k _ (hOk k hn)
      rw [h1]
      have hh := hr'.ho (look 0 σ k)
      rw [h2] at hh
      obtain ⟨c, e, q1, q2, q3⟩ := hh
      exact ⟨c, e, q1, q2, fun i x hx => ⟨finL_any (q3 i x hx).1 (h3 x (List.mem_of_getElem? hx)).1, (q3 i x hx).2⟩⟩
  · obtain ⟨m1, m2⟩ := hmbc k b hb
    obtain ⟨m1', m2'⟩ := hmbc k' b hb'
    have := hr'.inj _ _ b m2 m2'
    have e1 := (hsg _ _ m1).2
    have e2 := (hsg _ _ m1').2
    rw [this] at e1
    rw [e1] at e2; cases e2; rfl
  · obtain ⟨m1, m2⟩ := hmbc k b hb
    obtain ⟨q1, q2, q3⟩ := hr'.mw _ b m2
    refine ⟨fun him => ?_, q3⟩
    rcases him with h | ⟨_, _, h⟩
    · exact q2 h
    · exact h _ m2
  · obtain ⟨val, rfl, hp, hho, hos, htape, hout, hsize, hheap⟩ := he
    refine ⟨val, pl, rfl, ?_⟩
    have hlk := fun id => lk_outU O' (u ++ ob) σ id
    have hin : ∀ id k, invO σ id = some k → (k, id) ∈ σ := fun id k h => invO_mem σ id k h
    have hmb2 : ∀ id b, mb pl id (lkOf (outU O' σ ++ (u ++ ob)) id) = some b → mb pl id (lkOf (u ++ ob) id) = some b := fun id b hb => by
      rw [hlk] at hb
      cases hi : invO σ id with
      | none => rw [hi] at hb; exact hb
      | some k =>
        rw [hi] at hb
        obtain ⟨cs, h1, _⟩ := hO2 k id (hin id k hi)
        obtain ⟨cs', _, h2, _⟩ := hbox k id (hin id k hi)
        simp only [h1] at hb
        rw [h2]; exact hb
    have hfar : ∀ b, b < w.heap.size → (∀ k id, (k, id) ∈ σ → pl.blk id ≠ b) → w'.heap[b]? = w.heap[b]? := fun b hb hno => hheap b hb fun k hk0 => by
      obtain ⟨m1, m2⟩ := hmbc k b hk0
      obtain ⟨cs, _, h2, _⟩ := hbox k _ m1
      rw [h2] at m2
      exact hno k _ m1 (by simpa [mb] using m2)
    have hblk : ∀ k id, (k, id) ∈ σ → mb pl id (lkOf (u ++ ob) id) = some (pl.blk id) := fun k id hm => by
      obtain ⟨cs, _, h2, _⟩ := hbox k id hm
      rw [h2]; rfl
    have := Rel.next (u := outU O' σ) (pl' := pl) (w' := w') (d := dst) (v := v) (val := val) hr' hos htape hout hsize (fun b hb hno => hfar b hb fun k id hm he => hno id (by rw [hblk k id hm, he])) (fun _ _ => rfl)
      (fun id _ hrow => by
        refine ⟨?_, rfl⟩
        rw [hlk] at hrow
        cases hi : invO σ id with
        | none => rw [hi] at hrow; exact hrow
        | some k =>
          rw [hi] at hrow
          obtain ⟨cs, h1, _⟩ := hO2 k id (hin id k hi)
          simp only [h1] at hrow
          cases hrow)
      (fun id b hb => .inl ⟨id, hmb2 id b hb⟩) (fun id id' b hb hb' => hr'.inj id id' b (hmb2 id b hb) (hmb2 id' b hb'))
      (fun id hn => by
        rw [hlk]
        cases hi : invO σ id with
        | none => exact hn
        | some k =>
          obtain ⟨cs, h1, _⟩ := hO2 k id (hin id k hi)
          simp only [h1]
          exact fun h => by cases h)
      (fun him id => by
        cases hi : invO σ id with
        | none =>
          refine .inl ⟨by rw [hlk, hi], fun b hb => hfar b (hr'.mw id b hb).2.2 fun k id' hm he => ?_⟩
          have := hr'.inj id id' b hb (by rw [hblk k id' hm, he])
          subst this
          rw [(hsg k id hm).2] at hi; cases hi
        | some k =>
          obtain ⟨cs, h1, h2⟩ := hO2 k id (hin id k hi)
          have hlk2 : lkOf (outU O' σ ++ (u ++ ob)) id = .box cs := by rw [hlk, hi]; exact h1
          refine .inr ⟨?_, fun cs' hcs' x hx id' hid' => ?_⟩
          · rw [hlk2]
            obtain ⟨c, e, q1, q2, q3⟩ := hho k cs h1 (lkOf (outU O' σ ++ (u ++ ob)))
            have hb2 : (plC σ pl).blk k = pl.blk id := by simp [plC, (hsg k id (hin id k hi)).1]
            rw [hb2] at q1
            refine ⟨c, e, q1, q2, fun i x hx => ⟨?_, (q3 i x hx).2⟩⟩
            refine PRep.mono (fun b hb => ⟨?_, rfl⟩) (fun id hid => by rw [(h2 x (List.mem_of_getElem? hx)).1] at hid; cases hid) (fun id hid => by rw [(h2 x (List.mem_of_getElem? hx)).1] at hid; cases hid) (q3 i x hx).1
            rcases hb with hb | ⟨h1, h2⟩
            · exact (him b hb).1
            · exact .inr ⟨.inl (by have := hr.keep.size; omega), h2, fun id hid => by have := (hr'.mw id b (hmb2 id b hid)).2.2; omega⟩
          · rw [hlk2] at hcs'; cases hcs'
            rw [(h2 x hx).1] at hid'; cases hid')
      (fun him => PRep.mono (fun b hb => by
        refine ⟨?_, rfl⟩
        rcases hb with hb | ⟨h1, h2⟩
        · exact (him b hb).1
        · exact .inr ⟨.inl (by have := hr.keep.size; omega), h2, fun id hid => by have := (hr'.mw id b (hmb2 id b hid)).2.2; omega⟩) (fun _ _ => rfl) (fun id hid => by rw [hv] at hid; cases hid) (hp pl (lkOf (outU O' σ ++ (u ++ ob)))))
      (fun id hid => by rw [hv] at hid; cases hid) (fun d' hd' => hd d' hd')
    rw [← List.append_assoc] at this
    exact this

end Go.Pv
