import Derived.Test.YtondofmlippbcaaWPvX
set_option linter.unusedVariables false
set_option linter.unusedSimpArgs false
namespace Go.Pv
variable {X : Ctx} {pl : Pl} {fr : Fr} {ob : Ob} {a : Act} {w : World}

/-! Calls: the callee's ids and the caller's. -/
def invO : List (Nat × Nat) → Nat → Option Nat
  | [], _ => none
  | (k, id) :: r, n => match Nat.beq id n with | true => some k | false => invO r n

def invL (σ : List (Nat × Nat)) : List Nat → Option (List Nat)
  | [] => some []
  | x :: l => match invO σ x, invL σ l with | some y, some r => some (y :: r) | _, _ => none

theorem invO_mem : ∀ (σ : List (Nat × Nat)) (n k : Nat), invO σ n = some k → (k, n) ∈ σ
  | [], n, k, h => by cases h
  | (k', id) :: r, n, k, h => by
    simp only [invO] at h
    split at h
    · rename_i hb
      have := Nat.eq_of_beq_eq_true hb
      subst this; cases h; simp
    · exact List.mem_cons_of_mem _ (invO_mem r n k h)

def sigB (σ : List (Nat × Nat)) : List (Nat × Nat) → Bool
  | [] => true
  | (k, id) :: r => match Nat.beq (look 0 σ k) id, invO σ id with
    | true, some k' => match Nat.beq k' k with | true => sigB σ r | false => false
    | _, _ => false

theorem sigB_ok (σ : List (Nat × Nat)) : ∀ (l : List (Nat × Nat)), sigB σ l = true → ∀ k id, (k, id) ∈ l → look 0 σ k = id ∧ invO σ id = some k
  | [], _, k, id, h => by cases h
  | (k', id') :: r, h, k, id, hm => by
    simp only [sigB] at h
    split at h
    · rename_i k2 h1 h2
      split at h
      · rename_i h3
        rcases List.mem_cons.1 hm with e | hm
        · cases e
          exact ⟨Nat.eq_of_beq_eq_true h1, by rw [h2, Nat.eq_of_beq_eq_true h3]⟩
        · exact sigB_ok σ r h k id hm
      · cases h
    · cases h

mutual
/-- A value under other names. -/
def renV (ρ : List (Nat × Nat)) : PV → PV
  | .ptr id off => .ptr (look 0 ρ id) off
  | .own id => .own (look 0 ρ id)
  | .owp id sz i off => .owp (look 0 ρ id) sz i off
  | .fn f a b => .fn f (a.map (look 0 ρ)) (b.map (look 0 ρ))
  | .tup vs => .tup (renL ρ vs)
  | x => x
def renL (ρ : List (Nat × Nat)) : List PV → List PV
  | [] => []
  | x :: l => renV ρ x :: renL ρ l
end

def renO (ρ : List (Nat × Nat)) : Obj → Obj
  | .box cs => .box (renL ρ cs)
  | o => o

theorem renL_eq (ρ : List (Nat × Nat)) (l : List PV) : renL ρ l = l.map (renV ρ) := by
  induction l with
  | nil => rw [renL]; rfl
  | cons x l ih => rw [renL, ih]; rfl

theorem idsL_mem {x : PV} {id : Nat} (hid : id ∈ ids x) : ∀ {l : List PV}, x ∈ l → id ∈ ids.idsL l
  | [], h => by cases h
  | y :: l, h => by
    simp only [ids.idsL, List.mem_append]
    rcases List.mem_cons.1 h with rfl | h
    · exact .inl hid
    · exact .inr (idsL_mem hid h)

theorem mem_idsL {id : Nat} : ∀ {l : List PV}, id ∈ ids.idsL l → ∃ x ∈ l, id ∈ ids x
  | [], h => by simp [ids.idsL] at h
  | y :: l, h => by
    simp only [ids.idsL, List.mem_append] at h
    rcases h with h | h
    · exact ⟨y, by simp, h⟩
    · obtain ⟨x, h1, h2⟩ := mem_idsL h; exact ⟨x, by simp [h1], h2⟩

theorem ids_ren (ρ : List (Nat × Nat)) : ∀ (n : Nat) (x : PV), SizeOf.sizeOf x ≤ n → ∀ id, id ∈ ids (renV ρ x) → ∃ k ∈ ids x, look 0 ρ k = id := by
  intro n
  induction n with
  | zero => intro x h; cases x <;> simp at h
  | succ n ih =>
    intro x hsz id hid
    cases x with
    | ptr k off => simp [renV, ids] at hid ⊢; exact hid.symm
    | own k => simp [renV, ids] at hid ⊢; exact hid.symm
    | owp k sz i off => simp [renV, ids] at hid ⊢; exact hid.symm
    | fn f a b =>
      simp only [renV, ids, List.mem_append, List.mem_map] at hid ⊢
      rcases hid with ⟨k, h1, h2⟩ | ⟨k, h1, h2⟩
      · exact ⟨k, .inl h1, h2⟩
      · exact ⟨k, .inr h1, h2⟩
    | tup vs =>
      simp only [renV, ids, renL_eq] at hid
      obtain ⟨y, hy, hy2⟩ := mem_idsL hid
      obtain ⟨x, hx, rfl⟩ := List.mem_map.1 hy
      have hlt : SizeOf.sizeOf x ≤ n := by
        have := List.sizeOf_lt_of_mem hx
        simp at hsz; omega
      obtain ⟨k, h1, h2⟩ := ih x hlt id hy2
      exact ⟨k, idsL_mem h1 hx, h2⟩
    | _ => simp [renV, ids] at hid

/-- What is so under the one names is so under the others. -/
theorem PRep.ren {ρ : List (Nat × Nat)} {ok : Nat → Prop} {pl pl' : Pl} {lk lk' : Nat → Obj} {v : Value} {x : PV} (hr : PRep w ok pl lk v x)
    (hblk : ∀ k ∈ ids x, pl'.blk (look 0 ρ k) = pl.blk k) (hval : ∀ k ∈ ids x, (lk' (look 0 ρ k)).isRow = true → (lk k).isRow = true ∧ pl'.val (look 0 ρ k) = pl.val k) : PRep w ok pl' lk' v (renV ρ x) := by
  induction hr with
  | d hd => exact .d hd
  | nil => exact .nil
  | agg hs hi => exact .agg hs hi
  | ptr id off => rw [← hblk id (by simp [ids])]; exact .ptr _ off
  | ept vs h1 h2 h3 => exact .ept vs h1 h2 h3
  | own ho =>
    refine .own fun hr => ?_
    obtain ⟨h1, h2⟩ := hval _ (by simp [ids]) hr
    rw [h2]; exact ho h1
  | owp ho =>
    refine .owp fun hr => ?_
    obtain ⟨h1, h2⟩ := hval _ (by simp [ids]) hr
    rw [h2]; exact ho h1
  | fn f first caps =>
    have e1 : first.map (ptrV pl) = (first.map (look 0 ρ)).map (ptrV pl') := by
      rw [List.map_map]; exact List.map_congr_left fun id hid => by simp only [ptrV, Function.comp]; rw [hblk id (by simp [ids, hid])]
    have e2 : caps.map (ptrV pl) = (caps.map (look 0 ρ)).map (ptrV pl') := by
      rw [List.map_map]; exact List.map_congr_left fun id hid => by simp only [ptrV, Function.comp]; rw [hblk id (by simp [ids, hid])]
    rw [e1, e2]; exact .fn f _ _
  | tup hs hi ih =>
    rename_i vs ps
    rw [renV, renL_eq]
    refine .tup (by simpa using hs) fun i p hp => ?_
    rw [List.getElem?_map] at hp
    cases hx : ps[i]? with
    | none => rw [hx] at hp; cases hp
    | some y =>
      rw [hx] at hp; cases hp
      have hm := List.mem_of_getElem? hx
      exact ih i y hx (fun k hk => hblk k (idsL_mem hk hm)) (fun k hk => hval k (idsL_mem hk hm))
  | errN => exact .errN
  | errS t v => exact .errS t v
  | unit => exact .unit
  | junk v => exact .junk v

theorem cellB_ren (ρ : List (Nat × Nat)) (x : PV) : cellB (renV ρ x) = cellB x := by cases x <;> rfl

/-- An operand, in the callee's names: rows that are not handed on as such become still. -/
def argG (σ : List (Nat × Nat)) (lk : Nat → Obj) (kn : Bool) : PV → Option (PV × Ob × List Nat)
  | .d x => some (.d x, [], [])
  | .nil => match kn with | true => some (.nil, [], []) | false => some (.d (.sl []), [], [])
  | .agg cs => some (.agg cs, [], [])
  | .err b => some (.err b, [], [])
  | .ept row => some (.ept row, [], [])
  | .own id => match invO σ id with
    | some k => some (.own k, [], [])
    | none => match lk id with
      | .row _ sz rows => some (.d (.sl rows), [(id, .frz sz rows)], [id])
      | .frz _ rows => some (.d (.sl rows), [], [id])
      | _ => Option.none
  | .ptr id off => match invO σ id with | some k => some (.ptr k off, [], []) | none => none
  | .fn f a b => match invL σ a, invL σ b with | some a, some b => some (.fn f a b, [], []) | _, _ => none
  | _ => Option.none

def argsK (σ : List (Nat × Nat)) (lk : Nat → Obj) : List PV → List Bool → Option (List PV × Ob × List Nat)
  | [], _ => some ([], [], [])
  | x :: l, ks => match argG σ lk (ks.headD false) x with
    | some (c, u, t) => match argsK σ lk l ks.tail with
      | some (cs, u', t') => some (c :: cs, u ++ u', t ++ t')
      | Option.none => Option.none
    | Option.none => Option.none

abbrev argsG (σ : List (Nat × Nat)) (lk : Nat → Obj) (l : List PV) : Option (List PV × Ob × List Nat) := argsK σ lk l []

/-- Where the callee's objects lie. -/
def plC (ρ : List (Nat × Nat)) (pl : Pl) : Pl := ⟨fun k => pl.blk (look 0 ρ k), fun k => pl.val (look 0 ρ k)⟩

theorem invL_ok {σ : List (Nat × Nat)} (hσ : sigB σ σ = true) : ∀ (l l' : List Nat), invL σ l = some l' → l'.map (look 0 σ) = l
  | [], l', h => by simp [invL] at h; subst h; rfl
  | x :: l, l', h => by
    simp only [invL] at h
    split at h
    · rename_i y r h1 h2
      cases h
      have := (sigB_ok σ σ hσ y x (invO_mem σ x y h1)).1
      simp only [List.map_cons, invL_ok hσ l r h2, this]
    · cases h

theorem argG_ok {σ : List (Nat × Nat)} (hσ : sigB σ σ = true) {lk : Nat → Obj} {kn : Bool} {v v' : PV} {u : Ob} {t : List Nat} (h : argG σ lk kn v = some (v', u, t)) (hob : ∀ id ∈ t, lkOf ob id = lk id) :
    Frz ob u ∧ AllFrz u ∧ ∀ U : Ob, Frz ob U → (∀ p ∈ u, ∃ sz rows, lkOf (U ++ ob) p.1 = .frz sz rows) → ∀ pl w fr a, Rel X pl fr ob a w → Rel X pl fr (U ++ ob) a w → ∀ val, PRep w (Imm X pl (lkOf ob) w) pl (lkOf ob) val v →
      ∀ lk' : Nat → Obj, (∀ k id, (k, id) ∈ σ → (lk' k).isRow = true → (lkOf ob id).isRow = true) → PRep w (Imm X pl (lkOf (U ++ ob)) w) (plC σ pl) lk' val v' := by
  have him : ∀ (U : Ob), Frz ob U → ∀ pl w, ∀ b, Imm X pl (lkOf ob) w b → Imm X pl (lkOf (U ++ ob)) w b ∧ w.heap[b]? = w.heap[b]? := fun U hU pl w b hb => ⟨hU.imm pl w b hb, rfl⟩
  have hinv : ∀ id k, invO σ id = some k → (k, id) ∈ σ ∧ look 0 σ k = id := fun id k hk => ⟨invO_mem σ id k hk, (sigB_ok σ σ hσ k id (invO_mem σ id k hk)).1⟩
  cases v with
  | d x =>
    simp only [argG, Option.some.injEq, Prod.mk.injEq] at h
    obtain ⟨rfl, rfl, rfl⟩ := h
    refine ⟨.nil _, .nil, fun U hU _ pl w fr a hr hr' val hp lk' _ => ?_⟩
    cases hp with | d hp => exact .d (hp.mono (him U hU pl w))
  | nil =>
    cases kn with
    | true =>
      simp only [argG, Option.some.injEq, Prod.mk.injEq] at h
      obtain ⟨rfl, rfl, rfl⟩ := h
      refine ⟨.nil _, .nil, fun U hU _ pl w fr a hr hr' val hp lk' _ => ?_⟩
      cases hp; exact .nil
    | false =>
      simp only [argG, Option.some.injEq, Prod.mk.injEq] at h
      obtain ⟨rfl, rfl, rfl⟩ := h
      refine ⟨.nil _, .nil, fun U hU _ pl w fr a hr hr' val hp lk' _ => ?_⟩
      cases hp; exact .d .nil
  | agg cs =>
    simp only [argG, Option.some.injEq, Prod.mk.injEq] at h
    obtain ⟨rfl, rfl, rfl⟩ := h
    refine ⟨.nil _, .nil, fun U hU _ pl w fr a hr hr' val hp lk' _ => ?_⟩
    cases hp with | agg h1 h2 => exact .agg h1 fun i x hx => (h2 i x hx).mono (him U hU pl w)
  | err b =>
    simp only [argG, Option.some.injEq, Prod.mk.injEq] at h
    obtain ⟨rfl, rfl, rfl⟩ := h
    refine ⟨.nil _, .nil, fun U hU _ pl w fr a hr hr' val hp lk' _ => ?_⟩
    cases hp
    · exact .errN
    · exact .errS _ _
  | ept row =>
    simp only [argG, Option.some.injEq, Prod.mk.injEq] at h
    obtain ⟨rfl, rfl, rfl⟩ := h
    refine ⟨.nil _, .nil, fun U hU _ pl w fr a hr hr' val hp lk' _ => ?_⟩
    cases hp with | ept vs h1 h2 h3 => exact .ept vs (fun hne => (him U hU pl w _ (h1 hne)).1) h2 fun j x hx => (h3 j x hx).mono (him U hU pl w)
  | ptr id off =>
    simp only [argG] at h
    split at h
    · rename_i k hk
      cases h
      refine ⟨.nil _, .nil, fun U hU _ pl w fr a hr hr' val hp lk' _ => ?_⟩
      cases hp
      have h2 := PRep.ptr (w := w) (ok := Imm X pl (lkOf (U ++ ob)) w) (pl := plC σ pl) (lk := lk') k off
      have h3 : (plC σ pl).blk k = pl.blk id := by simp [plC, (hinv id k hk).2]
      rw [h3] at h2; exact h2
    · cases h
  | fn f first caps =>
    simp only [argG] at h
    split at h
    · rename_i a1 b1 h1 h2
      cases h
      refine ⟨.nil _, .nil, fun U hU _ pl w fr a hr hr' val hp lk' _ => ?_⟩
      cases hp
      have h3 := PRep.fn (w := w) (ok := Imm X pl (lkOf (U ++ ob)) w) (pl := plC σ pl) (lk := lk') f a1 b1
      have e1 : a1.map (ptrV (plC σ pl)) = first.map (ptrV pl) := by rw [← invL_ok hσ _ _ h1, List.map_map]; rfl
      have e2 : b1.map (ptrV (plC σ pl)) = caps.map (ptrV pl) := by rw [← invL_ok hσ _ _ h2, List.map_map]; rfl
      rw [e1, e2] at h3
      exact h3
    · cases h
  | own id =>
    simp only [argG] at h
    split at h
    · rename_i k hk
      cases h
      refine ⟨.nil _, .nil, fun U hU _ pl w fr a hr hr' val hp lk' hrw => ?_⟩
      cases hp with
      | own ho =>
        refine .own fun hr2 => ?_
        rw [ho (hrw k id (hinv id k hk).1 hr2)]
        simp [plC, (hinv id k hk).2]
    · split at h
      · rename_i e sz rows hl
        cases h
        have hlo : lkOf ob id = .row e sz rows := by rw [hob id (by simp)]; exact hl
        refine ⟨Frz.cons (.nil _) hlo, (fun p hp => by simp at hp; subst hp; exact ⟨_, _, rfl⟩), fun U hU hin pl w fr a hr hr' val hp lk' _ => ?_⟩
        cases hp with
        | own ho =>
          have hv := ho (by rw [hlo]; rfl)
          have h0 := hr'.ho id
          obtain ⟨sz', rows', h2⟩ := hin (id, Obj.frz sz rows) (by simp)
          have h1 : lkOf (U ++ ob) id = .frz sz rows := by
            rcases hU id with h3 | ⟨e3, sz3, rows3, h3, h4⟩
            · rw [h3, hlo] at h2; cases h2
            · rw [hlo] at h3; cases h3; exact h4
          rw [h1] at h0
          rw [hv]
          exact .d h0.2.1
      · rename_i sz rows hl
        cases h
        have hlo : lkOf ob id = .frz sz rows := by rw [hob id (by simp)]; exact hl
        refine ⟨.nil _, .nil, fun U hU _ pl w fr a hr hr' val hp lk' _ => ?_⟩
        cases hp with
        | own ho =>
          have hv := ho (by rw [hlo]; rfl)
          have h0 := hr.ho id
          rw [hlo] at h0
          rw [hv]
          exact .d (h0.2.1.mono (him U hU pl w))
      · cases h
  | _ => simp [argG] at h

theorem argsG_ok {σ : List (Nat × Nat)} (hσ : sigB σ σ = true) {lk : Nat → Obj} : ∀ (l : List PV) {ks : List Bool} {l' : List PV} {u : Ob} {t : List Nat}, argsK σ lk l ks = some (l', u, t) → (∀ id ∈ t, lkOf ob id = lk id) →
    Frz ob u ∧ AllFrz u ∧ l'.length = l.length ∧ ∀ U : Ob, Frz ob U → (∀ p ∈ u, ∃ sz rows, lkOf (U ++ ob) p.1 = .frz sz rows) → ∀ pl w fr a, Rel X pl fr ob a w → Rel X pl fr (U ++ ob) a w →
      ∀ (f : Nat → Value), (∀ i x, l[i]? = some x → PRep w (Imm X pl (lkOf ob) w) pl (lkOf ob) (f i) x) → ∀ lk' : Nat → Obj, (∀ k id, (k, id) ∈ σ → (lk' k).isRow = true → (lkOf ob id).isRow = true) → ∀ i x, l'[i]? = some x → PRep w (Imm X pl (lkOf (U ++ ob)) w) (plC σ pl) lk' (f i) x
  | [], ks, l', u, t, h, _ => by
    simp only [argsK, Option.some.injEq, Prod.mk.injEq] at h
    obtain ⟨rfl, rfl, rfl⟩ := h
    exact ⟨.nil _, .nil, rfl, fun U hU _ pl w fr a _ _ f _ lk' _ i x hi => by simp at hi⟩
  | x :: l, ks, l', u, t, h, hob => by
    simp only [argsK] at h
    split at h
    · rename_i c u1 t1 hc
      split at h
      · rename_i cs u2 t2 hcs
        simp only [Option.some.injEq, Prod.mk.injEq] at h
        obtain ⟨rfl, rfl, rfl⟩ := h
        obtain ⟨a1, a2, a4⟩ := argG_ok (X := X) hσ hc fun id hid => hob id (by simp [hid])
        obtain ⟨b1, b2, b3, b5⟩ := argsG_ok hσ l hcs fun id hid => hob id (by simp [hid])
        refine ⟨a1.append b1, a2.append b2, by simp [b3], fun U hU hal pl w fr a hr hr' f hf lk' hrw i y hi => ?_⟩
        cases i with
        | zero =>
          simp at hi; subst hi
          exact a4 U hU (fun p hp => hal p (by simp [hp])) pl w fr a hr hr' _ (hf 0 x rfl) lk' hrw
        | succ i => exact b5 U hU (fun p hp => hal p (by simp [hp])) pl w fr a hr hr' (fun i => f (i + 1)) (fun i x hx => hf (i + 1) x (by simpa using hx)) lk' hrw i y (by simpa using hi)
      · cases h
    · cases h

/-- The caller's objects, behind the call. -/
def outU (ρ : List (Nat × Nat)) (O' : Ob) : List (Nat × Nat) → Ob
  | [] => []
  | (k, id) :: r => (id, renO ρ (lkOf O' k)) :: outU ρ O' r

theorem lk_outU (ρ : List (Nat × Nat)) (O' ob : Ob) : ∀ (σ : List (Nat × Nat)) (id : Nat), lkOf (outU ρ O' σ ++ ob) id = match invO σ id with | some k => renO ρ (lkOf O' k) | none => lkOf ob id
  | [], id => rfl
  | (k, id') :: r, id => by
    simp only [outU, List.cons_append, lkOf, look_cons, invO]
    by_cases h : id' = id
    · subst h; simp
    · have : Nat.beq id' id = false := by rw [Bool.eq_false_iff]; intro hh; exact h (Nat.eq_of_beq_eq_true hh)
      rw [if_neg h, this]
      exact lk_outU ρ O' ob r id

def SigG (ρ : List (Nat × Nat)) (lk : Nat → Obj) (O : Ob) : List (Nat × Nat) → Prop
  | [] => True
  | (k, id) :: r => lk id = renO ρ (lkOf O k) ∧ SigG ρ lk O r

theorem SigG_mem {ρ : List (Nat × Nat)} {lk : Nat → Obj} {O : Ob} : ∀ (σ : List (Nat × Nat)), SigG ρ lk O σ → ∀ k id, (k, id) ∈ σ → lk id = renO ρ (lkOf O k)
  | [], _, k, id, h => by cases h
  | (k', id') :: r, h, k, id, hm => by
    rcases List.mem_cons.1 hm with e | hm
    · cases e; exact h.1
    · exact SigG_mem r h.2 k id hm

def FreshG (lk : Nat → Obj) : List (Nat × Nat) → Prop
  | [] => True
  | (_, id) :: r => lk id = .none ∧ Nat.blt id base = true ∧ FreshG lk r

theorem FreshG_mem {lk : Nat → Obj} : ∀ (σ : List (Nat × Nat)), FreshG lk σ → ∀ k id, (k, id) ∈ σ → lk id = .none ∧ id < base
  | [], _, k, id, h => by cases h
  | (k', id') :: r, h, k, id, hm => by
    rcases List.mem_cons.1 hm with e | hm
    · cases e; exact ⟨h.1, by have := h.2.1; rwa [Nat.blt_eq] at this⟩
    · exact FreshG_mem r h.2.2 k id hm

def sndL : List (Nat × Nat) → List Nat
  | [] => []
  | (_, id) :: r => id :: sndL r

theorem sndL_mem : ∀ (σ : List (Nat × Nat)) (k id : Nat), (k, id) ∈ σ → id ∈ sndL σ
  | [], k, id, h => by cases h
  | (k', id') :: r, k, id, h => by
    simp only [sndL, List.mem_cons]
    rcases List.mem_cons.1 h with e | h
    · cases e; exact .inl rfl
    · exact .inr (sndL_mem r k id h)

theorem keys_mem {α : Type} : ∀ (σ : List (Nat × α)) (k : Nat), k ∈ keys σ → ∃ id, (k, id) ∈ σ
  | [], k, h => by cases h
  | (k', id') :: r, k, h => by
    simp only [keys, List.mem_cons] at h
    rcases h with rfl | h
    · exact ⟨id', by simp⟩
    · obtain ⟨id, hid⟩ := keys_mem r k h; exact ⟨id, by simp [hid]⟩

theorem mem_keys {α : Type} : ∀ (σ : List (Nat × α)) (k : Nat) (id : α), (k, id) ∈ σ → k ∈ keys σ
  | [], k, id, h => by cases h
  | (k', id') :: r, k, id, h => by
    simp only [keys, List.mem_cons]
    rcases List.mem_cons.1 h with e | h
    · cases e; exact .inl rfl
    · exact .inr (mem_keys r k id h)

theorem renO_row (ρ : List (Nat × Nat)) (o : Obj) : (renO ρ o).isRow = o.isRow := by cases o <;> rfl
theorem renO_none (ρ : List (Nat × Nat)) (o : Obj) : renO ρ o = .none ↔ o = .none := by cases o <;> simp [renO]

end Go.Pv
