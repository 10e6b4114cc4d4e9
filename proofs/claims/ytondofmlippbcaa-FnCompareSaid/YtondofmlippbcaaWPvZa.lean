import Derived.Test.YtondofmlippbcaaWPvZ
import Derived.Laws.BitsLemmas
set_option linter.unusedVariables false
set_option linter.unusedSimpArgs false
namespace Go.Pv
variable {X : Ctx} {pl : Pl} {fr : Fr} {ob : Ob} {a : Act} {w : World}

/-- A call of a function of data alone. -/
theorem CallG.pure {f : FuncId} {vs vs' : List PV} {dst : Option Nat} {lk : Nat → Obj} {K : PV → Ob → List Nat → Prop} {v : PV} {u : Ob} {t : List Nat} (hargs : argsG [] lk vs = some (vs', u, t)) (hf : FnOk X.P f vs' v)
    (hK : K (renV [] v) u t) : CallG X f vs dst lk K :=
  CallG.gen (τ := []) (σ := []) hargs hf rfl rfl trivial trivial rfl rfl rfl rfl rfl rfl (by
    have : ∀ l : List Nat, meets l [] = false := fun l => by
      cases h : meets l [] with
      | false => rfl
      | true => obtain ⟨x, _, hx⟩ := (meets_iff _ _).1 h; cases hx
    exact this _) rfl rfl hK

/-! What is told of a state at a place where ways meet. -/

/-- A word of a variable that stays what it is. -/
def stayV (ks : List Nat) (v : PV) : Bool := allHas ks (ids v)

/-- A slot's word: as it stands, or as data. -/
def CovV (ks : List Nat) (lk : Nat → Obj) (v v' : PV) : Prop := (stayV ks v = true ∧ v' = v) ∨ convV ks lk v = some v'

def CovF (ks : List Nat) (lk : Nat → Obj) (fr : Fr) : Fr → Prop
  | [] => True
  | (k, v) :: r => CovV ks lk (look .junk fr k) v ∧ CovF ks lk fr r

def CovL (ks : List Nat) (lk : Nat → Obj) : List PV → List PV → Prop
  | [], [] => True
  | x :: l, y :: m => (CovV ks lk x y ∧ cellB y = true) ∧ CovL ks lk l m
  | _, _ => False

def CovObj (ks : List Nat) (lk : Nat → Obj) (o : Obj) : Obj → Prop
  | .box cs' => match o with | .box cs => CovL ks lk cs cs' | _ => False
  | .none => False
  | o' => o = o'

def CovO (ks : List Nat) (lk : Nat → Obj) : Ob → Prop
  | [] => True
  | (k, o) :: r => CovObj ks lk (lk k) o ∧ CovO ks lk r

def nodup : List Nat → Bool
  | [] => true
  | x :: l => match has x l with | true => false | false => nodup l

theorem covF_look {ks : List Nat} {lk : Nat → Obj} {fr : Fr} : ∀ {l : Fr}, CovF ks lk fr l → ∀ n, look .junk l n = .junk ∨ CovV ks lk (look .junk fr n) (look .junk l n)
  | [], _, n => .inl rfl
  | (k, v) :: r, h, n => by
    simp only [look_cons]
    by_cases hk : k = n
    · subst hk; rw [if_pos rfl]; exact .inr h.1
    · rw [if_neg hk]; exact covF_look h.2 n

theorem covO_look {ks : List Nat} {lk : Nat → Obj} : ∀ {l : Ob}, CovO ks lk l → ∀ id, (id ∉ keys l ∧ lkOf l id = .none) ∨ (id ∈ keys l ∧ CovObj ks lk (lk id) (lkOf l id))
  | [], _, id => .inl ⟨by simp [keys], rfl⟩
  | (k, o) :: r, h, id => by
    simp only [lkOf, look_cons, keys, List.mem_cons]
    by_cases hk : k = id
    · subst hk; rw [if_pos rfl]; exact .inr ⟨.inl rfl, h.1⟩
    · rw [if_neg hk]
      rcases covO_look h.2 id with ⟨h1, h2⟩ | ⟨h1, h2⟩
      · exact .inl ⟨fun h => by rcases h with h | h; exact hk h.symm; exact h1 h, h2⟩
      · exact .inr ⟨.inr h1, h2⟩

theorem covL_get {ks : List Nat} {lk : Nat → Obj} : ∀ {l m : List PV}, CovL ks lk l m → m.length = l.length ∧ ∀ (i : Nat) (y : PV), m[i]? = some y → ∃ x, l[i]? = some x ∧ CovV ks lk x y ∧ cellB y = true
  | [], [], _ => ⟨rfl, fun i y h => by simp at h⟩
  | x :: l, y :: m, h => by
    obtain ⟨g1, g2⟩ := covL_get h.2
    refine ⟨by simp [g1], fun i z hi => ?_⟩
    cases i with
    | zero => simp at hi; subst hi; exact ⟨x, rfl, h.1⟩
    | succ i => simpa using g2 i z (by simpa using hi)
  | [], _ :: _, h => h.elim
  | _ :: _, [], h => h.elim

theorem covObj_cases {ks : List Nat} {lk : Nat → Obj} {o o' : Obj} (h : CovObj ks lk o o') : (∃ cs cs', o = .box cs ∧ o' = .box cs' ∧ CovL ks lk cs cs') ∨ (o' = o ∧ o ≠ .none ∧ ∀ cs, o ≠ .box cs) := by
  cases o' with
  | none => exact h.elim
  | gone => have h : o = _ := h; subst h; exact .inr ⟨rfl, (by intro h; cases h), (fun cs h => by cases h)⟩
  | row e sz rows => have h : o = _ := h; subst h; exact .inr ⟨rfl, (by intro h; cases h), (fun cs h => by cases h)⟩
  | frz sz rows => have h : o = _ := h; subst h; exact .inr ⟨rfl, (by intro h; cases h), (fun cs h => by cases h)⟩
  | box cs' =>
    cases o with
    | box cs => exact .inl ⟨cs, cs', rfl, rfl, h⟩
    | _ => exact h.elim

/-- FEWER: slots and objects that are not wanted any more go; rows that go are data from now on. -/
theorem Cover.list {fr' : Fr} {ob' : Ob} (h1 : CovF (keys ob') (lkOf ob) fr fr') (h2 : CovO (keys ob') (lkOf ob) ob') : Cover X fr ob fr' ob' := by
  intro pl a w hr
  have hmb : ∀ id b, mb pl id (lkOf ob' id) = some b → mb pl id (lkOf ob id) = some b := fun id b hb => by
    rcases covO_look h2 id with ⟨_, q⟩ | ⟨_, q⟩
    · rw [q] at hb; cases hb
    · rcases covObj_cases q with ⟨cs, cs', q1, q2, _⟩ | ⟨q, _⟩
      · rw [q2] at hb; rw [q1]; exact hb
      · rw [q] at hb; exact hb
  have hrow : ∀ id, (lkOf ob' id).isRow = true → (lkOf ob id).isRow = true ∧ pl.val id = pl.val id := fun id h => by
    rcases covO_look h2 id with ⟨_, q⟩ | ⟨_, q⟩
    · rw [q] at h; cases h
    · rcases covObj_cases q with ⟨cs, cs', q1, q2, _⟩ | ⟨q, _⟩
      · rw [q2] at h; cases h
      · rw [q] at h; exact ⟨h, rfl⟩
  have him : ∀ b, Imm X pl (lkOf ob) w b → Imm X pl (lkOf ob') w b ∧ w.heap[b]? = w.heap[b]? := fun b hb => by
    refine ⟨?_, rfl⟩
    rcases hb with hb | ⟨g1, g2, g3⟩
    · exact .inl hb
    · exact .inr ⟨g1, g2, fun id hid => g3 id (hmb id b hid)⟩
  have hmem : ∀ id ∈ keys ob', lkOf ob' id ≠ .none := fun id hid => by
    rcases covO_look h2 id with ⟨q, _⟩ | ⟨_, q⟩
    · exact absurd hid q
    · rcases covObj_cases q with ⟨cs, cs', q1, q2, _⟩ | ⟨q, q1, _⟩
      · rw [q2]; intro h; cases h
      · rw [q]; exact q1
  -- a word
  have word : ∀ {x y : PV}, CovV (keys ob') (lkOf ob) x y → ∀ val, PRep w (Imm X pl (lkOf ob) w) pl (lkOf ob) val x → PRep w (Imm X pl (lkOf ob') w) pl (lkOf ob') val y ∧ ∀ id ∈ ids y, lkOf ob' id ≠ .none := by
    intro x y hxy val hp
    have keep : (∀ id ∈ ids x, id ∈ keys ob') → PRep w (Imm X pl (lkOf ob') w) pl (lkOf ob') val x ∧ ∀ id ∈ ids x, lkOf ob' id ≠ .none := fun hids =>
      ⟨hp.mono him (fun _ _ => rfl) (fun id _ h => hrow id h), fun id hid => hmem id (hids id hid)⟩
    rcases hxy with ⟨hs, rfl⟩ | hc
    · exact keep fun id hid => allHas_ok _ hs id hid
    · cases x with
      | d x => simp [convV] at hc; subst hc; exact keep fun id hid => by simp [ids] at hid
      | nil => simp [convV] at hc; subst hc; cases hp; exact ⟨.d .nil, fun id hid => by simp [ids] at hid⟩
      | agg cs => simp [convV] at hc; subst hc; exact keep fun id hid => by simp [ids] at hid
      | err b => simp [convV] at hc; subst hc; exact keep fun id hid => by simp [ids] at hid
      | unit => simp [convV] at hc; subst hc; exact keep fun id hid => by simp [ids] at hid
      | ptr id off =>
        simp only [convV] at hc
        split at hc
        · rename_i hk; cases hc; exact keep fun id' hid => by simp [ids] at hid; subst hid; exact (has_iff _ _).1 hk
        · cases hc
      | fn f l1 l2 =>
        simp only [convV] at hc
        split at hc
        · rename_i hk1 hk2
          cases hc
          exact keep fun id' hid => by
            simp only [ids, List.mem_append] at hid
            rcases hid with hid | hid
            · exact allHas_ok _ hk1 _ hid
            · exact allHas_ok _ hk2 _ hid
        · cases hc
      | own id =>
        simp only [convV] at hc
        split at hc
        · rename_i hk; cases hc; exact keep fun id' hid => by simp [ids] at hid; subst hid; exact (has_iff _ _).1 hk
        · rename_i hk
          have hk := has_false hk
          have hno : lkOf ob' id = .none := by
            rcases covO_look h2 id with ⟨_, q⟩ | ⟨q, _⟩
            · exact q
            · exact absurd q hk
          split at hc
          · rename_i e sz rows hl
            cases hc
            refine ⟨.d ?_, fun id hid => by simp [ids] at hid⟩
            have h0 := hr.ho id
            rw [hl] at h0
            have hv : val = pl.val id := by cases hp with | own hh => exact hh (by rw [hl]; rfl)
            rw [hv]
            refine row_slice h0 _ (fun b hb => (him b hb).1) fun b hb => ?_
            have hm : mb pl id (lkOf ob id) = some b := by rw [hl]; exact hb
            obtain ⟨m1, m2, m3⟩ := hr.mw id b hm
            refine .inr ⟨m1, m3, fun id' hid' => ?_⟩
            have := hr.inj id id' b hm (hmb id' b hid')
            subst this
            rw [hno] at hid'; cases hid'
          · rename_i sz rows hl
            cases hc
            refine ⟨.d ?_, fun id hid => by simp [ids] at hid⟩
            have h0 := hr.ho id
            rw [hl] at h0
            have hv : val = pl.val id := by cases hp with | own hh => exact hh (by rw [hl]; rfl)
            rw [hv]
            exact h0.2.1.mono him
          · cases hc
      | _ => simp [convV] at hc
  refine ⟨pl, hr.nt, hr.df, fun n => ?_, fun n id hid => ?_, fun id cs hcs x hx id' hid' => ?_, fun id => ?_, fun id id' b g1 g2 => hr.inj id id' b (hmb _ _ g1) (hmb _ _ g2), fun id b g => hr.mw id b (hmb _ _ g), hr.keep, hr.ok0, hr.ntb, hr.fixd⟩
  · rcases covF_look h1 n with h | h
    · rw [h]; exact .junk _
    · exact (word h _ (hr.sv n)).1
  · rcases covF_look h1 n with h | h
    · rw [h] at hid; simp [ids] at hid
    · exact (word h _ (hr.sv n)).2 id hid
  · rcases covO_look h2 id with ⟨_, q⟩ | ⟨_, q⟩
    · rw [q] at hcs; cases hcs
    · rcases covObj_cases q with ⟨cs0, cs', q1, q2, q3⟩ | ⟨q, _, q4⟩
      · rw [q2] at hcs; cases hcs
        obtain ⟨g1, g2⟩ := covL_get q3
        obtain ⟨i, hi⟩ := List.mem_iff_getElem?.1 hx
        obtain ⟨x0, hx0, hxy, _⟩ := g2 i x hi
        have h0 := hr.ho id
        rw [q1] at h0
        obtain ⟨c, e, r1, r2, r3⟩ := h0
        exact (word hxy _ (r3 i x0 hx0).1).2 id' hid'
      · rw [q] at hcs; exact absurd hcs (q4 cs)
  · rcases covO_look h2 id with ⟨_, q⟩ | ⟨_, q⟩
    · rw [q]; trivial
    · rcases covObj_cases q with ⟨cs0, cs', q1, q2, q3⟩ | ⟨q, _, q4⟩
      · rw [q2]
        obtain ⟨g1, g2⟩ := covL_get q3
        have h0 := hr.ho id
        rw [q1] at h0
        obtain ⟨c, e, r1, r2, r3⟩ := h0
        refine ⟨c, e, r1, by rw [r2, g1], fun i y hy => ?_⟩
        obtain ⟨x0, hx0, hxy, hcb⟩ := g2 i y hy
        exact ⟨(word hxy _ (r3 i x0 hx0).1).1, hcb⟩
      · rw [q]
        exact (hr.ho id).mono him (fun _ _ => rfl) rfl (fun _ => rfl) fun cs hcs => absurd hcs (q4 cs)

/-! Other names. -/
def renF (ρ : List (Nat × Nat)) : Fr → Fr
  | [] => []
  | (n, v) :: r => (n, renV ρ v) :: renF ρ r

def renOb (ρ : List (Nat × Nat)) : Ob → Ob
  | [] => []
  | (k, o) :: r => (look 0 ρ k, renO ρ o) :: renOb ρ r

theorem look_renF (ρ : List (Nat × Nat)) : ∀ (fr : Fr) (n : Nat), look .junk (renF ρ fr) n = renV ρ (look .junk fr n)
  | [], n => rfl
  | (m, v) :: r, n => by
    simp only [renF, look_cons, look_renF ρ r n]
    split <;> rfl

theorem lk_renOb {ρ : List (Nat × Nat)} (hρ : ∀ k id, (k, id) ∈ ρ → look 0 ρ k = id ∧ invO ρ id = some k) : ∀ (ob : Ob), (∀ k ∈ keys ob, k ∈ keys ρ) → ∀ id, lkOf (renOb ρ ob) id = match invO ρ id with | some k => renO ρ (lkOf ob k) | none => .none
  | [], _, id => by simp only [renOb, lkOf, look]; split <;> rfl
  | (k, o) :: r, h, id => by
    have ih := lk_renOb hρ r (fun k' hk' => h k' (by simp [keys, hk'])) id
    obtain ⟨id0, h0⟩ := keys_mem ρ k (h k (by simp [keys]))
    obtain ⟨h1, h2⟩ := hρ k id0 h0
    simp only [renOb, lkOf, look_cons, h1]
    by_cases hid : id0 = id
    · subst hid; rw [if_pos rfl, h2]; simp
    · rw [if_neg hid]
      have ih : look Obj.none (renOb ρ r) id = _ := ih
      rw [ih]
      cases hi : invO ρ id with
      | none => rfl
      | some k' =>
        have : k ≠ k' := fun e => by
          subst e
          have := (hρ k id (invO_mem ρ id k hi)).1
          rw [h1] at this; exact hid this
        simp only [lkOf, look_cons, this, if_false]

def fixB : List (Nat × Nat) → Bool
  | [] => true
  | (k, id) :: r => match Nat.beq k id, Nat.blt k base, Nat.blt id base with
    | true, _, _ => fixB r
    | false, true, true => fixB r
    | _, _, _ => false

theorem fixB_ok : ∀ {ρ : List (Nat × Nat)}, fixB ρ = true → ∀ k id, (k, id) ∈ ρ → k = id ∨ (k < base ∧ id < base)
  | [], _, k, id, h => by cases h
  | (k', id') :: r, h, k, id, hm => by
    simp only [fixB] at h
    split at h
    · rename_i h1
      rcases List.mem_cons.1 hm with e | hm
      · cases e; exact .inl (Nat.eq_of_beq_eq_true h1)
      · exact fixB_ok h k id hm
    · rename_i h1 h2 h3
      rcases List.mem_cons.1 hm with e | hm
      · cases e; rw [Nat.blt_eq] at h2 h3; exact .inr ⟨h2, h3⟩
      · exact fixB_ok h k id hm
    · cases h

/-- OTHER NAMES for the objects. -/
theorem Cover.ren (ρ : List (Nat × Nat)) (hσ : sigB ρ ρ = true) (hf : fixB ρ = true) (hk : allHas (keys ρ) (keys ob) = true) : Cover X fr ob (renF ρ fr) (renOb ρ ob) := by
  intro pl a w hr
  have hsg := sigB_ok ρ ρ hσ
  have hf := fun k id => fixB_ok hf k id
  have hk := allHas_ok _ hk
  have hlk := lk_renOb hsg ob hk
  let pl2 : Pl := ⟨fun id => match invO ρ id with | some k => pl.blk k | none => pl.blk id, fun id => match invO ρ id with | some k => pl.val k | none => pl.val id⟩
  have hpl : ∀ k id, (k, id) ∈ ρ → pl2.blk id = pl.blk k ∧ pl2.val id = pl.val k := fun k id h => by
    have := (hsg k id h).2
    exact ⟨by simp only [pl2, this], by simp only [pl2, this]⟩
  have hin : ∀ k, lkOf ob k ≠ .none → (k, look 0 ρ k) ∈ ρ := fun k h => by
    obtain ⟨id, hid⟩ := keys_mem ρ k (hk k (keys_of_look h))
    rw [(hsg k id hid).1]; exact hid
  have hlk2 : ∀ k id, (k, id) ∈ ρ → lkOf (renOb ρ ob) id = renO ρ (lkOf ob k) := fun k id h => by rw [hlk, (hsg k id h).2]
  have hmbr : ∀ (k id : Nat) (o : Obj), pl2.blk id = pl.blk k → pl2.val id = pl.val k → mb pl2 id (renO ρ o) = mb pl k o := fun k id o h1 h2 => by
    cases o <;> simp only [renO, mb, h1, h2]
  have hmb : ∀ id b, mb pl2 id (lkOf (renOb ρ ob) id) = some b → ∃ k, (k, id) ∈ ρ ∧ mb pl k (lkOf ob k) = some b := fun id b hb => by
    rw [hlk] at hb
    cases hi : invO ρ id with
    | none => rw [hi] at hb; cases hb
    | some k =>
      rw [hi] at hb
      have hm := invO_mem ρ id k hi
      obtain ⟨q1, q2⟩ := hpl k id hm
      simp only at hb
      rw [hmbr k id _ q1 q2] at hb
      exact ⟨k, hm, hb⟩
  have hmb' : ∀ k b, mb pl k (lkOf ob k) = some b → mb pl2 (look 0 ρ k) (lkOf (renOb ρ ob) (look 0 ρ k)) = some b := fun k b hb => by
    have hm := hin k fun h => by rw [h] at hb; cases hb
    obtain ⟨q1, q2⟩ := hpl k _ hm
    rw [hlk2 k _ hm, hmbr k _ _ q1 q2]; exact hb
  have him : ∀ b, Imm X pl (lkOf ob) w b → Imm X pl2 (lkOf (renOb ρ ob)) w b ∧ w.heap[b]? = w.heap[b]? := fun b hb => by
    refine ⟨?_, rfl⟩
    rcases hb with hb | ⟨g1, g2, g3⟩
    · exact .inl hb
    · exact .inr ⟨g1, g2, fun id hid => by obtain ⟨k, _, h⟩ := hmb id b hid; exact g3 k h⟩
  have word : ∀ (x : PV) (val : Value), (∀ k ∈ ids x, lkOf ob k ≠ .none) → PRep w (Imm X pl (lkOf ob) w) pl (lkOf ob) val x → PRep w (Imm X pl2 (lkOf (renOb ρ ob)) w) pl2 (lkOf (renOb ρ ob)) val (renV ρ x) := fun x val hx hp => by
    have h1 := PRep.mono (pl' := pl) (lk' := lkOf ob) him (fun _ _ => rfl) (fun id _ hr => ⟨hr, rfl⟩) hp
    refine PRep.ren h1 (fun k hk => (hpl k _ (hin k (hx k hk))).1) (fun k hk hrw => ?_)
    have hm := hin k (hx k hk)
    rw [hlk2 k _ hm, renO_row] at hrw
    exact ⟨hrw, (hpl k _ hm).2⟩
  have closed : ∀ (x : PV), (∀ k ∈ ids x, lkOf ob k ≠ .none) → ∀ id ∈ ids (renV ρ x), lkOf (renOb ρ ob) id ≠ .none := fun x hx id hid => by
    obtain ⟨k, hk, rfl⟩ := ids_ren ρ _ x (Nat.le_refl _) id hid
    rw [hlk2 k _ (hin k (hx k hk))]
    exact fun h => hx k hk ((renO_none ρ _).1 h)
  refine ⟨pl2, hr.nt, hr.df, fun n => ?_, fun n id hid => ?_, fun id cs hcs x hx id' hid' => ?_, fun id => ?_, fun id id' b g1 g2 => ?_, fun id b g => ?_, hr.keep, hr.ok0, hr.ntb, fun id hid => ?_⟩
  · rw [look_renF]; exact word _ _ (hr.cl n) (hr.sv n)
  · rw [look_renF] at hid; exact closed _ (hr.cl n) id hid
  · rw [hlk] at hcs
    cases hi : invO ρ id with
    | none => rw [hi] at hcs; cases hcs
    | some k =>
      rw [hi] at hcs
      simp only at hcs
      cases ho : lkOf ob k with
      | box cs0 =>
        rw [ho] at hcs
        simp only [renO, Obj.box.injEq] at hcs
        subst hcs
        rw [renL_eq] at hx
        obtain ⟨y, hy, rfl⟩ := List.mem_map.1 hx
        exact closed y (hr.clb k cs0 ho y hy) id' hid'
      | _ => rw [ho] at hcs; simp [renO] at hcs
  · rw [hlk]
    cases hi : invO ρ id with
    | none => trivial
    | some k =>
      have hm := invO_mem ρ id k hi
      obtain ⟨q1, q2⟩ := hpl k id hm
      have h0 := hr.ho k
      simp only
      cases ho : lkOf ob k with
      | none => trivial
      | gone => trivial
      | box cs =>
        rw [ho] at h0
        obtain ⟨c, e, r1, r2, r3⟩ := h0
        simp only [renO]
        refine ⟨c, e, by rw [q1]; exact r1, by rw [renL_eq, List.length_map]; exact r2, fun i x hx => ?_⟩
        rw [renL_eq, List.getElem?_map] at hx
        cases hx2 : cs[i]? with
        | none => rw [hx2] at hx; cases hx
        | some y =>
          rw [hx2] at hx; cases hx
          obtain ⟨s1, s2⟩ := r3 i y hx2
          exact ⟨word y _ (hr.clb k cs ho y (List.mem_of_getElem? hx2)) s1, by rw [cellB_ren]; exact s2⟩
      | row e sz rows =>
        rw [ho] at h0
        simp only [renO]
        obtain ⟨xs, r1, r2, r3⟩ := h0
        exact ⟨xs, by rw [q2]; exact r1, r2, fun i r hi j x hx => (r3 i r hi j x hx).mono him⟩
      | frz sz rows =>
        rw [ho] at h0
        simp only [renO]
        exact ⟨h0.1, by rw [q2]; exact h0.2.1.mono him, by rw [q2]; exact h0.2.2⟩
  · obtain ⟨k, m1, h1⟩ := hmb id b g1
    obtain ⟨k', m2, h2⟩ := hmb id' b g2
    have := hr.inj k k' b h1 h2
    subst this
    rw [← (hsg k id m1).1, ← (hsg k id' m2).1]
  · obtain ⟨k, m1, h1⟩ := hmb id b g
    exact hr.mw k b h1
  · have : invO ρ id = none ∨ invO ρ id = some id := by
      cases hi : invO ρ id with
      | none => exact .inl rfl
      | some k =>
        have hm := invO_mem ρ id k hi
        rcases hf k id hm with h | ⟨_, h⟩
        · rw [h]; exact .inr rfl
        · omega
    have hfx := hr.fixd id hid
    rcases this with h | h
    · exact ⟨by simp only [pl2, h]; exact hfx.1, by simp only [pl2, h]; exact hfx.2⟩
    · exact ⟨by simp only [pl2, h]; exact hfx.1, by simp only [pl2, h]; exact hfx.2⟩

/-- A slot that holds no slice yet: an empty row of one's own. -/
theorem Cover.nilOwn (s d e sz : Nat) (hs : look .junk fr s = .nil) (hn : lkOf ob d = .none) (hd : Nat.blt d base = true) : Cover X fr ob ((s, .own d) :: fr) ((d, .row e sz []) :: ob) := by
  intro pl a w hr
  rw [Nat.blt_eq] at hd
  have hlk : ∀ id, id ≠ d → lkOf ((d, Obj.row e sz []) :: ob) id = lkOf ob id := fun id h => by rw [lk_cons, if_neg (fun e => h e.symm)]
  have hlkd : lkOf ((d, Obj.row e sz []) :: ob) d = .row e sz [] := by rw [lk_cons, if_pos rfl]
  generalize hpl2 : pl.setV d (.slice none 0 0) = pl2
  have hv : ∀ id, id ≠ d → pl2.val id = pl.val id := fun id h => by rw [← hpl2]; simp [Pl.setV, h]
  have hvd : pl2.val d = .slice none 0 0 := by rw [← hpl2]; simp [Pl.setV]
  have hbk : ∀ id, pl2.blk id = pl.blk id := fun id => by rw [← hpl2]; rfl
  have hne : ∀ id, lkOf ob id ≠ .none → id ≠ d := fun id h e => by subst e; exact h hn
  have hmb : ∀ id b, mb pl2 id (lkOf ((d, Obj.row e sz []) :: ob) id) = some b → mb pl id (lkOf ob id) = some b := fun id b hb => by
    by_cases h : id = d
    · subst h; rw [hlkd] at hb; simp [mb, hvd, Value.ownBlock] at hb
    · rw [hlk id h, mb_congr (hbk id) (hv id h)] at hb; exact hb
  have him : ∀ b, Imm X pl (lkOf ob) w b → Imm X pl2 (lkOf ((d, Obj.row e sz []) :: ob)) w b ∧ w.heap[b]? = w.heap[b]? := fun b hb => by
    refine ⟨?_, rfl⟩
    rcases hb with hb | ⟨g1, g2, g3⟩
    · exact .inl hb
    · exact .inr ⟨g1, g2, fun id hid => g3 id (hmb id b hid)⟩
  have word : ∀ (x : PV) (val : Value), (∀ k ∈ ids x, lkOf ob k ≠ .none) → PRep w (Imm X pl (lkOf ob) w) pl (lkOf ob) val x → PRep w (Imm X pl2 (lkOf ((d, Obj.row e sz []) :: ob)) w) pl2 (lkOf ((d, Obj.row e sz []) :: ob)) val x := fun x val hx hp =>
    hp.mono him (fun id _ => hbk id) fun id hid h => by
      have := hne id (hx id hid)
      rw [hlk id this] at h
      exact ⟨h, hv id this⟩
  have closed : ∀ id, lkOf ob id ≠ .none → lkOf ((d, Obj.row e sz []) :: ob) id ≠ .none := fun id h => by rw [hlk id (hne id h)]; exact h
  refine ⟨pl2, hr.nt, hr.df, fun n => ?_, fun n id hid => ?_, fun id cs hcs x hx id' hid' => ?_, fun id => ?_, fun id id' b g1 g2 => hr.inj id id' b (hmb _ _ g1) (hmb _ _ g2), fun id b g => hr.mw id b (hmb _ _ g), hr.keep, hr.ok0, hr.ntb, fun id hid => ?_⟩
  · simp only [look_cons]
    by_cases h : s = n
    · subst h
      rw [if_pos rfl]
      have := hr.sv s
      rw [hs] at this
      generalize a.tmps.getD s undef = v at this
      cases this
      exact .own fun _ => hvd.symm
    · rw [if_neg h]; exact word _ _ (hr.cl n) (hr.sv n)
  · simp only [look_cons] at hid
    by_cases h : s = n
    · subst h
      rw [if_pos rfl] at hid
      simp [ids] at hid; subst hid
      rw [hlkd]; intro h; cases h
    · rw [if_neg h] at hid; exact closed id (hr.cl n id hid)
  · by_cases h : id = d
    · subst h; rw [hlkd] at hcs; cases hcs
    · rw [hlk id h] at hcs; exact closed id' (hr.clb id cs hcs x hx id' hid')
  · by_cases h : id = d
    · subst h
      rw [hlkd]
      exact ⟨[], ⟨by simp, .inl ⟨hvd, rfl⟩⟩, (fun r h => by cases h), (fun i r h => by simp at h)⟩
    · rw [hlk id h]
      cases ho : lkOf ob id with
      | none => trivial
      | _ =>
        rw [← ho]
        refine (hr.ho id).mono him (fun _ _ => rfl) (hbk id) (fun _ => hv id h) fun cs hcs x hx id' hid' => ⟨hbk id', fun hrw => ?_⟩
        have := hne id' (hr.clb id cs hcs x hx id' hid')
        rw [hlk id' this] at hrw
        exact ⟨hrw, hv id' this⟩
  · have hfx := hr.fixd id hid
    have : id ≠ d := by omega
    exact ⟨by rw [hbk]; exact hfx.1, by rw [hv id this]; exact hfx.2⟩

end Go.Pv
