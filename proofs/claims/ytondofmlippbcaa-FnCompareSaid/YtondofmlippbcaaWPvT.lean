import Derived.Test.YtondofmlippbcaaWPvS
set_option linter.unusedVariables false
set_option linter.unusedSimpArgs false
namespace Go.Pv
variable {X : Ctx} {pl : Pl} {fr : Fr} {ob : Ob} {a : Act} {w : World}

/-- In the order of the text. -/
theorem run_wp {all : Array Oper} {Q : Exit → Act → World → Prop} : ∀ (l : List Oper) (i : Nat) {fr : Fr} {ob : Ob} {F : List (PV × Ob × List Nat)} {fr' : Fr} {ob' : Ob}, Run X all l fr ob F fr' ob' → (∀ (k : Nat) (o : Oper), l[k]? = some o → all[i + k]? = some o) → ∀ pl a w, Rel X pl fr ob a w →
    (∀ pl a w, Rel X pl fr' ob' a w → Q .normal a w) → wpOps X.P all Q (List.range' i l.length) a w
  | [], i, fr, ob, F, fr', ob', h, hl, pl, a, w, hr, hq => by
    cases h
    exact hq _ _ _ hr
  | o :: r, i, fr, ob, F, fr', ob', h, hl, pl, a, w, hr, hq => by
    cases h with
    | cons h1 h2 h3 =>
      rw [List.length_cons, List.range'_succ, wpOps_cons]
      refine h1 fr ob (fun _ _ => rfl) (fun _ _ => rfl) pl a w hr i (by simpa using hl 0 o rfl) _ _ fun pl' a' w' hr' => ?_
      exact run_wp r (i + 1) h3 (fun k o hk => by have := hl (k + 1) o (by simpa using hk); rw [show i + 1 + k = i + (k + 1) by omega]; exact this) pl' a' w' (hr'.congr h2 fun _ => rfl) hq

/-- Blocks of entries, laid for the members of a set, one upon the other. -/
def foldD {α : Type} : List (List (Nat × α)) → Nat → (Nat → Bool) → List (Nat × α) → List (Nat × α)
  | [], _, _, acc => acc
  | B :: Bs, i, D, acc => foldD Bs (i + 1) D (if D i then B ++ acc else acc)

theorem look_app {α : Type} (dv : α) (B l : List (Nat × α)) (n : Nat) : look dv (B ++ l) n = if n ∈ keys B then look dv B n else look dv l n := by
  induction B with
  | nil => simp [keys]
  | cons p B ih =>
    obtain ⟨m, v⟩ := p
    simp only [List.cons_append, look_cons, keys, List.mem_cons]
    by_cases h : m = n
    · subst h; simp
    · rw [if_neg h, ih, if_neg h]
      have : ¬ n = m := fun e => h e.symm
      simp [this]

/-- Sets that agree where it matters. -/
theorem look_foldD_congr {α : Type} (dv : α) (n : Nat) : ∀ (Bs : List (List (Nat × α))) (i : Nat) (D D' : Nat → Bool) (acc acc' : List (Nat × α)), look dv acc n = look dv acc' n → (∀ k B, Bs[k]? = some B → n ∈ keys B → D (i + k) = D' (i + k)) →
    look dv (foldD Bs i D acc) n = look dv (foldD Bs i D' acc') n
  | [], i, D, D', acc, acc', h, _ => h
  | B :: Bs, i, D, D', acc, acc', h, hD => by
    simp only [foldD]
    refine look_foldD_congr dv n Bs (i + 1) D D' _ _ ?_ fun k B' hk hn => by have := hD (k + 1) B' (by simpa using hk) hn; rw [show i + 1 + k = i + (k + 1) by omega]; exact this
    by_cases hn : n ∈ keys B
    · have := hD 0 B rfl hn
      simp only [Nat.add_zero] at this
      rw [this]
      split
      · simp only [look_app, if_pos hn]
      · exact h
    · have e : ∀ (b : Bool) (l : List (Nat × α)), look dv (if b then B ++ l else l) n = look dv l n := fun b l => by
        split
        · rw [look_app, if_neg hn]
        · rfl
      rw [e, e, h]

/-- One more member. -/
theorem look_foldD_add {α : Type} (dv : α) (n : Nat) {j : Nat} {Bj : List (Nat × α)} : ∀ (Bs : List (List (Nat × α))) (i : Nat) (D : Nat → Bool) (acc : List (Nat × α)) (k : Nat), Bs[k]? = some Bj → j = i + k → D j = false → (∀ k' B, k < k' → Bs[k']? = some B → D (i + k') = true → n ∈ keys Bj → n ∉ keys B) →
    look dv (foldD Bs i (fun m => D m || m == j) acc) n = look dv (Bj ++ foldD Bs i D acc) n
  | [], i, D, acc, k, hk, _, _, _ => by simp at hk
  | B :: Bs, i, D, acc, k, hk, hj, hDj, h => by
    cases k with
    | zero =>
      simp at hk; subst hk
      simp only [Nat.add_zero] at hj
      subst hj
      simp only [foldD, hDj, Bool.false_or, beq_self_eq_true, if_true]
      -- behind it nothing speaks of n
      have hcg : look dv (foldD Bs (j + 1) (fun m => D m || m == j) (B ++ acc)) n = look dv (foldD Bs (j + 1) D (B ++ acc)) n :=
        look_foldD_congr dv n Bs (j + 1) _ _ _ _ rfl fun k B' hk hn => by
          have : (j + 1 + k == j) = false := by simp; omega
          simp [this]
      rw [hcg, look_app]
      by_cases hn : n ∈ keys B
      · rw [if_pos hn]
        have : look dv (foldD Bs (j + 1) D (B ++ acc)) n = look dv (foldD Bs (j + 1) (fun _ => false) (B ++ acc)) n :=
          look_foldD_congr dv n Bs (j + 1) _ _ _ _ rfl fun k B' hk hnk => by
            cases hd : D (j + 1 + k) with
            | false => rfl
            | true => exact absurd hnk (h (k + 1) B' (by omega) (by simpa using hk) (by rw [← hd]; congr 1; omega) hn)
        rw [this]
        have hfalse : ∀ (Bs : List (List (Nat × α))) (i : Nat) (acc : List (Nat × α)), foldD Bs i (fun _ => false) acc = acc := by
          intro Bs
          induction Bs with
          | nil => intros; rfl
          | cons B Bs ih => intro i acc; simp [foldD, ih]
        rw [hfalse, look_app, if_pos hn]
      · rw [if_neg hn]
        exact look_foldD_congr dv n Bs (j + 1) _ _ _ _ (by rw [look_app, if_neg hn]; simp) fun _ _ _ _ => rfl
    | succ k =>
      simp at hk
      simp only [foldD]
      have hij : (i == j) = false := by simp; omega
      simp only [hij, Bool.or_false]
      exact look_foldD_add dv n Bs (i + 1) D _ k hk (by omega) hDj fun k' B' hlt hB' hD' => h (k' + 1) B' (by omega) (by simpa using hB') (by rw [← hD']; congr 1; omega)

def slotB (all : List Oper) (F : List (PV × Ob × List Nat)) : List (List (Nat × PV)) := (all.zip F).map fun p => match p.1.dst with | some d => [(d, p.2.1)] | none => []
def objB (F : List (PV × Ob × List Nat)) : List (List (Nat × Obj)) := F.map fun p => p.2.1

theorem putF_app (d : Option Nat) (v : PV) (fr : Fr) : putF d v fr = (match d with | some d => [(d, v)] | none => []) ++ fr := by cases d <;> rfl

/-- The states of the run, as sets tell them. -/
theorem Run.states {all : Array Oper} : ∀ (l : List Oper) {fr : Fr} {ob : Ob} {F : List (PV × Ob × List Nat)} {fr' : Fr} {ob' : Ob} (i : Nat), Run X all l fr ob F fr' ob' →
    (∀ (k : Nat) (o : Oper) (v : PV) (u : Ob) (t : List Nat), l[k]? = some o → F[k]? = some (v, u, t) → ∃ frk, (∀ n, look .junk frk n = look .junk (foldD (slotB l F) i (fun m => decide (m < i + k)) fr) n) ∧ Step1 X all o frk (lkOf (foldD (objB F) i (fun m => decide (m < i + k)) ob)) v u t) ∧
    (∀ n, look .junk fr' n = look .junk (foldD (slotB l F) i (fun _ => true) fr) n) ∧ ob' = foldD (objB F) i (fun _ => true) ob
  | [], fr, ob, F, fr', ob', i, h => by
    cases h
    exact ⟨fun k o v u t hk => by simp at hk, fun _ => rfl, rfl⟩
  | o :: r, fr, ob, F, fr', ob', i, h => by
    cases h with
    | @cons _ _ _ fr1 _ _ _ v u t F h1 h2 h3 =>
      obtain ⟨g1, g2, g3⟩ := Run.states r (i + 1) h3
      have hfalse : ∀ {α : Type} (Bs : List (List (Nat × α))) (i m : Nat) (acc : List (Nat × α)), m ≤ i → foldD Bs i (fun k => decide (k < m)) acc = acc := by
        intro α Bs
        induction Bs with
        | nil => intros; rfl
        | cons B Bs ih =>
          intro i m acc hm
          simp only [foldD]
          rw [if_neg (by simp; omega)]
          exact ih (i + 1) m acc (by omega)
      refine ⟨fun k o' v' u' t' hk hF => ?_, fun n => ?_, ?_⟩
      · cases k with
        | zero =>
          simp at hk hF; obtain ⟨rfl, rfl, rfl⟩ := hF; subst hk
          exact ⟨fr, fun n => by rw [hfalse _ _ _ _ (by omega)], by rw [hfalse _ _ _ _ (by omega)]; exact h1⟩
        | succ k =>
          simp at hk hF
          obtain ⟨frk, q1, q2⟩ := g1 k o' v' u' t' hk hF
          refine ⟨frk, fun n => ?_, ?_⟩
          · rw [q1]
            simp only [slotB, List.zip_cons_cons, List.map_cons, foldD]
            rw [if_pos (by simp)]
            rw [show i + 1 + k = i + (k + 1) by omega]
            exact look_foldD_congr _ n _ _ _ _ _ _ (by rw [h2, putF_app]; rfl) fun _ _ _ _ => rfl
          · simp only [objB, List.map_cons, foldD]
            rw [if_pos (by simp)]
            rw [show i + (k + 1) = i + 1 + k by omega]
            exact q2
      · rw [g2]
        simp only [slotB, List.zip_cons_cons, List.map_cons, foldD, if_true]
        exact look_foldD_congr _ n _ _ _ _ _ _ (by rw [h2, putF_app]; rfl) fun _ _ _ _ => rfl
      · rw [g3]; rfl


theorem ancE_ok {prev : List Nat} {i : Nat} : ∀ (es : List Edge), Nat.testBit (ancE prev es) i = true → ∃ e ∈ es, Region.binds .any e = true ∧ (i = e.on ∨ Nat.testBit (prev.getD e.on 0) i = true)
  | [], h => by simp [ancE] at h
  | e :: es, h => by
    simp only [ancE] at h
    split at h
    · rename_i hb
      have h' : (Nat.testBit (Nat.lor (Nat.shiftLeft 1 e.on) (prev.getD e.on 0)) i || Nat.testBit (ancE prev es) i) = true := by
        rw [← Nat.testBit_or]; exact h
      rcases Bool.or_eq_true_iff.1 h' with h1 | h1
      · have h2 : (Nat.testBit (Nat.shiftLeft 1 e.on) i || Nat.testBit (prev.getD e.on 0) i) = true := by rw [← Nat.testBit_or]; exact h1
        refine ⟨e, by simp, hb, ?_⟩
        rcases Bool.or_eq_true_iff.1 h2 with h3 | h3
        · left
          have h4 : Nat.testBit (1 <<< e.on) i = true := h3
          rw [Nat.one_shiftLeft, Nat.testBit_two_pow] at h4
          exact (of_decide_eq_true h4).symm
        · exact .inr h3
      · obtain ⟨e', q1, q2⟩ := ancE_ok es h1
        exact ⟨e', by simp [q1], q2⟩
    · obtain ⟨e', q1, q2⟩ := ancE_ok es h
      exact ⟨e', by simp [q1], q2⟩

theorem ancs_len : ∀ (l : List Oper) (prev : List Nat), (ancs prev l).length = prev.length + l.length
  | [], prev => by simp [ancs]
  | o :: r, prev => by simp [ancs, ancs_len r]; omega

theorem ancs_pre : ∀ (l : List Oper) (prev : List Nat) (k : Nat), k < prev.length → (ancs prev l).getD k 0 = prev.getD k 0
  | [], prev, k, _ => rfl
  | o :: r, prev, k, h => by
    simp only [ancs]
    rw [ancs_pre r _ k (by simp; omega)]
    simp [List.getD_eq_getElem?_getD, List.getElem?_append_left h]

theorem ancs_get {i : Nat} : ∀ (l : List Oper) (prev : List Nat) (k : Nat) (o : Oper), l[k]? = some o → ∃ p, (ancs prev l).getD (prev.length + k) 0 = ancE p o.after.toList ∧ ∀ m, Nat.testBit (p.getD m 0) i = true → m < prev.length + k ∧ p.getD m 0 = (ancs prev l).getD m 0
  | [], prev, k, o, h => by simp at h
  | o' :: r, prev, k, o, h => by
    cases k with
    | zero =>
      simp at h; subst h
      refine ⟨prev, ?_, fun m hm => ?_⟩
      · simp only [ancs, Nat.add_zero]
        rw [ancs_pre r _ prev.length (by simp)]
        simp [List.getD_eq_getElem?_getD]
      · have hlt : m < prev.length := by
          refine Decidable.byContradiction fun hn => ?_
          rw [List.getD_eq_getElem?_getD, List.getElem?_eq_none (by omega)] at hm
          simp at hm
        refine ⟨by omega, ?_⟩
        rw [ancs_pre _ prev m hlt]
    | succ k =>
      simp at h
      obtain ⟨p, h1, h2⟩ := ancs_get r (prev ++ [ancE prev o'.after.toList]) k o h
      have e : (prev ++ [ancE prev o'.after.toList]).length + k = prev.length + (k + 1) := by simp; omega
      rw [e] at h1 h2
      exact ⟨p, h1, h2⟩

def ClosedD (ops : Array Oper) (D : Nat → Bool) : Prop := ∀ j o, D j = true → ops[j]? = some o → ∀ e ∈ o.after, Region.binds .any e = true → D e.on = true

theorem anc_in {ops : Array Oper} {D : Nat → Bool} (hc : ClosedD ops D) {i : Nat} : ∀ (n j : Nat) (o : Oper), j < n → ops[j]? = some o → (∀ e ∈ o.after, Region.binds .any e = true → D e.on = true) → Nat.testBit ((ancs [] ops.toList).getD j 0) i = true → D i = true
  | 0, j, o, h, _, _, _ => by omega
  | n + 1, j, o, h, ho, hr, ht => by
    obtain ⟨p, h1, h2⟩ := ancs_get (i := i) ops.toList [] j o (by simpa using ho)
    simp only [List.length_nil, Nat.zero_add] at h1 h2
    rw [h1] at ht
    obtain ⟨e, q1, q2, q3⟩ := ancE_ok _ ht
    have hDe := hr e (by simpa using q1) q2
    rcases q3 with rfl | q3
    · exact hDe
    · obtain ⟨hlt, he⟩ := h2 _ q3
      rw [he] at q3
      cases ho' : ops[e.on]? with
      | none =>
        rw [List.getD_eq_getElem?_getD, List.getElem?_eq_none (by rw [ancs_len]; simp; simpa using ho')] at q3
        simp at q3
      | some o' => exact anc_in hc n e.on o' (by omega) ho' (hc e.on o' hDe ho') q3

theorem slotsOk_ok {ops : Array Oper} (h : slotsOk ops = true) : (∀ j y, ops[j]? = some y → ∀ e ∈ y.after, Region.binds .any e = true → e.on < j) ∧
    ∀ i j x y, i < j → ops[i]? = some x → ops[j]? = some y → slotClash ops x y = true → Nat.testBit ((ancs [] ops.toList).getD j 0) i = true := by
  unfold slotsOk at h
  simp only [List.all_eq_true, List.mem_range] at h
  have key : ∀ j y, ops[j]? = some y → (y.after.toList.all (fun e => !Region.binds .any e || decide (e.on < j)) && (List.range j).all fun i => match ops[i]? with
      | none => true
      | some x => !slotClash ops x y || Nat.testBit ((ancs [] ops.toList).getD j 0) i) = true := fun j y hy => by
    have := h j (Array.getElem?_eq_some_iff.1 hy).1
    rw [hy] at this
    exact this
  constructor
  · intro j y hy e he hb
    have := key j y hy
    simp only [Bool.and_eq_true, List.all_eq_true] at this
    have := this.1 e (by simpa using he)
    rw [hb] at this
    simpa using this
  · intro i j x y hij hx hy hs
    have := key j y hy
    simp only [Bool.and_eq_true, List.all_eq_true, List.mem_range] at this
    have := this.2 i hij
    rw [hx] at this
    simp only [hs] at this
    simpa using this


def unl (n : Nat) (listed : Array Bool) : Nat := ((List.range n).filter fun i => !listed.getD i true).length

theorem set_getD {listed : Array Bool} {j : Nat} (hj : j < listed.size) (m : Nat) : (listed.setIfInBounds j true).getD m false = (listed.getD m false || m == j) := by
  by_cases h : m = j
  · subst h; simp [hj]
  · have : (m == j) = false := by simpa using h
    rw [this, Bool.or_false]
    simp [Array.getElem?_setIfInBounds, Ne.symm h]

theorem set_getD' {listed : Array Bool} {j : Nat} (hj : j < listed.size) (m : Nat) : (listed.setIfInBounds j true).getD m true = (listed.getD m true || m == j) := by
  by_cases h : m = j
  · subst h; simp [hj]
  · have : (m == j) = false := by simpa using h
    rw [this, Bool.or_false]
    simp [Array.getElem?_setIfInBounds, Ne.symm h]

theorem getD_eq {listed : Array Bool} {m : Nat} (h : m < listed.size) : listed.getD m true = listed.getD m false := by simp [h]

theorem unl_set {n : Nat} {listed : Array Bool} {j : Nat} (hj : j < n) (hs : listed.size = n) (h : listed.getD j true = false) : unl n (listed.setIfInBounds j true) < unl n listed := by
  unfold unl
  have e : (List.range n).filter (fun i => !(listed.setIfInBounds j true).getD i true) = ((List.range n).filter fun i => !listed.getD i true).filter (fun i => !(i == j)) := by
    rw [List.filter_filter]
    refine List.filter_congr fun i _ => ?_
    rw [set_getD' (by omega)]
    cases listed.getD i true <;> cases (i == j) <;> rfl
  rw [e]
  refine List.length_filter_lt_length_iff_exists.2 ⟨j, ?_, by simp⟩
  simp only [List.mem_filter, List.mem_range]
  exact ⟨hj, by rw [h]; rfl⟩

theorem any_ok {ops : Array Oper} {Q : Exit → Act → World → Prop} {fr fr' : Fr} {ob ob' : Ob} {F : List (PV × Ob × List Nat)} (hs : slotsOk ops = true) (hrun : Run X ops ops.toList fr ob F fr' ob')
    (hpair : ∀ k v u t, F[k]? = some (v, u, t) → ∀ k' v' u' t', k' < k → F[k']? = some (v', u', t') → clash t (keys u) t' (keys u') = true → Nat.testBit ((ancs [] ops.toList).getD k 0) k' = true)
    (hQ : ∀ pl a w, Rel X pl fr' ob' a w → Q .normal a w) : ∀ (fuel : Nat) (listed : Array Bool) pl a w, listed.size = ops.size → unl ops.size listed ≤ fuel → ClosedD ops (fun m => listed.getD m false) →
      Rel X pl (foldD (slotB ops.toList F) 0 (fun m => listed.getD m false) fr) (foldD (objB F) 0 (fun m => listed.getD m false) ob) a w → wpAny X.P .any ops Q fuel listed a w := by
  obtain ⟨s1, s2⟩ := slotsOk_ok hs
  obtain ⟨r1, r2, r3⟩ := hrun.states ops.toList 0
  have hFl := hrun.len
  simp only [Array.length_toList] at hFl
  -- all that is there is done
  have fin : ∀ (listed : Array Bool) pl a w, listed.size = ops.size → Region.ready .any ops listed = [] → Rel X pl (foldD (slotB ops.toList F) 0 (fun m => listed.getD m false) fr) (foldD (objB F) 0 (fun m => listed.getD m false) ob) a w → Q .normal a w := by
    intro listed pl a w hsz hr hrel
    have hall : ∀ n j, j < n → j < ops.size → listed.getD j false = true := by
      intro n
      induction n with
      | zero => intro j h; omega
      | succ n ih =>
        intro j hj hjs
        refine Decidable.byContradiction fun hn => ?_
        have hmem : j ∈ Region.ready .any ops listed := mem_ready.2 ⟨by rw [getD_eq (by omega)]; simpa using hn, ops[j], Array.getElem?_eq_getElem hjs, fun e he hb => by
          have := s1 j _ (Array.getElem?_eq_getElem hjs) e he hb
          exact ih e.on (by omega) (by omega)⟩
        rw [hr] at hmem; cases hmem
    refine hQ pl a w (hrel.congr (fun n => ?_) (fun n => ?_))
    · rw [r2]
      exact look_foldD_congr _ n _ _ _ _ _ _ rfl fun k B hk _ => by
        have : k < ops.size := by
          have := (List.getElem?_eq_some_iff.1 hk).1
          simp [slotB] at this; omega
        simp only [Nat.zero_add]
        exact (hall (k + 1) k (by omega) this).symm
    · rw [r3]
      exact look_foldD_congr _ n _ _ _ _ _ _ rfl fun k B hk _ => by
        have : k < ops.size := by
          have := (List.getElem?_eq_some_iff.1 hk).1
          simp [objB] at this; omega
        simp only [Nat.zero_add]
        exact (hall (k + 1) k (by omega) this).symm
  intro fuel
  induction fuel with
  | zero =>
    intro listed pl a w hsz hu hcl hrel
    have hr : Region.ready .any ops listed = [] := by
      refine List.eq_nil_iff_forall_not_mem.2 fun j hj => ?_
      obtain ⟨h1, o, ho, _⟩ := mem_ready.1 hj
      have hjs := (Array.getElem?_eq_some_iff.1 ho).1
      have : j ∈ (List.range ops.size).filter fun i => !listed.getD i true := by
        simp only [List.mem_filter, List.mem_range]
        exact ⟨hjs, by rw [h1]; rfl⟩
      have hz : (List.range ops.size).filter (fun i => !listed.getD i true) = [] := List.eq_nil_of_length_eq_zero (by unfold unl at hu; omega)
      rw [hz] at this; cases this
    exact ⟨hr, fin listed pl a w hsz hr hrel⟩
  | succ fuel ih =>
    intro listed pl a w hsz hu hcl hrel
    refine ⟨fun hr => fin listed pl a w hsz hr hrel, fun j hj => ?_⟩
    obtain ⟨h1, o, ho, hready⟩ := mem_ready.1 hj
    have hjs := (Array.getElem?_eq_some_iff.1 ho).1
    have hDj : listed.getD j false = false := by rw [← getD_eq (by omega)]; exact h1
    obtain ⟨⟨v, u, t⟩, hF⟩ : ∃ p, F[j]? = some p := ⟨F[j], List.getElem?_eq_getElem (by omega)⟩
    obtain ⟨frj, q1, q2⟩ := r1 j o v u t (by simpa using ho) hF
    simp only [Nat.zero_add] at q1 q2
    have hbj : (slotB ops.toList F)[j]? = some (match o.dst with | some d => [(d, v)] | none => []) := by
      have hz : (ops.toList.zip F)[j]? = some (o, (v, u, t)) := by
        rw [List.getElem?_zip_eq_some]; exact ⟨by simpa using ho, hF⟩
      simp only [slotB, List.getElem?_map, hz, Option.map_some]
    have hoj : (objB F)[j]? = some u := by simp only [objB, List.getElem?_map, hF, Option.map_some]
    -- who else writes a slot
    have wr : ∀ (k : Nat) (B : List (Nat × PV)) (n : Nat), (slotB ops.toList F)[k]? = some B → n ∈ keys B → ∃ x : Oper, ops[k]? = some x ∧ x.dst = some n := by
      intro k B n hk hn
      simp only [slotB, List.getElem?_map] at hk
      cases hz : (ops.toList.zip F)[k]? with
      | none => rw [hz] at hk; cases hk
      | some p =>
        obtain ⟨x, y⟩ := p
        rw [hz] at hk
        rw [List.getElem?_zip_eq_some] at hz
        simp only [Option.map_some, Option.some.injEq] at hk
        subst hk
        refine ⟨x, by simpa using hz.1, ?_⟩
        cases hd : x.dst with
        | none => rw [hd] at hn; simp [keys] at hn
        | some d => rw [hd] at hn; simp [keys] at hn; rw [hn]
    have wo : ∀ (k : Nat) (B : List (Nat × Obj)) (n : Nat), (objB F)[k]? = some B → n ∈ keys B → ∃ v' t', F[k]? = some (v', B, t') := by
      intro k B n hk hn
      simp only [objB, List.getElem?_map] at hk
      cases hz : F[k]? with
      | none => rw [hz] at hk; cases hk
      | some p =>
        obtain ⟨v', u', t'⟩ := p
        rw [hz] at hk
        simp only [Option.map_some, Option.some.injEq] at hk
        subst hk; exact ⟨v', t', rfl⟩
    have before : ∀ k, Nat.testBit ((ancs [] ops.toList).getD j 0) k = true → listed.getD k false = true := fun k hk =>
      anc_in hcl (j + 1) j o (by omega) ho hready hk
    have behind : ∀ k, Nat.testBit ((ancs [] ops.toList).getD k 0) j = true → listed.getD k false = false := fun k hk => by
      cases hD : listed.getD k false with
      | false => rfl
      | true =>
        exfalso
        cases hok : ops[k]? with
        | none =>
          rw [List.getD_eq_getElem?_getD, List.getElem?_eq_none (by rw [ancs_len]; simp; simpa using hok)] at hk
          simp at hk
        | some ok =>
          have := anc_in hcl (k + 1) k ok (by omega) hok (hcl k ok hD hok) hk
          rw [hDj] at this; cases this
    refine q2 _ _ (fun s hs' => ?_) (fun id hid => ?_) pl a w hrel j ho _ _ fun pl' a' w' hrel' => ?_
    · rw [q1]
      refine look_foldD_congr _ s _ _ _ _ _ _ rfl fun k B hk hn => ?_
      simp only [Nat.zero_add]
      obtain ⟨x, hx, hxd⟩ := wr k B s hk hn
      rcases Nat.lt_trichotomy k j with hlt | rfl | hgt
      · rw [decide_eq_true hlt]
        refine before k (s2 k j x o hlt hx ho ?_)
        simp [slotClash, hxd, hs']
      · rw [hDj]; simp
      · have : decide (k < j) = false := by simp; omega
        rw [this]
        refine behind k (s2 j k o x hgt ho hx ?_)
        simp [slotClash, hxd, hs']
    · refine look_foldD_congr _ id _ _ _ _ _ _ rfl fun k B hk hn => ?_
      simp only [Nat.zero_add]
      obtain ⟨v', t', hFk⟩ := wo k B id hk hn
      rcases Nat.lt_trichotomy k j with hlt | rfl | hgt
      · rw [decide_eq_true hlt]
        exact before k (hpair j v u t hF k v' B t' hlt hFk ((clash_iff _ _ _ _).2 (.inr (.inr ⟨id, hn, hid⟩))))
      · rw [hDj]; simp
      · have : decide (k < j) = false := by simp; omega
        rw [this]
        exact behind k (hpair k v' B t' hFk j v u t hgt hF ((clash_iff _ _ _ _).2 (.inl ⟨id, hn, hid⟩)))
    · have hset : (fun m => (listed.setIfInBounds j true).getD m false) = fun m => listed.getD m false || m == j := funext fun m => set_getD (by omega) m
      refine ih _ pl' a' w' (by simpa using hsz) (by have := unl_set hjs hsz h1; omega) (fun k ok hk hok e he hb => ?_) ?_
      · have hk : (listed.setIfInBounds j true).getD k false = true := hk
        show (listed.setIfInBounds j true).getD e.on false = true
        rw [set_getD (by omega)] at hk ⊢
        rcases Bool.or_eq_true_iff.1 hk with hk | hk
        · have := hcl k ok hk hok e he hb
          have h2 : listed.getD e.on false = true := this
          rw [h2]; rfl
        · have : k = j := by simpa using hk
          subst this
          rw [ho] at hok; cases hok
          rw [hready e he hb]; rfl
      · rw [hset]
        refine hrel'.congr (fun n => ?_) (fun n => ?_)
        · rw [putF_app]
          refine look_foldD_add (j := j) _ n _ 0 (fun m => listed.getD m false) _ j hbj (by omega) hDj fun k' B hlt hk' hDk hnj hnB => ?_
          simp only [Nat.zero_add] at hDk
          obtain ⟨x, hx, hxd⟩ := wr k' B n hk' hnB
          obtain ⟨x', hx', hxd'⟩ := wr j _ n hbj hnj
          rw [ho] at hx'; cases hx'
          have := behind k' (s2 j k' o x hlt ho hx (by simp [slotClash, hxd, hxd']))
          rw [hDk] at this; cases this
        · refine look_foldD_add (j := j) _ n _ 0 (fun m => listed.getD m false) _ j hoj (by omega) hDj fun k' B hlt hk' hDk hnj hnB => ?_
          simp only [Nat.zero_add] at hDk
          obtain ⟨v', t', hFk⟩ := wo k' B n hk' hnB
          have := behind k' (hpair k' v' B t' hFk j v u t hlt hF ((clash_iff _ _ _ _).2 (.inr (.inl ⟨n, hnB, hnj⟩))))
          rw [hDk] at this; cases this

theorem rep_false (n m : Nat) : (Array.replicate n false).getD m false = false := by
  simp only [Array.getD_eq_getD_getElem?, Array.getElem?_replicate]
  split <;> rfl

theorem region_wp (hX : Fine X) {id : Nat} {ops : Array Oper} {draw : Bool} {Q : QP} (hc : codeOk X.E.nt (.region id ops draw) = true) (h : PWops X ops draw ops.toList 0 [] fr ob (Q .normal)) (hr : Rel X pl fr ob a w) :
    (Code.region id ops draw).wp X.P (Post X Q) a w := by
  simp only [codeOk, Bool.and_eq_true, List.all_eq_true] at hc
  have hd : ∀ o ∈ ops.toList, ∀ d, o.dst = some d → d < X.E.nt := fun o ho d hdd => by
    have := hc.1 o ho
    rw [hdd] at this
    simpa using this
  obtain ⟨F, fr', ob', g1, g2, g3⟩ := PWops_run hX ops draw _ 0 [] fr ob _ hd h
  cases draw with
  | false =>
    refine wp_region ?_
    have := run_wp (Q := Post X Q) ops.toList 0 g1 (fun k o hk => by simpa using hk) pl a w hr fun pl a w hr => ⟨pl, fr', ob', hr, g2⟩
    rw [← List.range_eq_range'] at this
    simpa using this
  | true =>
    have hs : slotsOk ops = true := by simpa using hc.2
    refine wp_region_any hX.fol ?_
    refine any_ok (pl := pl) (Q := Post X Q) hs g1 (fun k v u t hk k' v' u' t' hlt hk' hcl => ?_) (fun pl a w hr => ⟨pl, fr', ob', hr, g2⟩) ops.size _ _ _ (by simp) ?_ (fun j o hj => ?_) ?_
    · have := (g3 rfl k v u t hk).2 k' v' u' t' hlt hk' hcl
      simpa using this
    · unfold unl
      exact Nat.le_trans (List.length_filter_le _ _) (by simp)
    · have hj : (Array.replicate ops.size false).getD j false = true := hj
      rw [rep_false] at hj; cases hj
    · have hfalse : ∀ {α : Type} (Bs : List (List (Nat × α))) (i : Nat) (acc : List (Nat × α)), foldD Bs i (fun m => (Array.replicate ops.size false).getD m false) acc = acc := by
        intro α Bs
        induction Bs with
        | nil => intros; rfl
        | cons B Bs ih =>
          intro i acc
          simp only [foldD]
          rw [if_neg (by rw [rep_false]; simp)]
          exact ih (i + 1) acc
      rw [hfalse, hfalse]
      exact hr.drew

end Go.Pv
