import Derived.Test.YtondofmlippbcaaWPvR
import Derived.Tactics
set_option linter.unusedVariables false
set_option linter.unusedSimpArgs false
namespace Go.Pv
variable {X : Ctx} {pl : Pl} {fr : Fr} {ob : Ob} {a : Act} {w : World}

theorem look_ext {α : Type} {d : α} {l l' : List (Nat × α)} (h : ∀ n, look d l n = look d l' n) : look d l = look d l' := funext h

theorem Rel.congr {fr' : Fr} {ob' : Ob} (h : Rel X pl fr ob a w) (hf : ∀ n, look .junk fr' n = look .junk fr n) (ho : ∀ n, lkOf ob' n = lkOf ob n) : Rel X pl fr' ob' a w := by
  have e1 := look_ext hf
  have e2 : lkOf ob' = lkOf ob := look_ext ho
  refine ⟨h.nt, h.df, ?_, ?_, ?_, ?_, ?_, ?_, h.keep, h.ok0, h.ntb, h.fixd⟩
  · rw [e1, e2]; exact h.sv
  · rw [e1, e2]; exact h.cl
  · rw [e2]; exact h.clb
  · rw [e2]; exact h.ho
  · rw [e2]; exact h.inj
  · rw [e2]; exact h.mw

theorem Rel.drew (h : Rel X pl fr ob a w) : Rel X pl fr ob a { w with drawn := w.drawn + 1 } := by
  have := Rel.next (u := []) (pl' := pl) (w' := { w with drawn := w.drawn + 1 }) (d := none) (v := .unit) (val := undef) h rfl rfl rfl (Nat.le_refl _) (fun _ _ _ => rfl) (fun _ _ => rfl) (fun id _ hr => ⟨hr, rfl⟩) (fun id b hb => .inl ⟨id, hb⟩) h.inj (fun id hn => hn)
    (fun _ id => .inl ⟨rfl, fun _ _ => rfl⟩) (fun _ => .unit) (fun id hid => by simp [ids] at hid) (fun d' hd => by cases hd)
  exact this

/-- One operation, wherever what it looks at is as it was. -/
def Step1 (X : Ctx) (all : Array Oper) (o : Oper) (fr : Fr) (lk : Nat → Obj) (v : PV) (u : Ob) (t : List Nat) : Prop :=
  ∀ fr' ob', (∀ s ∈ o.looksAt all, look .junk fr' s = look .junk fr s) → (∀ id ∈ t, lkOf ob' id = lk id) → ∀ pl a w, Rel X pl fr' ob' a w → ∀ i, all[i]? = some o → ∀ (K : Act → World → Prop) (Q : Exit → Act → World → Prop),
    (∀ pl' a' w', Rel X pl' (putF o.dst v fr') (u ++ ob') a' w' → K a' w') → wpOp X.P all Q i K a w

theorem opV_congr {fr fr' : Fr} {x : Operand} (h : ∀ s, x = .tmp s → look .junk fr' s = look .junk fr s) : opV fr' x = opV fr x := by
  cases x <;> simp [opV]
  exact h _ rfl

theorem opnds_congr {all : Array Oper} {o : Oper} {fr fr' : Fr} (h : ∀ s ∈ o.looksAt all, look .junk fr' s = look .junk fr s) {x : Operand} (hx : x ∈ o.op.operands.toList) : opV fr' x = opV fr x :=
  opV_congr fun s hs => h s (List.mem_append_left _ (List.mem_filterMap.2 ⟨x, hx, by subst hs; rfl⟩))

theorem ptrPs_eq (l : List Nat) (r : List PV) : ptrPs l r = l.map (fun id => PV.ptr id 0) ++ r := by
  induction l with
  | nil => rfl
  | cons x l ih => simp [ptrPs, ih]

theorem appP_eq (l r : List PV) : appP l r = l ++ r := by
  induction l with
  | nil => rfl
  | cons x l ih => simp [appP, ih]

theorem run_callFunc_enter {P : Program} {f : FuncId} {fn : Func} {c : Code} (hf : P.funcs[f]? = some fn) (hname : (fn.name == "runtime.NumGoroutine") = false) (hb : fn.body = some c) (args : Array Value) (w : World) :
    (callFunc f args).run P w = .ok (.enter f args) w := by
  have h1 : fn.name ≠ "runtime.NumGoroutine" := by simpa using hname
  simp [callFunc, hf, h1, hb]

theorem PWop_ok (hX : Fine X) (all : Array Oper) {o : Oper} {K : PV → Ob → List Nat → Prop} (hd : ∀ d, o.dst = some d → d < X.E.nt) (h : PWop X o fr ob K) :
    ∃ v u t, K v u t ∧ ∀ fr' ob', (∀ s ∈ o.looksAt all, look .junk fr' s = look .junk fr s) → (∀ id ∈ t, lkOf ob' id = lkOf ob id) → OpOk X o fr' ob' v u := by
  have core : ∀ op, o.op = op → (opnds fr (opIns op) fun ins => evCore X.E op o.dst ins (lkOf ob) K) → ∃ v u t, K v u t ∧ ∀ fr' ob', (∀ s ∈ o.looksAt all, look .junk fr' s = look .junk fr s) → (∀ id ∈ t, lkOf ob' id = lkOf ob id) → OpOk X o fr' ob' v u := by
    intro op hop h
    rw [opnds_eq] at h
    have hins := opIns_ok h
    obtain ⟨v, u, t, hK, hc⟩ := core_ok hX.tok op hd h
    refine ⟨v, u, t, hK, fun fr' ob' hs ht => hc o fr' ob' hop rfl ?_ ht⟩
    rw [hins]
    refine List.map_congr_left fun x hx => opnds_congr hs ?_
    rw [hop, hins]; exact hx
  unfold PWop at h
  split at h
  · rename_i c hop
    split at h
    · rename_i f hcal
      rw [opnd_eq] at h
      split at h
      · rename_i fi first caps hf
        rw [opnds_eq] at h
        obtain ⟨v, u, t, hK, hc⟩ := h.out hX hd
        refine ⟨v, u, t, hK, fun fr' ob' hs ht pl a w hr K' Q hK' => ?_⟩
        have hops : o.op.operands.toList = f :: c.args.toList := by rw [hop]; simp [Op.operands, Call.operands, hcal]
        have hfv : opV fr' f = .fn fi first caps := by rw [opnds_congr hs (by rw [hops]; simp), hf]
        have hargs : c.args.toList.map (opV fr') = c.args.toList.map (opV fr) := List.map_congr_left fun x hx => opnds_congr hs (by rw [hops]; simp [hx])
        have hrf := hr.op f
        rw [hfv] at hrf
        have hcf := hr.opIds f
        rw [hfv] at hcf
        have hev : a.eval f = .func (.func fi) (first.map (ptrV pl)).toArray (caps.map (ptrV pl)).toArray := by
          generalize hg : a.eval f = y at hrf
          cases hrf; rfl
        rw [ptrPs_eq, ptrPs_eq, appP_eq, List.append_nil] at hc
        obtain ⟨⟨fn, cd, h1, h2, h3⟩, hcalls⟩ := hc fr' ob' pl a w ((first.map (ptrV pl)).toArray ++ c.args.map a.eval ++ (caps.map (ptrV pl)).toArray) hr ht (by simp [Nat.add_assoc]) (fun i x hx => by
          have hptr : ∀ (l : List Nat) (k : Nat) (y : PV), (l.map fun id => PV.ptr id 0)[k]? = some y → ∃ id, l[k]? = some id ∧ y = .ptr id 0 := fun l k y h => by
            rw [List.getElem?_map] at h
            cases hl : l[k]? with
            | none => rw [hl] at h; cases h
            | some id => rw [hl] at h; simp at h; exact ⟨id, rfl, h.symm⟩
          have hgd : ∀ (v : Array Value) (k : Nat) (y : Value), v.toList[k]? = some y → v.getD k undef = y := fun v k y h => by
            rw [Array.getElem?_toList] at h; simp [h]
          have hl : ((first.map (ptrV pl)).toArray ++ c.args.map a.eval ++ (caps.map (ptrV pl)).toArray).toList = first.map (ptrV pl) ++ (c.args.toList.map a.eval ++ caps.map (ptrV pl)) := by simp
          rw [List.getElem?_append] at hx
          split at hx
          · rename_i hlt
            obtain ⟨id, h1, rfl⟩ := hptr _ _ _ hx
            have : ((first.map (ptrV pl)).toArray ++ c.args.map a.eval ++ (caps.map (ptrV pl)).toArray).getD i undef = ptrV pl id := hgd _ _ _ (by
              rw [hl, List.getElem?_append_left (by simpa using hlt), List.getElem?_map, h1]; rfl)
            rw [this]; exact .ptr id 0
          · rename_i hlt
            have hlt : first.length ≤ i := by simpa using hlt
            simp only [List.length_map] at hx
            rw [List.getElem?_append] at hx
            split at hx
            · rename_i hlt2
              rw [List.getElem?_map] at hx
              cases hxx : c.args.toList[i - first.length]? with
              | none => rw [hxx] at hx; cases hx
              | some y =>
                rw [hxx] at hx; simp at hx
                have hgo : ((first.map (ptrV pl)).toArray ++ c.args.map a.eval ++ (caps.map (ptrV pl)).toArray).getD i undef = a.eval y := hgd _ _ _ (by
                  rw [hl, List.getElem?_append_right (by simpa using hlt), List.getElem?_append_left (by simpa using hlt2)]
                  simp only [List.length_map]
                  rw [List.getElem?_map, hxx]; rfl)
                rw [hgo, ← hx, ← opnds_congr hs (by rw [hops]; exact List.mem_cons_of_mem _ (List.mem_of_getElem? hxx))]
                exact hr.op y
            · rename_i hlt2
              have hlt2 : c.args.toList.length ≤ i - first.length := by simpa using hlt2
              obtain ⟨id, h1, rfl⟩ := hptr _ _ _ hx
              have : ((first.map (ptrV pl)).toArray ++ c.args.map a.eval ++ (caps.map (ptrV pl)).toArray).getD i undef = ptrV pl id := hgd _ _ _ (by
                rw [hl, List.getElem?_append_right (by simpa using hlt), List.getElem?_append_right (by simpa using hlt2)]
                simp only [List.length_map] at h1 ⊢
                rw [List.getElem?_map, h1]; rfl)
              rw [this]; exact .ptr id 0) (fun x hx id hid => by
          rcases List.mem_append.1 hx with hx | hx
          · obtain ⟨k, hk, rfl⟩ := List.mem_map.1 hx
            exact hcf id (by simp [ids] at hid ⊢; subst hid; exact .inl hk)
          · rcases List.mem_append.1 hx with hx | hx
            · obtain ⟨y, hy, rfl⟩ := List.mem_map.1 hx
              rw [← opnds_congr hs (by rw [hops]; exact List.mem_cons_of_mem _ hy)] at hid
              exact hr.opIds y id hid
            · obtain ⟨k, hk, rfl⟩ := List.mem_map.1 hx
              exact hcf id (by simp [ids] at hid ⊢; subst hid; exact .inr hk))
        unfold Oper.wp
        have hex : (execOp a.eval o).run X.P w = .ok (.enter fi ((first.map (ptrV pl)).toArray ++ c.args.map a.eval ++ (caps.map (ptrV pl)).toArray)) w := by
          unfold execOp; rw [hop]
          simp only [hcal, resolve, hev, Deferred.ofValue, invoke, Sem.run_bind, Sem.run_pure, Result.andThen_ok]
          exact run_callFunc_enter h1 h2 h3 _ w
        rw [hex, Oper.upon_enter]
        refine Calls.mono hcalls fun e w' he => ?_
        obtain ⟨val, pl', rfl, hrel⟩ := he
        exact hK' _ _ _ hrel
      · exact h.elim
    · rename_i hcal
      exact core (.call c) hop h
  · rename_i op hop
    exact core _ rfl h


theorem yielded_bool {all : Array Oper} {j d : Nat} {b : Bool} (hd : (all[j]?).bind (·.dst) = some d) (h : Rel X pl fr ob a w) (hl : look .junk fr d = .d (.bool b)) : yielded all a.tmps j = some b := by
  have hp := h.sv d
  rw [hl] at hp
  have hv : a.tmps.getD d undef = .bool b := by
    generalize a.tmps.getD d undef = v at hp
    cases hp with | d hp => cases hp; rfl
  unfold yielded
  rw [hd]
  simp only [Option.bind_some]
  cases ht : a.tmps[d]? with
  | none => rw [Array.getD_eq_getD_getElem?, ht] at hv; cases hv
  | some v => rw [Array.getD_eq_getD_getElem?, ht] at hv; simp at hv; subst hv; rfl

theorem yielded_unit {all : Array Oper} {j d : Nat} (hd : (all[j]?).bind (·.dst) = some d) (h : Rel X pl fr ob a w) (hl : look .junk fr d = .unit) : yielded all a.tmps j = none := by
  have hp := h.sv d
  rw [hl] at hp
  have hv : a.tmps.getD d undef = undef := by
    generalize a.tmps.getD d undef = v at hp
    cases hp; rfl
  unfold yielded
  rw [hd]
  simp only [Option.bind_some]
  cases ht : a.tmps[d]? with
  | none => rfl
  | some v => rw [Array.getD_eq_getD_getElem?, ht] at hv; simp at hv; subst hv; rfl

theorem Rel.undef (h : Rel X pl fr ob a w) {d : Option Nat} (hd : ∀ d', d = some d' → d' < X.E.nt) : Rel X pl (putF d .unit fr) ob (a.put d undef) w :=
  h.same hd .unit fun id hid => by simp [ids] at hid

/-- What is known of a guard's slot is put there: the same slots. -/
theorem look_put_same {fr : Fr} {d : Nat} {v : PV} (h : look .junk fr d = v) (n : Nat) : look .junk ((d, v) :: fr) n = look .junk fr n := by
  rw [look_cons]
  split
  · rename_i e; subst e; exact h.symm
  · rfl

theorem guarded_ok (hX : Fine X) (all : Array Oper) {o : Oper} {K : Fr → PV → Ob → List Nat → Prop} {B : Fr → Prop} (hd : ∀ d, o.dst = some d → d < X.E.nt) (h : guarded all o fr (fun fr => PWop X o fr ob (K fr)) B) :
    ∃ fr1 v u t, (∀ n, look .junk fr1 n = look .junk fr n) ∧ (K fr1 v u t ∨ (v = .unit ∧ u = [] ∧ t = [] ∧ B fr1)) ∧ Step1 X all o fr (lkOf ob) v u t := by
  -- it is carried out
  have yes : ∀ fr1, (∀ n, look .junk fr1 n = look .junk fr n) → PWop X o fr1 ob (K fr1) → (∀ fr' ob', (∀ s ∈ o.looksAt all, look .junk fr' s = look .junk fr s) → ∀ pl a w, Rel X pl fr' ob' a w → Region.wanted o (yielded all a.tmps) = true) →
      ∃ fr1 v u t, (∀ n, look .junk fr1 n = look .junk fr n) ∧ (K fr1 v u t ∨ (v = .unit ∧ u = [] ∧ t = [] ∧ B fr1)) ∧ Step1 X all o fr (lkOf ob) v u t := by
    intro fr1 h1 h2 hw
    obtain ⟨v, u, t, hK, hok⟩ := PWop_ok hX all hd h2
    refine ⟨fr1, v, u, t, h1, .inl hK, fun fr' ob' hs ht pl a w hr i hi K' Q hK' => ?_⟩
    unfold wpOp
    rw [hi]
    simp only [hw fr' ob' hs pl a w hr, if_true]
    exact .inl (hok fr' ob' (fun s hs' => by rw [hs s hs', h1]) ht pl a w hr K' Q hK')
  -- it is not
  have no : ∀ fr1, (∀ n, look .junk fr1 n = look .junk fr n) → B fr1 → (∀ fr' ob', (∀ s ∈ o.looksAt all, look .junk fr' s = look .junk fr s) → ∀ pl a w, Rel X pl fr' ob' a w → Region.wanted o (yielded all a.tmps) = false) →
      ∃ fr1 v u t, (∀ n, look .junk fr1 n = look .junk fr n) ∧ (K fr1 v u t ∨ (v = .unit ∧ u = [] ∧ t = [] ∧ B fr1)) ∧ Step1 X all o fr (lkOf ob) v u t := by
    intro fr1 h1 h2 hw
    refine ⟨fr1, .unit, [], [], h1, .inr ⟨rfl, rfl, rfl, h2⟩, fun fr' ob' hs ht pl a w hr i hi K' Q hK' => ?_⟩
    unfold wpOp
    rw [hi]
    simp only [hw fr' ob' hs pl a w hr, Bool.false_eq_true, if_false]
    exact hK' pl _ _ (hr.undef hd)
  unfold guarded at h
  split at h
  · rename_i hg
    exact yes fr (fun _ => rfl) h fun fr' ob' hs pl a w hr => by simp [Region.wanted, hg]
  · rename_i j want hg
    split at h
    · rename_i d hdd
      have hmem : d ∈ o.looksAt all := by
        unfold Oper.looksAt
        rw [hg]
        simp [hdd]
      split at h
      · rename_i b hb
        have wan : ∀ fr' ob', (∀ s ∈ o.looksAt all, look .junk fr' s = look .junk fr s) → ∀ pl a w, Rel X pl fr' ob' a w → Region.wanted o (yielded all a.tmps) = (b == want) := fun fr' ob' hs pl a w hr => by
          have := yielded_bool hdd hr (b := b) (by rw [hs d hmem, hb])
          simp only [Region.wanted, hg, this]
          cases b <;> cases want <;> rfl
        have same : ∀ n, look .junk ((d, .d (.bool b)) :: fr) n = look .junk fr n := look_put_same hb
        cases b with
        | true =>
          cases want with
          | true => exact yes _ same h fun fr' ob' hs pl a w hr => by rw [wan fr' ob' hs pl a w hr]; rfl
          | false => exact no _ same h fun fr' ob' hs pl a w hr => by rw [wan fr' ob' hs pl a w hr]; rfl
        | false =>
          cases want with
          | true => exact no _ same h fun fr' ob' hs pl a w hr => by rw [wan fr' ob' hs pl a w hr]; rfl
          | false => exact yes _ same h fun fr' ob' hs pl a w hr => by rw [wan fr' ob' hs pl a w hr]; rfl
      · rename_i hb
        exact no fr (fun _ => rfl) h fun fr' ob' hs pl a w hr => by
          have := yielded_unit hdd hr (by rw [hs d hmem, hb])
          simp [Region.wanted, hg, this]
      · exact h.elim
    · exact h.elim

/-- What the operations of a region do, told in the order of the text. -/
inductive Run (X : Ctx) (all : Array Oper) : List Oper → Fr → Ob → List (PV × Ob × List Nat) → Fr → Ob → Prop
  | nil (fr : Fr) (ob : Ob) : Run X all [] fr ob [] fr ob
  | cons {o : Oper} {r : List Oper} {fr fr1 fr' : Fr} {ob ob' : Ob} {v : PV} {u : Ob} {t : List Nat} {F : List (PV × Ob × List Nat)} :
      Step1 X all o fr (lkOf ob) v u t → (∀ n, look .junk fr1 n = look .junk (putF o.dst v fr) n) → Run X all r fr1 (u ++ ob) F fr' ob' → Run X all (o :: r) fr ob ((v, u, t) :: F) fr' ob'

theorem put_congr {d : Option Nat} {v : PV} {fr fr1 : Fr} (h : ∀ n, look .junk fr1 n = look .junk fr n) (n : Nat) : look .junk (putF d v fr1) n = look .junk (putF d v fr) n := by
  cases d with
  | none => exact h n
  | some d => simp only [putF, look_cons, h]

theorem Run.len {all : Array Oper} {l : List Oper} {F : List (PV × Ob × List Nat)} {fr' : Fr} {ob' : Ob} (h : Run X all l fr ob F fr' ob') : F.length = l.length := by
  induction h with
  | nil => rfl
  | cons _ _ _ ih => simp [ih]

theorem clash_iff (t u t' u' : List Nat) : clash t u t' u' = true ↔ (∃ x, x ∈ u ∧ x ∈ t') ∨ (∃ x, x ∈ u ∧ x ∈ u') ∨ ∃ x, x ∈ u' ∧ x ∈ t := by
  rw [← meets_iff, ← meets_iff, ← meets_iff]
  unfold clash
  split
  · simp [meets]
  · cases meets u t' <;> cases meets u u' <;> cases meets u' t <;> simp

/-- No two that clash stand free of each other. -/
def LogIn (as : List Nat) (j : Nat) (t u : List Nat) (L : Log) : Prop := ∀ i t' u', (i, t', u') ∈ L → clash t u t' u' = true → Nat.testBit (as.getD j 0) i = true

theorem logOk_ok {as : List Nat} {j : Nat} {t u : List Nat} : ∀ {L : Log}, logOk as j t u L = true → LogIn as j t u L
  | [], _ => fun i t' u' h => by cases h
  | (i, t', u') :: r, h => by
    simp only [logOk] at h
    intro i2 t2 u2 hm hc
    split at h
    · rename_i hcl
      rcases List.mem_cons.1 hm with e | hm
      · cases e; rw [hcl] at hc; cases hc
      · exact logOk_ok h i2 t2 u2 hm hc
    · split at h
      · rename_i htb
        rcases List.mem_cons.1 hm with e | hm
        · cases e; exact htb
        · exact logOk_ok h i2 t2 u2 hm hc
      · cases h

theorem PWops_run (hX : Fine X) (all : Array Oper) (draw : Bool) : ∀ (l : List Oper) (i : Nat) (L : Log) (fr : Fr) (ob : Ob) (K : Fr → Ob → Prop), (∀ o ∈ l, ∀ d, o.dst = some d → d < X.E.nt) → PWops X all draw l i L fr ob K →
    ∃ F fr' ob', Run X all l fr ob F fr' ob' ∧ K fr' ob' ∧ (draw = true → ∀ k v u t, F[k]? = some (v, u, t) → LogIn (ancs [] all.toList) (i + k) t (keys u) L ∧
      ∀ k' v' u' t', k' < k → F[k']? = some (v', u', t') → clash t (keys u) t' (keys u') = true → Nat.testBit ((ancs [] all.toList).getD (i + k) 0) (i + k') = true)
  | [], i, L, fr, ob, K, hd, h => ⟨[], fr, ob, .nil _ _, h, fun _ k v u t hk => by simp at hk⟩
  | o :: r, i, L, fr, ob, K, hd, h => by
    have h : guarded all o fr (fun fr => PWop X o fr ob fun v u t => match (generalizing := false) draw with
        | false => PWops X all draw r (i + 1) L (putF o.dst v fr) (u ++ ob) K
        | true => match logOk (ancs [] all.toList) i t (keys u) L with
          | true => PWops X all draw r (i + 1) ((i, t, keys u) :: L) (putF o.dst v fr) (u ++ ob) K
          | false => False) (fun fr => PWops X all draw r (i + 1) L (putF o.dst .unit fr) ob K) := h
    obtain ⟨fr1, v, u, t, h1, h2, h3⟩ := guarded_ok (K := fun fr v u t => match (generalizing := false) draw with
        | false => PWops X all draw r (i + 1) L (putF o.dst v fr) (u ++ ob) K
        | true => match logOk (ancs [] all.toList) i t (keys u) L with
          | true => PWops X all draw r (i + 1) ((i, t, keys u) :: L) (putF o.dst v fr) (u ++ ob) K
          | false => False) hX all (hd o (by simp)) h
    have hd' : ∀ o ∈ r, ∀ d, o.dst = some d → d < X.E.nt := fun o ho => hd o (by simp [ho])
    -- on, with what is logged
    have go : ∀ L', PWops X all draw r (i + 1) L' (putF o.dst v fr1) (u ++ ob) K → (draw = true → LogIn (ancs [] all.toList) i t (keys u) L ∧ (∀ x ∈ L, x ∈ L') ∧ ((i, t, keys u) ∈ L' ∨ (t = [] ∧ u = []))) →
        ∃ F fr' ob', Run X all (o :: r) fr ob F fr' ob' ∧ K fr' ob' ∧ (draw = true → ∀ k v u t, F[k]? = some (v, u, t) → LogIn (ancs [] all.toList) (i + k) t (keys u) L ∧
          ∀ k' v' u' t', k' < k → F[k']? = some (v', u', t') → clash t (keys u) t' (keys u') = true → Nat.testBit ((ancs [] all.toList).getD (i + k) 0) (i + k') = true) := by
      intro L' hp hL
      obtain ⟨F, fr', ob', g1, g2, g3⟩ := PWops_run hX all draw r (i + 1) L' _ _ K hd' hp
      refine ⟨(v, u, t) :: F, fr', ob', .cons h3 (put_congr h1) g1, g2, fun hdr k v2 u2 t2 hk => ?_⟩
      obtain ⟨l1, l2, l3⟩ := hL hdr
      cases k with
      | zero =>
        simp at hk; obtain ⟨rfl, rfl, rfl⟩ := hk
        exact ⟨l1, fun k' _ _ _ hk' => by omega⟩
      | succ k =>
        simp at hk
        obtain ⟨q1, q2⟩ := g3 hdr k v2 u2 t2 hk
        have e : i + (k + 1) = i + 1 + k := by omega
        rw [e]
        refine ⟨fun a b c hm => q1 a b c (l2 _ hm), fun k' v' u' t' hlt hk' hc => ?_⟩
        cases k' with
        | zero =>
          simp at hk'; obtain ⟨rfl, rfl, rfl⟩ := hk'
          rcases l3 with l3 | ⟨rfl, rfl⟩
          · exact q1 _ _ _ l3 hc
          · exfalso
            simp [clash_iff, keys] at hc
        | succ k' =>
          simp at hk'
          have := q2 k' v' u' t' (by omega) hk' hc
          have e2 : i + (k' + 1) = i + 1 + k' := by omega
          rw [e2]; exact this
    rcases h2 with h2 | ⟨rfl, rfl, rfl, h2⟩
    · cases draw with
      | false => exact go L h2 fun h => by cases h
      | true =>
        simp only at h2
        split at h2
        · rename_i hl
          exact go _ h2 fun _ => ⟨logOk_ok hl, fun x hx => by simp [hx], .inl (by simp)⟩
        · exact h2.elim
    · refine go L h2 fun _ => ⟨fun a b c hm hc => ?_, fun x hx => hx, .inr ⟨rfl, rfl⟩⟩
      simp [clash_iff, keys] at hc

end Go.Pv
