import Derived.Test.YtondofmlippbcaaPvY
set_option linter.unusedVariables false
set_option linter.unusedSimpArgs false
namespace Go.Pv
variable {X : Ctx} {pl : Pl} {fr : Fr} {ob : Ob} {a : Act} {w : World}

/-- Boxes of data: no word of one's own memory in them. -/
def plainO : Ob → Bool
  | [] => true
  | (_, .box cs) :: r => match idFree cs, allCell cs with | true, true => plainO r | _, _ => false
  | _ => false

theorem plainO_ok : ∀ (O : Ob), plainO O = true → ∀ id, lkOf O id ≠ .none → ∃ cs, lkOf O id = .box cs ∧ (∀ x ∈ cs, ids x = [] ∧ cellB x = true)
  | [], _, id, h => absurd rfl h
  | (k, .box cs) :: r, h, id, hid => by
    simp only [plainO] at h
    split at h
    · rename_i h1 h2
      simp only [lkOf, look_cons] at hid ⊢
      split
      · exact ⟨cs, rfl, fun x hx => ⟨idFree_ok _ h1 x hx, allCell_ok _ h2 x hx⟩⟩
      · rename_i hne
        rw [if_neg hne] at hid
        exact plainO_ok r h id hid
    · cases h
  | (k, .none) :: r, h, _, _ => by simp [plainO] at h
  | (k, .gone) :: r, h, _, _ => by simp [plainO] at h
  | (k, .row _ _ _) :: r, h, _, _ => by simp [plainO] at h
  | (k, .frz _ _) :: r, h, _, _ => by simp [plainO] at h

/-- A CONTRACT of a function that is handed pointers to variables: what they held and what they hold. -/
def FnOkO (P : Program) (f : FuncId) (vs : List PV) (O : Ob) (v : PV) (O' : Ob) : Prop :=
  (∃ fn c, P.funcs[f]? = some fn ∧ (fn.name == "runtime.NumGoroutine") = false ∧ fn.body = some c) ∧
  ∀ (w : World) (ok : Nat → Prop) (pl : Pl) (vals : Array Value), (∀ b, ok b → b < w.heap.size) → vals.size = vs.length → (∀ i x, vs[i]? = some x → PRep w ok pl (lkOf O) (vals.getD i undef) x) →
    (∀ id, Hold w ok pl (lkOf O) id (lkOf O id)) → (∀ id id' b, mb pl id (lkOf O id) = some b → mb pl id' (lkOf O id') = some b → id = id') → (∀ id b, mb pl id (lkOf O id) = some b → ¬ ok b ∧ b < w.heap.size) →
    Calls P f vals w (fun e w' => ∃ val, e = .returned val ∧ (∀ pl' lk', PRep w' (fun b => ok b ∨ (w.heap.size ≤ b ∧ b < w'.heap.size)) pl' lk' val v) ∧
      (∀ id cs, lkOf O' id = .box cs → ∀ lk', Hold w' (fun b => ok b ∨ (w.heap.size ≤ b ∧ b < w'.heap.size)) pl lk' id (.box cs)) ∧ w'.os = w.os ∧ w'.tape = w.tape ∧ w'.output = w.output ∧ w.heap.size ≤ w'.heap.size ∧
      ∀ b, b < w.heap.size → (∀ id, mb pl id (lkOf O id) ≠ some b) → w'.heap[b]? = w.heap[b]?)

def finL (lk : Nat → Obj) : List PV → Option (List PV)
  | [] => some []
  | x :: l => match finP lk x, finL lk l with | some y, some r => some (y :: r) | _, _ => Option.none

/-- The variables, behind. -/
def finO (lk : Nat → Obj) : List Nat → Option Ob
  | [] => some []
  | k :: r => match lk k with
    | .box cs => match finL lk cs, finO lk r with | some cs, some O => some ((k, .box cs) :: O) | _, _ => Option.none
    | _ => Option.none

def RetO (X : Ctx) (rs : List ResultVar) (ks : List Nat) (v : PV) (O' : Ob) : QP := fun e fr ob => match e with
  | .normal => RetG X fr ob rs (· = v) ∧ finO (lkOf ob) ks = some O'
  | .ret => RetG X fr ob rs (· = v) ∧ finO (lkOf ob) ks = some O'
  | _ => False

theorem finL_ok (hout : OutHeld X ob) (hr : Rel X pl fr ob a w) : ∀ (l l' : List PV), finL (lkOf ob) l = some l' → l'.length = l.length ∧ ∀ (i : Nat) (y : PV), l'[i]? = some y → ∃ x, l[i]? = some x ∧ finP (lkOf ob) x = some y
  | [], l', h => by simp [finL] at h; subst h; exact ⟨rfl, fun i y hi => by simp at hi⟩
  | x :: l, l', h => by
    simp only [finL] at h
    split at h
    · rename_i y r h1 h2
      cases h
      obtain ⟨g1, g2⟩ := finL_ok hout hr l r h2
      refine ⟨by simp [g1], fun i z hi => ?_⟩
      cases i with
      | zero => simp at hi; subst hi; exact ⟨x, rfl, h1⟩
      | succ i => simpa using g2 i z (by simpa using hi)
    · cases h

theorem finP_cell {lk : Nat → Obj} {x y : PV} (h : finP lk x = some y) (hx : cellB x = true) : cellB y = true := by
  unfold finP at h
  split at h <;> try (cases h; first | rfl | cases hx)
  · split at h <;> first | (cases h; rfl) | cases h
  · cases h

theorem finO_ok (hout : OutHeld X ob) (hr : Rel X pl fr ob a w) : ∀ (ks : List Nat) (O' : Ob), finO (lkOf ob) ks = some O' → (∀ id cs, lkOf O' id = .box cs → ∀ lk', Hold w (OkF X w) pl lk' id (.box cs)) ∧ ∀ k ∈ ks, ∃ cs, lkOf ob k = .box cs
  | [], O', h => by simp [finO] at h; subst h; exact ⟨fun id cs h => by simp [lkOf, look] at h, fun k hk => by cases hk⟩
  | k :: r, O', h => by
    simp only [finO] at h
    split at h
    · rename_i cs hl
      split at h
      · rename_i cs' O1 h1 h2
        cases h
        obtain ⟨g1, g2⟩ := finO_ok hout hr r O1 h2
        refine ⟨fun id cs0 h0 lk' => ?_, fun k' hk' => ?_⟩
        · simp only [lkOf, look_cons] at h0
          split at h0
          · rename_i e
            subst e
            cases h0
            have hh := hr.ho k
            rw [hl] at hh
            obtain ⟨c, e, hc, hcs, hci⟩ := hh
            obtain ⟨q1, q2⟩ := finL_ok hout hr _ _ h1
            refine ⟨c, e, hc, by rw [hcs, q1], fun i y hy => ?_⟩
            obtain ⟨x, hx, hf⟩ := q2 i y hy
            have := hci i x hx
            exact ⟨(finP_ok hout hr hf this.1).2 _ _, finP_cell hf this.2⟩
          · exact g1 id cs0 h0 lk'
        · rcases List.mem_cons.1 hk' with rfl | hk'
          · exact ⟨cs, hl⟩
          · exact g2 k' hk'
      · cases h
    · cases h

def idsIn (ks : List Nat) : List PV → Bool
  | [] => true
  | v :: r => match allIn (ids v) ks with | true => idsIn ks r | false => false

theorem idsIn_ok (ks : List Nat) : ∀ (l : List PV), idsIn ks l = true → ∀ v ∈ l, ∀ id ∈ ids v, id ∈ ks
  | [], _, v, hv => by cases hv
  | x :: l, h, v, hv => by
    simp only [idsIn] at h
    split at h
    · rename_i hx
      rcases List.mem_cons.1 hv with rfl | hv
      · exact allIn_ok _ _ hx
      · exact idsIn_ok ks l h v hv
    · cases h

def allGe (n : Nat) : List Nat → Bool
  | [] => true
  | k :: r => match Nat.ble n k with | true => allGe n r | false => false

theorem allGe_ok (n : Nat) : ∀ (l : List Nat), allGe n l = true → ∀ k ∈ l, n ≤ k
  | [], _, k, h => by cases h
  | x :: l, h, k, hk => by
    simp only [allGe] at h
    split at h
    · rename_i hx
      rcases List.mem_cons.1 hk with rfl | hk
      · exact Nat.le_of_ble_eq_true hx
      · exact allGe_ok n l h k hk
    · cases h

theorem lk_keys (O : Ob) (id : Nat) (h : lkOf O id ≠ .none) : id ∈ keys O := by
  induction O with
  | nil => exact absurd rfl h
  | cons p O ih =>
    obtain ⟨k, o⟩ := p
    simp only [lkOf, look_cons, keys, List.mem_cons] at h ⊢
    by_cases e : k = id
    · exact .inl e.symm
    · rw [if_neg e] at h; exact .inr (ih h)

theorem keys_lk (O : Ob) (hO : plainO O = true) (id : Nat) (h : id ∈ keys O) : ∃ cs, lkOf O id = .box cs := by
  induction O with
  | nil => cases h
  | cons p O ih =>
    obtain ⟨k, o⟩ := p
    simp only [keys, List.mem_cons] at h
    simp only [lkOf, look_cons]
    cases o with
    | box cs =>
      simp only [plainO] at hO
      split at hO
      · split
        · exact ⟨cs, rfl⟩
        · rename_i hne
          rcases h with h | h
          · exact absurd h.symm hne
          · exact ih hO h
      · cases hO
    | _ => simp [plainO] at hO

theorem finL_any {ok : Nat → Prop} {pl pl' : Pl} {lk lk' : Nat → Obj} {v : Value} {x : PV} (h : PRep w ok pl lk v x) (hx : ids x = []) : PRep w ok pl' lk' v x :=
  h.mono (fun b hb => ⟨hb, rfl⟩) (fun id hid => by rw [hx] at hid; cases hid) (fun id hid => by rw [hx] at hid; cases hid)

theorem finP_ids {lk : Nat → Obj} {x y : PV} (h : finP lk x = some y) : ids y = [] := by
  unfold finP at h
  split at h <;> try (cases h; rfl)
  · split at h <;> first | (cases h; rfl) | cases h
  · cases h

theorem finL_ids {lk : Nat → Obj} : ∀ (l l' : List PV), finL lk l = some l' → ∀ x ∈ l', ids x = []
  | [], l', h, x, hx => by simp [finL] at h; subst h; cases hx
  | y :: l, l', h, x, hx => by
    simp only [finL] at h
    split at h
    · rename_i z r h1 h2
      cases h
      rcases List.mem_cons.1 hx with rfl | hx
      · exact finP_ids h1
      · exact finL_ids l r h2 x hx
    · cases h

theorem idfree_box {lk : Nat → Obj} : ∀ {ks : List Nat} {O' : Ob}, finO lk ks = some O' → ∀ {id : Nat} {cs : List PV}, lkOf O' id = .box cs → ∀ x ∈ cs, ids x = []
  | [], O', h, id, cs, hcs, x, hx => by simp [finO] at h; subst h; simp [lkOf, look] at hcs
  | k :: r, O', h, id, cs, hcs, x, hx => by
    simp only [finO] at h
    split at h
    · split at h
      · rename_i h1 h2
        cases h
        simp only [lkOf, look_cons] at hcs
        split at hcs
        · cases hcs; exact finL_ids _ _ h1 x hx
        · exact idfree_box h2 hcs x hx
      · cases h
    · cases h

theorem FnOkO.intro {P : Program} {f : FuncId} {fn : Func} {c : Code} {T : List (Nat × Option TI)} {vs : List PV} {v : PV} {O O' : Ob} (hf : P.funcs[f]? = some fn) (hname : (fn.name == "runtime.NumGoroutine") = false) (hb : fn.body = some c) (hfol : P.follows .mixedOrders = true) (hT : TokE P T)
    (hc : codeOk fn.ntmps c = true) (hn : vs.length ≤ fn.ntmps) (hids : idsIn (keys O) vs = true) (hO : plainO O = true) (hge : allGe fn.ntmps (keys O) = true)
    (h : ∀ N ok outPl W0, WpG ⟨P, ⟨T, fn.ntmps⟩, N, ok, outPl, W0⟩ c (argF 0 vs) O (RetO ⟨P, ⟨T, fn.ntmps⟩, N, ok, outPl, W0⟩ fn.results.toList (keys O) v O')) : FnOkO P f vs O v O' := by
  refine ⟨⟨fn, c, hf, hname, hb⟩, fun w ok pl vals hok hsz hvals hhold hinj hmw => ?_⟩
  have hids' := idsIn_ok _ _ hids
  have hge' := allGe_ok _ _ hge
  have hX : Fine ⟨P, ⟨T, fn.ntmps⟩, w.heap.size, ok, fun id => mb pl id (lkOf O id), w⟩ := ⟨hT, hfol⟩
  generalize hXX : (⟨P, ⟨T, fn.ntmps⟩, w.heap.size, ok, fun id => mb pl id (lkOf O id), w⟩ : Ctx) = X at hX
  have h := h w.heap.size ok (fun id => mb pl id (lkOf O id)) w
  rw [hXX] at h
  have hXP : X.P = P := by rw [← hXX]
  have hXE : X.E = ⟨T, fn.ntmps⟩ := by rw [← hXX]
  have hXN : X.N = w.heap.size := by rw [← hXX]
  have hXok : X.ok0 = ok := by rw [← hXX]
  have hXo : X.outPl = fun id => mb pl id (lkOf O id) := by rw [← hXX]
  have hXW : X.W0 = w := by rw [← hXX]
  have hnn : ∀ id b, mb pl id (lkOf O id) = some b → ∃ cs, lkOf O id = .box cs := fun id b hb => by
    obtain ⟨cs, h1, _⟩ := plainO_ok O hO id (fun h0 => by rw [h0] at hb; cases hb)
    exact ⟨cs, h1⟩
  have hlk : ∀ n id, id ∈ ids (look .junk (argF 0 vs) n) → id ∈ keys O := fun n id hid => by
    rw [look_argF] at hid
    simp only [Nat.zero_le, if_true, Nat.sub_zero] at hid
    cases hv : vs[n]? with
    | none => rw [List.getD_eq_getElem?_getD, hv] at hid; simp [ids] at hid
    | some x =>
      rw [List.getD_eq_getElem?_getD, hv] at hid
      simp only [Option.getD_some] at hid
      exact hids' x (List.mem_of_getElem? hv) id hid
  have him0 : ∀ b, ok b → Imm X pl (lkOf O) w b ∧ w.heap[b]? = w.heap[b]? := fun b hb => ⟨.inl (by rw [hXok]; exact hb), rfl⟩
  have hrel : Rel X pl (argF 0 vs) O { tmps := vals ++ Array.replicate (fn.ntmps - vals.size) undef, defers := [] } w := by
    refine ⟨?_, rfl, fun n => ?_, fun n id hid => ?_, fun id cs hcs x hx id' hid' => ?_, fun id => ?_, hinj, fun id b hb => ⟨.inr ⟨id, by rw [hXo]; exact hb⟩, by rw [hXok]; exact (hmw id b hb).1, (hmw id b hb).2⟩, ?_, ?_, fun id b hb => ?_, fun id b hb => ?_⟩
    · rw [hXE]; simp; omega
    · rw [look_argF]
      simp only [Nat.zero_le, if_true, Nat.sub_zero]
      cases hv : vs[n]? with
      | none => rw [List.getD_eq_getElem?_getD, hv]; exact .junk _
      | some x =>
        rw [List.getD_eq_getElem?_getD, hv]
        simp only [Option.getD_some]
        have hlt : n < vals.size := by rw [hsz]; exact (List.getElem?_eq_some_iff.1 hv).1
        have hg : (vals ++ Array.replicate (fn.ntmps - vals.size) undef).getD n undef = vals.getD n undef := by
          simp [Array.getElem?_append, hlt]
        rw [hg]
        exact (hvals n x hv).mono him0 (fun _ _ => rfl) (fun id _ hr => ⟨hr, rfl⟩)
    · obtain ⟨cs, hcs⟩ := keys_lk O hO id (hlk n id hid)
      rw [hcs]; exact fun h => by cases h
    · obtain ⟨cs', h1, h2⟩ := plainO_ok O hO id (by rw [hcs]; exact fun h => by cases h)
      rw [hcs] at h1; cases h1
      rw [(h2 x hx).1] at hid'; cases hid'
    · exact (hhold id).mono him0 (fun _ _ => rfl) rfl (fun _ => rfl) fun cs _ x _ id' _ => ⟨rfl, fun hr => ⟨hr, rfl⟩⟩
    · exact ⟨by rw [hXW], by rw [hXW], by rw [hXW], by rw [hXN]; exact Nat.le_refl _, fun b _ _ => by rw [hXW]⟩
    · rw [hXok, hXN]; exact hok
    · rw [hXo] at hb
      have hb : mb pl id (lkOf O id) = some b := hb
      obtain ⟨cs, hcs⟩ := hnn id b hb
      rw [hcs] at hb
      simpa [mb] using hb
    · rw [hXo] at hb
      rw [hXE]
      exact hge' id (lk_keys O id fun h0 => by
        have hb : mb pl id (lkOf O id) = some b := hb
        rw [h0] at hb; cases hb)
  have hwp := h hX (by rw [hXE]; exact hc) pl _ w hrel
  rw [hXP] at hwp
  refine calls_of_wp hf hb (wp_mono hwp fun e a w' hp => ?_)
  obtain ⟨pl', fr', ob', hr, hq⟩ := hp
  have done : RetG X fr' ob' fn.results.toList (· = v) ∧ finO (lkOf ob') (keys O) = some O' → a.defers = [] ∧ ∃ val, (results fn a.tmps).run P w' = .ok val w' ∧ (∃ val', Ending.returned val = .returned val' ∧ (∀ pl' lk', PRep w' (fun b => ok b ∨ (w.heap.size ≤ b ∧ b < w'.heap.size)) pl' lk' val' v) ∧
      (∀ id cs, lkOf O' id = .box cs → ∀ lk', Hold w' (fun b => ok b ∨ (w.heap.size ≤ b ∧ b < w'.heap.size)) pl lk' id (.box cs)) ∧ w'.os = w.os ∧ w'.tape = w.tape ∧ w'.output = w.output ∧ w.heap.size ≤ w'.heap.size ∧
      ∀ b, b < w.heap.size → (∀ id, mb pl id (lkOf O id) ≠ some b) → w'.heap[b]? = w.heap[b]?) := by
    rintro ⟨hret, hfin⟩
    refine ⟨hr.df, ?_⟩
    have hheld : ∀ k ∈ keys O, ∃ cs, lkOf ob' k = .box cs := by
      have : ∀ (ks : List Nat) (O' : Ob), finO (lkOf ob') ks = some O' → ∀ k ∈ ks, ∃ cs, lkOf ob' k = .box cs := by
        intro ks
        induction ks with
        | nil => intro O' _ k hk; cases hk
        | cons x r ih =>
          intro O' h k hk
          simp only [finO] at h
          split at h
          · rename_i cs hl
            split at h
            · rename_i h1 h2
              rcases List.mem_cons.1 hk with rfl | hk
              · exact ⟨cs, hl⟩
              · exact ih _ h2 k hk
            · cases h
          · cases h
      exact this _ _ hfin
    have hout : OutHeld X ob' := fun id b hb => by
      rw [hXo] at hb
      exact hheld id (lk_keys O id fun h0 => by
        have hb : mb pl id (lkOf O id) = some b := hb
        rw [h0] at hb; cases hb)
    obtain ⟨vs2, vals2, g1, g2, g3, g4, g5, g6⟩ := resVs_ok hX hout hr _ hret
    obtain ⟨o1, _⟩ := finO_ok hout hr _ _ hfin
    have hk := hr.keep
    have hokf : OkF X w' = fun b => ok b ∨ (w.heap.size ≤ b ∧ b < w'.heap.size) := by
      funext b; unfold OkF; rw [hXok, hXN]
    have hkeep : w'.os = w.os ∧ w'.tape = w.tape ∧ w'.output = w.output ∧ w.heap.size ≤ w'.heap.size ∧ ∀ b, b < w.heap.size → (∀ id, mb pl id (lkOf O id) ≠ some b) → w'.heap[b]? = w.heap[b]? :=
      ⟨by rw [hk.os, hXW], by rw [hk.tape, hXW], by rw [hk.output, hXW], by rw [← hXN]; exact hk.size, fun b hb hno => by
        rw [hk.blocks b (by rw [hXN]; exact hb) (fun ⟨id, hid⟩ => by rw [hXo] at hid; exact hno id hid), hXW]⟩
    have hres : (results fn a.tmps).run P w' = .ok (if h : vals2.toArray.size = 1 then vals2.toArray[0] else .tuple vals2.toArray) w' := by
      have hm : (fn.results.mapM (resM a.tmps)).run P w' = .ok vals2.toArray w' := by
        rw [Array.mapM_eq_mapM_toList, Sem.run_map]
        rw [hXP] at g6
        rw [g6]; rfl
      have heq : results fn a.tmps = (do let vs ← fn.results.mapM (resM a.tmps); pure (if h : vs.size = 1 then vs[0] else .tuple vs)) := by
        unfold results
        have hfun : resM a.tmps = (fun x : ResultVar => match x with
          | .tmp t => (Pure.pure (a.tmps.getD t Go.undef) : Sem Value)
          | .cell b t => do loadVar t (← asAddr (a.tmps.getD b Go.undef))) := by funext r; cases r <;> rfl
        rw [hfun]
        rfl
      rw [heq, Sem.run_bind, hm]
      simp only [Result.andThen_ok, Sem.run_pure]
    refine ⟨_, hres, _, rfl, fun pl'' lk'' => ?_, fun id cs hcs lk' => ?_, hkeep⟩
    · rw [← hokf]
      match vs2, vals2, g1, g2, g5 with
      | [], [], g1, _, _ => subst g1; exact .unit
      | [x], [val], g1, _, g5 =>
        subst g1
        obtain ⟨val', q1, q2⟩ := g5 0 _ rfl
        simp at q1; subst q1
        exact q2 _ _
      | x :: y :: r, v0 :: v1 :: rv, g1, gl, g5 =>
        subst g1
        refine .tup (by simpa using gl) fun i p hp => ?_
        obtain ⟨val', q1, q2⟩ := g5 i p hp
        have : ((v0 :: v1 :: rv).toArray).getD i undef = val' := by simp [q1]
        rw [this]; exact q2 _ _
      | [], _ :: _, _, gl, _ => simp at gl
      | [_], [], _, gl, _ => simp at gl
      | [_], _ :: _ :: _, _, gl, _ => simp at gl
      | _ :: _ :: _, [], _, gl, _ => simp at gl
      | _ :: _ :: _, [_], _, gl, _ => simp at gl
    · rw [← hokf]
      have h1 := o1 id cs hcs lk'
      -- the box lies where it lay
      have hid : id ∈ keys O := by
        have : ∀ (ks : List Nat) (O' : Ob), finO (lkOf ob') ks = some O' → ∀ id, lkOf O' id ≠ .none → id ∈ ks := by
          intro ks
          induction ks with
          | nil => intro O' h id hid; simp [finO] at h; subst h; exact absurd rfl hid
          | cons x r ih =>
            intro O' h id hid
            simp only [finO] at h
            split at h
            · split at h
              · rename_i h1 h2
                cases h
                simp only [lkOf, look_cons] at hid
                split at hid
                · rename_i e; subst e; simp
                · exact List.mem_cons_of_mem _ (ih _ h2 id hid)
              · cases h
            · cases h
        exact this _ _ hfin id (by rw [hcs]; exact fun h => by cases h)
      obtain ⟨cs0, hcs0⟩ := keys_lk O hO id hid
      have hblk : pl'.blk id = pl.blk id := hr.outb id _ (by rw [hXo]; show mb pl id (lkOf O id) = some (pl.blk id); rw [hcs0]; rfl)
      obtain ⟨c1, e1, q1, q2, q3⟩ := h1
      refine ⟨c1, e1, by rw [← hblk]; exact q1, q2, fun i x hx => ⟨(finL_any (q3 i x hx).1 (idfree_box hfin hcs x (List.mem_of_getElem? hx))), (q3 i x hx).2⟩⟩
  cases e with
  | normal => exact done hq
  | ret => exact done hq
  | _ => exact hq.elim

end Go.Pv
