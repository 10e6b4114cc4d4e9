import Derived.Test.YtondofmlippbcaaWPvZa
set_option linter.unusedVariables false
set_option linter.unusedSimpArgs false
namespace Go.Pv
variable {X : Ctx} {fr : Fr} {ob : Ob}

/-! Loops. -/
theorem LoopG.len {c : Code} {N : Fr → Ob → Prop} {Q : QP} (n : Nat) {rows : List (List D)} (hn : look .junk fr n = .d (.sl rows)) (h : rows.length ≤ maxLen → LoopG X c fr ob N Q) : LoopG X c fr ob N Q :=
  ⟨fun hX hc pl a w hr => (h (by
    have := hr.sv n
    rw [hn] at this
    generalize a.tmps.getD n undef = v at this
    cases this with | d h => exact h.len_le)).out hX hc pl a w hr⟩

theorem LoopG.lenS {c : Code} {N : Fr → Ob → Prop} {Q : QP} (n : Nat) {s : List UInt8} (hn : look .junk fr n = .d (.str s)) (h : s.length ≤ maxLen → LoopG X c fr ob N Q) : LoopG X c fr ob N Q :=
  ⟨fun hX hc pl a w hr => (h (by
    have := hr.sv n
    rw [hn] at this
    generalize a.tmps.getD n undef = v at this
    cases this with
    | d h =>
      obtain ⟨x, _, rfl, hx⟩ := h.str_inv
      rw [size_data]; exact hx)).out hX hc pl a w hr⟩

theorem LoopG.lenR {c : Code} {N : Fr → Ob → Prop} {Q : QP} (id : Nat) {e sz : Nat} {rows : List (List D)} (hn : lkOf ob id = .row e sz rows) (h : rows.length ≤ maxLen → LoopG X c fr ob N Q) : LoopG X c fr ob N Q :=
  ⟨fun hX hc pl a w hr => (h (by
    have := hr.ho id
    rw [hn] at this
    obtain ⟨xs, ho, _⟩ := this
    rcases ho.2 with ⟨_, h⟩ | ⟨g, cap, cur, _, _, _, h, h2, _⟩
    · rw [h]; exact Nat.zero_le _
    · omega)).out hX hc pl a w hr⟩

/-- A loop over a list: F tells what comes of the rest of it. -/
theorem LoopG.list {α σ τ : Type} {c : Code} {N : Fr → Ob → Prop} {Q : QP} (l : List α) (S : Nat → σ → Fr × Ob) (F : Nat → σ → List α → Option τ) {res : τ} (s0 : σ) (h0 : Cover X fr ob (S 0 s0).1 (S 0 s0).2) (hF : F 0 s0 l = some res)
    (step : ∀ i s (h : i < l.length), F i s (l[i] :: l.drop (i + 1)) = some res → PW X c (S i s).1 (S i s).2 (fun fr ob => ∃ s', F (i + 1) s' (l.drop (i + 1)) = some res ∧ Cover X fr ob (S (i + 1) s').1 (S (i + 1) s').2) (nq N Q))
    (stop : ∀ s, F l.length s [] = some res → PW X c (S l.length s).1 (S l.length s).2 (fun _ _ => False) (nq N Q)) : LoopG X c fr ob N Q :=
  LoopG.intro (ι := {x : Nat × σ // x.1 ≤ l.length ∧ F x.1 x.2 (l.drop x.1) = some res}) (fun x => S x.1.1 x.1.2) (fun x => l.length - x.1.1) ⟨(0, s0), Nat.zero_le _, hF⟩ h0 fun ⟨(i, s), hi, hx⟩ => by
    simp only at hi hx
    by_cases h : i < l.length
    · rw [List.drop_eq_getElem_cons h] at hx
      refine WpG.mono (fun e fr ob hq => ?_) (PW_ok _ (step i s h hx))
      cases e with
      | normal => obtain ⟨s', h1, h2⟩ := hq; exact ⟨⟨(i + 1, s'), by simp only; omega, h1⟩, by simp only; omega, h2⟩
      | _ => exact hq
    · have : i = l.length := by omega
      subst this
      rw [List.drop_length] at hx
      refine WpG.mono (fun e fr ob hq => ?_) (PW_ok _ (stop s hx))
      cases e with
      | normal => exact hq.elim
      | _ => exact hq

/-- Any other loop: so many rounds. -/
theorem LoopG.fuel {σ τ : Type} {c : Code} {N : Fr → Ob → Prop} {Q : QP} (S : σ → Fr × Ob) (F : Nat → σ → Option τ) {res : τ} (k0 : Nat) (s0 : σ) (h0 : Cover X fr ob (S s0).1 (S s0).2) (hz : ∀ s, F 0 s = none) (hF : F k0 s0 = some res)
    (step : ∀ k s, F (k + 1) s = some res → PW X c (S s).1 (S s).2 (fun fr ob => ∃ s', F k s' = some res ∧ Cover X fr ob (S s').1 (S s').2) (nq N Q)) : LoopG X c fr ob N Q :=
  LoopG.intro (ι := {x : Nat × σ // F x.1 x.2 = some res}) (fun x => S x.1.2) (fun x => x.1.1) ⟨(k0, s0), hF⟩ h0 fun ⟨(k, s), hx⟩ => by
    simp only at hx
    cases k with
    | zero => rw [hz] at hx; cases hx
    | succ k =>
      refine WpG.mono (fun e fr ob hq => ?_) (PW_ok _ (step k s hx))
      cases e with
      | normal => obtain ⟨s', h1, h2⟩ := hq; exact ⟨⟨(k, s'), h1⟩, Nat.lt_succ_self k, h2⟩
      | _ => exact hq

/-! In step with a function in Lean. -/
variable {α β γ : Type}

theorem bind_some {m : Option α} {k : α → Option β} {v : β} (h : m.bind k = some v) : ∃ t, m = some t ∧ k t = some v := Option.bind_eq_some_iff.1 h

/-- The element at a number. -/
def at? (l : List α) (i : Int) : Option α := if 0 ≤ i then l[i.toNat]? else none

theorem IdxG.at {l : List α} {f g : α → List D} {i : Int} {k : α → Option β} {v : β} {K : List D → Prop} (hfg : ∀ x, f x = g x) (h : (at? l i).bind k = some v) (hK : ∀ x, at? l i = some x → k x = some v → K (g x)) : IdxG (l.map f) i K := by
  obtain ⟨x, h1, h2⟩ := bind_some h
  have h3 := h1
  unfold at? at h3
  split at h3
  · rename_i h0
    exact .intro (f x) h0 (by rw [List.getElem?_map, h3]; rfl) (by rw [hfg]; exact hK x h1 h2)
  · cases h3

theorem wrap64 {x : Int} (h1 : -9223372036854775808 ≤ x) (h2 : x ≤ 9223372036854775807) : IntKind.i64.wrap x = x := by
  rw [IntKind.wrap_i64]; omega
theorem wrapUp {i n : Nat} (h : i < n) (hn : n ≤ maxLen) : IntKind.i64.wrap ((i : Int) + 1) = ((i + 1 : Nat) : Int) := by
  unfold maxLen at hn
  rw [wrap64 (by omega) (by omega)]; rfl

/-! The shelf's contracts. -/
def plainV : PV → Option Value
  | .d (.int k n) => some (.int k n)
  | .d (.bool b) => some (.bool b)
  | .d (.str l) => some (.string ⟨l.toArray⟩)
  | _ => none

def plainVs : List PV → Option (List Value)
  | [] => some []
  | x :: l => match plainV x, plainVs l with | some v, some r => some (v :: r) | _, _ => none

theorem plainV_ok {w : World} {ok : Nat → Prop} {pl : Pl} {lk : Nat → Obj} {v v' : Value} {x : PV} (h : plainV x = some v') (hp : PRep w ok pl lk v x) : v = v' := by
  unfold plainV at h
  split at h
  · cases h; cases hp with | d h => cases h; rfl
  · cases h; cases hp with | d h => cases h; rfl
  · cases h; cases hp with
    | d h =>
      obtain ⟨s, rfl, rfl, _⟩ := h.str_inv
      simp
  · cases h

theorem plainV_rep {w : World} {ok : Nat → Prop} {pl : Pl} {lk : Nat → Obj} {v : Value} {x : PV} (h : plainV x = some v) (hs : ∀ l, x = .d (.str l) → l.length ≤ maxLen) : PRep w ok pl lk v x := by
  unfold plainV at h
  split at h
  · cases h; exact .d (.int _ _)
  · cases h; exact .d (.bool _)
  · cases h; exact .d (.mkStr _ (hs _ rfl))
  · cases h

theorem plainVs_ok : ∀ (l : List PV) (vs : List Value), plainVs l = some vs → vs.length = l.length ∧ ∀ (i : Nat) (x : PV), l[i]? = some x → ∃ v, vs[i]? = some v ∧ plainV x = some v
  | [], vs, h => by simp [plainVs] at h; subst h; exact ⟨rfl, fun i x hi => by simp at hi⟩
  | x :: l, vs, h => by
    simp only [plainVs] at h
    split at h
    · rename_i v r h1 h2
      cases h
      obtain ⟨g1, g2⟩ := plainVs_ok l r h2
      refine ⟨by simp [g1], fun i y hi => ?_⟩
      cases i with
      | zero => simp at hi; subst hi; exact ⟨v, rfl, h1⟩
      | succ i => simpa using g2 i y (by simpa using hi)
    · cases h

/-- A contract of the shelf: of numbers and texts. -/
theorem FnOk.ofCalls {P : Program} {f : FuncId} {vs : List PV} {vals : List Value} {v : PV} {val : Value} {fn : Func} {c : Code} (hf : P.funcs[f]? = some fn) (hname : (fn.name == "runtime.NumGoroutine") = false) (hb : fn.body = some c)
    (hvs : plainVs vs = some vals) (hv : plainV v = some val) (hs : ∀ l, v = .d (.str l) → l.length ≤ maxLen) (h : ∀ w, Calls P f vals.toArray w fun e w' => e = .returned val ∧ w' = w) : FnOk P f vs v := by
  refine ⟨⟨fn, c, hf, hname, hb⟩, fun w ok pl xs hok hsz hxs _ _ _ => ?_⟩
  obtain ⟨g1, g2⟩ := plainVs_ok vs vals hvs
  have : xs = vals.toArray := by
    apply Array.ext
    · simp [hsz, g1]
    · intro i h1 h2
      have hi : i < vs.length := by omega
      obtain ⟨y, hy, hp⟩ := g2 i vs[i] (List.getElem?_eq_getElem hi)
      have h3 := plainV_ok hp (hxs i vs[i] (List.getElem?_eq_getElem hi))
      have h4 : xs.getD i undef = xs[i] := by simp [h1]
      have h5 : vals.toArray[i] = y := by
        have := List.getElem?_eq_some_iff.1 hy
        simpa using this.2
      rw [← h4, h3, h5]
  subst this
  refine Calls.mono (h w) ?_
  rintro e w' ⟨rfl, rfl⟩
  have hno : ∀ (pl : Pl) id b, mb pl id (lkOf [] id) ≠ some b := fun pl id b h => by cases h
  have hids : ids v = [] := by
    cases v with
    | d _ => rfl
    | _ => simp [plainV] at hv
  refine ⟨val, pl, rfl, fun _ _ => ⟨rfl, rfl⟩, ok, fun b => ⟨.inl, fun h => ?_⟩, plainV_rep hv hs, fun _ => trivial, fun id id' b h => absurd h (hno _ _ _), fun id b h => absurd h (hno _ _ _), (fun id hid => by rw [hids] at hid; cases hid), (fun id cs h => by cases h), rfl, rfl, rfl, Nat.le_refl _, fun _ _ _ => rfl⟩
  rcases h with h | ⟨h | ⟨id, h⟩, h2, _⟩
  · exact h
  · omega
  · exact absurd h (hno _ _ _)

end Go.Pv
