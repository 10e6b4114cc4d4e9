import Derived.Test.YtondofmlippbcaaWPvZb
set_option linter.unusedVariables false
set_option linter.unusedSimpArgs false
namespace Go.Pv
variable {X : Ctx} {fr : Fr} {ob : Ob}
/-! What the printed texts use. -/
abbrev Str := List UInt8
abbrev w64 (x : Int) : Int := IntKind.i64.wrap x
def slc {α : Type} (l : List α) (lo hi : Int) : List α := (l.take hi.toNat).drop lo.toNat
def eInt (k : IntKind) (n : Int) : List D := [.int k n]
def eByte (b : UInt8) : List D := [.int .u8 b.toNat]
def eBool (b : Bool) : List D := [.bool b]
def eStr (s : Str) : List D := [.str s]
def eSl {α : Type} (f : α → List D) (l : List α) : List D := [.sl (l.map f)]

section
variable {α β γ : Type}
theorem if_cases {p : Prop} [Decidable p] {x y v : γ} (h : (if p then x else y) = v) : (p ∧ x = v) ∨ (¬ p ∧ y = v) := by
  by_cases hp : p
  · rw [if_pos hp] at h; exact .inl ⟨hp, h⟩
  · rw [if_neg hp] at h; exact .inr ⟨hp, h⟩
theorem BranchG.ite {p : Prop} [Decidable p] {x y v : γ} {A B : Prop} (h : (if p then x else y) = v) (hA : p → x = v → A) (hB : ¬ p → y = v → B) : BranchG (decide p) A B := by
  rcases if_cases h with ⟨hp, h⟩ | ⟨hp, h⟩
  · rw [decide_eq_true hp]; exact hA hp h
  · rw [decide_eq_false hp]; exact hB hp h
theorem BranchG.iteN {p : Prop} [Decidable p] {x y v : γ} {A B : Prop} (h : (if p then x else y) = v) (hA : ¬ p → y = v → A) (hB : p → x = v → B) : BranchG (!decide p) A B := by
  rcases if_cases h with ⟨hp, h⟩ | ⟨hp, h⟩
  · rw [decide_eq_true hp]; exact hB hp h
  · rw [decide_eq_false hp]; exact hA hp h
theorem BranchG.iteB {b : Bool} {x y v : γ} {A B : Prop} (h : (if b = true then x else y) = v) (hA : b = true → x = v → A) (hB : b = false → y = v → B) : BranchG b A B := by
  cases b with
  | true => exact hA rfl (by simpa using h)
  | false => exact hB rfl (by simpa using h)
theorem BranchG.iteBN {b : Bool} {x y v : γ} {A B : Prop} (h : (if b = true then x else y) = v) (hA : b = false → y = v → A) (hB : b = true → x = v → B) : BranchG (!b) A B := by
  cases b with
  | true => exact hB rfl (by simpa using h)
  | false => exact hA rfl (by simpa using h)
theorem NeedG.sync {p q : Prop} [Decidable q] {x : Option β} {v : β} {K : Prop} (h : (if q then x else none) = some v) (hqp : q → p) (hK : q → x = some v → K) : NeedG p K := by
  rcases if_cases h with ⟨hp, h⟩ | ⟨hp, h⟩
  · exact ⟨hqp hp, hK hp h⟩
  · cases h
theorem IdxG.hit {l : List α} {f g : α → List D} {i : Int} {n : Int} {x : α} {K : List D → Prop} (hfg : ∀ x, f x = g x) (h : at? l i = some x) (hK : K (g x)) (hn : n = i := by first | rfl | (unfold at? at *; omega)) : IdxG (l.map f) n K := by
  subst hn
  unfold at? at h
  split at h
  · rename_i h0; exact .intro (f x) h0 (by rw [List.getElem?_map, h]; rfl) (by rw [hfg]; exact hK)
  · cases h
theorem at_nonneg {l : List α} {i : Int} {x : α} (h : at? l i = some x) : 0 ≤ i := by
  unfold at? at h; split at h
  · assumption
  · cases h
theorem IdxG.hitN {l : List α} {f g : α → List D} {i : Int} {x : α} {K : List D → Prop} (hfg : ∀ x, f x = g x) (h : at? l i = some x) (hK : K (g x)) : IdxG (l.map f) (i.toNat : Int) K := by
  have h0 := at_nonneg h
  rw [Int.toNat_of_nonneg h0]
  exact IdxG.hit hfg h hK rfl
theorem IdxG.el {l : List α} {f g : α → List D} {i : Int} {n : Nat} {x : α} {K : List D → Prop} (hfg : ∀ x, f x = g x) (hi : i = (n : Int)) (h : l[n]? = some x) (hK : K (g x)) : IdxG (l.map f) i K := by
  subst hi
  exact .intro (f x) (by omega) (by rw [List.getElem?_map]; simp [h]) (by rw [hfg]; exact hK)
theorem ByteG.at {s : Str} {i : Int} {k : UInt8 → Option β} {v : β} {K : UInt8 → Prop} (h : (at? s i).bind k = some v) (hK : ∀ x, at? s i = some x → k x = some v → K x) : ByteG s i K := by
  obtain ⟨x, h1, h2⟩ := bind_some h
  have h3 := h1
  unfold at? at h3
  split at h3
  · rename_i h0; exact .intro x h0 h3 (hK x h1 h2)
  · cases h3
theorem ByteG.el {s : Str} {i : Int} {n : Nat} {x : UInt8} {K : UInt8 → Prop} (hi : i = (n : Int)) (h : s[n]? = some x) (hK : K x) : ByteG s i K := by
  subst hi
  exact .intro x (by omega) (by simpa using h) hK
theorem RowsG.set {l : List α} {f : α → List D} {n : Nat} {row : List D} {K : List (List D) → Prop} (x : α) (hx : row = f x) (hK : K ((l.set n x).map f)) : RowsG ((l.map f).set n row) K :=
  .intro _ (by rw [hx, List.map_set]) hK
theorem RowsG.app {l m : List α} {f : α → List D} {K : List (List D) → Prop} (hK : K ((l ++ m).map f)) : RowsG (l.map f ++ m.map f) K :=
  .intro _ (by rw [List.map_append]) hK
end

theorem PRep.len_sl {w : World} {ok : Nat → Prop} {pl : Pl} {lk : Nat → Obj} {v : Value} {rows : List (List D)} (h : PRep w ok pl lk v (.d (.sl rows))) : rows.length ≤ maxLen := by
  cases h with | d h => exact h.len_le
theorem PRep.len_str {w : World} {ok : Nat → Prop} {pl : Pl} {lk : Nat → Obj} {v : Value} {s : List UInt8} (h : PRep w ok pl lk v (.d (.str s))) : s.length ≤ maxLen := by
  cases h with
  | d h =>
    obtain ⟨x, _, rfl, hx⟩ := h.str_inv
    rw [size_data]; exact hx
theorem LoopG.lenB {c : Code} {N : Fr → Ob → Prop} {Q : QP} (id j : Nat) {cs : List PV} {rows : List (List D)} (hn : lkOf ob id = .box cs) (hj : cs[j]? = some (.d (.sl rows))) (h : rows.length ≤ maxLen → LoopG X c fr ob N Q) : LoopG X c fr ob N Q :=
  ⟨fun hX hc pl a w hr => (h (by
    have := hr.ho id
    rw [hn] at this
    obtain ⟨c, e, _, _, h3⟩ := this
    exact (h3 j _ hj).1.len_sl)).out hX hc pl a w hr⟩
theorem LoopG.lenBS {c : Code} {N : Fr → Ob → Prop} {Q : QP} (id j : Nat) {cs : List PV} {s : List UInt8} (hn : lkOf ob id = .box cs) (hj : cs[j]? = some (.d (.str s))) (h : s.length ≤ maxLen → LoopG X c fr ob N Q) : LoopG X c fr ob N Q :=
  ⟨fun hX hc pl a w hr => (h (by
    have := hr.ho id
    rw [hn] at this
    obtain ⟨c, e, _, _, h3⟩ := this
    exact (h3 j _ hj).1.len_str)).out hX hc pl a w hr⟩
theorem LoopG.lenA {c : Code} {N : Fr → Ob → Prop} {Q : QP} (n j : Nat) {cs : List D} {rows : List (List D)} (hn : look .junk fr n = .agg cs) (hj : cs[j]? = some (.sl rows)) (h : rows.length ≤ maxLen → LoopG X c fr ob N Q) : LoopG X c fr ob N Q :=
  ⟨fun hX hc pl a w hr => (h (by
    have := hr.sv n
    rw [hn] at this
    generalize a.tmps.getD n undef = v at this
    cases this with | agg _ h2 => exact (h2 j _ hj).len_le)).out hX hc pl a w hr⟩

/-- The ways out of a loop, told by one state. -/
def CutQ {ε τ : Type} (X : Ctx) (id : Nat) (E : ε → Fr × Ob) (inj : ε → τ) (res : τ) (Q : QP) : QP := fun x fr ob => match x with
  | .exit i => (match Nat.beq i id with | true => ∃ e, res = inj e ∧ Cover X fr ob (E e).1 (E e).2 | false => Q (.exit i) fr ob)
  | x => Q x fr ob

theorem LoopG.cut {ε τ β : Type} {c : Code} {N : Fr → Ob → Prop} {Q : QP} (id : Nat) (E : ε → Fr × Ob) (inj : ε → τ) {K : τ → Option β} {res : τ} {v : β} (hr : K res = some v)
    (h : LoopG X c fr ob (fun _ _ => False) (CutQ X id E inj res Q)) (rest : ∀ e, K (inj e) = some v → Q (.exit id) (E e).1 (E e).2) : LoopG X c fr ob N Q := by
  refine ⟨fun hX hc pl a w hrel => wp_mono (h.out hX hc pl a w hrel) fun e a w hp => ?_⟩
  obtain ⟨pl, fr, ob, hr1, hq⟩ := hp
  cases e with
  | normal => exact hq.elim
  | exit i =>
    simp only [nq, CutQ] at hq
    split at hq
    · rename_i hb
      obtain ⟨e, he, hc⟩ := hq
      obtain ⟨pl', hr'⟩ := hc pl a w hr1
      have := rest e (by rw [← he]; exact hr)
      rw [Nat.eq_of_beq_eq_true hb]
      exact ⟨pl', _, _, hr', this⟩
    · exact ⟨pl, fr, ob, hr1, hq⟩
  | _ => exact ⟨pl, fr, ob, hr1, hq⟩

theorem LoopG.listCut {α σ τ ε β : Type} {c : Code} {N : Fr → Ob → Prop} {Q : QP} (l : List α) (S : Nat → σ → Fr × Ob) (F : Nat → σ → List α → Option τ) (id : Nat) (E : ε → Fr × Ob) (inj : ε → τ) {K : τ → Option β} {v : β} (s0 : σ) (h0 : Cover X fr ob (S 0 s0).1 (S 0 s0).2) (hF : (F 0 s0 l).bind K = some v)
    (step : ∀ res, K res = some v → ∀ i s x (hi : i < l.length) (hx : l[i]? = some x), F i s (x :: l.drop (i + 1)) = some res → PW X c (S i s).1 (S i s).2 (fun fr ob => ∃ s', F (i + 1) s' (l.drop (i + 1)) = some res ∧ Cover X fr ob (S (i + 1) s').1 (S (i + 1) s').2) (CutQ X id E inj res Q))
    (stop : ∀ res, K res = some v → ∀ i s (hi : i = l.length), F i s [] = some res → PW X c (S i s).1 (S i s).2 (fun _ _ => False) (CutQ X id E inj res Q))
    (rest : ∀ e, K (inj e) = some v → Q (.exit id) (E e).1 (E e).2) : LoopG X c fr ob N Q := by
  obtain ⟨res, hF, hr⟩ := bind_some hF
  refine LoopG.cut id E inj hr ?_ rest
  refine LoopG.intro (ι := {x : Nat × σ // x.1 ≤ l.length ∧ F x.1 x.2 (l.drop x.1) = some res}) (fun x => S x.1.1 x.1.2) (fun x => l.length - x.1.1) ⟨(0, s0), Nat.zero_le _, hF⟩ h0 fun ⟨(i, s), hi, hx⟩ => ?_
  simp only at hi hx
  by_cases h : i < l.length
  · rw [List.drop_eq_getElem_cons h] at hx
    refine WpG.mono (fun e fr ob hq => ?_) (PW_ok _ (step res hr i s _ h (List.getElem?_eq_getElem h) hx))
    cases e with
    | normal => obtain ⟨s', h1, h2⟩ := hq; exact ⟨⟨(i + 1, s'), by simp only; omega, h1⟩, by simp only; omega, h2⟩
    | _ => exact hq
  · have he : i = l.length := by omega
    rw [he, List.drop_length] at hx
    refine WpG.mono (fun e fr ob hq => ?_) (PW_ok _ (stop res hr i s he (by rw [he]; exact hx)))
    cases e with
    | normal => exact hq.elim
    | _ => exact hq

theorem LoopG.fuelCut {σ τ ε β : Type} {c : Code} {N : Fr → Ob → Prop} {Q : QP} (S : σ → Fr × Ob) (F : Nat → σ → Option τ) (id : Nat) (E : ε → Fr × Ob) (inj : ε → τ) {K : τ → Option β} {v : β} (k0 : Nat) (s0 : σ) (h0 : Cover X fr ob (S s0).1 (S s0).2) (hz : ∀ s, F 0 s = none) (hF : (F k0 s0).bind K = some v)
    (step : ∀ res, K res = some v → ∀ k s, F (k + 1) s = some res → PW X c (S s).1 (S s).2 (fun fr ob => ∃ s', F k s' = some res ∧ Cover X fr ob (S s').1 (S s').2) (CutQ X id E inj res Q))
    (rest : ∀ e, K (inj e) = some v → Q (.exit id) (E e).1 (E e).2) : LoopG X c fr ob N Q := by
  obtain ⟨res, hF, hr⟩ := bind_some hF
  refine LoopG.cut id E inj hr ?_ rest
  refine LoopG.intro (ι := {x : Nat × σ // F x.1 x.2 = some res}) (fun x => S x.1.2) (fun x => x.1.1) ⟨(k0, s0), hF⟩ h0 fun ⟨(k, s), hx⟩ => ?_
  simp only at hx
  cases k with
  | zero => rw [hz] at hx; cases hx
  | succ k =>
    refine WpG.mono (fun e fr ob hq => ?_) (PW_ok _ (step res hr k s hx))
    cases e with
    | normal => obtain ⟨s', h1, h2⟩ := hq; exact ⟨⟨(k, s'), h1⟩, Nat.lt_succ_self k, h2⟩
    | _ => exact hq
end Go.Pv
