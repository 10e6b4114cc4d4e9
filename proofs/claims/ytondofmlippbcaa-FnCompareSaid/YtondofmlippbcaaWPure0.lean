import Derived.Test.YtondofmlippbcaaWPvZc
set_option linter.unusedSimpArgs false
set_option linter.unusedVariables false
namespace Go.Pv
/-- From some number of rounds on. -/
def Ev (p : Nat → Prop) : Prop := ∃ K, ∀ k, K ≤ k → p k
theorem Ev.of {p : Nat → Prop} (h : ∀ k, p k) : Ev p := ⟨0, fun k _ => h k⟩
theorem Ev.and {p q : Nat → Prop} (h : Ev p) (h' : Ev q) : Ev fun k => p k ∧ q k := by
  obtain ⟨K, h⟩ := h; obtain ⟨K', h'⟩ := h'
  exact ⟨K + K', fun k hk => ⟨h k (by omega), h' k (by omega)⟩⟩
theorem Ev.mono {p q : Nat → Prop} (h : Ev p) (f : ∀ k, p k → q k) : Ev q := by
  obtain ⟨K, h⟩ := h
  exact ⟨K, fun k hk => f k (h k hk)⟩
theorem Ev.succ {p : Nat → Prop} (h : Ev fun k => p (k + 1)) : Ev p := by
  obtain ⟨K, h⟩ := h
  refine ⟨K + 1, fun k hk => ?_⟩
  obtain ⟨m, rfl⟩ : ∃ m, k = m + 1 := ⟨k - 1, by omega⟩
  exact h m (by omega)
theorem Ev.all {α : Type} {p : α → Nat → Prop} : ∀ {l : List α}, (∀ x ∈ l, Ev (p x)) → Ev fun k => ∀ x ∈ l, p x k
  | [], _ => .of fun _ x hx => by cases hx
  | x :: l, h => ((h x (by simp)).and (Ev.all (p := p) (l := l) fun y hy => h y (by simp [hy]))).mono fun k hk y hy => by
    obtain ⟨h1, h2⟩ := hk
    rcases List.mem_cons.1 hy with rfl | hy
    · exact h1
    · exact h2 y hy
theorem Ev.ex {p : Nat → Prop} (h : Ev p) : ∃ k, p k := by obtain ⟨K, h⟩ := h; exact ⟨K, h K (Nat.le_refl _)⟩

theorem w64_in {x : Int} (h1 : -9223372036854775808 ≤ x) (h2 : x ≤ 9223372036854775807) : w64 x = x := wrap64 h1 h2
theorem w64_sub {l : Int} {n : Nat} (h0 : 0 ≤ l) (h1 : l ≤ 1048576) (hn : (n : Int) ≤ 9223372036854775807) : w64 (l - (n : Int)) = l - n := w64_in (by omega) (by omega)

theorem at_get {α : Type} {l : List α} {n : Nat} {x : α} (h : l[n]? = some x) : at? l (n : Int) = some x := by
  unfold at?; rw [if_pos (by omega)]; simpa using h

/-! What is left of a measure. -/
def szL {α : Type} (f : α → Int → Option Int) : List α → Int → Option (Sum Int Int)
  | [], l => some (.inl l)
  | x :: xs, l => (f x l).bind fun t => if t < 0 then some (.inr (-1)) else szL f xs t
def szS {α : Type} (f : α → Int → Option Int) (a : List α) (left : Int) : Option Int :=
  if (w64 (left - (a.length : Int))) < 0 then some (-1) else (szL f a (w64 (left - (a.length : Int)))).bind fun t => match t with | .inl l => some l | .inr r => some r

/-- A measure: it tells no, or what is left; then OK. -/
def Meas {α : Type} (f : Nat → α → Int → Option Int) (OK : α → Prop) (x : α) : Prop :=
  ∀ left : Int, 0 ≤ left → left ≤ 1048576 → ∃ v, Ev (fun k => f k x left = some v) ∧ (v < 0 ∨ (0 ≤ v ∧ v ≤ left ∧ OK x))

theorem szL_good {α : Type} {f : Nat → α → Int → Option Int} {OK : α → Prop} : ∀ (l : List α), (∀ x ∈ l, Meas f OK x) → ∀ left : Int, 0 ≤ left → left ≤ 1048576 →
    ∃ v, Ev (fun k => szL (f k) l left = some v) ∧ (v = .inr (-1) ∨ ∃ w, v = .inl w ∧ 0 ≤ w ∧ w ≤ left ∧ ∀ x ∈ l, OK x)
  | [], _, left, h0, h1 => ⟨.inl left, .of fun k => rfl, .inr ⟨left, rfl, h0, Int.le_refl _, fun x hx => by cases hx⟩⟩
  | x :: l, hm, left, h0, h1 => by
    obtain ⟨v, e, d⟩ := hm x (by simp) left h0 h1
    rcases d with d | ⟨d0, d1, d2⟩
    · exact ⟨.inr (-1), e.mono fun k h => by rw [szL, h]; simp only [Option.bind_some]; rw [if_pos d], .inl rfl⟩
    · obtain ⟨v', e', d'⟩ := szL_good l (fun y hy => hm y (by simp [hy])) v d0 (by omega)
      refine ⟨v', (e.and e').mono fun k ⟨h, h'⟩ => by rw [szL, h]; simp only [Option.bind_some]; rw [if_neg (by omega)]; exact h', ?_⟩
      rcases d' with rfl | ⟨w, rfl, w0, w1, w2⟩
      · exact .inl rfl
      · refine .inr ⟨w, rfl, w0, by omega, fun y hy => ?_⟩
        rcases List.mem_cons.1 hy with rfl | hy
        · exact d2
        · exact w2 y hy

theorem szS_good {α : Type} {f : Nat → α → Int → Option Int} {OK : α → Prop} (l : List α) (hl : (l.length : Int) ≤ 9223372036854775807) (hm : ∀ x ∈ l, Meas f OK x) (left : Int) (h0 : 0 ≤ left) (h1 : left ≤ 1048576) :
    ∃ v, Ev (fun k => szS (f k) l left = some v) ∧ (v < 0 ∨ (0 ≤ v ∧ v ≤ left ∧ (l.length : Int) ≤ left ∧ ∀ x ∈ l, OK x)) := by
  have hw : w64 (left - (l.length : Int)) = left - l.length := w64_sub h0 h1 hl
  by_cases c : left - (l.length : Int) < 0
  · exact ⟨-1, .of fun k => by rw [szS, hw, if_pos c], .inl (by omega)⟩
  · obtain ⟨v, e, d⟩ := szL_good l hm (left - l.length) (by omega) (by omega)
    rcases d with rfl | ⟨w, rfl, w0, w1, w2⟩
    · exact ⟨-1, e.mono fun k h => by rw [szS, hw, if_neg c, h]; rfl, .inl (by omega)⟩
    · exact ⟨w, e.mono fun k h => by rw [szS, hw, if_neg c, h]; rfl, .inr ⟨w0, by omega, by omega, w2⟩⟩

/-! A copy. -/
def toL {α : Type} (f : α → Option α) : List α → Nat → List α → Option (List α)
  | [], i, l => some l
  | x :: xs, i, l => (f x).bind fun t => (at? l (i : Int)).bind fun e => toL f xs (i + 1) (l.set (i : Int).toNat t)
def toS {α : Type} (f : α → Option α) (B : Int) (z : α) (a : List α) : Option (List α) :=
  if 0 ≤ (a.length : Int) ∧ (a.length : Int) ≤ (a.length : Int) ∧ (a.length : Int) * B ≤ 140737488355328 ∧ (a.length : Int) ≤ 140737488355328 then ((toL f a 0 (List.replicate (a.length : Int).toNat z)).bind fun l => some l) else none

theorem toL_good {α : Type} {f : α → Option α} (z : α) : ∀ (xs pre : List α), (∀ x ∈ xs, f x = some x) → toL f xs pre.length (pre ++ List.replicate xs.length z) = some (pre ++ xs)
  | [], pre, _ => by simp [toL]
  | x :: xs, pre, h => by
    have ih := toL_good z xs (pre ++ [x]) fun y hy => h y (by simp [hy])
    rw [toL, h x (by simp)]
    have e1 : (pre ++ List.replicate (x :: xs).length z)[pre.length]? = some z := by simp [List.getElem?_append, List.replicate_succ]
    have e2 : (pre ++ List.replicate (x :: xs).length z).set pre.length x = pre ++ [x] ++ List.replicate xs.length z := by
      rw [List.set_append]; simp [List.replicate_succ]
    simp only [Option.bind_some, at_get e1, Int.toNat_natCast, e2]
    simpa using ih

theorem toS_good {α : Type} {f : α → Option α} {B : Int} {z : α} {a : List α} (h : ∀ x ∈ a, f x = some x) (hB : (a.length : Int) * B ≤ 140737488355328) (hl : (a.length : Int) ≤ 1048576) : toS f B z a = some a := by
  rw [toS, if_pos ⟨by omega, Int.le_refl _, hB, by omega⟩, Int.toNat_natCast]
  have := toL_good z a [] h
  simp only [List.nil_append, List.length_nil] at this
  rw [this]; rfl

/-! The same. -/
def eqL {α : Type} (f : α → α → Option Bool) (b : List α) : List α → Nat → Option (Sum Unit Bool)
  | [], i => some (.inl ())
  | x :: xs, i => (at? b (i : Int)).bind fun e => (f x e).bind fun t => if t = true then eqL f b xs (i + 1) else some (.inr false)
def eqS {α : Type} (f : α → α → Option Bool) (a b : List α) : Option Bool :=
  if (a.length : Int) = (b.length : Int) then ((eqL f b a 0).bind fun t => match t with | .inl _ => some true | .inr r => some r) else some false

theorem eqL_good {α : Type} {f : α → α → Option Bool} : ∀ (xs pre : List α), (∀ x ∈ xs, f x x = some true) → eqL f (pre ++ xs) xs pre.length = some (.inl ())
  | [], pre, _ => by simp [eqL]
  | x :: xs, pre, h => by
    have ih := eqL_good xs (pre ++ [x]) fun y hy => h y (by simp [hy])
    have e1 : (pre ++ x :: xs)[pre.length]? = some x := by simp
    rw [eqL, at_get e1]
    simp only [Option.bind_some, h x (by simp), if_true]
    simpa using ih
theorem eqS_good {α : Type} {f : α → α → Option Bool} {a : List α} (h : ∀ x ∈ a, f x x = some true) : eqS f a a = some true := by
  have := eqL_good a [] h
  simp only [List.nil_append, List.length_nil] at this
  rw [eqS, if_pos rfl, this]; rfl
end Go.Pv
