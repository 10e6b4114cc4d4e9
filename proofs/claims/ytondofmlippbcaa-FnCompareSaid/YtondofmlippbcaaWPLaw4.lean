import Derived.Test.YtondofmlippbcaaWY8
import Derived.Test.YtondofmlippbcaaWPure0
set_option linter.unusedVariables false
set_option linter.unusedSimpArgs false
set_option maxRecDepth 100000
open Go Go.Pv
namespace Go.Pv.S
abbrev cxy : List GCol := [(⟨[120], (⟨0, 0, []⟩ : GType_), false, []⟩ : GCol), (⟨[121], (⟨0, 0, []⟩ : GType_), false, []⟩ : GCol)]
abbrev kxy : List GExpr := [(⟨0, [120], 0, []⟩ : GExpr), (⟨0, [121], 0, []⟩ : GExpr)]
abbrev rxy (X Y : Int) : GRow := ⟨[(⟨1, X, []⟩ : GValue), (⟨1, Y, []⟩ : GValue)]⟩
theorem cols_xy (kd : Int) (hk : kd ∈ ([10, 12, 13, 14, 15, 16, 18] : List Int)) : impl_Columns 9 ⟨kd, [], 0, kxy⟩ = some [[120], [121]] := by
  have h1 : impl_columns_nil1 9 ⟨kd, [], 0, kxy⟩ = some [[120], [121]] := by
    simp only [List.mem_cons, List.not_mem_nil, or_false] at hk
    rcases hk with rfl | rfl | rfl | rfl | rfl | rfl | rfl <;> decide +kernel
  have h2 : slices_Sort [[120], [121]] = some [[120], [121]] := by
    unfold slices_Sort
    rw [if_pos (by decide)]
    congr 1
    apply List.mergeSort_of_pairwise
    decide
  have h3 : slices_Compact [[120], [121]] = some [[120], [121]] := by
    unfold slices_Compact
    rw [if_pos (by decide)]
    rfl
  unfold impl_Columns
  rw [h1]; simp only [Option.bind_some]
  unfold impl_rising
  rw [h2]; simp only [Option.bind_some]
  rw [h3]; rfl
theorem ok_xy (kd : Int) (hk : kd ∈ ([10, 12, 13, 14, 15, 16, 18] : List Int)) : impl_ExprOk 9 ⟨kd, [], 0, kxy⟩ = some true := by
  simp only [List.mem_cons, List.not_mem_nil, or_false] at hk
  rcases hk with rfl | rfl | rfl | rfl | rfl | rfl | rfl <;> decide +kernel
theorem contains_xy : slices_ContainsFunc_string_string_Eval_1 [[120], [121]] cxy = some (false, cxy) := by rfl
theorem valueOk_num {X : Int} (h1 : -999999999999 ≤ X) (h2 : X ≤ 999999999999) : impl_ValueOk ⟨1, X, []⟩ = true := by
  simp [impl_ValueOk, impl_within, h1, h2]
theorem vals_xy {X Y : Int} (h1 : -999999999999 ≤ X) (h2 : X ≤ 999999999999) (h3 : -999999999999 ≤ Y) (h4 : Y ≤ 999999999999) : slices_ContainsFunc_impl_Value_impl_Value_Eval_2 (rxy X Y).Vals = some false := by
  simp [slices_ContainsFunc_impl_Value_impl_Value_Eval_2, slices_IndexFunc_impl_Value_impl_Value_Eval_2, slices_IndexFunc_impl_Value_impl_Value_Eval_2_l1, impl_Eval_2, valueOk_num h1 h2, valueOk_num h3 h4]
theorem eval_xy (X Y : Int) (kd : Int) (hk : kd ∈ ([10, 12, 13, 14, 15, 16, 18] : List Int)) : impl_eval 9 ⟨kd, [], 0, kxy⟩ cxy (rxy X Y) = impl_compared kd ⟨1, X, []⟩ ⟨1, Y, []⟩ := by
  have hid : ∀ o : Option GValue, (o.bind fun t => some t) = o := fun o => by cases o <;> rfl
  simp only [List.mem_cons, List.not_mem_nil, or_false] at hk
  rcases hk with rfl | rfl | rfl | rfl | rfl | rfl | rfl <;> (refine Eq.trans (?_ : _ = (impl_compared _ ⟨1, X, []⟩ ⟨1, Y, []⟩).bind fun t => some t) (hid _); rfl)
theorem Eval_xy {X Y : Int} (h1 : -999999999999 ≤ X) (h2 : X ≤ 999999999999) (h3 : -999999999999 ≤ Y) (h4 : Y ≤ 999999999999) (kd : Int) (hk : kd ∈ ([10, 12, 13, 14, 15, 16, 18] : List Int)) : impl_Eval 9 ⟨kd, [], 0, kxy⟩ cxy (rxy X Y) = impl_compared kd ⟨1, X, []⟩ ⟨1, Y, []⟩ := by
  have hid : ∀ o : Option GValue, (o.bind fun t => some t) = o := fun o => by cases o <;> rfl
  unfold impl_Eval
  rw [ok_xy kd hk]; simp only [Option.bind_some, if_true]
  rw [if_pos (by rfl), vals_xy h1 h2 h3 h4]; simp only [Option.bind_some, Bool.false_eq_true, if_false]
  rw [cols_xy kd hk]; simp only [Option.bind_some]
  rw [contains_xy]; simp only [Option.bind_some, Bool.false_eq_true, if_false]
  rw [eval_xy X Y kd hk, hid]
theorem lt_num (X Y : Int) : impl_compared_1 ⟨1, X, []⟩ ⟨1, Y, []⟩ = decide (X < Y) := by
  unfold impl_compared_1
  by_cases h : X < Y
  · simp [h]
  · simp [h, impl_Before, Op.bytesLess]
theorem c12 (X Y : Int) : impl_compared 12 ⟨1, X, []⟩ ⟨1, Y, []⟩ = some (impl_truth (decide (X < Y))) := by simp [impl_compared, lt_num]
theorem c13 (X Y : Int) : impl_compared 13 ⟨1, X, []⟩ ⟨1, Y, []⟩ = some (impl_truth (!decide (Y < X))) := by simp [impl_compared, lt_num]
theorem c14 (X Y : Int) : impl_compared 14 ⟨1, X, []⟩ ⟨1, Y, []⟩ = some (impl_truth (decide (Y < X))) := by simp [impl_compared, lt_num]
theorem c15 (X Y : Int) : impl_compared 15 ⟨1, X, []⟩ ⟨1, Y, []⟩ = some (impl_truth (!decide (X < Y))) := by simp [impl_compared, lt_num]
theorem c10 (X Y : Int) : impl_compared 10 ⟨1, X, []⟩ ⟨1, Y, []⟩ = some (impl_truth (decide (X = Y))) := by simp [impl_compared]
theorem number_in {n : Int} (h1 : -999999999999 ≤ n) (h2 : n ≤ 999999999999) : impl_number n = ⟨1, n, []⟩ := by simp [impl_number, impl_within, h1, h2]
theorem c16 {X Y : Int} (h1 : -1000000000 ≤ X) (h2 : X ≤ 1000000000) (h3 : -1000000000 ≤ Y) (h4 : Y ≤ 1000000000) : impl_compared 16 ⟨1, X, []⟩ ⟨1, Y, []⟩ = some ⟨1, X + Y, []⟩ := by
  have hw : w64 (X + Y) = X + Y := w64_in (by omega) (by omega)
  simp [impl_compared, hw, number_in (n := X + Y) (by omega) (by omega)]
theorem mul_in {X Y : Int} (h1 : -1000000000 ≤ X) (h2 : X ≤ 1000000000) (h3 : -1000000000 ≤ Y) (h4 : Y ≤ 1000000000) : -1000000000000000000 ≤ X * Y ∧ X * Y ≤ 1000000000000000000 := by
  have hx : X.natAbs ≤ 1000000000 := by omega
  have hy : Y.natAbs ≤ 1000000000 := by omega
  have h := Nat.mul_le_mul hx hy
  rw [← Int.natAbs_mul] at h
  omega
theorem abs_w {X : Int} (h1 : -1000000000 ≤ X) (h2 : X ≤ 1000000000) : (if w64 (0 - X) > X then w64 (0 - X) else X) = (X.natAbs : Int) := by
  have hw : w64 (0 - X) = 0 - X := w64_in (by omega) (by omega)
  rw [hw]
  split <;> omega
theorem c18 {X Y : Int} (h1 : -1000000000 ≤ X) (h2 : X ≤ 1000000000) (h3 : -1000000000 ≤ Y) (h4 : Y ≤ 1000000000) : impl_compared 18 ⟨1, X, []⟩ ⟨1, Y, []⟩ = some (if X * Y > 999999999999 ∨ X * Y < -999999999999 then ⟨0, 0, []⟩ else ⟨1, X * Y, []⟩) := by
  have hm := mul_in h1 h2 h3 h4
  have hw : w64 (X * Y) = X * Y := w64_in (by omega) (by omega)
  have key : impl_product X Y = some (if X * Y > 999999999999 ∨ X * Y < -999999999999 then ⟨0, 0, []⟩ else ⟨1, X * Y, []⟩) := by
    unfold impl_product
    by_cases h0 : X = 0
    · rw [if_pos h0, hw]
      subst h0
      simp [number_in (n := 0) (by omega) (by omega)]
    · rw [if_neg h0, abs_w h1 h2, abs_w h3 h4]
      have hx0 : 0 < X.natAbs := by omega
      rw [if_pos (by omega)]
      have hq : w64 ((999999999999 : Int).tdiv (X.natAbs : Int)) = ((999999999999 / X.natAbs : Nat) : Int) := by
        have e : (999999999999 : Int).tdiv (X.natAbs : Int) = ((999999999999 / X.natAbs : Nat) : Int) := by
          rw [Int.tdiv_eq_ediv_of_nonneg (by omega)]; simp
        rw [e]
        have := Nat.div_le_self 999999999999 X.natAbs
        generalize 999999999999 / X.natAbs = q at *
        exact w64_in (by omega) (by omega)
      rw [hq]
      have hab : (X * Y).natAbs = X.natAbs * Y.natAbs := Int.natAbs_mul X Y
      have hdiv : ((Y.natAbs : Int) > ((999999999999 / X.natAbs : Nat) : Int)) ↔ (X * Y > 999999999999 ∨ X * Y < -999999999999) := by
        have h5 : 999999999999 / X.natAbs < Y.natAbs ↔ 999999999999 < Y.natAbs * X.natAbs := Nat.div_lt_iff_lt_mul hx0
        rw [Nat.mul_comm, ← hab] at h5
        constructor
        · intro h
          have := h5.1 (by omega)
          omega
        · intro h
          have := h5.2 (by omega)
          omega
      by_cases hb : X * Y > 999999999999 ∨ X * Y < -999999999999
      · rw [if_pos (hdiv.2 hb), if_pos hb]
      · rw [if_neg (fun h => hb (hdiv.1 h)), if_neg hb, hw, number_in (by omega) (by omega)]
  simp only [impl_compared]
  simp [key]

theorem at_in (code : List UInt8) (i : Int) (h0 : 0 ≤ i) (h1 : i ≤ 1) (hl : code.length ≤ 1048576) : ∃ t, laws_at code i = some t ∧ 0 ≤ t ∧ t ≤ 255 := by
  unfold laws_at
  by_cases h : i < (code.length : Int)
  · rw [if_pos h]
    have hlt : i.toNat < code.length := by omega
    have : at? code i = some code[i.toNat] := by
      unfold at?
      rw [if_pos h0, List.getElem?_eq_getElem hlt]
    rw [this]
    simp only [Option.bind_some]
    have hb := UInt8.toNat_lt code[i.toNat]
    exact ⟨_, rfl, by rw [w64_in (by omega) (by omega)]; omega, by rw [w64_in (by omega) (by omega)]; omega⟩
  · rw [if_neg h]
    have hw1 : w64 (i * 7) = i * 7 := w64_in (by omega) (by omega)
    rw [hw1, w64_in (x := i * 7 + (code.length : Int)) (by omega) (by omega)]
    refine ⟨_, rfl, Int.tmod_nonneg _ (by omega), ?_⟩
    have := Int.tmod_lt_of_pos (i * 7 + (code.length : Int)) (b := 256) (by omega)
    omega
theorem truth_kind (b : Bool) : impl_truth b = ⟨3, if b then 1 else 0, []⟩ := by cases b <;> rfl
theorem loop_xy {t t1 X Y : Int} (hX : w64 ((w64 (t * 4000000)) - 500000000) = X) (hY : w64 ((w64 (t1 * 3999999)) - 499999000) = Y) (h1 : -1000000000 ≤ X) (h2 : X ≤ 1000000000) (h3 : -1000000000 ≤ Y) (h4 : Y ≤ 1000000000) :
    laws_FnCompare_l1 9 t t1 [12, 10, 14] 0 0 = some (cxy, kxy, 1) := by
  have E := fun kd hk => Eval_xy (X := X) (Y := Y) (by omega) (by omega) (by omega) (by omega) kd hk
  have e12 := (E 12 (by decide)).trans (c12 X Y)
  have e10 := (E 10 (by decide)).trans (c10 X Y)
  have e14 := (E 14 (by decide)).trans (c14 X Y)
  have a0 : at? ([12, 10, 14] : List Int) ((0 : Nat) : Int) = some 12 := rfl
  have a1 : at? ([12, 10, 14] : List Int) ((0 + 1 : Nat) : Int) = some 10 := rfl
  have a2 : at? ([12, 10, 14] : List Int) ((0 + 1 + 1 : Nat) : Int) = some 14 := rfl
  have w1 : w64 (0 + 1) = 1 := rfl
  have w2 : w64 1 = 1 := rfl
  simp only [laws_FnCompare_l1, hX, hY, a0, a1, a2, Option.bind_some, e12, e10, e14, truth_kind]
  rcases Int.lt_trichotomy X Y with h | h | h
  · have : ¬ Y < X := by omega
    have : X ≠ Y := by omega
    simp [*]
  · subst h
    simp [*]
  · have : ¬ X < Y := by omega
    have : X ≠ Y := by omega
    simp [*]
theorem laws_FnCompare_holds (code : List UInt8) (h : (code.length : Int) ≤ 140737488351232 ∧ ∀ x ∈ code, True) : ∃ k, laws_FnCompare k code = some true := by
  refine ⟨9, ?_⟩
  unfold laws_FnCompare
  by_cases hb : laws_big code = true
  · rw [if_pos hb]
  · rw [if_neg hb]
    have hl : code.length ≤ 1048576 := by simp [laws_big] at hb; omega
    obtain ⟨t, ht, t0, t2⟩ := at_in code 0 (by omega) (by omega) hl
    obtain ⟨u, hu, u0, u2⟩ := at_in code 1 (by omega) (by omega) hl
    rw [ht]; simp only [Option.bind_some]
    rw [hu]; simp only [Option.bind_some]
    generalize hX : w64 ((w64 (t * 4000000)) - 500000000) = X
    generalize hY : w64 ((w64 (u * 3999999)) - 499999000) = Y
    have bX : -1000000000 ≤ X ∧ X ≤ 1000000000 := by
      rw [w64_in (x := t * 4000000) (by omega) (by omega), w64_in (by omega) (by omega)] at hX; omega
    have bY : -1000000000 ≤ Y ∧ Y ≤ 1000000000 := by
      rw [w64_in (x := u * 3999999) (by omega) (by omega), w64_in (by omega) (by omega)] at hY; omega
    obtain ⟨h1, h2⟩ := bX
    obtain ⟨h3, h4⟩ := bY
    rw [loop_xy hX hY h1 h2 h3 h4]; simp only [Option.bind_some]
    have E := fun kd hk => Eval_xy (X := X) (Y := Y) (by omega) (by omega) (by omega) (by omega) kd hk
    rw [(E 13 (by decide)).trans (c13 X Y)]; simp only [Option.bind_some]
    rw [(E 15 (by decide)).trans (c15 X Y)]; simp only [Option.bind_some]
    rw [(E 16 (by decide)).trans (c16 h1 h2 h3 h4)]; simp only [Option.bind_some]
    rw [(E 18 (by decide)).trans (c18 h1 h2 h3 h4)]; simp only [Option.bind_some]
    have hm := mul_in h1 h2 h3 h4
    have hw : w64 (X * Y) = X * Y := w64_in (by omega) (by omega)
    have hs : w64 (X + Y) = X + Y := w64_in (by omega) (by omega)
    simp only [hw, hs, truth_kind]
    by_cases hbig : X * Y > 999999999999
    · by_cases hxy : X < Y <;> by_cases hyx : Y < X <;> simp [hbig, hxy, hyx] <;> (rw [if_pos (by omega), if_pos (by omega)])
    · by_cases hneg : X * Y < -999999999999
      · by_cases hxy : X < Y <;> by_cases hyx : Y < X <;> simp [hbig, hneg, hxy, hyx] <;> (rw [if_pos (by omega), if_pos (by omega)])
      · by_cases hxy : X < Y <;> by_cases hyx : Y < X <;> simp [hbig, hneg, hxy, hyx] <;> (rw [if_pos (by omega), if_pos (by omega)])
end Go.Pv.S
