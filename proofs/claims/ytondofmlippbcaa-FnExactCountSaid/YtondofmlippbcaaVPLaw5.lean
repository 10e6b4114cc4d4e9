import Derived.Test.YtondofmlippbcaaVPSz
set_option linter.unusedSimpArgs false
set_option linter.unusedVariables false
open Go Go.Pv
namespace Go.Pv.S
theorem countL_eq : ∀ (l : List GRows) (n : Int), impl_Count_l1 l n = spec_Count_l1 l n
  | [], _ => rfl
  | x :: xs, n => by rw [impl_Count_l1, spec_Count_l1, countL_eq xs]
theorem countL_some : ∀ (l : List GRows) (n : Int), ∃ v, spec_Count_l1 l n = some v
  | [], n => ⟨n, rfl⟩
  | x :: xs, n => by rw [spec_Count_l1]; exact countL_some xs _
theorem count_eq (y : GStore) : impl_Count y = spec_Count y := by unfold impl_Count spec_Count; rw [countL_eq]
theorem count_some (y : GStore) : ∃ v, spec_Count y = some v := by
  obtain ⟨v, h⟩ := countL_some y.Data 0
  exact ⟨v, by rw [spec_Count, h]; rfl⟩
theorem laws_FnExactCount_holds (y : GStore) (h : OK_GStore 140737488351232 y) : ∃ k, laws_FnExactCount k y = some true := by
  obtain ⟨v, e, d⟩ := sz_Store h 1048576 (by omega) (by omega)
  refine Ev.ex ?_
  rcases d with d | ⟨d0, d1, hk⟩
  · exact e.mono fun k q => by unfold laws_FnExactCount; rw [show laws_szStore k y 1048576 = some v from q]; simp only [Option.bind_some]; rw [if_pos d]
  · obtain ⟨c, hc⟩ := count_some y
    exact ((e.and (to_Store y hk)).and (eq_Store y)).mono fun k ⟨⟨q, q1⟩, q2⟩ => by
      unfold laws_FnExactCount
      rw [show laws_szStore k y 1048576 = some v from q]; simp only [Option.bind_some]
      rw [if_neg (by omega), q1]; simp only [Option.bind_some, count_eq, hc, if_true, q2]
end Go.Pv.S
