import Derived.Test.YtondofmlippbcaaA8
set_option linter.unusedSimpArgs false
set_option linter.unusedVariables false
set_option maxRecDepth 100000
open Go Go.Pv
namespace Go.Pv.Try
def szLabs (l : List Lab) : Nat := l.length + (l.map szLab).sum
def labsSmall (l : List Lab) : Prop := l.length ≤ 4611686018427387904 ∧ ∀ x ∈ l, labSmall x
theorem ok8 (l : List Lab) (left : Int) (h0 : 0 ≤ left) (h1 : left ≤ 1048576) (hs : labsSmall l) : FnOk Go.Proofs.Try.prog 8 [.d (.sl (l.map eL)), .d (.int .i64 left)] (.d (.int .i64 (szR left (szLabs l)))) := by
  obtain ⟨hl, hx⟩ := hs
  have hle := psum_le szLab l
  have hw : IntKind.i64.wrap (left - ((l.map eL).length : Int)) = left - (l.length : Int) := by rw [List.length_map]; exact wrap64 (by omega) (by omega)
  (refine FnOk.intro (T := T) (fn := Go.Proofs.Try.f8) (c := (Go.Proofs.Try.f8).body.getD .skip) (by kernel_rfl) (by kernel_rfl) (by kernel_rfl) hfol hT (by kernel_rfl) (Nat.le_of_ble_eq_true rfl) rfl rfl ?_; intro N ok W0; refine PW_top ?_)
  ((repeat' ((conv => whnf); first | (refine BranchG.t (by first | rfl | assumption) ?_) | (refine BranchG.f (by first | rfl | assumption) ?_) | (refine BranchG.intro (fun _ => ?_) (fun _ => ?_)))) <;> (try conv => whnf))
  · rename_i h
    rw [hw] at h
    have h := of_decide_eq_true h
    rw [szR, szLabs, if_neg (by omega)]
  · rename_i h
    rw [hw] at h
    have h := of_decide_eq_false h
    refine LoopG.upto l.length (fun i => ([(0, .d (.sl (l.map eL))), (1, .d (.int .i64 (left - l.length - psum szLab l i))), (5, .d (.int .i64 i))], [])) (fun i => (l.length + psum szLab l i : Int) ≤ left) (by simp [psum_zero]; omega) (Cover.list ⟨rfl, ?_, rfl, trivial⟩ trivial rfl) ?_
    · show PV.d (D.int _ (IntKind.i64.wrap _)) = _
      rw [hw, psum_zero]; simp
    intro i hi hI
    ((repeat' ((conv => whnf); first | (refine BranchG.t (by first | rfl | assumption) ?_) | (refine BranchG.f (by first | rfl | assumption) ?_) | (refine BranchG.intro (fun _ => ?_) (fun _ => ?_)))) <;> (try conv => whnf))
    · rename_i hlt
      have hlt : i < l.length := by simpa using hlt
      refine IdxG.map rfl hlt ?_
      have hp := psum_succ szLab l i hlt
      have hle1 := hle (i + 1)
      have h23 := ok23 l[i] (left - l.length - psum szLab l i) (by omega) (by omega) (hx _ (List.getElem_mem hlt))
      rcases szR_cases (left - l.length - psum szLab l i) (szLab l[i]) (by omega) (by omega) with ⟨e, e1⟩ | ⟨e, e1, e2, e3⟩
      · rw [e] at h23
        ((repeat' ((conv => whnf); first | (refine BranchG.t (by first | rfl | assumption) ?_) | (refine BranchG.f (by first | rfl | assumption) ?_) | (refine BranchG.intro (fun _ => ?_) (fun _ => ?_)) | (refine CallG.pure rfl (h23) rfl ?_))) <;> (try conv => whnf))
        rw [szR, szLabs, if_neg (by omega)]
      · rw [e] at h23
        generalize hr : left - l.length - psum szLab l i - szLab l[i] = r at h23
        ((repeat' ((conv => whnf); first | (refine BranchG.t (by first | rfl | assumption) ?_) | (refine BranchG.f (by first | rfl | assumption) ?_) | (refine BranchG.intro (fun _ => ?_) (fun _ => ?_)) | (refine CallG.pure rfl (h23) rfl ?_))) <;> (try conv => whnf))
        · rename_i hneg
          have hneg := of_decide_eq_true hneg
          omega
        · refine ⟨hlt, by omega, Cover.list ⟨rfl, ?_, ?_, trivial⟩ trivial rfl⟩
          · rw [hp]
            show PV.d (D.int _ r) = _
            congr 2; omega
          · show PV.d (D.int _ (IntKind.i64.wrap _)) = _
            rw [wrap64 (by omega) (by omega)]; rfl
    · rename_i hge
      have hge : ¬ i < l.length := by simpa using hge
      have : i = l.length := by omega
      subst this
      rw [psum_all] at hI ⊢
      rw [szR, szLabs, if_pos (by omega)]
      congr 2; omega
end Go.Pv.Try
