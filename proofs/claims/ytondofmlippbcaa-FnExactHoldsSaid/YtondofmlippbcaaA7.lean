import Derived.Test.YtondofmlippbcaaA6
set_option linter.unusedSimpArgs false
set_option linter.unusedVariables false
set_option maxRecDepth 100000
open Go Go.Pv
namespace Go.Pv.Try
theorem ok27 (x : Lab) (hl : x.2.length ≤ 1048576) : FnOk Go.Proofs.Try.prog 27 [.agg (eL x)] (.agg (eL x)) := by
  have h50 := ok50 x.2 hl
  (refine FnOk.intro (T := T) (fn := Go.Proofs.Try.f27) (c := (Go.Proofs.Try.f27).body.getD .skip) (by kernel_rfl) (by kernel_rfl) (by kernel_rfl) hfol hT (by kernel_rfl) (Nat.le_of_ble_eq_true rfl) rfl rfl ?_; intro N ok W0; refine PW_top ?_)
  ((repeat' ((conv => whnf); first | (refine BranchG.t (by first | rfl | assumption) ?_) | (refine BranchG.f (by first | rfl | assumption) ?_) | (refine BranchG.intro (fun _ => ?_) (fun _ => ?_)) | (refine CallG.pure rfl (h50) rfl ?_))) <;> (try conv => whnf))
  rfl
theorem ok12 (l : List Lab) (hl : l.length ≤ 1048576) (hl2 : ∀ x ∈ l, x.2.length ≤ 1048576) : FnOk Go.Proofs.Try.prog 12 [.d (.sl (l.map eL))] (.d (.sl (l.map eL))) := by
  (refine FnOk.intro (T := T) (fn := Go.Proofs.Try.f12) (c := (Go.Proofs.Try.f12).body.getD .skip) (by kernel_rfl) (by kernel_rfl) (by kernel_rfl) hfol hT (by kernel_rfl) (Nat.le_of_ble_eq_true rfl) rfl rfl ?_; intro N ok W0; refine PW_top ?_)
  ((repeat' ((conv => whnf); first | (refine BranchG.t (by first | rfl | assumption) ?_) | (refine BranchG.f (by first | rfl | assumption) ?_) | (refine BranchG.intro (fun _ => ?_) (fun _ => ?_)))) <;> (try conv => whnf))
  refine NeedG.intro (by simp; omega) ?_
  ((repeat' ((conv => whnf); first | (refine BranchG.t (by first | rfl | assumption) ?_) | (refine BranchG.f (by first | rfl | assumption) ?_) | (refine BranchG.intro (fun _ => ?_) (fun _ => ?_)))) <;> (try conv => whnf))
  refine LoopG.upto l.length (fun i => ([(0, .d (.sl (l.map eL))), (3, .own 7), (4, .d (.int .i64 i))], [(7, .row 83 2 ((fillR l (⟨#[]⟩, []) i).map eL))])) (fun _ => True) trivial (Cover.list ⟨rfl, rfl, rfl, trivial⟩ ⟨?_, trivial⟩ rfl) ?_
  · show Obj.row 83 2 _ = _
    simp [fillR, eL]
  intro i hi _
  ((repeat' ((conv => whnf); first | (refine BranchG.t (by first | rfl | assumption) ?_) | (refine BranchG.f (by first | rfl | assumption) ?_) | (refine BranchG.intro (fun _ => ?_) (fun _ => ?_)))) <;> (try conv => whnf))
  · rename_i hlt
    have hlt : i < l.length := by simpa using hlt
    refine IdxG.map rfl hlt ?_
    ((repeat' ((conv => whnf); first | (refine BranchG.t (by first | rfl | assumption) ?_) | (refine BranchG.f (by first | rfl | assumption) ?_) | (refine BranchG.intro (fun _ => ?_) (fun _ => ?_)) | (refine CallG.pure rfl (ok27 _ (hl2 _ (List.getElem_mem hlt))) rfl ?_))) <;> (try conv => whnf))
    have hlen := fillR_len l ((⟨#[]⟩, []) : Lab) i hi
    refine IdxG.map rfl (by omega) ?_
    ((repeat' ((conv => whnf); first | (refine BranchG.t (by first | rfl | assumption) ?_) | (refine BranchG.f (by first | rfl | assumption) ?_) | (refine BranchG.intro (fun _ => ?_) (fun _ => ?_)))) <;> (try conv => whnf))
    refine IdxG.map rfl (by omega) ?_
    ((repeat' ((conv => whnf); first | (refine BranchG.t (by first | rfl | assumption) ?_) | (refine BranchG.f (by first | rfl | assumption) ?_) | (refine BranchG.intro (fun _ => ?_) (fun _ => ?_)))) <;> (try conv => whnf))
    refine ⟨hlt, trivial, Cover.list ⟨rfl, rfl, ?_, trivial⟩ ⟨?_, trivial⟩ rfl⟩
    · show PV.d (D.int _ (IntKind.i64.wrap _)) = _
      rw [wrap64 (by omega) (by omega)]; rfl
    · show Obj.row 83 2 _ = _
      rw [← fillR_set l _ i hlt, List.map_set]; rfl
  · rename_i hge
    have hge : ¬ i < l.length := by simpa using hge
    have : i = l.length := by omega
    subst this
    simp [fillR]
end Go.Pv.Try
