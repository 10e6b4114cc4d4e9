import Derived.Test.YtondofmlippbcaaA5
set_option linter.unusedSimpArgs false
set_option linter.unusedVariables false
set_option maxRecDepth 100000
open Go Go.Pv
namespace Go.Pv.Try
/-- The row that is being filled. -/
def fillR {α : Type} (l : List α) (z : α) (i : Nat) : List α := l.take i ++ List.replicate (l.length - i) z
theorem fillR_len {α : Type} (l : List α) (z : α) (i : Nat) (h : i ≤ l.length) : (fillR l z i).length = l.length := by simp [fillR]; omega
theorem fillR_set {α : Type} (l : List α) (z : α) (i : Nat) (h : i < l.length) : (fillR l z i).set i l[i] = fillR l z (i + 1) := by
  apply List.ext_getElem
  · simp [fillR]; omega
  · intro j h1 h2
    simp only [fillR, List.getElem_set, List.getElem_append, List.getElem_take, List.getElem_replicate, List.length_take]
    by_cases hij : i = j
    · subst hij; simp; omega
    · simp only [hij, if_false]
      split <;> split <;> first | rfl | omega
def sR (x : ByteArray) : List D := [.str x]
theorem ok50 (l : List ByteArray) (hl : l.length ≤ 1048576) : FnOk Go.Proofs.Try.prog 50 [.d (.sl (l.map sR))] (.d (.sl (l.map sR))) := by
  (refine FnOk.intro (T := T) (fn := Go.Proofs.Try.f50) (c := (Go.Proofs.Try.f50).body.getD .skip) (by kernel_rfl) (by kernel_rfl) (by kernel_rfl) hfol hT (by kernel_rfl) (Nat.le_of_ble_eq_true rfl) rfl rfl ?_; intro N ok W0; refine PW_top ?_)
  ((repeat' ((conv => whnf); first | (refine BranchG.t (by first | rfl | assumption) ?_) | (refine BranchG.f (by first | rfl | assumption) ?_) | (refine BranchG.intro (fun _ => ?_) (fun _ => ?_)))) <;> (try conv => whnf))
  refine NeedG.intro (by simp; omega) ?_
  ((repeat' ((conv => whnf); first | (refine BranchG.t (by first | rfl | assumption) ?_) | (refine BranchG.f (by first | rfl | assumption) ?_) | (refine BranchG.intro (fun _ => ?_) (fun _ => ?_)))) <;> (try conv => whnf))
  refine LoopG.upto l.length (fun i => ([(0, .d (.sl (l.map sR))), (3, .own 7), (4, .d (.int .i64 i))], [(7, .row 9 1 ((fillR l ⟨#[]⟩ i).map sR))])) (fun _ => True) trivial (Cover.list ⟨rfl, rfl, rfl, trivial⟩ ⟨?_, trivial⟩ rfl) ?_
  · show Obj.row 9 1 _ = _
    simp [fillR, sR]
  intro i hi _
  ((repeat' ((conv => whnf); first | (refine BranchG.t (by first | rfl | assumption) ?_) | (refine BranchG.f (by first | rfl | assumption) ?_) | (refine BranchG.intro (fun _ => ?_) (fun _ => ?_)))) <;> (try conv => whnf))
  · rename_i hlt
    have hlt : i < l.length := by simpa using hlt
    refine IdxG.map rfl hlt ?_
    ((repeat' ((conv => whnf); first | (refine BranchG.t (by first | rfl | assumption) ?_) | (refine BranchG.f (by first | rfl | assumption) ?_) | (refine BranchG.intro (fun _ => ?_) (fun _ => ?_)))) <;> (try conv => whnf))
    have hlen := fillR_len l (⟨#[]⟩ : ByteArray) i hi
    refine IdxG.map rfl (by omega) ?_
    ((repeat' ((conv => whnf); first | (refine BranchG.t (by first | rfl | assumption) ?_) | (refine BranchG.f (by first | rfl | assumption) ?_) | (refine BranchG.intro (fun _ => ?_) (fun _ => ?_)))) <;> (try conv => whnf))
    refine IdxG.map rfl (by omega) ?_
    ((repeat' ((conv => whnf); first | (refine BranchG.t (by first | rfl | assumption) ?_) | (refine BranchG.f (by first | rfl | assumption) ?_) | (refine BranchG.intro (fun _ => ?_) (fun _ => ?_)))) <;> (try conv => whnf))
    refine ⟨hlt, trivial, Cover.list ⟨rfl, rfl, ?_, trivial⟩ ⟨?_, trivial⟩ rfl⟩
    · show PV.d (D.int _ (IntKind.i64.wrap _)) = _
      rw [wrap64 (by omega) (by omega)]; rfl
    · show Obj.row 9 1 _ = _
      rw [← fillR_set l _ i hlt, List.map_set]; rfl
  · rename_i hge
    have hge : ¬ i < l.length := by simpa using hge
    have : i = l.length := by omega
    subst this
    simp [fillR]
end Go.Pv.Try
