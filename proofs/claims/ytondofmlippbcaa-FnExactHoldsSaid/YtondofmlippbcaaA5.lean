import Derived.Test.YtondofmlippbcaaA4
set_option linter.unusedSimpArgs false
set_option linter.unusedVariables false
set_option maxRecDepth 100000
open Go Go.Pv
namespace Go.Pv.Try
theorem ok10 (k n : Int) (t : ByteArray) : FnOk Go.Proofs.Try.prog 10 [.agg [.int .i64 k, .int .i64 n, .str t]] (.agg [.int .i64 k, .int .i64 n, .str t]) := by
  (refine FnOk.intro (T := T) (fn := Go.Proofs.Try.f10) (c := (Go.Proofs.Try.f10).body.getD .skip) (by kernel_rfl) (by kernel_rfl) (by kernel_rfl) hfol hT (by kernel_rfl) (Nat.le_of_ble_eq_true rfl) rfl rfl ?_; intro N ok W0; refine PW_top ?_)
  ((repeat' ((conv => whnf); first | (refine BranchG.t (by first | rfl | assumption) ?_) | (refine BranchG.f (by first | rfl | assumption) ?_) | (refine BranchG.intro (fun _ => ?_) (fun _ => ?_)))) <;> (try conv => whnf))
theorem ok11 (k n : Int) (t : ByteArray) : FnOk Go.Proofs.Try.prog 11 [.agg [.int .i64 k, .int .i64 n, .str t]] (.agg [.int .i64 k, .int .i64 n, .str t]) := by
  (refine FnOk.intro (T := T) (fn := Go.Proofs.Try.f11) (c := (Go.Proofs.Try.f11).body.getD .skip) (by kernel_rfl) (by kernel_rfl) (by kernel_rfl) hfol hT (by kernel_rfl) (Nat.le_of_ble_eq_true rfl) rfl rfl ?_; intro N ok W0; refine PW_top ?_)
  ((repeat' ((conv => whnf); first | (refine BranchG.t (by first | rfl | assumption) ?_) | (refine BranchG.f (by first | rfl | assumption) ?_) | (refine BranchG.intro (fun _ => ?_) (fun _ => ?_)))) <;> (try conv => whnf))
def szR (left : Int) (n : Nat) : Int := if (n : Int) ≤ left then left - n else -1
theorem ok6 (k n : Int) (t : ByteArray) (left : Int) (h0 : 0 ≤ left) (h1 : left ≤ 1048576) (ht : t.size ≤ 4611686018427387904) : FnOk Go.Proofs.Try.prog 6 [.agg [.int .i64 k, .int .i64 n, .str t], .d (.int .i64 left)] (.d (.int .i64 (szR left t.size))) := by
  (refine FnOk.intro (T := T) (fn := Go.Proofs.Try.f6) (c := (Go.Proofs.Try.f6).body.getD .skip) (by kernel_rfl) (by kernel_rfl) (by kernel_rfl) hfol hT (by kernel_rfl) (Nat.le_of_ble_eq_true rfl) rfl rfl ?_; intro N ok W0; refine PW_top ?_)
  ((repeat' ((conv => whnf); first | (refine BranchG.t (by first | rfl | assumption) ?_) | (refine BranchG.f (by first | rfl | assumption) ?_) | (refine BranchG.intro (fun _ => ?_) (fun _ => ?_)))) <;> (try conv => whnf))
  · rename_i h
    rw [wrap64 (by omega) (by omega)] at h
    have h : left - (t.size : Int) < 0 := of_decide_eq_true h
    rw [szR, if_neg (by omega)]
  · rename_i h
    rw [wrap64 (by omega) (by omega)] at h ⊢
    have h : ¬ left - (t.size : Int) < 0 := of_decide_eq_false h
    rw [szR, if_pos (by omega)]
theorem ok7 (k n : Int) (t : ByteArray) (left : Int) (h0 : 0 ≤ left) (h1 : left ≤ 1048576) (ht : t.size ≤ 4611686018427387904) : FnOk Go.Proofs.Try.prog 7 [.agg [.int .i64 k, .int .i64 n, .str t], .d (.int .i64 left)] (.d (.int .i64 (szR left t.size))) := by
  (refine FnOk.intro (T := T) (fn := Go.Proofs.Try.f7) (c := (Go.Proofs.Try.f7).body.getD .skip) (by kernel_rfl) (by kernel_rfl) (by kernel_rfl) hfol hT (by kernel_rfl) (Nat.le_of_ble_eq_true rfl) rfl rfl ?_; intro N ok W0; refine PW_top ?_)
  ((repeat' ((conv => whnf); first | (refine BranchG.t (by first | rfl | assumption) ?_) | (refine BranchG.f (by first | rfl | assumption) ?_) | (refine BranchG.intro (fun _ => ?_) (fun _ => ?_)))) <;> (try conv => whnf))
  · rename_i h
    rw [wrap64 (by omega) (by omega)] at h
    have h : left - (t.size : Int) < 0 := of_decide_eq_true h
    rw [szR, if_neg (by omega)]
  · rename_i h
    rw [wrap64 (by omega) (by omega)] at h ⊢
    have h : ¬ left - (t.size : Int) < 0 := of_decide_eq_false h
    rw [szR, if_pos (by omega)]
end Go.Pv.Try
