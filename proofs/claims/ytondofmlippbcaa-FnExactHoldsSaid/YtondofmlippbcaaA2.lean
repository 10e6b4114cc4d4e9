import Derived.Test.YtondofmlippbcaaA1
import Derived.Test.YtondofmlippbcaaTrystringsContains
set_option linter.unusedSimpArgs false
set_option linter.unusedVariables false
set_option maxRecDepth 100000
open Go Go.Pv
namespace Go.Pv.Try
def hasZ (s : ByteArray) : Bool := s.data.toList.any fun b => ((b.toNat : Int) == 0)
def nameOk (s : ByteArray) : Bool := within (s.size : Int) 1 40 && !hasZ s
theorem ok83 (s : ByteArray) (hs : s.size ≤ 4611686018427387904) : FnOk Go.Proofs.Try.prog 83 [.d (.str s)] (.d (.bool (nameOk s))) := by
  have hsz : s.data.toList.length = s.size := by rw [Array.length_toList]; rfl
  (refine FnOk.intro (T := T) (fn := Go.Proofs.Try.f83) (c := (Go.Proofs.Try.f83).body.getD .skip) (by kernel_rfl) (by kernel_rfl) (by kernel_rfl) hfol hT (by kernel_rfl) (Nat.le_of_ble_eq_true rfl) rfl rfl ?_; intro N ok W0; refine PW_top ?_)
  ((repeat' ((conv => whnf); first | (refine BranchG.t (by first | rfl | assumption) ?_) | (refine BranchG.f (by first | rfl | assumption) ?_) | (refine BranchG.intro (fun _ => ?_) (fun _ => ?_)))) <;> (try conv => whnf))
  refine LoopG.upto s.size (fun i => ([(0, .d (.str s)), (3, .d (.int .i64 i))], [])) (fun i => ∀ j (h : j < s.data.toList.length), j < i → ((((s.data.toList[j]).toNat : Int) == 0) = false)) (fun j _ h => by omega) (Cover.list ⟨rfl, rfl, trivial⟩ trivial rfl) ?_
  intro i hi hno
  ((repeat' ((conv => whnf); first | (refine BranchG.t (by first | rfl | assumption) ?_) | (refine BranchG.f (by first | rfl | assumption) ?_) | (refine BranchG.intro (fun _ => ?_) (fun _ => ?_)) | (refine CallG.pure rfl (ok47 _ _ _) rfl ?_))) <;> (try conv => whnf))
  · rename_i hlt
    have hlt : i < s.size := by simpa using hlt
    refine NeedG.intro (by omega) ?_
    have hg : s.data.toList.getD i 0 = s.data.toList[i]'(by omega) := by simp [List.getD_eq_getElem?_getD, hsz, hlt]
    ((repeat' ((conv => whnf); first | (refine BranchG.t (by first | rfl | assumption) ?_) | (refine BranchG.f (by first | rfl | assumption) ?_) | (refine BranchG.intro (fun _ => ?_) (fun _ => ?_)))) <;> (try conv => whnf))
    · rename_i he
      have he : (((s.data.toList.getD i 0).toNat : Int) == 0) = true := he
      rw [hg] at he
      rw [show nameOk s = false by simp only [nameOk, hasZ]; rw [any_at (by omega) he]; simp]
    · rename_i he
      have he : (((s.data.toList.getD i 0).toNat : Int) == 0) = false := he
      rw [hg] at he
      refine ⟨hlt, step_no hno (by omega) he, Cover.list ⟨rfl, ?_, trivial⟩ trivial rfl⟩
      show PV.d (D.int _ (IntKind.i64.wrap _)) = _
      rw [wrap64 (by omega) (by omega)]; rfl
  · rename_i hge
    have hge : ¬ i < s.size := by simpa using hge
    rw [show nameOk s = within (s.size : Int) 1 40 by simp only [nameOk, hasZ]; rw [any_idx fun j hj => hno j hj (by omega)]; simp]
theorem ok48 (s : ByteArray) (hs : s.size ≤ 4611686018427387904) : FnOk Go.Proofs.Try.prog 48 [.d (.str s)] (.d (.bool (nameOk s))) := by
  (refine FnOk.intro (T := T) (fn := Go.Proofs.Try.f48) (c := (Go.Proofs.Try.f48).body.getD .skip) (by kernel_rfl) (by kernel_rfl) (by kernel_rfl) hfol hT (by kernel_rfl) (Nat.le_of_ble_eq_true rfl) rfl rfl ?_; intro N ok W0; refine PW_top ?_)
  ((repeat' ((conv => whnf); first | (refine BranchG.t (by first | rfl | assumption) ?_) | (refine BranchG.f (by first | rfl | assumption) ?_) | (refine BranchG.intro (fun _ => ?_) (fun _ => ?_)) | (refine CallG.pure rfl (ok83 _ hs) rfl ?_))) <;> (try conv => whnf))
theorem indexByte_any' : ∀ (l : List UInt8), (0 ≤ Lib.indexByte l 0) ↔ (l.any fun b => ((b.toNat : Int) == 0)) = true
  | [] => by simp [Lib.indexByte]
  | b :: l => by
    have ih := indexByte_any' l
    have hb : ((b.toNat : Int) == 0) = (b == 0) := by
      rw [Bool.eq_iff_iff]
      simp only [beq_iff_eq]
      constructor
      · intro h; exact UInt8.toNat_inj.1 (by simpa using (by omega : b.toNat = 0))
      · intro h; subst h; rfl
    simp only [Lib.indexByte, List.any_cons, hb]
    have hge := Lib.indexByte_ge l 0
    by_cases h : (b == 0) = true
    · simp [h]
    · have h : (b == 0) = false := by simpa using h
      simp only [h, Bool.false_eq_true, if_false, Bool.false_or, ← ih]
      by_cases h1 : Lib.indexByte l 0 = -1
      · simp [h1]
      · have : (Lib.indexByte l 0 == -1) = false := by simpa using h1
        simp only [this, Bool.false_eq_true, if_false]
        omega
theorem indexByte_any (l : List UInt8) : decide (0 ≤ Lib.indexByte l 0) = l.any fun b => ((b.toNat : Int) == 0) := by
  rw [Bool.eq_iff_iff, decide_eq_true_iff]; exact indexByte_any' l
theorem ok84 (s : ByteArray) : FnOk Go.Proofs.Try.prog 84 [.d (.str s), .d (.str ⟨#[0]⟩)] (.d (.bool (hasZ s))) := by
  rw [hasZ, ← indexByte_any]
  exact FnOk.ofCalls (fn := Go.Proofs.Try.f84) (c := (Go.Proofs.Try.f84).body.getD .skip) (by kernel_rfl) (by kernel_rfl) (by kernel_rfl) rfl rfl fun w => Go.Proofs.Try.strings_Contains_one s 0 w
theorem ok52 (s : ByteArray) : FnOk Go.Proofs.Try.prog 52 [.d (.str s)] (.d (.bool (nameOk s))) := by
  (refine FnOk.intro (T := T) (fn := Go.Proofs.Try.f52) (c := (Go.Proofs.Try.f52).body.getD .skip) (by kernel_rfl) (by kernel_rfl) (by kernel_rfl) hfol hT (by kernel_rfl) (Nat.le_of_ble_eq_true rfl) rfl rfl ?_; intro N ok W0; refine PW_top ?_)
  ((repeat' ((conv => whnf); first | (refine BranchG.t (by first | rfl | assumption) ?_) | (refine BranchG.f (by first | rfl | assumption) ?_) | (refine BranchG.intro (fun _ => ?_) (fun _ => ?_)) | (refine CallG.pure rfl (ok51 _ _ _) rfl ?_) | (refine CallG.pure rfl (ok84 _) rfl ?_))) <;> (try conv => whnf)) <;> simp_all [nameOk]
end Go.Pv.Try
