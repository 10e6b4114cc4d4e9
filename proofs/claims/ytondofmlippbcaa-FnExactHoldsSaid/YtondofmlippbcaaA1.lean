import Derived.Test.YtondofmlippbcaaTryT
import Derived.Test.YtondofmlippbcaaPvZb
set_option linter.unusedSimpArgs false
set_option linter.unusedVariables false
set_option maxRecDepth 100000
open Go Go.Pv
namespace Go.Pv.Try
def within (a lo hi : Int) : Bool := decide (lo ≤ a) && decide (a ≤ hi)
theorem ok51 (a lo hi : Int) : FnOk Go.Proofs.Try.prog 51 [.d (.int .i64 a), .d (.int .i64 lo), .d (.int .i64 hi)] (.d (.bool (within a lo hi))) := by
  (refine FnOk.intro (T := T) (fn := Go.Proofs.Try.f51) (c := (Go.Proofs.Try.f51).body.getD .skip) (by kernel_rfl) (by kernel_rfl) (by kernel_rfl) hfol hT (by kernel_rfl) (Nat.le_of_ble_eq_true rfl) rfl rfl ?_; intro N ok W0; refine PW_top ?_)
  ((repeat' ((conv => whnf); first | (refine BranchG.t (by first | rfl | assumption) ?_) | (refine BranchG.f (by first | rfl | assumption) ?_) | (refine BranchG.intro (fun _ => ?_) (fun _ => ?_)))) <;> (try conv => whnf)) <;> simp_all [within] <;> omega
theorem ok47 (a lo hi : Int) : FnOk Go.Proofs.Try.prog 47 [.d (.int .i64 a), .d (.int .i64 lo), .d (.int .i64 hi)] (.d (.bool (within a lo hi))) := by
  (refine FnOk.intro (T := T) (fn := Go.Proofs.Try.f47) (c := (Go.Proofs.Try.f47).body.getD .skip) (by kernel_rfl) (by kernel_rfl) (by kernel_rfl) hfol hT (by kernel_rfl) (Nat.le_of_ble_eq_true rfl) rfl rfl ?_; intro N ok W0; refine PW_top ?_)
  ((repeat' ((conv => whnf); first | (refine BranchG.t (by first | rfl | assumption) ?_) | (refine BranchG.f (by first | rfl | assumption) ?_) | (refine BranchG.intro (fun _ => ?_) (fun _ => ?_)))) <;> (try conv => whnf)) <;> simp_all [within] <;> omega

def isE (t : ByteArray) : Bool := t.toList == (⟨#[]⟩ : ByteArray).toList
def vOk (k n : Int) (t : ByteArray) : Bool :=
  if k = 0 then n == 0 && isE t else if k = 1 then within n (-999999999999) 999999999999 && isE t else if k = 2 then n == 0 && decide ((t.size : Int) ≤ 100)
  else if k = 3 then within n 0 1 && isE t else false
theorem ok28 (k n : Int) (t : ByteArray) : FnOk Go.Proofs.Try.prog 28 [.agg [.int .i64 k, .int .i64 n, .str t]] (.d (.bool (vOk k n t))) := by
  (refine FnOk.intro (T := T) (fn := Go.Proofs.Try.f28) (c := (Go.Proofs.Try.f28).body.getD .skip) (by kernel_rfl) (by kernel_rfl) (by kernel_rfl) hfol hT (by kernel_rfl) (Nat.le_of_ble_eq_true rfl) rfl rfl ?_; intro N ok W0; refine PW_top ?_)
  ((repeat' ((conv => whnf); first | (refine BranchG.t (by first | rfl | assumption) ?_) | (refine BranchG.f (by first | rfl | assumption) ?_) | (refine BranchG.intro (fun _ => ?_) (fun _ => ?_)) | (refine CallG.pure rfl (ok51 _ _ _) rfl ?_))) <;> (try conv => whnf)) <;> simp_all [vOk, isE]
theorem ok24 (k n : Int) (t : ByteArray) : FnOk Go.Proofs.Try.prog 24 [.agg [.int .i64 k, .int .i64 n, .str t]] (.d (.bool (vOk k n t))) := by
  (refine FnOk.intro (T := T) (fn := Go.Proofs.Try.f24) (c := (Go.Proofs.Try.f24).body.getD .skip) (by kernel_rfl) (by kernel_rfl) (by kernel_rfl) hfol hT (by kernel_rfl) (Nat.le_of_ble_eq_true rfl) rfl rfl ?_; intro N ok W0; refine PW_top ?_)
  ((repeat' ((conv => whnf); first | (refine BranchG.t (by first | rfl | assumption) ?_) | (refine BranchG.f (by first | rfl | assumption) ?_) | (refine BranchG.intro (fun _ => ?_) (fun _ => ?_)) | (refine CallG.pure rfl (ok47 _ _ _) rfl ?_))) <;> (try conv => whnf)) <;> simp_all [vOk, isE]
def hasS (l : List ByteArray) (s : ByteArray) : Bool := l.any fun x => x.toList == s.toList
theorem any_idx {α : Type} {p : α → Bool} {l : List α} (h : ∀ j (hj : j < l.length), p l[j] = false) : l.any p = false := by
  rw [List.any_eq_false]
  intro x hx
  obtain ⟨j, hj, rfl⟩ := List.mem_iff_getElem.1 hx
  rw [h j hj]; simp
theorem any_at {α : Type} {p : α → Bool} {l : List α} {i : Nat} (h : i < l.length) (hp : p l[i] = true) : l.any p = true := List.any_eq_true.2 ⟨l[i], List.getElem_mem h, hp⟩
theorem step_no {n i : Nat} {p : (j : Nat) → j < n → Bool} (hno : ∀ j (h : j < n), j < i → p j h = false) (hi : i < n) (he : p i hi = false) : ∀ j (h : j < n), j < i + 1 → p j h = false := fun j h hj => by
  by_cases hji : j = i
  · subst hji; exact he
  · exact hno j h (by omega)
theorem ok49 (l : List ByteArray) (s : ByteArray) (hl : l.length ≤ 4611686018427387904) : FnOk Go.Proofs.Try.prog 49 [.d (.sl (l.map fun x => [.str x])), .d (.str s)] (.d (.bool (hasS l s))) := by
  (refine FnOk.intro (T := T) (fn := Go.Proofs.Try.f49) (c := (Go.Proofs.Try.f49).body.getD .skip) (by kernel_rfl) (by kernel_rfl) (by kernel_rfl) hfol hT (by kernel_rfl) (Nat.le_of_ble_eq_true rfl) rfl rfl ?_; intro N ok W0; refine PW_top ?_)
  ((repeat' ((conv => whnf); first | (refine BranchG.t (by first | rfl | assumption) ?_) | (refine BranchG.f (by first | rfl | assumption) ?_) | (refine BranchG.intro (fun _ => ?_) (fun _ => ?_)))) <;> (try conv => whnf))
  refine LoopG.upto l.length (fun i => ([(0, .d (.sl (l.map fun x => [.str x]))), (1, .d (.str s)), (5, .d (.int .i64 i))], [])) (fun i => ∀ j (h : j < l.length), j < i → (l[j].toList == s.toList) = false) (fun j _ h => by omega) (Cover.list ⟨rfl, rfl, rfl, trivial⟩ trivial rfl) ?_
  intro i hi hno
  ((repeat' ((conv => whnf); first | (refine BranchG.t (by first | rfl | assumption) ?_) | (refine BranchG.f (by first | rfl | assumption) ?_) | (refine BranchG.intro (fun _ => ?_) (fun _ => ?_)))) <;> (try conv => whnf))
  · rename_i hlt
    have hlt : i < l.length := by simpa using hlt
    refine IdxG.map rfl hlt ?_
    ((repeat' ((conv => whnf); first | (refine BranchG.t (by first | rfl | assumption) ?_) | (refine BranchG.f (by first | rfl | assumption) ?_) | (refine BranchG.intro (fun _ => ?_) (fun _ => ?_)))) <;> (try conv => whnf))
    · rename_i he
      rw [show hasS l s = true from any_at hlt he]
    · rename_i he
      refine ⟨hlt, step_no hno hlt he, Cover.list ⟨rfl, rfl, ?_, trivial⟩ trivial rfl⟩
      show PV.d (D.int _ (IntKind.i64.wrap _)) = _
      rw [wrap64 (by omega) (by omega)]; rfl
  · rename_i hge
    have hge : ¬ i < l.length := by simpa using hge
    rw [show hasS l s = false from any_idx fun j hj => hno j hj (by omega)]
end Go.Pv.Try
