import Derived.Test.YtondofmlippbcaaA7
set_option linter.unusedSimpArgs false
set_option linter.unusedVariables false
set_option maxRecDepth 100000
open Go Go.Pv
namespace Go.Pv.Try
def psum {α : Type} (f : α → Nat) (l : List α) (i : Nat) : Nat := ((l.take i).map f).sum
theorem psum_zero {α : Type} (f : α → Nat) (l : List α) : psum f l 0 = 0 := by simp [psum]
theorem psum_succ {α : Type} (f : α → Nat) (l : List α) (i : Nat) (h : i < l.length) : psum f l (i + 1) = psum f l i + f l[i] := by
  unfold psum
  rw [List.take_succ_eq_append_getElem h, List.map_append, List.sum_append]
  exact Nat.add_left_cancel_iff.2 (Nat.add_zero _)
theorem psum_all {α : Type} (f : α → Nat) (l : List α) : psum f l l.length = (l.map f).sum := by simp [psum]
theorem psum_le {α : Type} (f : α → Nat) : ∀ (l : List α) (i : Nat), psum f l i ≤ (l.map f).sum
  | [], i => by show ((([] : List α).take i).map f).sum ≤ _; rw [List.take_nil]; exact Nat.le_refl _
  | x :: l, 0 => by rw [psum_zero]; exact Nat.zero_le _
  | x :: l, i + 1 => by
    have := psum_le f l i
    show (((x :: l).take (i + 1)).map f).sum ≤ ((x :: l).map f).sum
    rw [List.take_succ_cons, List.map_cons, List.sum_cons, List.map_cons, List.sum_cons]
    exact Nat.add_le_add_left this _
def szStrs (l : List ByteArray) : Nat := l.length + (l.map (·.size)).sum
def strsSmall (l : List ByteArray) : Prop := l.length ≤ 4611686018427387904 ∧ ∀ x ∈ l, x.size ≤ 4611686018427387904
theorem ok46 (l : List ByteArray) (left : Int) (h0 : 0 ≤ left) (h1 : left ≤ 1048576) (hs : strsSmall l) : FnOk Go.Proofs.Try.prog 46 [.d (.sl (l.map sR)), .d (.int .i64 left)] (.d (.int .i64 (szR left (szStrs l)))) := by
  obtain ⟨hl, hx⟩ := hs
  have hle := psum_le (fun x : ByteArray => x.size) l
  (refine FnOk.intro (T := T) (fn := Go.Proofs.Try.f46) (c := (Go.Proofs.Try.f46).body.getD .skip) (by kernel_rfl) (by kernel_rfl) (by kernel_rfl) hfol hT (by kernel_rfl) (Nat.le_of_ble_eq_true rfl) rfl rfl ?_; intro N ok W0; refine PW_top ?_)
  ((repeat' ((conv => whnf); first | (refine BranchG.t (by first | rfl | assumption) ?_) | (refine BranchG.f (by first | rfl | assumption) ?_) | (refine BranchG.intro (fun _ => ?_) (fun _ => ?_)))) <;> (try conv => whnf))
  · rename_i h
    have hw : IntKind.i64.wrap (left - ((l.map sR).length : Int)) = left - (l.length : Int) := by rw [List.length_map]; exact wrap64 (by omega) (by omega)
    rw [hw] at h
    have h : left - (l.length : Int) < 0 := of_decide_eq_true h
    rw [szR, szStrs, if_neg (by omega)]
  · rename_i h
    have hw : IntKind.i64.wrap (left - ((l.map sR).length : Int)) = left - (l.length : Int) := by rw [List.length_map]; exact wrap64 (by omega) (by omega)
    rw [hw] at h
    have h : ¬ left - (l.length : Int) < 0 := of_decide_eq_false h
    refine LoopG.upto l.length (fun i => ([(0, .d (.sl (l.map sR))), (1, .d (.int .i64 (left - l.length - psum (·.size) l i))), (5, .d (.int .i64 i))], [])) (fun i => (l.length + psum (·.size) l i : Int) ≤ left) (by simp [psum_zero]; omega) (Cover.list ⟨rfl, ?_, rfl, trivial⟩ trivial rfl) ?_
    · show PV.d (D.int _ (IntKind.i64.wrap _)) = _
      rw [hw, psum_zero]; simp
    intro i hi hI
    ((repeat' ((conv => whnf); first | (refine BranchG.t (by first | rfl | assumption) ?_) | (refine BranchG.f (by first | rfl | assumption) ?_) | (refine BranchG.intro (fun _ => ?_) (fun _ => ?_)))) <;> (try conv => whnf))
    · rename_i hlt
      have hlt : i < l.length := by simpa using hlt
      refine IdxG.map rfl hlt ?_
      have hsz := hx _ (List.getElem_mem hlt)
      have hp := psum_succ (fun x : ByteArray => x.size) l i hlt
      have hle1 := hle (i + 1)
      ((repeat' ((conv => whnf); first | (refine BranchG.t (by first | rfl | assumption) ?_) | (refine BranchG.f (by first | rfl | assumption) ?_) | (refine BranchG.intro (fun _ => ?_) (fun _ => ?_)))) <;> (try conv => whnf))
      · rename_i hneg
        rw [wrap64 (by omega) (by omega)] at hneg
        have hneg := of_decide_eq_true hneg
        rw [szR, szStrs, if_neg (by omega)]
      · rename_i hneg
        rw [wrap64 (by omega) (by omega)] at hneg
        have hneg := of_decide_eq_false hneg
        refine ⟨hlt, by omega, Cover.list ⟨rfl, ?_, ?_, trivial⟩ trivial rfl⟩
        · show PV.d (D.int _ (IntKind.i64.wrap _)) = _
          rw [wrap64 (by omega) (by omega), hp]; congr 2; omega
        · show PV.d (D.int _ (IntKind.i64.wrap _)) = _
          rw [wrap64 (by omega) (by omega)]; rfl
    · rename_i hge
      have hge : ¬ i < l.length := by simpa using hge
      have : i = l.length := by omega
      subst this
      rw [psum_all] at hI ⊢
      rw [szR, szStrs, if_pos (by omega)]
      congr 2; omega
theorem szR_comp (left : Int) (a b : Nat) (h0 : 0 ≤ left) : (if szR left a < 0 then -1 else szR (szR left a) b) = szR left (a + b) := by
  unfold szR
  by_cases h1 : (a : Int) ≤ left
  · rw [if_pos h1, if_neg (by omega)]
    by_cases h2 : (b : Int) ≤ left - a
    · rw [if_pos h2, if_pos (by omega)]; omega
    · rw [if_neg h2, if_neg (by omega)]
  · rw [if_neg h1, if_pos (by omega), if_neg (by omega)]
theorem szR_cases (left : Int) (a : Nat) (h0 : 0 ≤ left) (h1 : left ≤ 1048576) : (szR left a = -1 ∧ left < a) ∨ (szR left a = left - a ∧ (a : Int) ≤ left ∧ 0 ≤ left - a ∧ left - a ≤ 1048576) := by
  unfold szR
  by_cases h : (a : Int) ≤ left
  · rw [if_pos h]; exact .inr ⟨rfl, h, by omega, by omega⟩
  · rw [if_neg h]; exact .inl ⟨rfl, by omega⟩
def szLab (x : Lab) : Nat := x.1.size + szStrs x.2
def labSmall (x : Lab) : Prop := x.1.size ≤ 4611686018427387904 ∧ strsSmall x.2
theorem ok23 (x : Lab) (left : Int) (h0 : 0 ≤ left) (h1 : left ≤ 1048576) (hs : labSmall x) : FnOk Go.Proofs.Try.prog 23 [.agg (eL x), .d (.int .i64 left)] (.d (.int .i64 (szR left (szLab x)))) := by
  obtain ⟨hn, hl⟩ := hs
  rw [show szLab x = x.1.size + szStrs x.2 from rfl, ← szR_comp _ _ _ h0]
  rcases szR_cases left x.1.size h0 h1 with ⟨e, e1⟩ | ⟨e, e1, e2, e3⟩
  · rw [e]
    (refine FnOk.intro (T := T) (fn := Go.Proofs.Try.f23) (c := (Go.Proofs.Try.f23).body.getD .skip) (by kernel_rfl) (by kernel_rfl) (by kernel_rfl) hfol hT (by kernel_rfl) (Nat.le_of_ble_eq_true rfl) rfl rfl ?_; intro N ok W0; refine PW_top ?_)
    ((repeat' ((conv => whnf); first | (refine BranchG.t (by first | rfl | assumption) ?_) | (refine BranchG.f (by first | rfl | assumption) ?_) | (refine BranchG.intro (fun _ => ?_) (fun _ => ?_)))) <;> (try conv => whnf))
    · rename_i h
      rfl
    · rename_i h
      rw [wrap64 (by omega) (by omega)] at h
      have h := of_decide_eq_false h
      omega
  · rw [e, if_neg (by omega)]
    have h46 := ok46 x.2 (left - x.1.size) e2 e3 hl
    generalize hr : szR (left - x.1.size) (szStrs x.2) = r at h46
    have hw : IntKind.i64.wrap (left - (x.1.size : Int)) = left - (x.1.size : Int) := wrap64 (by omega) (by omega)
    rw [← hw] at h46
    (refine FnOk.intro (T := T) (fn := Go.Proofs.Try.f23) (c := (Go.Proofs.Try.f23).body.getD .skip) (by kernel_rfl) (by kernel_rfl) (by kernel_rfl) hfol hT (by kernel_rfl) (Nat.le_of_ble_eq_true rfl) rfl rfl ?_; intro N ok W0; refine PW_top ?_)
    ((repeat' ((conv => whnf); first | (refine BranchG.t (by first | rfl | assumption) ?_) | (refine BranchG.f (by first | rfl | assumption) ?_) | (refine BranchG.intro (fun _ => ?_) (fun _ => ?_)) | (refine CallG.pure rfl (h46) rfl ?_))) <;> (try conv => whnf))
    · rename_i h
      rw [hw] at h
      have h := of_decide_eq_true h
      omega
    · rename_i h1 h
      have h := of_decide_eq_true h
      rw [← hr, szR] at h ⊢
      split at h
      · omega
      · rename_i h2; rw [if_neg h2]
end Go.Pv.Try
