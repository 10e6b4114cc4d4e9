import Derived.Test.YtondofmlippbcaaA9
set_option linter.unusedSimpArgs false
set_option linter.unusedVariables false
set_option maxRecDepth 100000
open Go Go.Pv
namespace Go.Pv.Try
theorem ok56 (l : List ByteArray) (hl : l.length ≤ 4611686018427387904) : FnOk Go.Proofs.Try.prog 56 [.d (.sl (l.map sR)), .d (.sl (l.map sR))] (.d (.bool true)) := by
  (refine FnOk.intro (T := T) (fn := Go.Proofs.Try.f56) (c := (Go.Proofs.Try.f56).body.getD .skip) (by kernel_rfl) (by kernel_rfl) (by kernel_rfl) hfol hT (by kernel_rfl) (Nat.le_of_ble_eq_true rfl) rfl rfl ?_; intro N ok W0; refine PW_top ?_)
  ((repeat' ((conv => whnf); first | (refine BranchG.t (by first | rfl | assumption) ?_) | (refine BranchG.f (by first | rfl | assumption) ?_) | (refine BranchG.intro (fun _ => ?_) (fun _ => ?_)))) <;> (try conv => whnf))
  · rename_i h; simp at h
  · refine LoopG.upto l.length (fun i => ([(0, .d (.sl (l.map sR))), (1, .d (.sl (l.map sR))), (5, .d (.int .i64 i))], [])) (fun i => True) trivial (Cover.list ⟨rfl, rfl, rfl, trivial⟩ trivial rfl) ?_
    intro i hi hI
    ((repeat' ((conv => whnf); first | (refine BranchG.t (by first | rfl | assumption) ?_) | (refine BranchG.f (by first | rfl | assumption) ?_) | (refine BranchG.intro (fun _ => ?_) (fun _ => ?_)))) <;> (try conv => whnf))
    · rename_i hlt
      have hlt : i < l.length := by simpa using hlt
      refine IdxG.map rfl hlt ?_
      ((repeat' ((conv => whnf); first | (refine BranchG.t (by first | rfl | assumption) ?_) | (refine BranchG.f (by first | rfl | assumption) ?_) | (refine BranchG.intro (fun _ => ?_) (fun _ => ?_)))) <;> (try conv => whnf))
      refine IdxG.map rfl hlt ?_
      ((repeat' ((conv => whnf); first | (refine BranchG.t (by first | rfl | assumption) ?_) | (refine BranchG.f (by first | rfl | assumption) ?_) | (refine BranchG.intro (fun _ => ?_) (fun _ => ?_)))) <;> (try conv => whnf))
      · rename_i h; simp at h
      · refine ⟨hlt, trivial, Cover.list ⟨rfl, rfl, ?_, trivial⟩ trivial rfl⟩
        show PV.d (D.int _ (IntKind.i64.wrap _)) = _
        rw [wrap64 (by omega) (by omega)]; rfl
theorem ok31 (x : Lab) (hl : x.2.length ≤ 4611686018427387904) : FnOk Go.Proofs.Try.prog 31 [.agg (eL x), .agg (eL x)] (.d (.bool true)) := by
  have h56 := ok56 x.2 hl
  (refine FnOk.intro (T := T) (fn := Go.Proofs.Try.f31) (c := (Go.Proofs.Try.f31).body.getD .skip) (by kernel_rfl) (by kernel_rfl) (by kernel_rfl) hfol hT (by kernel_rfl) (Nat.le_of_ble_eq_true rfl) rfl rfl ?_; intro N ok W0; refine PW_top ?_)
  ((repeat' ((conv => whnf); first | (refine BranchG.t (by first | rfl | assumption) ?_) | (refine BranchG.f (by first | rfl | assumption) ?_) | (refine BranchG.intro (fun _ => ?_) (fun _ => ?_)) | (refine CallG.pure rfl (h56) rfl ?_))) <;> (try conv => whnf))
  · rename_i h; simp at h
theorem ok14 (l : List Lab) (hl : l.length ≤ 4611686018427387904) (hl2 : ∀ x ∈ l, x.2.length ≤ 4611686018427387904) : FnOk Go.Proofs.Try.prog 14 [.d (.sl (l.map eL)), .d (.sl (l.map eL))] (.d (.bool true)) := by
  (refine FnOk.intro (T := T) (fn := Go.Proofs.Try.f14) (c := (Go.Proofs.Try.f14).body.getD .skip) (by kernel_rfl) (by kernel_rfl) (by kernel_rfl) hfol hT (by kernel_rfl) (Nat.le_of_ble_eq_true rfl) rfl rfl ?_; intro N ok W0; refine PW_top ?_)
  ((repeat' ((conv => whnf); first | (refine BranchG.t (by first | rfl | assumption) ?_) | (refine BranchG.f (by first | rfl | assumption) ?_) | (refine BranchG.intro (fun _ => ?_) (fun _ => ?_)))) <;> (try conv => whnf))
  · rename_i h; simp at h
  · refine LoopG.upto l.length (fun i => ([(0, .d (.sl (l.map eL))), (1, .d (.sl (l.map eL))), (5, .d (.int .i64 i))], [])) (fun i => True) trivial (Cover.list ⟨rfl, rfl, rfl, trivial⟩ trivial rfl) ?_
    intro i hi hI
    ((repeat' ((conv => whnf); first | (refine BranchG.t (by first | rfl | assumption) ?_) | (refine BranchG.f (by first | rfl | assumption) ?_) | (refine BranchG.intro (fun _ => ?_) (fun _ => ?_)))) <;> (try conv => whnf))
    · rename_i hlt
      have hlt : i < l.length := by simpa using hlt
      refine IdxG.map rfl hlt ?_
      ((repeat' ((conv => whnf); first | (refine BranchG.t (by first | rfl | assumption) ?_) | (refine BranchG.f (by first | rfl | assumption) ?_) | (refine BranchG.intro (fun _ => ?_) (fun _ => ?_)))) <;> (try conv => whnf))
      refine IdxG.map rfl hlt ?_
      ((repeat' ((conv => whnf); first | (refine BranchG.t (by first | rfl | assumption) ?_) | (refine BranchG.f (by first | rfl | assumption) ?_) | (refine BranchG.intro (fun _ => ?_) (fun _ => ?_)) | (refine CallG.pure rfl (ok31 _ (hl2 _ (List.getElem_mem hlt))) rfl ?_))) <;> (try conv => whnf))
      refine ⟨hlt, trivial, Cover.list ⟨rfl, rfl, ?_, trivial⟩ trivial rfl⟩
      show PV.d (D.int _ (IntKind.i64.wrap _)) = _
      rw [wrap64 (by omega) (by omega)]; rfl
def valSmall (t : ByteArray) : Prop := t.size ≤ 4611686018427387904
theorem labsSmall_of {l : List Lab} {n : Nat} (h : szLabs l ≤ n) : l.length ≤ n ∧ ∀ x ∈ l, x.2.length ≤ n := by
  have h : l.length + (l.map szLab).sum ≤ n := h
  refine ⟨by omega, fun x hx => ?_⟩
  have h1 : szLab x ≤ (l.map szLab).sum := by
    obtain ⟨i, hi, rfl⟩ := List.mem_iff_getElem.1 hx
    have := psum_succ szLab l i hi
    have := psum_le szLab l (i + 1)
    omega
  have h2 : szLab x = x.1.size + (x.2.length + (x.2.map (·.size)).sum) := rfl
  omega
theorem ok3 (vk vn : Int) (vt : ByteArray) (tk tn : Int) (tt : ByteArray) (l : List Lab) (hv : valSmall vt) (ht : valSmall tt) (hs : labsSmall l) :
    FnOk Go.Proofs.Try.prog 3 [.agg [.int .i64 vk, .int .i64 vn, .str vt], .agg [.int .i64 tk, .int .i64 tn, .str tt], .d (.sl (l.map eL))] (.d (.bool true)) := by
  have h6 := ok6 vk vn vt 1048576 (by omega) (by omega) hv
  rcases szR_cases 1048576 vt.size (by omega) (by omega) with ⟨e, _⟩ | ⟨e, _, e2, e3⟩
  · rw [e] at h6
    (refine FnOk.intro (T := T) (fn := Go.Proofs.Try.f3) (c := (Go.Proofs.Try.f3).body.getD .skip) (by kernel_rfl) (by kernel_rfl) (by kernel_rfl) hfol hT (by kernel_rfl) (Nat.le_of_ble_eq_true rfl) rfl rfl ?_; intro N ok W0; refine PW_top ?_)
    ((repeat' ((conv => whnf); first | (refine BranchG.t (by first | rfl | assumption) ?_) | (refine BranchG.f (by first | rfl | assumption) ?_) | (refine BranchG.intro (fun _ => ?_) (fun _ => ?_)) | (refine CallG.pure rfl (h6) rfl ?_))) <;> (try conv => whnf))
  rw [e] at h6
  generalize hr : (1048576 : Int) - vt.size = r at h6 e2 e3
  have h7 := ok7 tk tn tt r e2 e3 ht
  rcases szR_cases r tt.size e2 e3 with ⟨f, _⟩ | ⟨f, _, f2, f3⟩
  · rw [f] at h7
    (refine FnOk.intro (T := T) (fn := Go.Proofs.Try.f3) (c := (Go.Proofs.Try.f3).body.getD .skip) (by kernel_rfl) (by kernel_rfl) (by kernel_rfl) hfol hT (by kernel_rfl) (Nat.le_of_ble_eq_true rfl) rfl rfl ?_; intro N ok W0; refine PW_top ?_)
    ((repeat' ((conv => whnf); first | (refine BranchG.t (by first | rfl | assumption) ?_) | (refine BranchG.f (by first | rfl | assumption) ?_) | (refine BranchG.intro (fun _ => ?_) (fun _ => ?_)) | (refine CallG.pure rfl (h6) rfl ?_) | (refine CallG.pure rfl (h7) rfl ?_))) <;> (try conv => whnf))
  rw [f] at h7
  generalize hr2 : r - tt.size = r2 at h7 f2 f3
  have h8 := ok8 l r2 f2 f3 hs
  rcases szR_cases r2 (szLabs l) f2 f3 with ⟨g, _⟩ | ⟨g, g1, g2, g3⟩
  · rw [g] at h8
    (refine FnOk.intro (T := T) (fn := Go.Proofs.Try.f3) (c := (Go.Proofs.Try.f3).body.getD .skip) (by kernel_rfl) (by kernel_rfl) (by kernel_rfl) hfol hT (by kernel_rfl) (Nat.le_of_ble_eq_true rfl) rfl rfl ?_; intro N ok W0; refine PW_top ?_)
    ((repeat' ((conv => whnf); first | (refine BranchG.t (by first | rfl | assumption) ?_) | (refine BranchG.f (by first | rfl | assumption) ?_) | (refine BranchG.intro (fun _ => ?_) (fun _ => ?_)) | (refine CallG.pure rfl (h6) rfl ?_) | (refine CallG.pure rfl (h7) rfl ?_) | (refine CallG.pure rfl (h8) rfl ?_))) <;> (try conv => whnf))
  rw [g] at h8
  generalize hr3 : r2 - szLabs l = r3 at h8 g2 g3
  obtain ⟨q1, q2⟩ := labsSmall_of (l := l) (n := 1048576) (by omega)
  have h10 := ok10 vk vn vt
  have h11 := ok11 tk tn tt
  have h12 := ok12 l q1 q2
  have h9 := ok9 vk vn vt tk tn tt l (by omega) (fun x hx => by have := q2 x hx; omega) ht
  have h13 := ok13 vk vn vt tk tn tt l (by omega) (fun x hx => by have := q2 x hx; omega)
  have h14 := ok14 l (by omega) (fun x hx => by have := q2 x hx; omega)
  generalize hh : holds vk vn vt tk tn tt l = b at h9 h13
  (refine FnOk.intro (T := T) (fn := Go.Proofs.Try.f3) (c := (Go.Proofs.Try.f3).body.getD .skip) (by kernel_rfl) (by kernel_rfl) (by kernel_rfl) hfol hT (by kernel_rfl) (Nat.le_of_ble_eq_true rfl) rfl rfl ?_; intro N ok W0; refine PW_top ?_)
  ((repeat' ((conv => whnf); first | (refine BranchG.t (by first | rfl | assumption) ?_) | (refine BranchG.f (by first | rfl | assumption) ?_) | (refine BranchG.intro (fun _ => ?_) (fun _ => ?_)) | (refine CallG.pure rfl (h6) rfl ?_) | (refine CallG.pure rfl (h7) rfl ?_) | (refine CallG.pure rfl (h8) rfl ?_) | (refine CallG.pure rfl (h9) rfl ?_) | (refine CallG.pure rfl (h10) rfl ?_) | (refine CallG.pure rfl (h11) rfl ?_) | (refine CallG.pure rfl (h12) rfl ?_) | (refine CallG.pure rfl (h13) rfl ?_) | (refine CallG.pure rfl (h14) rfl ?_))) <;> (try conv => whnf))
  rename_i h; simp at h
end Go.Pv.Try
