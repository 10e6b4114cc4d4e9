import Derived.Test.YtondofmlippbcaaA3
set_option linter.unusedSimpArgs false
set_option linter.unusedVariables false
set_option maxRecDepth 100000
open Go Go.Pv
namespace Go.Pv.Try
theorem ok30 (l : List Lab) (name text : ByteArray) (hl : l.length ≤ 4611686018427387904) (hl2 : ∀ x ∈ l, x.2.length ≤ 4611686018427387904) : FnOk Go.Proofs.Try.prog 30 [.d (.sl (l.map eL)), .d (.str name), .d (.str text)] (.d (.bool (labOf l name text))) := by
  (refine FnOk.intro (T := T) (fn := Go.Proofs.Try.f30) (c := (Go.Proofs.Try.f30).body.getD .skip) (by kernel_rfl) (by kernel_rfl) (by kernel_rfl) hfol hT (by kernel_rfl) (Nat.le_of_ble_eq_true rfl) rfl rfl ?_; intro N ok W0; refine PW_top ?_)
  conv => whnf
  refine CallG.outer [(9000, 4)] rfl (ok53 l name hl) rfl ⟨rfl, trivial⟩ rfl rfl rfl rfl rfl rfl ?_
  rcases idx_or (fun x : Lab => x.1.toList == name.toList) l with ⟨i, h, h1, h2, h3⟩ | ⟨h1, h2⟩
  · rw [h1, labOf_at h h3 h2]
    ((repeat' ((conv => whnf); first | (refine BranchG.t (by first | rfl | assumption) ?_) | (refine BranchG.f (by first | rfl | assumption) ?_) | (refine BranchG.intro (fun _ => ?_) (fun _ => ?_)))) <;> (try conv => whnf))
    refine IdxG.map rfl h ?_
    ((repeat' ((conv => whnf); first | (refine BranchG.t (by first | rfl | assumption) ?_) | (refine BranchG.f (by first | rfl | assumption) ?_) | (refine BranchG.intro (fun _ => ?_) (fun _ => ?_)) | (refine CallG.pure rfl (ok55 _ _ (hl2 _ (List.getElem_mem h))) rfl ?_))) <;> (try conv => whnf))
  · rw [h1, labOf_no h2]
    ((repeat' ((conv => whnf); first | (refine BranchG.t (by first | rfl | assumption) ?_) | (refine BranchG.f (by first | rfl | assumption) ?_) | (refine BranchG.intro (fun _ => ?_) (fun _ => ?_)))) <;> (try conv => whnf))
def holds (vk vn : Int) (vt : ByteArray) (tk tn : Int) (tt : ByteArray) (l : List Lab) : Bool :=
  if vOk vk vn vt = true ∧ tOk tk tn tt = true then
    if vk = 0 then true else if vk = 1 then tk == 0 else if vk = 3 then tk == 2
    else if tk = 1 then true else if tk = 3 then decide ((vt.size : Int) ≤ tn) else if tk = 4 then labOf l tt vt else false
  else false
theorem ok13 (vk vn : Int) (vt : ByteArray) (tk tn : Int) (tt : ByteArray) (l : List Lab) (hl : l.length ≤ 4611686018427387904) (hl2 : ∀ x ∈ l, x.2.length ≤ 4611686018427387904) :
    FnOk Go.Proofs.Try.prog 13 [.agg [.int .i64 vk, .int .i64 vn, .str vt], .agg [.int .i64 tk, .int .i64 tn, .str tt], .d (.sl (l.map eL))] (.d (.bool (holds vk vn vt tk tn tt l))) := by
  have h28 := ok28 vk vn vt
  have h29 := ok29 tk tn tt
  have h30 := ok30 l tt vt hl hl2
  generalize hr : holds vk vn vt tk tn tt l = r
  generalize hv : vOk vk vn vt = bv at h28
  generalize ht : tOk tk tn tt = bt at h29
  generalize hb : labOf l tt vt = bb at h30
  (refine FnOk.intro (T := T) (fn := Go.Proofs.Try.f13) (c := (Go.Proofs.Try.f13).body.getD .skip) (by kernel_rfl) (by kernel_rfl) (by kernel_rfl) hfol hT (by kernel_rfl) (Nat.le_of_ble_eq_true rfl) rfl rfl ?_; intro N ok W0; refine PW_top ?_)
  ((repeat' ((conv => whnf); first | (refine BranchG.t (by first | rfl | assumption) ?_) | (refine BranchG.f (by first | rfl | assumption) ?_) | (refine BranchG.intro (fun _ => ?_) (fun _ => ?_)) | (refine CallG.pure rfl (h28) rfl ?_) | (refine CallG.pure rfl (h29) rfl ?_) | (refine CallG.pure rfl (h30) rfl ?_))) <;> (try conv => whnf)) <;> (rw [← hr]; simp_all [holds])
theorem ok9 (vk vn : Int) (vt : ByteArray) (tk tn : Int) (tt : ByteArray) (l : List Lab) (hl : l.length ≤ 4611686018427387904) (hl2 : ∀ x ∈ l, x.2.length ≤ 4611686018427387904) (htt : tt.size ≤ 4611686018427387904) :
    FnOk Go.Proofs.Try.prog 9 [.agg [.int .i64 vk, .int .i64 vn, .str vt], .agg [.int .i64 tk, .int .i64 tn, .str tt], .d (.sl (l.map eL))] (.d (.bool (holds vk vn vt tk tn tt l))) := by
  have h28 := ok24 vk vn vt
  have h29 := ok25 tk tn tt htt
  have h30 := ok26 l tt vt hl hl2
  generalize hr : holds vk vn vt tk tn tt l = r
  generalize hv : vOk vk vn vt = bv at h28
  generalize ht : tOk tk tn tt = bt at h29
  generalize hb : labOf l tt vt = bb at h30
  (refine FnOk.intro (T := T) (fn := Go.Proofs.Try.f9) (c := (Go.Proofs.Try.f9).body.getD .skip) (by kernel_rfl) (by kernel_rfl) (by kernel_rfl) hfol hT (by kernel_rfl) (Nat.le_of_ble_eq_true rfl) rfl rfl ?_; intro N ok W0; refine PW_top ?_)
  ((repeat' ((conv => whnf); first | (refine BranchG.t (by first | rfl | assumption) ?_) | (refine BranchG.f (by first | rfl | assumption) ?_) | (refine BranchG.intro (fun _ => ?_) (fun _ => ?_)) | (refine CallG.pure rfl (h28) rfl ?_) | (refine CallG.pure rfl (h29) rfl ?_) | (refine CallG.pure rfl (h30) rfl ?_))) <;> (try conv => whnf)) <;> (rw [← hr]; simp_all [holds])
end Go.Pv.Try
