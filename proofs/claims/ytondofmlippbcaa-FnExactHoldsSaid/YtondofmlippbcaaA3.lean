import Derived.Test.YtondofmlippbcaaA2
set_option linter.unusedSimpArgs false
set_option linter.unusedVariables false
set_option maxRecDepth 100000
open Go Go.Pv
namespace Go.Pv.Try
def tOk (k n : Int) (t : ByteArray) : Bool :=
  if k = 0 ∨ k = 1 ∨ k = 2 then n == 0 && isE t else if k = 3 then within n 1 100 && isE t else if k = 4 then n == 0 && nameOk t else false
theorem ok29 (k n : Int) (t : ByteArray) : FnOk Go.Proofs.Try.prog 29 [.agg [.int .i64 k, .int .i64 n, .str t]] (.d (.bool (tOk k n t))) := by
  (refine FnOk.intro (T := T) (fn := Go.Proofs.Try.f29) (c := (Go.Proofs.Try.f29).body.getD .skip) (by kernel_rfl) (by kernel_rfl) (by kernel_rfl) hfol hT (by kernel_rfl) (Nat.le_of_ble_eq_true rfl) rfl rfl ?_; intro N ok W0; refine PW_top ?_)
  ((repeat' ((conv => whnf); first | (refine BranchG.t (by first | rfl | assumption) ?_) | (refine BranchG.f (by first | rfl | assumption) ?_) | (refine BranchG.intro (fun _ => ?_) (fun _ => ?_)) | (refine CallG.pure rfl (ok51 _ _ _) rfl ?_) | (refine CallG.pure rfl (ok52 _) rfl ?_))) <;> (try conv => whnf)) <;> simp_all [tOk, isE]
theorem ok25c (k n : Int) (t : ByteArray) (ht : t.size ≤ 4611686018427387904) (hk : k = 0 ∨ k = 1 ∨ k = 2 ∨ k = 3 ∨ k = 4) : FnOk Go.Proofs.Try.prog 25 [.agg [.int .i64 k, .int .i64 n, .str t]] (.d (.bool (tOk k n t))) := by
  have h48 := ok48 t ht
  have h47 := ok47 n 1 100
  have h470 : FnOk Go.Proofs.Try.prog 47 [.d (.int .i64 k), .d (.int .i64 0), .d (.int .i64 4)] (.d (.bool true)) := by
    have := ok47 k 0 4
    rwa [show within k 0 4 = true by simp [within]; omega] at this
  generalize hb : nameOk t = b at h48
  generalize hw : within n 1 100 = w1 at h47
  generalize hr : tOk k n t = r
  rcases hk with rfl | rfl | rfl | rfl | rfl
  all_goals
    (refine FnOk.intro (T := T) (fn := Go.Proofs.Try.f25) (c := (Go.Proofs.Try.f25).body.getD .skip) (by kernel_rfl) (by kernel_rfl) (by kernel_rfl) hfol hT (by kernel_rfl) (Nat.le_of_ble_eq_true rfl) rfl rfl ?_; intro N ok W0; refine PW_top ?_)
    ((repeat' ((conv => whnf); first | (refine BranchG.t (by first | rfl | assumption) ?_) | (refine BranchG.f (by first | rfl | assumption) ?_) | (refine BranchG.intro (fun _ => ?_) (fun _ => ?_)) | (refine CallG.pure rfl (h470) rfl ?_) | (refine CallG.pure rfl (h47) rfl ?_) | (refine CallG.pure rfl (h48) rfl ?_))) <;> (try conv => whnf)) <;> simp_all [tOk, isE]
theorem ok25 (k n : Int) (t : ByteArray) (ht : t.size ≤ 4611686018427387904) : FnOk Go.Proofs.Try.prog 25 [.agg [.int .i64 k, .int .i64 n, .str t]] (.d (.bool (tOk k n t))) := by
  by_cases hk : within k 0 4 = true
  · exact ok25c k n t ht (by simp [within] at hk; omega)
  · have hk : within k 0 4 = false := by simpa using hk
    have h470 : FnOk Go.Proofs.Try.prog 47 [.d (.int .i64 k), .d (.int .i64 0), .d (.int .i64 4)] (.d (.bool false)) := by
      have := ok47 k 0 4
      rwa [hk] at this
    have : ¬ (k = 0 ∨ k = 1 ∨ k = 2) ∧ k ≠ 3 ∧ k ≠ 4 := by simp [within] at hk; omega
    generalize hr : tOk k n t = r
    (refine FnOk.intro (T := T) (fn := Go.Proofs.Try.f25) (c := (Go.Proofs.Try.f25).body.getD .skip) (by kernel_rfl) (by kernel_rfl) (by kernel_rfl) hfol hT (by kernel_rfl) (Nat.le_of_ble_eq_true rfl) rfl rfl ?_; intro N ok W0; refine PW_top ?_)
    ((repeat' ((conv => whnf); first | (refine BranchG.t (by first | rfl | assumption) ?_) | (refine BranchG.f (by first | rfl | assumption) ?_) | (refine BranchG.intro (fun _ => ?_) (fun _ => ?_)) | (refine CallG.pure rfl (h470) rfl ?_))) <;> (try conv => whnf))
    rw [← hr]; simp [tOk, this]

abbrev Lab := ByteArray × List ByteArray
def eL (x : Lab) : List D := [.str x.1, .sl (x.2.map fun s => [.str s])]
def labOf (l : List Lab) (name text : ByteArray) : Bool := match l.find? (fun x => x.1.toList == name.toList) with | some x => hasS x.2 text | none => false
theorem labOf_at {l : List Lab} {name text : ByteArray} {i : Nat} (hi : i < l.length) (hno : ∀ j (h : j < l.length), j < i → (l[j].1.toList == name.toList) = false) (he : (l[i].1.toList == name.toList) = true) : labOf l name text = hasS l[i].2 text := by
  have : l.find? (fun x => x.1.toList == name.toList) = some l[i] := by
    rw [List.find?_eq_some_iff_getElem]
    exact ⟨he, i, hi, rfl, fun j hj => by rw [hno j (by omega) hj]; rfl⟩
  rw [labOf, this]
theorem labOf_no {l : List Lab} {name text : ByteArray} (hno : ∀ j (h : j < l.length), (l[j].1.toList == name.toList) = false) : labOf l name text = false := by
  have : l.find? (fun x => x.1.toList == name.toList) = none := by
    rw [List.find?_eq_none]
    intro x hx
    obtain ⟨j, hj, rfl⟩ := List.mem_iff_getElem.1 hx
    rw [hno j hj]; simp
  rw [labOf, this]

theorem ok26 (l : List Lab) (name text : ByteArray) (hl : l.length ≤ 4611686018427387904) (hl2 : ∀ x ∈ l, x.2.length ≤ 4611686018427387904) : FnOk Go.Proofs.Try.prog 26 [.d (.sl (l.map eL)), .d (.str name), .d (.str text)] (.d (.bool (labOf l name text))) := by
  (refine FnOk.intro (T := T) (fn := Go.Proofs.Try.f26) (c := (Go.Proofs.Try.f26).body.getD .skip) (by kernel_rfl) (by kernel_rfl) (by kernel_rfl) hfol hT (by kernel_rfl) (Nat.le_of_ble_eq_true rfl) rfl rfl ?_; intro N ok W0; refine PW_top ?_)
  ((repeat' ((conv => whnf); first | (refine BranchG.t (by first | rfl | assumption) ?_) | (refine BranchG.f (by first | rfl | assumption) ?_) | (refine BranchG.intro (fun _ => ?_) (fun _ => ?_)))) <;> (try conv => whnf))
  refine LoopG.upto l.length (fun i => ([(0, .d (.sl (l.map eL))), (1, .d (.str name)), (2, .d (.str text)), (7, .d (.int .i64 i))], [])) (fun i => ∀ j (h : j < l.length), j < i → (l[j].1.toList == name.toList) = false) (fun j _ h => by omega) (Cover.list ⟨rfl, rfl, rfl, rfl, trivial⟩ trivial rfl) ?_
  intro i hi hno
  ((repeat' ((conv => whnf); first | (refine BranchG.t (by first | rfl | assumption) ?_) | (refine BranchG.f (by first | rfl | assumption) ?_) | (refine BranchG.intro (fun _ => ?_) (fun _ => ?_)))) <;> (try conv => whnf))
  · rename_i hlt
    have hlt : i < l.length := by simpa using hlt
    refine IdxG.map rfl hlt ?_
    ((repeat' ((conv => whnf); first | (refine BranchG.t (by first | rfl | assumption) ?_) | (refine BranchG.f (by first | rfl | assumption) ?_) | (refine BranchG.intro (fun _ => ?_) (fun _ => ?_)))) <;> (try conv => whnf))
    · rename_i he
      refine IdxG.map rfl hlt ?_
      ((repeat' ((conv => whnf); first | (refine BranchG.t (by first | rfl | assumption) ?_) | (refine BranchG.f (by first | rfl | assumption) ?_) | (refine BranchG.intro (fun _ => ?_) (fun _ => ?_)) | (refine CallG.pure rfl (ok49 _ _ (hl2 _ (List.getElem_mem hlt))) rfl ?_))) <;> (try conv => whnf))
      rw [labOf_at hlt hno he]
    · rename_i he
      refine ⟨hlt, step_no hno hlt he, Cover.list ⟨rfl, rfl, rfl, ?_, trivial⟩ trivial rfl⟩
      show PV.d (D.int _ (IntKind.i64.wrap _)) = _
      rw [wrap64 (by omega) (by omega)]; rfl
  · rename_i hge
    have hge : ¬ i < l.length := by simpa using hge
    rw [labOf_no fun j hj => hno j hj (by omega)]

def idx {α : Type} (p : α → Bool) (l : List α) : Int := match l.findIdx? p with | some i => (i : Int) | none => -1
theorem idx_at {α : Type} {p : α → Bool} {l : List α} {i : Nat} (hi : i < l.length) (hno : ∀ j (h : j < l.length), j < i → p l[j] = false) (he : p l[i] = true) : idx p l = i := by
  have : l.findIdx? p = some i := by
    rw [List.findIdx?_eq_some_iff_getElem]
    exact ⟨hi, he, fun j hj => by rw [hno j (by omega) hj]; simp⟩
  rw [idx, this]
theorem idx_no {α : Type} {p : α → Bool} {l : List α} (hno : ∀ j (h : j < l.length), p l[j] = false) : idx p l = -1 := by
  have : l.findIdx? p = none := by
    rw [List.findIdx?_eq_none_iff]
    intro x hx
    obtain ⟨j, hj, rfl⟩ := List.mem_iff_getElem.1 hx
    exact hno j hj
  rw [idx, this]
theorem idx_or {α : Type} (p : α → Bool) (l : List α) : (∃ i, ∃ h : i < l.length, idx p l = (i : Int) ∧ p l[i] = true ∧ ∀ j (h : j < l.length), j < i → p l[j] = false) ∨ (idx p l = -1 ∧ ∀ j (h : j < l.length), p l[j] = false) := by
  cases h : l.findIdx? p with
  | some i =>
    obtain ⟨h1, h2, h3⟩ := List.findIdx?_eq_some_iff_getElem.1 h
    exact .inl ⟨i, h1, by rw [idx, h], h2, fun j hj hji => by simpa using h3 j hji⟩
  | none =>
    rw [List.findIdx?_eq_none_iff] at h
    exact .inr ⟨by rw [idx, List.findIdx?_eq_none_iff.2 h], fun j hj => h _ (List.getElem_mem hj)⟩

theorem ok85 (l : List ByteArray) (s : ByteArray) (hl : l.length ≤ 4611686018427387904) : FnOk Go.Proofs.Try.prog 85 [.d (.sl (l.map fun x => [.str x])), .d (.str s)] (.d (.int .i64 (idx (fun x => s.toList == x.toList) l))) := by
  (refine FnOk.intro (T := T) (fn := Go.Proofs.Try.f85) (c := (Go.Proofs.Try.f85).body.getD .skip) (by kernel_rfl) (by kernel_rfl) (by kernel_rfl) hfol hT (by kernel_rfl) (Nat.le_of_ble_eq_true rfl) rfl rfl ?_; intro N ok W0; refine PW_top ?_)
  ((repeat' ((conv => whnf); first | (refine BranchG.t (by first | rfl | assumption) ?_) | (refine BranchG.f (by first | rfl | assumption) ?_) | (refine BranchG.intro (fun _ => ?_) (fun _ => ?_)))) <;> (try conv => whnf))
  refine LoopG.upto l.length (fun i => ([(0, .d (.sl (l.map fun x => [.str x]))), (1, .d (.str s)), (7, .d (.int .i64 ((l.map fun x => [D.str x]).length : Nat))), (8, .d (.int .i64 i))], [])) (fun i => ∀ j (h : j < l.length), j < i → (s.toList == l[j].toList) = false) (fun j _ h => by omega) (Cover.list ⟨rfl, rfl, rfl, rfl, trivial⟩ trivial rfl) ?_
  intro i hi hno
  ((repeat' ((conv => whnf); first | (refine BranchG.t (by first | rfl | assumption) ?_) | (refine BranchG.f (by first | rfl | assumption) ?_) | (refine BranchG.intro (fun _ => ?_) (fun _ => ?_)))) <;> (try conv => whnf))
  · rename_i hlt
    have hlt : i < l.length := by simpa using hlt
    refine IdxG.map rfl hlt ?_
    ((repeat' ((conv => whnf); first | (refine BranchG.t (by first | rfl | assumption) ?_) | (refine BranchG.f (by first | rfl | assumption) ?_) | (refine BranchG.intro (fun _ => ?_) (fun _ => ?_)))) <;> (try conv => whnf))
    · rename_i he
      rw [idx_at hlt hno he]
    · rename_i he
      refine ⟨hlt, step_no hno hlt he, Cover.list ⟨rfl, rfl, rfl, ?_, trivial⟩ trivial rfl⟩
      show PV.d (D.int _ (IntKind.i64.wrap _)) = _
      rw [wrap64 (by omega) (by omega)]; rfl
  · rename_i hge
    have hge : ¬ i < l.length := by simpa using hge
    rw [idx_no fun j hj => hno j hj (by omega)]
theorem idx_hasS (l : List ByteArray) (s : ByteArray) : decide (idx (fun x => s.toList == x.toList) l ≥ 0) = hasS l s := by
  rcases idx_or (fun x : ByteArray => s.toList == x.toList) l with ⟨i, h, h1, h2, h3⟩ | ⟨h1, h2⟩
  · rw [h1, show hasS l s = true from any_at h (by rw [← h2]; exact BEq.comm)]
    simp
  · rw [h1, show hasS l s = false from any_idx fun j hj => by rw [← h2 j hj]; exact BEq.comm]
    simp
theorem ok55 (l : List ByteArray) (s : ByteArray) (hl : l.length ≤ 4611686018427387904) : FnOk Go.Proofs.Try.prog 55 [.d (.sl (l.map fun x => [.str x])), .d (.str s)] (.d (.bool (hasS l s))) := by
  (refine FnOk.intro (T := T) (fn := Go.Proofs.Try.f55) (c := (Go.Proofs.Try.f55).body.getD .skip) (by kernel_rfl) (by kernel_rfl) (by kernel_rfl) hfol hT (by kernel_rfl) (Nat.le_of_ble_eq_true rfl) rfl rfl ?_; intro N ok W0; refine PW_top ?_)
  ((repeat' ((conv => whnf); first | (refine BranchG.t (by first | rfl | assumption) ?_) | (refine BranchG.f (by first | rfl | assumption) ?_) | (refine BranchG.intro (fun _ => ?_) (fun _ => ?_)) | (refine CallG.pure rfl (ok85 _ _ hl) rfl ?_))) <;> (try conv => whnf))
  rw [← idx_hasS]
theorem ok54 (x : Lab) (name : ByteArray) : FnOkO Go.Proofs.Try.prog 54 [.agg (eL x), .ptr 9000 0] [(9000, .box [.d (.str name)])] (.d (.bool (x.1.toList == name.toList))) [(9000, .box [.d (.str name)])] := by
  (refine FnOkO.intro (T := T) (fn := Go.Proofs.Try.f54) (c := (Go.Proofs.Try.f54).body.getD .skip) (by kernel_rfl) (by kernel_rfl) (by kernel_rfl) hfol hT (by kernel_rfl) (Nat.le_of_ble_eq_true rfl) rfl rfl rfl ?_; intro N ok outPl W0; refine PW_top ?_)
  ((repeat' ((conv => whnf); first | (refine BranchG.t (by first | rfl | assumption) ?_) | (refine BranchG.f (by first | rfl | assumption) ?_) | (refine BranchG.intro (fun _ => ?_) (fun _ => ?_)))) <;> (try conv => whnf))
  exact ⟨rfl, rfl⟩
theorem ok53 (l : List Lab) (name : ByteArray) (hl : l.length ≤ 4611686018427387904) : FnOkO Go.Proofs.Try.prog 53 [.d (.sl (l.map eL)), .fn 54 [] [9000]] [(9000, .box [.d (.str name)])] (.d (.int .i64 (idx (fun x : Lab => x.1.toList == name.toList) l))) [(9000, .box [.d (.str name)])] := by
  (refine FnOkO.intro (T := T) (fn := Go.Proofs.Try.f53) (c := (Go.Proofs.Try.f53).body.getD .skip) (by kernel_rfl) (by kernel_rfl) (by kernel_rfl) hfol hT (by kernel_rfl) (Nat.le_of_ble_eq_true rfl) rfl rfl rfl ?_; intro N ok outPl W0; refine PW_top ?_)
  ((repeat' ((conv => whnf); first | (refine BranchG.t (by first | rfl | assumption) ?_) | (refine BranchG.f (by first | rfl | assumption) ?_) | (refine BranchG.intro (fun _ => ?_) (fun _ => ?_)))) <;> (try conv => whnf))
  refine LoopG.upto l.length (fun i => ([(0, .d (.sl (l.map eL))), (1, .fn 54 [] [9000]), (7, .d (.int .i64 ((l.map eL).length : Nat))), (8, .d (.int .i64 i))], [(9000, .box [.d (.str name)])])) (fun i => ∀ j (h : j < l.length), j < i → (l[j].1.toList == name.toList) = false) (fun j _ h => by omega) (Cover.list ⟨rfl, rfl, rfl, rfl, trivial⟩ ⟨rfl, trivial⟩ rfl) ?_
  intro i hi hno
  ((repeat' ((conv => whnf); first | (refine BranchG.t (by first | rfl | assumption) ?_) | (refine BranchG.f (by first | rfl | assumption) ?_) | (refine BranchG.intro (fun _ => ?_) (fun _ => ?_)))) <;> (try conv => whnf))
  · rename_i hlt
    have hlt : i < l.length := by simpa using hlt
    refine IdxG.map rfl hlt ?_
    ((repeat' ((conv => whnf); first | (refine BranchG.t (by first | rfl | assumption) ?_) | (refine BranchG.f (by first | rfl | assumption) ?_) | (refine BranchG.intro (fun _ => ?_) (fun _ => ?_)))) <;> (try conv => whnf))
    refine CallG.outer [(9000, 9000)] rfl (ok54 _ name) rfl ⟨rfl, trivial⟩ rfl rfl rfl rfl rfl rfl ?_
    ((repeat' ((conv => whnf); first | (refine BranchG.t (by first | rfl | assumption) ?_) | (refine BranchG.f (by first | rfl | assumption) ?_) | (refine BranchG.intro (fun _ => ?_) (fun _ => ?_)))) <;> (try conv => whnf))
    · rename_i he
      refine ⟨?_, rfl⟩
      conv => whnf
      rw [idx_at hlt hno he]
    · rename_i he
      refine ⟨hlt, step_no hno hlt he, Cover.list ⟨rfl, rfl, rfl, ?_, trivial⟩ ⟨rfl, trivial⟩ rfl⟩
      show PV.d (D.int _ (IntKind.i64.wrap _)) = _
      rw [wrap64 (by omega) (by omega)]; rfl
  · rename_i hge
    have hge : ¬ i < l.length := by simpa using hge
    refine ⟨?_, rfl⟩
    conv => whnf
    rw [idx_no fun j hj => hno j hj (by omega)]
end Go.Pv.Try
