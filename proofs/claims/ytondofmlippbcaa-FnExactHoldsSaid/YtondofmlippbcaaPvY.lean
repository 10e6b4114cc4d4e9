import Derived.Test.YtondofmlippbcaaPvX
import Derived.Laws.BitsLemmas
set_option linter.unusedSimpArgs false
set_option linter.unusedVariables false
namespace Go.Pv
variable {X : Ctx}

def CovF (fr : Fr) : Fr → Prop
  | [] => True
  | (k, v) :: r => look .junk fr k = v ∧ CovF fr r

def CovO (ob : Ob) : Ob → Prop
  | [] => True
  | (k, v) :: r => lkOf ob k = v ∧ CovO ob r

def idsF : Fr → List Nat
  | [] => []
  | (_, v) :: r => ids v ++ idsF r

def idsB : List PV → List Nat
  | [] => []
  | v :: r => ids v ++ idsB r

def idsO : Ob → List Nat
  | [] => []
  | (_, .box cs) :: r => idsB cs ++ idsO r
  | _ :: r => idsO r

def allIn : List Nat → List Nat → Bool
  | [], _ => true
  | x :: r, l => match has x l with | true => allIn r l | false => false

def closedB (fr : Fr) (ob : Ob) : Bool := match allIn (idsF fr) (keys ob) with | true => allIn (idsO ob) (keys ob) | false => false

theorem allIn_ok : ∀ (l m : List Nat), allIn l m = true → ∀ x ∈ l, x ∈ m
  | [], m, _, x, hx => by cases hx
  | y :: l, m, h, x, hx => by
    simp only [allIn] at h
    split at h
    · rename_i hy
      rcases List.mem_cons.1 hx with rfl | hx
      · exact (has_iff _ _).1 hy
      · exact allIn_ok l m h x hx
    · cases h

theorem covF_look (fr : Fr) : ∀ (l : Fr), CovF fr l → ∀ n, look .junk l n = .junk ∨ look .junk l n = look .junk fr n
  | [], _, n => .inl rfl
  | (k, v) :: r, h, n => by
    rw [look_cons]
    split
    · rename_i e; subst e; exact .inr h.1.symm
    · exact covF_look fr r h.2 n

theorem covO_look (ob : Ob) : ∀ (l : Ob), CovO ob l → ∀ n, (n ∉ keys l ∧ lkOf l n = .none) ∨ (n ∈ keys l ∧ lkOf l n = lkOf ob n)
  | [], _, n => .inl ⟨by simp [keys], rfl⟩
  | (k, v) :: r, h, n => by
    simp only [lkOf, look_cons, keys, List.mem_cons]
    split
    · rename_i e; subst e; exact .inr ⟨.inl rfl, h.1.symm⟩
    · rename_i e
      rcases covO_look ob r h.2 n with ⟨h1, h2⟩ | ⟨h1, h2⟩
      · exact .inl ⟨by rintro (rfl | h'); exact e rfl; exact h1 h', h2⟩
      · exact .inr ⟨.inr h1, h2⟩

theorem idsF_look : ∀ (l : Fr) (n id : Nat), id ∈ ids (look .junk l n) → id ∈ idsF l
  | [], n, id, h => by simp [look, ids] at h
  | (k, v) :: r, n, id, h => by
    rw [look_cons] at h
    simp only [idsF, List.mem_append]
    split at h
    · exact .inl h
    · exact .inr (idsF_look r n id h)

theorem idsB_mem : ∀ (l : List PV) (x : PV) (id : Nat), x ∈ l → id ∈ ids x → id ∈ idsB l
  | [], x, id, h, _ => by cases h
  | y :: l, x, id, h, hi => by
    simp only [idsB, List.mem_append]
    rcases List.mem_cons.1 h with rfl | h
    · exact .inl hi
    · exact .inr (idsB_mem l x id h hi)

theorem idsO_look : ∀ (l : Ob) (n : Nat) (cs : List PV) (x : PV) (id : Nat), lkOf l n = .box cs → x ∈ cs → id ∈ ids x → id ∈ idsO l
  | [], n, cs, x, id, h, _, _ => by simp [lkOf, look] at h
  | (k, v) :: r, n, cs, x, id, h, hx, hi => by
    simp only [lkOf, look_cons] at h
    split at h
    · subst h
      simp only [idsO, List.mem_append]
      exact .inl (idsB_mem cs x id hx hi)
    · have := idsO_look r n cs x id h hx hi
      cases v <;> simp only [idsO, List.mem_append] <;> first | exact .inr this | exact this

/-- Of slots and objects, those that are told. -/
theorem Cover.list {fr fr' : Fr} {ob ob' : Ob} (h1 : CovF fr fr') (h2 : CovO ob ob') (h3 : closedB fr' ob' = true) : Cover X fr ob fr' ob' := by
  unfold closedB at h3
  split at h3
  · rename_i h4
    have h5 := allIn_ok _ _ h4
    have h6 := allIn_ok _ _ h3
    have key : ∀ id, id ∈ keys ob' → lkOf ob' id = lkOf ob id := fun id hid => by
      rcases covO_look ob ob' h2 id with ⟨h, _⟩ | ⟨_, h⟩
      · exact absurd hid h
      · exact h
    refine Cover.drop (covF_look fr fr' h1) (fun id => ?_) (fun n id hid _ => key id (h5 id (idsF_look fr' n id hid))) fun id cs hcs x hx id' hid' _ => key id' (h6 id' (idsO_look ob' id cs x id' hcs hx hid'))
    rcases covO_look ob ob' h2 id with ⟨_, h⟩ | ⟨_, h⟩
    · exact .inl h
    · exact .inr h
  · cases h3

theorem wrap64 {x : Int} (h1 : -9223372036854775808 ≤ x) (h2 : x ≤ 9223372036854775807) : IntKind.i64.wrap x = x := by
  rw [IntKind.wrap_i64]; omega

theorem IdxG.map {α : Type} {l : List α} {f : α → List D} {i : Int} {n : Nat} {K : List D → Prop} (hi : i = (n : Int)) (h : n < l.length) (hK : K (f l[n])) : IdxG (l.map f) i K := by
  subst hi
  exact .intro (f l[n]) (by omega) (by simp [h]) hK

/-- A loop with an invariant. -/
theorem LoopG.inv {fr : Fr} {ob : Ob} {c : Code} {N : Fr → Ob → Prop} {Q : QP} {ι : Type} (S : ι → Fr × Ob) (I : ι → Prop) (μ : ι → Nat) (x0 : ι) (hI : I x0) (h0 : Cover X fr ob (S x0).1 (S x0).2)
    (round : ∀ x, I x → PW X c (S x).1 (S x).2 (fun fr ob => ∃ y, I y ∧ μ y < μ x ∧ Cover X fr ob (S y).1 (S y).2) Q) : LoopG X c fr ob N Q :=
  LoopG.intro (ι := {x : ι // I x}) (fun x => S x.1) (fun x => μ x.1) ⟨x0, hI⟩ h0 fun x => by
    refine WpG.mono (fun e fr ob h => ?_) (PW_ok _ (round x.1 x.2))
    cases e with
    | normal => obtain ⟨y, h1, h2, h3⟩ := h; exact ⟨⟨y, h1⟩, h2, h3⟩
    | _ => exact h

/-- A loop that counts up. -/
theorem LoopG.upto {fr : Fr} {ob : Ob} {c : Code} {N : Fr → Ob → Prop} {Q : QP} (n : Nat) (S : Nat → Fr × Ob) (I : Nat → Prop) (hI : I 0) (h0 : Cover X fr ob (S 0).1 (S 0).2)
    (round : ∀ i, i ≤ n → I i → PW X c (S i).1 (S i).2 (fun fr ob => i < n ∧ I (i + 1) ∧ Cover X fr ob (S (i + 1)).1 (S (i + 1)).2) Q) : LoopG X c fr ob N Q :=
  LoopG.intro (ι := {i : Nat // i ≤ n ∧ I i}) (fun i => S i.1) (fun i => n - i.1) ⟨0, Nat.zero_le _, hI⟩ h0 fun ⟨i, hi⟩ => by
    refine WpG.mono (fun e fr ob h => ?_) (PW_ok _ (round i hi.1 hi.2))
    cases e with
    | normal => obtain ⟨h1, h2, h3⟩ := h; exact ⟨⟨i + 1, by omega, h2⟩, by simp; omega, h3⟩
    | _ => exact h

end Go.Pv
