import Derived.Test.YtondofmlippbcaaVX0
set_option linter.unusedSimpArgs false
set_option linter.unusedVariables false
set_option maxRecDepth 100000
open Go Go.Pv
namespace Go.Pv.S
def laws_szSeq (a : GSeq) (left : Int) : Int :=
  if (w64 (left - (a.Name.length : Int))) < 0 then ((-1)) else ((w64 (left - (a.Name.length : Int))))

theorem laws_szSeq_ok (a : GSeq) (left : Int) : FnG Go.Proofs.Try.prog 95 [.agg (eGSeq a), .d (.int .i64 left)] [] (.d (.int .i64 (laws_szSeq a left))) [] := by
  generalize H : laws_szSeq a left = r
  unfold laws_szSeq at H
  refine FnG.intro (T := T) (fn := Go.Proofs.Try.f95) (c := (Go.Proofs.Try.f95).body.getD .skip) [.d (.int .i64 r)] (by kernel_rfl) (by kernel_rfl) (by kernel_rfl) hfol hT (by kernel_rfl) rfl rfl rfl rfl rfl ?_
  intro N ok out pl0 W0
  refine PW_top ?_
  conv => whnf
  refine BranchG.ite H (fun HP H => ?_) (fun HP H => ?_)
  · subst H
    conv => whnf
    exact ⟨(by first | rfl | (simp only [List.map_cons, List.map_nil, eGExpr_eq]; first | done | rfl)), (by first | rfl | (simp only [List.map_cons, List.map_nil, eGExpr_eq]; first | done | rfl))⟩
  · subst H
    conv => whnf
    exact ⟨(by first | rfl | (simp only [List.map_cons, List.map_nil, eGExpr_eq]; first | done | rfl)), (by first | rfl | (simp only [List.map_cons, List.map_nil, eGExpr_eq]; first | done | rfl))⟩

def laws_szSeqS_l1  : List GSeq → Int → Option (Sum Int Int)
  | [], left1 => some (Sum.inl left1)
  | x :: xs, left1 => if (laws_szSeq x left1) < 0 then (some (Sum.inr (-1))) else (laws_szSeqS_l1 xs (laws_szSeq x left1))

def laws_szSeqS (a : (List GSeq)) (left : Int) : Option Int :=
  if (w64 (left - (a.length : Int))) < 0 then (some (-1)) else ((laws_szSeqS_l1 a (w64 (left - (a.length : Int)))).bind fun t => match t with | Sum.inl left2 => some left2 | Sum.inr r => some r)

theorem laws_szSeqS_ok {a : (List GSeq)} {left : Int} {r : Int} (H : laws_szSeqS a left = some r) : FnG Go.Proofs.Try.prog 68 [.d (.sl (a.map eGSeq)), .d (.int .i64 left)] [] (.d (.int .i64 r)) [] := by
  unfold laws_szSeqS at H
  refine FnG.intro (T := T) (fn := Go.Proofs.Try.f68) (c := (Go.Proofs.Try.f68).body.getD .skip) [.d (.int .i64 r)] (by kernel_rfl) (by kernel_rfl) (by kernel_rfl) hfol hT (by kernel_rfl) rfl rfl rfl rfl rfl ?_
  intro N ok out pl0 W0
  refine PW_top ?_
  conv => whnf
  refine LenG.intro a.length (by simp only [List.length_map]) ?_
  conv => whnf
  refine BranchG.ite H (fun HP H => ?_) (fun HP H => ?_)
  · obtain rfl := Option.some.inj H
    conv => whnf
    exact ⟨(by first | rfl | (simp only [List.map_cons, List.map_nil, eGExpr_eq]; first | done | rfl)), (by first | rfl | (simp only [List.map_cons, List.map_nil, eGExpr_eq]; first | done | rfl))⟩
  · conv => whnf
    refine LoopG.len 0 rfl (fun HL1 => ?_)
    rw [List.length_map] at HL1
    refine LoopG.listCut (σ := Int) (ε := Int) a (fun i SS => ([(0, .d (.sl (a.map eGSeq))), (1, .d (.int .i64 SS)), (5, .d (.int .i64 (i : Int)))], [])) (fun i SS LL => laws_szSeqS_l1 LL SS) 0 (fun EE => ([(1, .d (.int .i64 EE))], [])) (fun e => Sum.inl e) (w64 (left - (a.length : Int))) (Cover.list (fr' := [(0, .d (.sl (a.map eGSeq))), (1, .d (.int .i64 (w64 (left - (a.length : Int))))), (5, .d (.int .i64 ((0 : Nat) : Int)))]) (ob' := []) (⟨.inr rfl, ⟨.inr rfl, ⟨.inr rfl, trivial⟩⟩⟩) (trivial)) H ?_ ?_ ?_
    · rintro RES1 HR1 i left1 x HI1 HX1 H
      rw [laws_szSeqS_l1] at H
      conv => whnf
      refine LenG.intro a.length (by simp only [List.length_map]) ?_
      conv => whnf
      refine BranchG.t (decide_eq_true (by omega)) ?_
      conv => whnf
      refine IdxG.el (fun _ => rfl) rfl HX1 ?_
      conv => whnf
      refine CallG.pure (by first | rfl | (simp only [argsG, argG, List.map_cons, List.map_nil, eGExpr_eq]; first | done | rfl)) (laws_szSeq_ok x left1) ?_
      conv => whnf
      refine BranchG.ite H (fun HP H => ?_) (fun HP H => ?_)
      · obtain rfl := Option.some.inj H
        obtain rfl := Option.some.inj (HR1 : some _ = some _)
        conv => whnf
        exact ⟨(by first | rfl | (simp only [List.map_cons, List.map_nil, eGExpr_eq]; first | done | rfl)), (by first | rfl | (simp only [List.map_cons, List.map_nil, eGExpr_eq]; first | done | rfl))⟩
      · conv => whnf
        exact ⟨(laws_szSeq x left1), H, Cover.list (fr' := [(0, .d (.sl (a.map eGSeq))), (1, .d (.int .i64 (laws_szSeq x left1))), (5, .d (.int .i64 ((i + 1 : Nat) : Int)))]) (ob' := []) (⟨.inr rfl, ⟨.inr rfl, ⟨.inr (congrArg (fun n => some (PV.d (D.int .i64 n))) (wrapUp HI1 HL1)), trivial⟩⟩⟩) (trivial)⟩
    · rintro RES1 HR1 i left1 HI1 H
      rw [laws_szSeqS_l1] at H
      conv => whnf
      refine LenG.intro a.length (by simp only [List.length_map]) ?_
      conv => whnf
      refine BranchG.f (decide_eq_false (by omega)) ?_
      conv => whnf
      exact ⟨left1, (Option.some.inj H).symm, Cover.list (fr' := [(1, .d (.int .i64 left1))]) (ob' := []) (⟨.inr rfl, trivial⟩) (trivial)⟩
    · rintro left2 H
      obtain rfl := Option.some.inj H
      conv => whnf
      exact ⟨(by first | rfl | (simp only [List.map_cons, List.map_nil, eGExpr_eq]; first | done | rfl)), (by first | rfl | (simp only [List.map_cons, List.map_nil, eGExpr_eq]; first | done | rfl))⟩

def laws_szType (a : GType_) (left : Int) : Int :=
  if (w64 (left - (a.Name.length : Int))) < 0 then ((-1)) else ((w64 (left - (a.Name.length : Int))))

theorem laws_szType_ok (a : GType_) (left : Int) : FnG Go.Proofs.Try.prog 7 [.agg (eGType_ a), .d (.int .i64 left)] [] (.d (.int .i64 (laws_szType a left))) [] := by
  generalize H : laws_szType a left = r
  unfold laws_szType at H
  refine FnG.intro (T := T) (fn := Go.Proofs.Try.f7) (c := (Go.Proofs.Try.f7).body.getD .skip) [.d (.int .i64 r)] (by kernel_rfl) (by kernel_rfl) (by kernel_rfl) hfol hT (by kernel_rfl) rfl rfl rfl rfl rfl ?_
  intro N ok out pl0 W0
  refine PW_top ?_
  conv => whnf
  refine BranchG.ite H (fun HP H => ?_) (fun HP H => ?_)
  · subst H
    conv => whnf
    exact ⟨(by first | rfl | (simp only [List.map_cons, List.map_nil, eGExpr_eq]; first | done | rfl)), (by first | rfl | (simp only [List.map_cons, List.map_nil, eGExpr_eq]; first | done | rfl))⟩
  · subst H
    conv => whnf
    exact ⟨(by first | rfl | (simp only [List.map_cons, List.map_nil, eGExpr_eq]; first | done | rfl)), (by first | rfl | (simp only [List.map_cons, List.map_nil, eGExpr_eq]; first | done | rfl))⟩

def laws_szExprS_l1 (f_laws_szExpr : (GExpr → Int → Option Int)) : List GExpr → Int → Option (Sum Int Int)
  | [], left1 => some (Sum.inl left1)
  | x :: xs, left1 => (f_laws_szExpr x left1).bind fun t => if t < 0 then (some (Sum.inr (-1))) else (laws_szExprS_l1 f_laws_szExpr xs t)

mutual
def laws_szExprS : Nat → (List GExpr) → Int → Option Int
  | 0, _, _ => none
  | k + 1, a, left => if (w64 (left - (a.length : Int))) < 0 then (some (-1)) else ((laws_szExprS_l1 (laws_szExpr k) a (w64 (left - (a.length : Int)))).bind fun t => match t with | Sum.inl left2 => some left2 | Sum.inr r => some r)

def laws_szExpr : Nat → GExpr → Int → Option Int
  | 0, _, _ => none
  | k + 1, a, left => if (w64 (left - (a.Text.length : Int))) < 0 then (some (-1)) else (((laws_szExprS k) a.Kids (w64 (left - (a.Text.length : Int)))).bind fun t => if t < 0 then (some (-1)) else (some t))
end

theorem laws_szExprS_ring : ∀ (k : Nat), (∀ {a : (List GExpr)} {left : Int} {r : Int}, laws_szExprS k a left = some r → FnG Go.Proofs.Try.prog 116 [.d (.sl (a.map eGExpr)), .d (.int .i64 left)] [] (.d (.int .i64 r)) []) ∧ (∀ {a : GExpr} {left : Int} {r : Int}, laws_szExpr k a left = some r → FnG Go.Proofs.Try.prog 140 [.agg (eGExpr1 a), .d (.int .i64 left)] [] (.d (.int .i64 r)) []) := by
  intro k
  induction k with
  | zero => exact ⟨(by intros; rename_i H; rw [laws_szExprS] at H; cases H), (by intros; rename_i H; rw [laws_szExpr] at H; cases H)⟩
  | succ k IH =>
    obtain ⟨IH_laws_szExprS, IH_laws_szExpr⟩ := IH
    refine ⟨?_, ?_⟩
    · intro a left r H
      rw [laws_szExprS] at H
      refine FnG.intro (T := T) (fn := Go.Proofs.Try.f116) (c := (Go.Proofs.Try.f116).body.getD .skip) [.d (.int .i64 r)] (by kernel_rfl) (by kernel_rfl) (by kernel_rfl) hfol hT (by kernel_rfl) rfl rfl rfl rfl rfl ?_
      intro N ok out pl0 W0
      refine PW_top ?_
      conv => whnf
      refine LenG.intro a.length (by simp only [List.length_map]) ?_
      conv => whnf
      refine BranchG.ite H (fun HP H => ?_) (fun HP H => ?_)
      · obtain rfl := Option.some.inj H
        conv => whnf
        exact ⟨(by first | rfl | (simp only [List.map_cons, List.map_nil, eGExpr_eq]; first | done | rfl)), (by first | rfl | (simp only [List.map_cons, List.map_nil, eGExpr_eq]; first | done | rfl))⟩
      · conv => whnf
        refine LoopG.len 0 rfl (fun HL1 => ?_)
        rw [List.length_map] at HL1
        refine LoopG.listCut (σ := Int) (ε := Int) a (fun i SS => ([(0, .d (.sl (a.map eGExpr))), (1, .d (.int .i64 SS)), (5, .d (.int .i64 (i : Int)))], [])) (fun i SS LL => laws_szExprS_l1 (laws_szExpr k) LL SS) 0 (fun EE => ([(1, .d (.int .i64 EE))], [])) (fun e => Sum.inl e) (w64 (left - (a.length : Int))) (Cover.list (fr' := [(0, .d (.sl (a.map eGExpr))), (1, .d (.int .i64 (w64 (left - (a.length : Int))))), (5, .d (.int .i64 ((0 : Nat) : Int)))]) (ob' := []) (⟨.inr rfl, ⟨.inr rfl, ⟨.inr rfl, trivial⟩⟩⟩) (trivial)) H ?_ ?_ ?_
        · rintro RES1 HR1 i left1 x HI1 HX1 H
          rw [laws_szExprS_l1] at H
          conv => whnf
          refine LenG.intro a.length (by simp only [List.length_map]) ?_
          conv => whnf
          refine BranchG.t (decide_eq_true (by omega)) ?_
          conv => whnf
          refine IdxG.el eGExpr_eq rfl HX1 ?_
          conv => whnf
          obtain ⟨t, HTt, H⟩ := bind_some H
          refine CallG.pure (by first | rfl | (simp only [argsG, argG, List.map_cons, List.map_nil, eGExpr_eq]; first | done | rfl)) (IH_laws_szExpr HTt) ?_
          conv => whnf
          refine BranchG.ite H (fun HP H => ?_) (fun HP H => ?_)
          · obtain rfl := Option.some.inj H
            obtain rfl := Option.some.inj (HR1 : some _ = some _)
            conv => whnf
            exact ⟨(by first | rfl | (simp only [List.map_cons, List.map_nil, eGExpr_eq]; first | done | rfl)), (by first | rfl | (simp only [List.map_cons, List.map_nil, eGExpr_eq]; first | done | rfl))⟩
          · conv => whnf
            exact ⟨t, H, Cover.list (fr' := [(0, .d (.sl (a.map eGExpr))), (1, .d (.int .i64 t)), (5, .d (.int .i64 ((i + 1 : Nat) : Int)))]) (ob' := []) (⟨.inr rfl, ⟨.inr rfl, ⟨.inr (congrArg (fun n => some (PV.d (D.int .i64 n))) (wrapUp HI1 HL1)), trivial⟩⟩⟩) (trivial)⟩
        · rintro RES1 HR1 i left1 HI1 H
          rw [laws_szExprS_l1] at H
          conv => whnf
          refine LenG.intro a.length (by simp only [List.length_map]) ?_
          conv => whnf
          refine BranchG.f (decide_eq_false (by omega)) ?_
          conv => whnf
          exact ⟨left1, (Option.some.inj H).symm, Cover.list (fr' := [(1, .d (.int .i64 left1))]) (ob' := []) (⟨.inr rfl, trivial⟩) (trivial)⟩
        · rintro left2 H
          obtain rfl := Option.some.inj H
          conv => whnf
          exact ⟨(by first | rfl | (simp only [List.map_cons, List.map_nil, eGExpr_eq]; first | done | rfl)), (by first | rfl | (simp only [List.map_cons, List.map_nil, eGExpr_eq]; first | done | rfl))⟩
    · intro a left r H
      rw [laws_szExpr] at H
      refine FnG.intro (T := T) (fn := Go.Proofs.Try.f140) (c := (Go.Proofs.Try.f140).body.getD .skip) [.d (.int .i64 r)] (by kernel_rfl) (by kernel_rfl) (by kernel_rfl) hfol hT (by kernel_rfl) rfl rfl rfl rfl rfl ?_
      intro N ok out pl0 W0
      refine PW_top ?_
      conv => whnf
      refine BranchG.ite H (fun HP H => ?_) (fun HP H => ?_)
      · obtain rfl := Option.some.inj H
        conv => whnf
        exact ⟨(by first | rfl | (simp only [List.map_cons, List.map_nil, eGExpr_eq]; first | done | rfl)), (by first | rfl | (simp only [List.map_cons, List.map_nil, eGExpr_eq]; first | done | rfl))⟩
      · conv => whnf
        obtain ⟨t, HTt, H⟩ := bind_some H
        refine CallG.pure (by first | rfl | (simp only [argsG, argG, List.map_cons, List.map_nil, eGExpr_eq]; first | done | rfl)) (IH_laws_szExprS HTt) ?_
        conv => whnf
        refine BranchG.ite H (fun HP H => ?_) (fun HP H => ?_)
        · obtain rfl := Option.some.inj H
          conv => whnf
          exact ⟨(by first | rfl | (simp only [List.map_cons, List.map_nil, eGExpr_eq]; first | done | rfl)), (by first | rfl | (simp only [List.map_cons, List.map_nil, eGExpr_eq]; first | done | rfl))⟩
        · obtain rfl := Option.some.inj H
          conv => whnf
          exact ⟨(by first | rfl | (simp only [List.map_cons, List.map_nil, eGExpr_eq]; first | done | rfl)), (by first | rfl | (simp only [List.map_cons, List.map_nil, eGExpr_eq]; first | done | rfl))⟩
end Go.Pv.S
