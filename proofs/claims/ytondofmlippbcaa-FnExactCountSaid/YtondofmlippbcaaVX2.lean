import Derived.Test.YtondofmlippbcaaVX1
set_option linter.unusedSimpArgs false
set_option linter.unusedVariables false
set_option maxRecDepth 100000
open Go Go.Pv
namespace Go.Pv.S
theorem laws_szExprS_ok {k : Nat} {a : (List GExpr)} {left : Int} {r : Int} (H : laws_szExprS k a left = some r) : FnG Go.Proofs.Try.prog 116 [.d (.sl (a.map eGExpr)), .d (.int .i64 left)] [] (.d (.int .i64 r)) [] := (laws_szExprS_ring k).1 H

theorem laws_szExpr_ok {k : Nat} {a : GExpr} {left : Int} {r : Int} (H : laws_szExpr k a left = some r) : FnG Go.Proofs.Try.prog 140 [.agg (eGExpr1 a), .d (.int .i64 left)] [] (.d (.int .i64 r)) [] := (laws_szExprS_ring k).2 H

def laws_szCol (k : Nat) (a : GCol) (left : Int) : Option Int :=
  if (w64 (left - (a.Name.length : Int))) < 0 then (some (-1)) else (if (laws_szType a.Type_ (w64 (left - (a.Name.length : Int)))) < 0 then (some (-1)) else ((laws_szExprS k a.Default (laws_szType a.Type_ (w64 (left - (a.Name.length : Int))))).bind fun t => if t < 0 then (some (-1)) else (some t)))

theorem laws_szCol_ok {k : Nat} {a : GCol} {left : Int} {r : Int} (H : laws_szCol k a left = some r) : FnG Go.Proofs.Try.prog 138 [.agg (eGCol a), .d (.int .i64 left)] [] (.d (.int .i64 r)) [] := by
  unfold laws_szCol at H
  refine FnG.intro (T := T) (fn := Go.Proofs.Try.f138) (c := (Go.Proofs.Try.f138).body.getD .skip) [.d (.int .i64 r)] (by kernel_rfl) (by kernel_rfl) (by kernel_rfl) hfol hT (by kernel_rfl) rfl rfl rfl rfl rfl ?_
  intro N ok out pl0 W0
  refine PW_top ?_
  conv => whnf
  refine BranchG.ite H (fun HP H => ?_) (fun HP H => ?_)
  · obtain rfl := Option.some.inj H
    conv => whnf
    exact ⟨(by first | rfl | (simp only [List.map_cons, List.map_nil, eGExpr_eq]; first | done | rfl)), (by first | rfl | (simp only [List.map_cons, List.map_nil, eGExpr_eq]; first | done | rfl))⟩
  · conv => whnf
    refine CallG.pure (by first | rfl | (simp only [argsG, argG, List.map_cons, List.map_nil, eGExpr_eq]; first | done | rfl)) (laws_szType_ok a.Type_ (w64 (left - (a.Name.length : Int)))) ?_
    conv => whnf
    refine BranchG.ite H (fun HP H => ?_) (fun HP H => ?_)
    · obtain rfl := Option.some.inj H
      conv => whnf
      exact ⟨(by first | rfl | (simp only [List.map_cons, List.map_nil, eGExpr_eq]; first | done | rfl)), (by first | rfl | (simp only [List.map_cons, List.map_nil, eGExpr_eq]; first | done | rfl))⟩
    · conv => whnf
      obtain ⟨t, HTt, H⟩ := bind_some H
      refine CallG.pure (by first | rfl | (simp only [argsG, argG, List.map_cons, List.map_nil, eGExpr_eq]; first | done | rfl)) (laws_szExprS_ok HTt) ?_
      conv => whnf
      refine BranchG.ite H (fun HP H => ?_) (fun HP H => ?_)
      · obtain rfl := Option.some.inj H
        conv => whnf
        exact ⟨(by first | rfl | (simp only [List.map_cons, List.map_nil, eGExpr_eq]; first | done | rfl)), (by first | rfl | (simp only [List.map_cons, List.map_nil, eGExpr_eq]; first | done | rfl))⟩
      · obtain rfl := Option.some.inj H
        conv => whnf
        exact ⟨(by first | rfl | (simp only [List.map_cons, List.map_nil, eGExpr_eq]; first | done | rfl)), (by first | rfl | (simp only [List.map_cons, List.map_nil, eGExpr_eq]; first | done | rfl))⟩

def laws_szColS_l1 (k : Nat) : List GCol → Int → Option (Sum Int Int)
  | [], left1 => some (Sum.inl left1)
  | x :: xs, left1 => (laws_szCol k x left1).bind fun t => if t < 0 then (some (Sum.inr (-1))) else (laws_szColS_l1 k xs t)

def laws_szColS (k : Nat) (a : (List GCol)) (left : Int) : Option Int :=
  if (w64 (left - (a.length : Int))) < 0 then (some (-1)) else ((laws_szColS_l1 k a (w64 (left - (a.length : Int)))).bind fun t => match t with | Sum.inl left2 => some left2 | Sum.inr r => some r)

theorem laws_szColS_ok {k : Nat} {a : (List GCol)} {left : Int} {r : Int} (H : laws_szColS k a left = some r) : FnG Go.Proofs.Try.prog 114 [.d (.sl (a.map eGCol)), .d (.int .i64 left)] [] (.d (.int .i64 r)) [] := by
  unfold laws_szColS at H
  refine FnG.intro (T := T) (fn := Go.Proofs.Try.f114) (c := (Go.Proofs.Try.f114).body.getD .skip) [.d (.int .i64 r)] (by kernel_rfl) (by kernel_rfl) (by kernel_rfl) hfol hT (by kernel_rfl) rfl rfl rfl rfl rfl ?_
  intro N ok out pl0 W0
  refine PW_top ?_
  conv => whnf
  refine LenG.intro a.length (by simp only [List.length_map]) ?_
  conv => whnf
  refine BranchG.ite H (fun HP H => ?_) (fun HP H => ?_)
  · obtain rfl := Option.some.inj H
    conv => whnf
    exact ⟨(by first | rfl | (simp only [List.map_cons, List.map_nil, eGExpr_eq]; first | done | rfl)), (by first | rfl | (simp only [List.map_cons, List.map_nil, eGExpr_eq]; first | done | rfl))⟩
  · conv => whnf
    refine LoopG.len 0 rfl (fun HL1 => ?_)
    rw [List.length_map] at HL1
    refine LoopG.listCut (σ := Int) (ε := Int) a (fun i SS => ([(0, .d (.sl (a.map eGCol))), (1, .d (.int .i64 SS)), (5, .d (.int .i64 (i : Int)))], [])) (fun i SS LL => laws_szColS_l1 k LL SS) 0 (fun EE => ([(1, .d (.int .i64 EE))], [])) (fun e => Sum.inl e) (w64 (left - (a.length : Int))) (Cover.list (fr' := [(0, .d (.sl (a.map eGCol))), (1, .d (.int .i64 (w64 (left - (a.length : Int))))), (5, .d (.int .i64 ((0 : Nat) : Int)))]) (ob' := []) (⟨.inr rfl, ⟨.inr rfl, ⟨.inr rfl, trivial⟩⟩⟩) (trivial)) H ?_ ?_ ?_
    · rintro RES1 HR1 i left1 x HI1 HX1 H
      rw [laws_szColS_l1] at H
      conv => whnf
      refine LenG.intro a.length (by simp only [List.length_map]) ?_
      conv => whnf
      refine BranchG.t (decide_eq_true (by omega)) ?_
      conv => whnf
      refine IdxG.el (fun _ => rfl) rfl HX1 ?_
      conv => whnf
      obtain ⟨t, HTt, H⟩ := bind_some H
      refine CallG.pure (by first | rfl | (simp only [argsG, argG, List.map_cons, List.map_nil, eGExpr_eq]; first | done | rfl)) (laws_szCol_ok HTt) ?_
      conv => whnf
      refine BranchG.ite H (fun HP H => ?_) (fun HP H => ?_)
      · obtain rfl := Option.some.inj H
        obtain rfl := Option.some.inj (HR1 : some _ = some _)
        conv => whnf
        exact ⟨(by first | rfl | (simp only [List.map_cons, List.map_nil, eGExpr_eq]; first | done | rfl)), (by first | rfl | (simp only [List.map_cons, List.map_nil, eGExpr_eq]; first | done | rfl))⟩
      · conv => whnf
        exact ⟨t, H, Cover.list (fr' := [(0, .d (.sl (a.map eGCol))), (1, .d (.int .i64 t)), (5, .d (.int .i64 ((i + 1 : Nat) : Int)))]) (ob' := []) (⟨.inr rfl, ⟨.inr rfl, ⟨.inr (congrArg (fun n => some (PV.d (D.int .i64 n))) (wrapUp HI1 HL1)), trivial⟩⟩⟩) (trivial)⟩
    · rintro RES1 HR1 i left1 HI1 H
      rw [laws_szColS_l1] at H
      conv => whnf
      refine LenG.intro a.length (by simp only [List.length_map]) ?_
      conv => whnf
      refine BranchG.f (decide_eq_false (by omega)) ?_
      conv => whnf
      exact ⟨left1, (Option.some.inj H).symm, Cover.list (fr' := [(1, .d (.int .i64 left1))]) (ob' := []) (⟨.inr rfl, trivial⟩) (trivial)⟩
    · rintro left2 H
      obtain rfl := Option.some.inj H
      conv => whnf
      exact ⟨(by first | rfl | (simp only [List.map_cons, List.map_nil, eGExpr_eq]; first | done | rfl)), (by first | rfl | (simp only [List.map_cons, List.map_nil, eGExpr_eq]; first | done | rfl))⟩

def laws_szRule (k : Nat) (a : GRule) (left : Int) : Option Int :=
  if (w64 (left - (a.Name.length : Int))) < 0 then (some (-1)) else ((laws_szStringS a.Cols (w64 (left - (a.Name.length : Int)))).bind fun t => if t < 0 then (some (-1)) else ((laws_szExprS k a.Expr t).bind fun t1 => if t1 < 0 then (some (-1)) else (if (w64 (t1 - (a.Table.length : Int))) < 0 then (some (-1)) else ((laws_szStringS a.To (w64 (t1 - (a.Table.length : Int)))).bind fun t2 => if t2 < 0 then (some (-1)) else (some t2)))))

theorem laws_szRule_ok {k : Nat} {a : GRule} {left : Int} {r : Int} (H : laws_szRule k a left = some r) : FnG Go.Proofs.Try.prog 139 [.agg (eGRule a), .d (.int .i64 left)] [] (.d (.int .i64 r)) [] := by
  unfold laws_szRule at H
  refine FnG.intro (T := T) (fn := Go.Proofs.Try.f139) (c := (Go.Proofs.Try.f139).body.getD .skip) [.d (.int .i64 r)] (by kernel_rfl) (by kernel_rfl) (by kernel_rfl) hfol hT (by kernel_rfl) rfl rfl rfl rfl rfl ?_
  intro N ok out pl0 W0
  refine PW_top ?_
  conv => whnf
  refine BranchG.ite H (fun HP H => ?_) (fun HP H => ?_)
  · obtain rfl := Option.some.inj H
    conv => whnf
    exact ⟨(by first | rfl | (simp only [List.map_cons, List.map_nil, eGExpr_eq]; first | done | rfl)), (by first | rfl | (simp only [List.map_cons, List.map_nil, eGExpr_eq]; first | done | rfl))⟩
  · conv => whnf
    obtain ⟨t, HTt, H⟩ := bind_some H
    refine CallG.pure (by first | rfl | (simp only [argsG, argG, List.map_cons, List.map_nil, eGExpr_eq]; first | done | rfl)) (laws_szStringS_ok HTt) ?_
    conv => whnf
    refine BranchG.ite H (fun HP H => ?_) (fun HP H => ?_)
    · obtain rfl := Option.some.inj H
      conv => whnf
      exact ⟨(by first | rfl | (simp only [List.map_cons, List.map_nil, eGExpr_eq]; first | done | rfl)), (by first | rfl | (simp only [List.map_cons, List.map_nil, eGExpr_eq]; first | done | rfl))⟩
    · conv => whnf
      obtain ⟨t1, HTt1, H⟩ := bind_some H
      refine CallG.pure (by first | rfl | (simp only [argsG, argG, List.map_cons, List.map_nil, eGExpr_eq]; first | done | rfl)) (laws_szExprS_ok HTt1) ?_
      conv => whnf
      refine BranchG.ite H (fun HP H => ?_) (fun HP H => ?_)
      · obtain rfl := Option.some.inj H
        conv => whnf
        exact ⟨(by first | rfl | (simp only [List.map_cons, List.map_nil, eGExpr_eq]; first | done | rfl)), (by first | rfl | (simp only [List.map_cons, List.map_nil, eGExpr_eq]; first | done | rfl))⟩
      · conv => whnf
        refine BranchG.ite H (fun HP H => ?_) (fun HP H => ?_)
        · obtain rfl := Option.some.inj H
          conv => whnf
          exact ⟨(by first | rfl | (simp only [List.map_cons, List.map_nil, eGExpr_eq]; first | done | rfl)), (by first | rfl | (simp only [List.map_cons, List.map_nil, eGExpr_eq]; first | done | rfl))⟩
        · conv => whnf
          obtain ⟨t2, HTt2, H⟩ := bind_some H
          refine CallG.pure (by first | rfl | (simp only [argsG, argG, List.map_cons, List.map_nil, eGExpr_eq]; first | done | rfl)) (laws_szStringS_ok HTt2) ?_
          conv => whnf
          refine BranchG.ite H (fun HP H => ?_) (fun HP H => ?_)
          · obtain rfl := Option.some.inj H
            conv => whnf
            exact ⟨(by first | rfl | (simp only [List.map_cons, List.map_nil, eGExpr_eq]; first | done | rfl)), (by first | rfl | (simp only [List.map_cons, List.map_nil, eGExpr_eq]; first | done | rfl))⟩
          · obtain rfl := Option.some.inj H
            conv => whnf
            exact ⟨(by first | rfl | (simp only [List.map_cons, List.map_nil, eGExpr_eq]; first | done | rfl)), (by first | rfl | (simp only [List.map_cons, List.map_nil, eGExpr_eq]; first | done | rfl))⟩

def laws_szRuleS_l1 (k : Nat) : List GRule → Int → Option (Sum Int Int)
  | [], left1 => some (Sum.inl left1)
  | x :: xs, left1 => (laws_szRule k x left1).bind fun t => if t < 0 then (some (Sum.inr (-1))) else (laws_szRuleS_l1 k xs t)

def laws_szRuleS (k : Nat) (a : (List GRule)) (left : Int) : Option Int :=
  if (w64 (left - (a.length : Int))) < 0 then (some (-1)) else ((laws_szRuleS_l1 k a (w64 (left - (a.length : Int)))).bind fun t => match t with | Sum.inl left2 => some left2 | Sum.inr r => some r)

theorem laws_szRuleS_ok {k : Nat} {a : (List GRule)} {left : Int} {r : Int} (H : laws_szRuleS k a left = some r) : FnG Go.Proofs.Try.prog 115 [.d (.sl (a.map eGRule)), .d (.int .i64 left)] [] (.d (.int .i64 r)) [] := by
  unfold laws_szRuleS at H
  refine FnG.intro (T := T) (fn := Go.Proofs.Try.f115) (c := (Go.Proofs.Try.f115).body.getD .skip) [.d (.int .i64 r)] (by kernel_rfl) (by kernel_rfl) (by kernel_rfl) hfol hT (by kernel_rfl) rfl rfl rfl rfl rfl ?_
  intro N ok out pl0 W0
  refine PW_top ?_
  conv => whnf
  refine LenG.intro a.length (by simp only [List.length_map]) ?_
  conv => whnf
  refine BranchG.ite H (fun HP H => ?_) (fun HP H => ?_)
  · obtain rfl := Option.some.inj H
    conv => whnf
    exact ⟨(by first | rfl | (simp only [List.map_cons, List.map_nil, eGExpr_eq]; first | done | rfl)), (by first | rfl | (simp only [List.map_cons, List.map_nil, eGExpr_eq]; first | done | rfl))⟩
  · conv => whnf
    refine LoopG.len 0 rfl (fun HL1 => ?_)
    rw [List.length_map] at HL1
    refine LoopG.listCut (σ := Int) (ε := Int) a (fun i SS => ([(0, .d (.sl (a.map eGRule))), (1, .d (.int .i64 SS)), (5, .d (.int .i64 (i : Int)))], [])) (fun i SS LL => laws_szRuleS_l1 k LL SS) 0 (fun EE => ([(1, .d (.int .i64 EE))], [])) (fun e => Sum.inl e) (w64 (left - (a.length : Int))) (Cover.list (fr' := [(0, .d (.sl (a.map eGRule))), (1, .d (.int .i64 (w64 (left - (a.length : Int))))), (5, .d (.int .i64 ((0 : Nat) : Int)))]) (ob' := []) (⟨.inr rfl, ⟨.inr rfl, ⟨.inr rfl, trivial⟩⟩⟩) (trivial)) H ?_ ?_ ?_
    · rintro RES1 HR1 i left1 x HI1 HX1 H
      rw [laws_szRuleS_l1] at H
      conv => whnf
      refine LenG.intro a.length (by simp only [List.length_map]) ?_
      conv => whnf
      refine BranchG.t (decide_eq_true (by omega)) ?_
      conv => whnf
      refine IdxG.el (fun _ => rfl) rfl HX1 ?_
      conv => whnf
      obtain ⟨t, HTt, H⟩ := bind_some H
      refine CallG.pure (by first | rfl | (simp only [argsG, argG, List.map_cons, List.map_nil, eGExpr_eq]; first | done | rfl)) (laws_szRule_ok HTt) ?_
      conv => whnf
      refine BranchG.ite H (fun HP H => ?_) (fun HP H => ?_)
      · obtain rfl := Option.some.inj H
        obtain rfl := Option.some.inj (HR1 : some _ = some _)
        conv => whnf
        exact ⟨(by first | rfl | (simp only [List.map_cons, List.map_nil, eGExpr_eq]; first | done | rfl)), (by first | rfl | (simp only [List.map_cons, List.map_nil, eGExpr_eq]; first | done | rfl))⟩
      · conv => whnf
        exact ⟨t, H, Cover.list (fr' := [(0, .d (.sl (a.map eGRule))), (1, .d (.int .i64 t)), (5, .d (.int .i64 ((i + 1 : Nat) : Int)))]) (ob' := []) (⟨.inr rfl, ⟨.inr rfl, ⟨.inr (congrArg (fun n => some (PV.d (D.int .i64 n))) (wrapUp HI1 HL1)), trivial⟩⟩⟩) (trivial)⟩
    · rintro RES1 HR1 i left1 HI1 H
      rw [laws_szRuleS_l1] at H
      conv => whnf
      refine LenG.intro a.length (by simp only [List.length_map]) ?_
      conv => whnf
      refine BranchG.f (decide_eq_false (by omega)) ?_
      conv => whnf
      exact ⟨left1, (Option.some.inj H).symm, Cover.list (fr' := [(1, .d (.int .i64 left1))]) (ob' := []) (⟨.inr rfl, trivial⟩) (trivial)⟩
    · rintro left2 H
      obtain rfl := Option.some.inj H
      conv => whnf
      exact ⟨(by first | rfl | (simp only [List.map_cons, List.map_nil, eGExpr_eq]; first | done | rfl)), (by first | rfl | (simp only [List.map_cons, List.map_nil, eGExpr_eq]; first | done | rfl))⟩
end Go.Pv.S
