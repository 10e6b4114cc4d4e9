import Derived.Test.YtondofmlippbcaaVX3
set_option linter.unusedSimpArgs false
set_option linter.unusedVariables false
set_option maxRecDepth 100000
open Go Go.Pv
namespace Go.Pv.S
def laws_szView (k : Nat) (a : GView) (left : Int) : Option Int :=
  if (w64 (left - (a.Name.length : Int))) < 0 then (some (-1)) else (if (w64 ((w64 (left - (a.Name.length : Int))) - (a.Table.length : Int))) < 0 then (some (-1)) else ((laws_szStringS a.Cols (w64 ((w64 (left - (a.Name.length : Int))) - (a.Table.length : Int)))).bind fun t => if t < 0 then (some (-1)) else ((laws_szExprS k a.Where t).bind fun t1 => if t1 < 0 then (some (-1)) else (some t1))))

theorem laws_szView_ok {k : Nat} {a : GView} {left : Int} {r : Int} (H : laws_szView k a left = some r) : FnG Go.Proofs.Try.prog 98 [.agg (eGView a), .d (.int .i64 left)] [] (.d (.int .i64 r)) [] := by
  unfold laws_szView at H
  refine FnG.intro (T := T) (fn := Go.Proofs.Try.f98) (c := (Go.Proofs.Try.f98).body.getD .skip) [.d (.int .i64 r)] (by kernel_rfl) (by kernel_rfl) (by kernel_rfl) hfol hT (by kernel_rfl) rfl rfl rfl rfl rfl ?_
  intro N ok out pl0 W0
  refine PW_top ?_
  conv => whnf
  refine BranchG.ite H (fun HP H => ?_) (fun HP H => ?_)
  · obtain rfl := Option.some.inj H
    conv => whnf
    exact ⟨(by first | rfl | (simp only [List.map_cons, List.map_nil, eGExpr_eq]; first | done | rfl)), (by first | rfl | (simp only [List.map_cons, List.map_nil, eGExpr_eq]; first | done | rfl))⟩
  · conv => whnf
    refine BranchG.ite H (fun HP H => ?_) (fun HP H => ?_)
    · obtain rfl := Option.some.inj H
      conv => whnf
      exact ⟨(by first | rfl | (simp only [List.map_cons, List.map_nil, eGExpr_eq]; first | done | rfl)), (by first | rfl | (simp only [List.map_cons, List.map_nil, eGExpr_eq]; first | done | rfl))⟩
    · conv => whnf
      obtain ⟨t, HTt, H⟩ := bind_some H
      refine CallG.pure (by first | rfl | (simp only [argsG, argG, List.map_cons, List.map_nil, eGExpr_eq]; first | done | rfl)) (laws_szStringS_ok HTt) ?_
      conv => whnf
      refine BranchG.ite H (fun HP H => ?_) (fun HP H => ?_)
      · obtain rfl := Option.some.inj H
        conv => whnf
        exact ⟨(by first | rfl | (simp only [List.map_cons, List.map_nil, eGExpr_eq]; first | done | rfl)), (by first | rfl | (simp only [List.map_cons, List.map_nil, eGExpr_eq]; first | done | rfl))⟩
      · conv => whnf
        obtain ⟨t1, HTt1, H⟩ := bind_some H
        refine CallG.pure (by first | rfl | (simp only [argsG, argG, List.map_cons, List.map_nil, eGExpr_eq]; first | done | rfl)) (laws_szExprS_ok HTt1) ?_
        conv => whnf
        refine BranchG.ite H (fun HP H => ?_) (fun HP H => ?_)
        · obtain rfl := Option.some.inj H
          conv => whnf
          exact ⟨(by first | rfl | (simp only [List.map_cons, List.map_nil, eGExpr_eq]; first | done | rfl)), (by first | rfl | (simp only [List.map_cons, List.map_nil, eGExpr_eq]; first | done | rfl))⟩
        · obtain rfl := Option.some.inj H
          conv => whnf
          exact ⟨(by first | rfl | (simp only [List.map_cons, List.map_nil, eGExpr_eq]; first | done | rfl)), (by first | rfl | (simp only [List.map_cons, List.map_nil, eGExpr_eq]; first | done | rfl))⟩

def laws_szViewS_l1 (k : Nat) : List GView → Int → Option (Sum Int Int)
  | [], left1 => some (Sum.inl left1)
  | x :: xs, left1 => (laws_szView k x left1).bind fun t => if t < 0 then (some (Sum.inr (-1))) else (laws_szViewS_l1 k xs t)

def laws_szViewS (k : Nat) (a : (List GView)) (left : Int) : Option Int :=
  if (w64 (left - (a.length : Int))) < 0 then (some (-1)) else ((laws_szViewS_l1 k a (w64 (left - (a.length : Int)))).bind fun t => match t with | Sum.inl left2 => some left2 | Sum.inr r => some r)

theorem laws_szViewS_ok {k : Nat} {a : (List GView)} {left : Int} {r : Int} (H : laws_szViewS k a left = some r) : FnG Go.Proofs.Try.prog 71 [.d (.sl (a.map eGView)), .d (.int .i64 left)] [] (.d (.int .i64 r)) [] := by
  unfold laws_szViewS at H
  refine FnG.intro (T := T) (fn := Go.Proofs.Try.f71) (c := (Go.Proofs.Try.f71).body.getD .skip) [.d (.int .i64 r)] (by kernel_rfl) (by kernel_rfl) (by kernel_rfl) hfol hT (by kernel_rfl) rfl rfl rfl rfl rfl ?_
  intro N ok out pl0 W0
  refine PW_top ?_
  conv => whnf
  refine LenG.intro a.length (by simp only [List.length_map]) ?_
  conv => whnf
  refine BranchG.ite H (fun HP H => ?_) (fun HP H => ?_)
  · obtain rfl := Option.some.inj H
    conv => whnf
    exact ⟨(by first | rfl | (simp only [List.map_cons, List.map_nil, eGExpr_eq]; first | done | rfl)), (by first | rfl | (simp only [List.map_cons, List.map_nil, eGExpr_eq]; first | done | rfl))⟩
  · conv => whnf
    refine LoopG.len 0 rfl (fun HL1 => ?_)
    rw [List.length_map] at HL1
    refine LoopG.listCut (σ := Int) (ε := Int) a (fun i SS => ([(0, .d (.sl (a.map eGView))), (1, .d (.int .i64 SS)), (5, .d (.int .i64 (i : Int)))], [])) (fun i SS LL => laws_szViewS_l1 k LL SS) 0 (fun EE => ([(1, .d (.int .i64 EE))], [])) (fun e => Sum.inl e) (w64 (left - (a.length : Int))) (Cover.list (fr' := [(0, .d (.sl (a.map eGView))), (1, .d (.int .i64 (w64 (left - (a.length : Int))))), (5, .d (.int .i64 ((0 : Nat) : Int)))]) (ob' := []) (⟨.inr rfl, ⟨.inr rfl, ⟨.inr rfl, trivial⟩⟩⟩) (trivial)) H ?_ ?_ ?_
    · rintro RES1 HR1 i left1 x HI1 HX1 H
      rw [laws_szViewS_l1] at H
      conv => whnf
      refine LenG.intro a.length (by simp only [List.length_map]) ?_
      conv => whnf
      refine BranchG.t (decide_eq_true (by omega)) ?_
      conv => whnf
      refine IdxG.el (fun _ => rfl) rfl HX1 ?_
      conv => whnf
      obtain ⟨t, HTt, H⟩ := bind_some H
      refine CallG.pure (by first | rfl | (simp only [argsG, argG, List.map_cons, List.map_nil, eGExpr_eq]; first | done | rfl)) (laws_szView_ok HTt) ?_
      conv => whnf
      refine BranchG.ite H (fun HP H => ?_) (fun HP H => ?_)
      · obtain rfl := Option.some.inj H
        obtain rfl := Option.some.inj (HR1 : some _ = some _)
        conv => whnf
        exact ⟨(by first | rfl | (simp only [List.map_cons, List.map_nil, eGExpr_eq]; first | done | rfl)), (by first | rfl | (simp only [List.map_cons, List.map_nil, eGExpr_eq]; first | done | rfl))⟩
      · conv => whnf
        exact ⟨t, H, Cover.list (fr' := [(0, .d (.sl (a.map eGView))), (1, .d (.int .i64 t)), (5, .d (.int .i64 ((i + 1 : Nat) : Int)))]) (ob' := []) (⟨.inr rfl, ⟨.inr rfl, ⟨.inr (congrArg (fun n => some (PV.d (D.int .i64 n))) (wrapUp HI1 HL1)), trivial⟩⟩⟩) (trivial)⟩
    · rintro RES1 HR1 i left1 HI1 H
      rw [laws_szViewS_l1] at H
      conv => whnf
      refine LenG.intro a.length (by simp only [List.length_map]) ?_
      conv => whnf
      refine BranchG.f (decide_eq_false (by omega)) ?_
      conv => whnf
      exact ⟨left1, (Option.some.inj H).symm, Cover.list (fr' := [(1, .d (.int .i64 left1))]) (ob' := []) (⟨.inr rfl, trivial⟩) (trivial)⟩
    · rintro left2 H
      obtain rfl := Option.some.inj H
      conv => whnf
      exact ⟨(by first | rfl | (simp only [List.map_cons, List.map_nil, eGExpr_eq]; first | done | rfl)), (by first | rfl | (simp only [List.map_cons, List.map_nil, eGExpr_eq]; first | done | rfl))⟩

def laws_szPlan (k : Nat) (a : GPlan) (left : Int) : Option Int :=
  (laws_szLabelsS a.Enums left).bind fun t => if t < 0 then (some (-1)) else ((laws_szSeqS a.Seqs t).bind fun t1 => if t1 < 0 then (some (-1)) else ((laws_szTableS k a.Tables t1).bind fun t2 => if t2 < 0 then (some (-1)) else ((laws_szIndexS a.Indexes t2).bind fun t3 => if t3 < 0 then (some (-1)) else ((laws_szViewS k a.Views t3).bind fun t4 => if t4 < 0 then (some (-1)) else (some t4)))))

theorem laws_szPlan_ok {k : Nat} {a : GPlan} {left : Int} {r : Int} (H : laws_szPlan k a left = some r) : FnG Go.Proofs.Try.prog 40 [.agg (eGPlan a), .d (.int .i64 left)] [] (.d (.int .i64 r)) [] := by
  unfold laws_szPlan at H
  refine FnG.intro (T := T) (fn := Go.Proofs.Try.f40) (c := (Go.Proofs.Try.f40).body.getD .skip) [.d (.int .i64 r)] (by kernel_rfl) (by kernel_rfl) (by kernel_rfl) hfol hT (by kernel_rfl) rfl rfl rfl rfl rfl ?_
  intro N ok out pl0 W0
  refine PW_top ?_
  conv => whnf
  obtain ⟨t, HTt, H⟩ := bind_some H
  refine CallG.pure (by first | rfl | (simp only [argsG, argG, List.map_cons, List.map_nil, eGExpr_eq]; first | done | rfl)) (laws_szLabelsS_ok HTt) ?_
  conv => whnf
  refine BranchG.ite H (fun HP H => ?_) (fun HP H => ?_)
  · obtain rfl := Option.some.inj H
    conv => whnf
    exact ⟨(by first | rfl | (simp only [List.map_cons, List.map_nil, eGExpr_eq]; first | done | rfl)), (by first | rfl | (simp only [List.map_cons, List.map_nil, eGExpr_eq]; first | done | rfl))⟩
  · conv => whnf
    obtain ⟨t1, HTt1, H⟩ := bind_some H
    refine CallG.pure (by first | rfl | (simp only [argsG, argG, List.map_cons, List.map_nil, eGExpr_eq]; first | done | rfl)) (laws_szSeqS_ok HTt1) ?_
    conv => whnf
    refine BranchG.ite H (fun HP H => ?_) (fun HP H => ?_)
    · obtain rfl := Option.some.inj H
      conv => whnf
      exact ⟨(by first | rfl | (simp only [List.map_cons, List.map_nil, eGExpr_eq]; first | done | rfl)), (by first | rfl | (simp only [List.map_cons, List.map_nil, eGExpr_eq]; first | done | rfl))⟩
    · conv => whnf
      obtain ⟨t2, HTt2, H⟩ := bind_some H
      refine CallG.pure (by first | rfl | (simp only [argsG, argG, List.map_cons, List.map_nil, eGExpr_eq]; first | done | rfl)) (laws_szTableS_ok HTt2) ?_
      conv => whnf
      refine BranchG.ite H (fun HP H => ?_) (fun HP H => ?_)
      · obtain rfl := Option.some.inj H
        conv => whnf
        exact ⟨(by first | rfl | (simp only [List.map_cons, List.map_nil, eGExpr_eq]; first | done | rfl)), (by first | rfl | (simp only [List.map_cons, List.map_nil, eGExpr_eq]; first | done | rfl))⟩
      · conv => whnf
        obtain ⟨t3, HTt3, H⟩ := bind_some H
        refine CallG.pure (by first | rfl | (simp only [argsG, argG, List.map_cons, List.map_nil, eGExpr_eq]; first | done | rfl)) (laws_szIndexS_ok HTt3) ?_
        conv => whnf
        refine BranchG.ite H (fun HP H => ?_) (fun HP H => ?_)
        · obtain rfl := Option.some.inj H
          conv => whnf
          exact ⟨(by first | rfl | (simp only [List.map_cons, List.map_nil, eGExpr_eq]; first | done | rfl)), (by first | rfl | (simp only [List.map_cons, List.map_nil, eGExpr_eq]; first | done | rfl))⟩
        · conv => whnf
          obtain ⟨t4, HTt4, H⟩ := bind_some H
          refine CallG.pure (by first | rfl | (simp only [argsG, argG, List.map_cons, List.map_nil, eGExpr_eq]; first | done | rfl)) (laws_szViewS_ok HTt4) ?_
          conv => whnf
          refine BranchG.ite H (fun HP H => ?_) (fun HP H => ?_)
          · obtain rfl := Option.some.inj H
            conv => whnf
            exact ⟨(by first | rfl | (simp only [List.map_cons, List.map_nil, eGExpr_eq]; first | done | rfl)), (by first | rfl | (simp only [List.map_cons, List.map_nil, eGExpr_eq]; first | done | rfl))⟩
          · obtain rfl := Option.some.inj H
            conv => whnf
            exact ⟨(by first | rfl | (simp only [List.map_cons, List.map_nil, eGExpr_eq]; first | done | rfl)), (by first | rfl | (simp only [List.map_cons, List.map_nil, eGExpr_eq]; first | done | rfl))⟩

def laws_szValue (a : GValue) (left : Int) : Int :=
  if (w64 (left - (a.Text.length : Int))) < 0 then ((-1)) else ((w64 (left - (a.Text.length : Int))))

theorem laws_szValue_ok (a : GValue) (left : Int) : FnG Go.Proofs.Try.prog 6 [.agg (eGValue a), .d (.int .i64 left)] [] (.d (.int .i64 (laws_szValue a left))) [] := by
  generalize H : laws_szValue a left = r
  unfold laws_szValue at H
  refine FnG.intro (T := T) (fn := Go.Proofs.Try.f6) (c := (Go.Proofs.Try.f6).body.getD .skip) [.d (.int .i64 r)] (by kernel_rfl) (by kernel_rfl) (by kernel_rfl) hfol hT (by kernel_rfl) rfl rfl rfl rfl rfl ?_
  intro N ok out pl0 W0
  refine PW_top ?_
  conv => whnf
  refine BranchG.ite H (fun HP H => ?_) (fun HP H => ?_)
  · subst H
    conv => whnf
    exact ⟨(by first | rfl | (simp only [List.map_cons, List.map_nil, eGExpr_eq]; first | done | rfl)), (by first | rfl | (simp only [List.map_cons, List.map_nil, eGExpr_eq]; first | done | rfl))⟩
  · subst H
    conv => whnf
    exact ⟨(by first | rfl | (simp only [List.map_cons, List.map_nil, eGExpr_eq]; first | done | rfl)), (by first | rfl | (simp only [List.map_cons, List.map_nil, eGExpr_eq]; first | done | rfl))⟩
end Go.Pv.S
