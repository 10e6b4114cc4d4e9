import Derived.Test.YtondofmlippbcaaVX14
set_option linter.unusedSimpArgs false
set_option linter.unusedVariables false
set_option maxRecDepth 100000
open Go Go.Pv
namespace Go.Pv.S
def laws_eqView (k : Nat) (a : GView) (b : GView) : Option Bool :=
  if a.Name = b.Name then (if a.Table = b.Table then ((laws_eqStringS a.Cols b.Cols).bind fun t => if t = true then ((laws_eqExprS k a.Where b.Where).bind fun t1 => if t1 = true then (some true) else (some false)) else (some false)) else (some false)) else (some false)

theorem laws_eqView_ok {k : Nat} {a : GView} {b : GView} {r : Bool} (H : laws_eqView k a b = some r) : FnG Go.Proofs.Try.prog 108 [.agg (eGView a), .agg (eGView b)] [] (.d (.bool r)) [] := by
  unfold laws_eqView at H
  refine FnG.intro (T := T) (fn := Go.Proofs.Try.f108) (c := (Go.Proofs.Try.f108).body.getD .skip) [.d (.bool r)] (by kernel_rfl) (by kernel_rfl) (by kernel_rfl) hfol hT (by kernel_rfl) rfl rfl rfl rfl rfl ?_
  intro N ok out pl0 W0
  refine PW_top ?_
  conv => whnf
  refine BranchG.iteN H (fun HP H => ?_) (fun HP H => ?_)
  · obtain rfl := Option.some.inj H
    conv => whnf
    exact ⟨(by first | rfl | (simp only [List.map_cons, List.map_nil, eGExpr_eq]; first | done | rfl)), (by first | rfl | (simp only [List.map_cons, List.map_nil, eGExpr_eq]; first | done | rfl))⟩
  · conv => whnf
    refine BranchG.iteN H (fun HP H => ?_) (fun HP H => ?_)
    · obtain rfl := Option.some.inj H
      conv => whnf
      exact ⟨(by first | rfl | (simp only [List.map_cons, List.map_nil, eGExpr_eq]; first | done | rfl)), (by first | rfl | (simp only [List.map_cons, List.map_nil, eGExpr_eq]; first | done | rfl))⟩
    · conv => whnf
      obtain ⟨t, HTt, H⟩ := bind_some H
      refine CallG.pure (by first | rfl | (simp only [argsG, argG, List.map_cons, List.map_nil, eGExpr_eq]; first | done | rfl)) (laws_eqStringS_ok HTt) ?_
      conv => whnf
      refine BranchG.iteBN H (fun HP H => ?_) (fun HP H => ?_)
      · obtain rfl := Option.some.inj H
        conv => whnf
        exact ⟨(by first | rfl | (simp only [List.map_cons, List.map_nil, eGExpr_eq]; first | done | rfl)), (by first | rfl | (simp only [List.map_cons, List.map_nil, eGExpr_eq]; first | done | rfl))⟩
      · conv => whnf
        obtain ⟨t1, HTt1, H⟩ := bind_some H
        refine CallG.pure (by first | rfl | (simp only [argsG, argG, List.map_cons, List.map_nil, eGExpr_eq]; first | done | rfl)) (laws_eqExprS_ok HTt1) ?_
        conv => whnf
        refine BranchG.iteBN H (fun HP H => ?_) (fun HP H => ?_)
        · obtain rfl := Option.some.inj H
          conv => whnf
          exact ⟨(by first | rfl | (simp only [List.map_cons, List.map_nil, eGExpr_eq]; first | done | rfl)), (by first | rfl | (simp only [List.map_cons, List.map_nil, eGExpr_eq]; first | done | rfl))⟩
        · obtain rfl := Option.some.inj H
          conv => whnf
          exact ⟨(by first | rfl | (simp only [List.map_cons, List.map_nil, eGExpr_eq]; first | done | rfl)), (by first | rfl | (simp only [List.map_cons, List.map_nil, eGExpr_eq]; first | done | rfl))⟩

def laws_eqViewS_l1 (k : Nat) (b : (List GView)) : List GView → Nat → Option (Sum Unit Bool)
  | [], i => some (Sum.inl ())
  | x :: xs, i => (at? b (i : Int)).bind fun e => (laws_eqView k x e).bind fun t => if t = true then (laws_eqViewS_l1 k b xs (i + 1) ) else (some (Sum.inr false))

def laws_eqViewS (k : Nat) (a : (List GView)) (b : (List GView)) : Option Bool :=
  if (a.length : Int) = (b.length : Int) then ((laws_eqViewS_l1 k b a 0).bind fun t => match t with | Sum.inl _ => some true | Sum.inr r => some r) else (some false)

theorem laws_eqViewS_ok {k : Nat} {a : (List GView)} {b : (List GView)} {r : Bool} (H : laws_eqViewS k a b = some r) : FnG Go.Proofs.Try.prog 81 [.d (.sl (a.map eGView)), .d (.sl (b.map eGView))] [] (.d (.bool r)) [] := by
  unfold laws_eqViewS at H
  refine FnG.intro (T := T) (fn := Go.Proofs.Try.f81) (c := (Go.Proofs.Try.f81).body.getD .skip) [.d (.bool r)] (by kernel_rfl) (by kernel_rfl) (by kernel_rfl) hfol hT (by kernel_rfl) rfl rfl rfl rfl rfl ?_
  intro N ok out pl0 W0
  refine PW_top ?_
  conv => whnf
  refine LenG.intro a.length (by simp only [List.length_map]) ?_
  conv => whnf
  refine LenG.intro b.length (by simp only [List.length_map]) ?_
  conv => whnf
  refine BranchG.iteN H (fun HP H => ?_) (fun HP H => ?_)
  · obtain rfl := Option.some.inj H
    conv => whnf
    exact ⟨(by first | rfl | (simp only [List.map_cons, List.map_nil, eGExpr_eq]; first | done | rfl)), (by first | rfl | (simp only [List.map_cons, List.map_nil, eGExpr_eq]; first | done | rfl))⟩
  · conv => whnf
    refine LoopG.len 0 rfl (fun HL1 => ?_)
    rw [List.length_map] at HL1
    refine LoopG.listCut (σ := Unit) (ε := Unit) a (fun i SS => ([(0, .d (.sl (a.map eGView))), (1, .d (.sl (b.map eGView))), (5, .d (.int .i64 (i : Int)))], [])) (fun i SS LL => laws_eqViewS_l1 k b LL i) 0 (fun EE => ([], [])) (fun e => Sum.inl e) () (Cover.list (fr' := [(0, .d (.sl (a.map eGView))), (1, .d (.sl (b.map eGView))), (5, .d (.int .i64 ((0 : Nat) : Int)))]) (ob' := []) (⟨.inr rfl, ⟨.inr rfl, ⟨.inr rfl, trivial⟩⟩⟩) (trivial)) H ?_ ?_ ?_
    · rintro RES1 HR1 i ⟨⟩ x HI1 HX1 H
      rw [laws_eqViewS_l1] at H
      conv => whnf
      refine LenG.intro a.length (by simp only [List.length_map]) ?_
      conv => whnf
      refine BranchG.t (decide_eq_true (by omega)) ?_
      conv => whnf
      refine IdxG.el (fun _ => rfl) rfl HX1 ?_
      conv => whnf
      refine IdxG.at (fun _ => rfl) H (fun e _ H => ?_)
      conv => whnf
      obtain ⟨t, HTt, H⟩ := bind_some H
      refine CallG.pure (by first | rfl | (simp only [argsG, argG, List.map_cons, List.map_nil, eGExpr_eq]; first | done | rfl)) (laws_eqView_ok HTt) ?_
      conv => whnf
      refine BranchG.iteBN H (fun HP H => ?_) (fun HP H => ?_)
      · obtain rfl := Option.some.inj H
        obtain rfl := Option.some.inj (HR1 : some _ = some _)
        conv => whnf
        exact ⟨(by first | rfl | (simp only [List.map_cons, List.map_nil, eGExpr_eq]; first | done | rfl)), (by first | rfl | (simp only [List.map_cons, List.map_nil, eGExpr_eq]; first | done | rfl))⟩
      · conv => whnf
        exact ⟨(), H, Cover.list (fr' := [(0, .d (.sl (a.map eGView))), (1, .d (.sl (b.map eGView))), (5, .d (.int .i64 ((i + 1 : Nat) : Int)))]) (ob' := []) (⟨.inr rfl, ⟨.inr rfl, ⟨.inr (congrArg (fun n => some (PV.d (D.int .i64 n))) (wrapUp HI1 HL1)), trivial⟩⟩⟩) (trivial)⟩
    · rintro RES1 HR1 i ⟨⟩ HI1 H
      rw [laws_eqViewS_l1] at H
      conv => whnf
      refine LenG.intro a.length (by simp only [List.length_map]) ?_
      conv => whnf
      refine BranchG.f (decide_eq_false (by omega)) ?_
      conv => whnf
      exact ⟨(), (Option.some.inj H).symm, Cover.list (fr' := []) (ob' := []) (trivial) (trivial)⟩
    · rintro ⟨⟩ H
      obtain rfl := Option.some.inj H
      conv => whnf
      exact ⟨(by first | rfl | (simp only [List.map_cons, List.map_nil, eGExpr_eq]; first | done | rfl)), (by first | rfl | (simp only [List.map_cons, List.map_nil, eGExpr_eq]; first | done | rfl))⟩

def laws_eqPlan (k : Nat) (a : GPlan) (b : GPlan) : Option Bool :=
  (laws_eqLabelsS a.Enums b.Enums).bind fun t => if t = true then ((laws_eqSeqS a.Seqs b.Seqs).bind fun t1 => if t1 = true then ((laws_eqTableS k a.Tables b.Tables).bind fun t2 => if t2 = true then ((laws_eqIndexS a.Indexes b.Indexes).bind fun t3 => if t3 = true then ((laws_eqViewS k a.Views b.Views).bind fun t4 => if t4 = true then (if a.Next = b.Next then (some true) else (some false)) else (some false)) else (some false)) else (some false)) else (some false)) else (some false)

theorem laws_eqPlan_ok {k : Nat} {a : GPlan} {b : GPlan} {r : Bool} (H : laws_eqPlan k a b = some r) : FnG Go.Proofs.Try.prog 44 [.agg (eGPlan a), .agg (eGPlan b)] [] (.d (.bool r)) [] := by
  unfold laws_eqPlan at H
  refine FnG.intro (T := T) (fn := Go.Proofs.Try.f44) (c := (Go.Proofs.Try.f44).body.getD .skip) [.d (.bool r)] (by kernel_rfl) (by kernel_rfl) (by kernel_rfl) hfol hT (by kernel_rfl) rfl rfl rfl rfl rfl ?_
  intro N ok out pl0 W0
  refine PW_top ?_
  conv => whnf
  obtain ⟨t, HTt, H⟩ := bind_some H
  refine CallG.pure (by first | rfl | (simp only [argsG, argG, List.map_cons, List.map_nil, eGExpr_eq]; first | done | rfl)) (laws_eqLabelsS_ok HTt) ?_
  conv => whnf
  refine BranchG.iteBN H (fun HP H => ?_) (fun HP H => ?_)
  · obtain rfl := Option.some.inj H
    conv => whnf
    exact ⟨(by first | rfl | (simp only [List.map_cons, List.map_nil, eGExpr_eq]; first | done | rfl)), (by first | rfl | (simp only [List.map_cons, List.map_nil, eGExpr_eq]; first | done | rfl))⟩
  · conv => whnf
    obtain ⟨t1, HTt1, H⟩ := bind_some H
    refine CallG.pure (by first | rfl | (simp only [argsG, argG, List.map_cons, List.map_nil, eGExpr_eq]; first | done | rfl)) (laws_eqSeqS_ok HTt1) ?_
    conv => whnf
    refine BranchG.iteBN H (fun HP H => ?_) (fun HP H => ?_)
    · obtain rfl := Option.some.inj H
      conv => whnf
      exact ⟨(by first | rfl | (simp only [List.map_cons, List.map_nil, eGExpr_eq]; first | done | rfl)), (by first | rfl | (simp only [List.map_cons, List.map_nil, eGExpr_eq]; first | done | rfl))⟩
    · conv => whnf
      obtain ⟨t2, HTt2, H⟩ := bind_some H
      refine CallG.pure (by first | rfl | (simp only [argsG, argG, List.map_cons, List.map_nil, eGExpr_eq]; first | done | rfl)) (laws_eqTableS_ok HTt2) ?_
      conv => whnf
      refine BranchG.iteBN H (fun HP H => ?_) (fun HP H => ?_)
      · obtain rfl := Option.some.inj H
        conv => whnf
        exact ⟨(by first | rfl | (simp only [List.map_cons, List.map_nil, eGExpr_eq]; first | done | rfl)), (by first | rfl | (simp only [List.map_cons, List.map_nil, eGExpr_eq]; first | done | rfl))⟩
      · conv => whnf
        obtain ⟨t3, HTt3, H⟩ := bind_some H
        refine CallG.pure (by first | rfl | (simp only [argsG, argG, List.map_cons, List.map_nil, eGExpr_eq]; first | done | rfl)) (laws_eqIndexS_ok HTt3) ?_
        conv => whnf
        refine BranchG.iteBN H (fun HP H => ?_) (fun HP H => ?_)
        · obtain rfl := Option.some.inj H
          conv => whnf
          exact ⟨(by first | rfl | (simp only [List.map_cons, List.map_nil, eGExpr_eq]; first | done | rfl)), (by first | rfl | (simp only [List.map_cons, List.map_nil, eGExpr_eq]; first | done | rfl))⟩
        · conv => whnf
          obtain ⟨t4, HTt4, H⟩ := bind_some H
          refine CallG.pure (by first | rfl | (simp only [argsG, argG, List.map_cons, List.map_nil, eGExpr_eq]; first | done | rfl)) (laws_eqViewS_ok HTt4) ?_
          conv => whnf
          refine BranchG.iteBN H (fun HP H => ?_) (fun HP H => ?_)
          · obtain rfl := Option.some.inj H
            conv => whnf
            exact ⟨(by first | rfl | (simp only [List.map_cons, List.map_nil, eGExpr_eq]; first | done | rfl)), (by first | rfl | (simp only [List.map_cons, List.map_nil, eGExpr_eq]; first | done | rfl))⟩
          · conv => whnf
            refine BranchG.iteN H (fun HP H => ?_) (fun HP H => ?_)
            · obtain rfl := Option.some.inj H
              conv => whnf
              exact ⟨(by first | rfl | (simp only [List.map_cons, List.map_nil, eGExpr_eq]; first | done | rfl)), (by first | rfl | (simp only [List.map_cons, List.map_nil, eGExpr_eq]; first | done | rfl))⟩
            · obtain rfl := Option.some.inj H
              conv => whnf
              exact ⟨(by first | rfl | (simp only [List.map_cons, List.map_nil, eGExpr_eq]; first | done | rfl)), (by first | rfl | (simp only [List.map_cons, List.map_nil, eGExpr_eq]; first | done | rfl))⟩

def laws_eqValue (a : GValue) (b : GValue) : Bool :=
  if a.Kind = b.Kind then (if a.Num = b.Num then (if a.Text = b.Text then (true) else (false)) else (false)) else (false)

theorem laws_eqValue_ok (a : GValue) (b : GValue) : FnG Go.Proofs.Try.prog 161 [.agg (eGValue a), .agg (eGValue b)] [] (.d (.bool (laws_eqValue a b))) [] := by
  generalize H : laws_eqValue a b = r
  unfold laws_eqValue at H
  refine FnG.intro (T := T) (fn := Go.Proofs.Try.f161) (c := (Go.Proofs.Try.f161).body.getD .skip) [.d (.bool r)] (by kernel_rfl) (by kernel_rfl) (by kernel_rfl) hfol hT (by kernel_rfl) rfl rfl rfl rfl rfl ?_
  intro N ok out pl0 W0
  refine PW_top ?_
  conv => whnf
  refine BranchG.iteN H (fun HP H => ?_) (fun HP H => ?_)
  · subst H
    conv => whnf
    exact ⟨(by first | rfl | (simp only [List.map_cons, List.map_nil, eGExpr_eq]; first | done | rfl)), (by first | rfl | (simp only [List.map_cons, List.map_nil, eGExpr_eq]; first | done | rfl))⟩
  · conv => whnf
    refine BranchG.iteN H (fun HP H => ?_) (fun HP H => ?_)
    · subst H
      conv => whnf
      exact ⟨(by first | rfl | (simp only [List.map_cons, List.map_nil, eGExpr_eq]; first | done | rfl)), (by first | rfl | (simp only [List.map_cons, List.map_nil, eGExpr_eq]; first | done | rfl))⟩
    · conv => whnf
      refine BranchG.iteN H (fun HP H => ?_) (fun HP H => ?_)
      · subst H
        conv => whnf
        exact ⟨(by first | rfl | (simp only [List.map_cons, List.map_nil, eGExpr_eq]; first | done | rfl)), (by first | rfl | (simp only [List.map_cons, List.map_nil, eGExpr_eq]; first | done | rfl))⟩
      · subst H
        conv => whnf
        exact ⟨(by first | rfl | (simp only [List.map_cons, List.map_nil, eGExpr_eq]; first | done | rfl)), (by first | rfl | (simp only [List.map_cons, List.map_nil, eGExpr_eq]; first | done | rfl))⟩
end Go.Pv.S
