import Derived.Test.YtondofmlippbcaaVX13
set_option linter.unusedSimpArgs false
set_option linter.unusedVariables false
set_option maxRecDepth 100000
open Go Go.Pv
namespace Go.Pv.S
def laws_eqTable (k : Nat) (a : GTable) (b : GTable) : Option Bool :=
  if a.Name = b.Name then ((laws_eqColS k a.Cols b.Cols).bind fun t => if t = true then ((laws_eqRuleS k a.Rules b.Rules).bind fun t1 => if t1 = true then (if a.Token = b.Token then (some true) else (some false)) else (some false)) else (some false)) else (some false)

theorem laws_eqTable_ok {k : Nat} {a : GTable} {b : GTable} {r : Bool} (H : laws_eqTable k a b = some r) : FnG Go.Proofs.Try.prog 106 [.agg (eGTable a), .agg (eGTable b)] [] (.d (.bool r)) [] := by
  unfold laws_eqTable at H
  refine FnG.intro (T := T) (fn := Go.Proofs.Try.f106) (c := (Go.Proofs.Try.f106).body.getD .skip) [.d (.bool r)] (by kernel_rfl) (by kernel_rfl) (by kernel_rfl) hfol hT (by kernel_rfl) rfl rfl rfl rfl rfl ?_
  intro N ok out pl0 W0
  refine PW_top ?_
  conv => whnf
  refine BranchG.iteN H (fun HP H => ?_) (fun HP H => ?_)
  · obtain rfl := Option.some.inj H
    conv => whnf
    exact ⟨(by first | rfl | (simp only [List.map_cons, List.map_nil, eGExpr_eq]; first | done | rfl)), (by first | rfl | (simp only [List.map_cons, List.map_nil, eGExpr_eq]; first | done | rfl))⟩
  · conv => whnf
    obtain ⟨t, HTt, H⟩ := bind_some H
    refine CallG.pure (by first | rfl | (simp only [argsG, argG, List.map_cons, List.map_nil, eGExpr_eq]; first | done | rfl)) (laws_eqColS_ok HTt) ?_
    conv => whnf
    refine BranchG.iteBN H (fun HP H => ?_) (fun HP H => ?_)
    · obtain rfl := Option.some.inj H
      conv => whnf
      exact ⟨(by first | rfl | (simp only [List.map_cons, List.map_nil, eGExpr_eq]; first | done | rfl)), (by first | rfl | (simp only [List.map_cons, List.map_nil, eGExpr_eq]; first | done | rfl))⟩
    · conv => whnf
      obtain ⟨t1, HTt1, H⟩ := bind_some H
      refine CallG.pure (by first | rfl | (simp only [argsG, argG, List.map_cons, List.map_nil, eGExpr_eq]; first | done | rfl)) (laws_eqRuleS_ok HTt1) ?_
      conv => whnf
      refine BranchG.iteBN H (fun HP H => ?_) (fun HP H => ?_)
      · obtain rfl := Option.some.inj H
        conv => whnf
        exact ⟨(by first | rfl | (simp only [List.map_cons, List.map_nil, eGExpr_eq]; first | done | rfl)), (by first | rfl | (simp only [List.map_cons, List.map_nil, eGExpr_eq]; first | done | rfl))⟩
      · conv => whnf
        refine BranchG.iteN H (fun HP H => ?_) (fun HP H => ?_)
        · obtain rfl := Option.some.inj H
          conv => whnf
          exact ⟨(by first | rfl | (simp only [List.map_cons, List.map_nil, eGExpr_eq]; first | done | rfl)), (by first | rfl | (simp only [List.map_cons, List.map_nil, eGExpr_eq]; first | done | rfl))⟩
        · obtain rfl := Option.some.inj H
          conv => whnf
          exact ⟨(by first | rfl | (simp only [List.map_cons, List.map_nil, eGExpr_eq]; first | done | rfl)), (by first | rfl | (simp only [List.map_cons, List.map_nil, eGExpr_eq]; first | done | rfl))⟩

def laws_eqTableS_l1 (k : Nat) (b : (List GTable)) : List GTable → Nat → Option (Sum Unit Bool)
  | [], i => some (Sum.inl ())
  | x :: xs, i => (at? b (i : Int)).bind fun e => (laws_eqTable k x e).bind fun t => if t = true then (laws_eqTableS_l1 k b xs (i + 1) ) else (some (Sum.inr false))

def laws_eqTableS (k : Nat) (a : (List GTable)) (b : (List GTable)) : Option Bool :=
  if (a.length : Int) = (b.length : Int) then ((laws_eqTableS_l1 k b a 0).bind fun t => match t with | Sum.inl _ => some true | Sum.inr r => some r) else (some false)

theorem laws_eqTableS_ok {k : Nat} {a : (List GTable)} {b : (List GTable)} {r : Bool} (H : laws_eqTableS k a b = some r) : FnG Go.Proofs.Try.prog 79 [.d (.sl (a.map eGTable)), .d (.sl (b.map eGTable))] [] (.d (.bool r)) [] := by
  unfold laws_eqTableS at H
  refine FnG.intro (T := T) (fn := Go.Proofs.Try.f79) (c := (Go.Proofs.Try.f79).body.getD .skip) [.d (.bool r)] (by kernel_rfl) (by kernel_rfl) (by kernel_rfl) hfol hT (by kernel_rfl) rfl rfl rfl rfl rfl ?_
  intro N ok out pl0 W0
  refine PW_top ?_
  conv => whnf
  refine LenG.intro a.length (by simp only [List.length_map]) ?_
  conv => whnf
  refine LenG.intro b.length (by simp only [List.length_map]) ?_
  conv => whnf
  refine BranchG.iteN H (fun HP H => ?_) (fun HP H => ?_)
  · obtain rfl := Option.some.inj H
    conv => whnf
    exact ⟨(by first | rfl | (simp only [List.map_cons, List.map_nil, eGExpr_eq]; first | done | rfl)), (by first | rfl | (simp only [List.map_cons, List.map_nil, eGExpr_eq]; first | done | rfl))⟩
  · conv => whnf
    refine LoopG.len 0 rfl (fun HL1 => ?_)
    rw [List.length_map] at HL1
    refine LoopG.listCut (σ := Unit) (ε := Unit) a (fun i SS => ([(0, .d (.sl (a.map eGTable))), (1, .d (.sl (b.map eGTable))), (5, .d (.int .i64 (i : Int)))], [])) (fun i SS LL => laws_eqTableS_l1 k b LL i) 0 (fun EE => ([], [])) (fun e => Sum.inl e) () (Cover.list (fr' := [(0, .d (.sl (a.map eGTable))), (1, .d (.sl (b.map eGTable))), (5, .d (.int .i64 ((0 : Nat) : Int)))]) (ob' := []) (⟨.inr rfl, ⟨.inr rfl, ⟨.inr rfl, trivial⟩⟩⟩) (trivial)) H ?_ ?_ ?_
    · rintro RES1 HR1 i ⟨⟩ x HI1 HX1 H
      rw [laws_eqTableS_l1] at H
      conv => whnf
      refine LenG.intro a.length (by simp only [List.length_map]) ?_
      conv => whnf
      refine BranchG.t (decide_eq_true (by omega)) ?_
      conv => whnf
      refine IdxG.el (fun _ => rfl) rfl HX1 ?_
      conv => whnf
      refine IdxG.at (fun _ => rfl) H (fun e _ H => ?_)
      conv => whnf
      obtain ⟨t, HTt, H⟩ := bind_some H
      refine CallG.pure (by first | rfl | (simp only [argsG, argG, List.map_cons, List.map_nil, eGExpr_eq]; first | done | rfl)) (laws_eqTable_ok HTt) ?_
      conv => whnf
      refine BranchG.iteBN H (fun HP H => ?_) (fun HP H => ?_)
      · obtain rfl := Option.some.inj H
        obtain rfl := Option.some.inj (HR1 : some _ = some _)
        conv => whnf
        exact ⟨(by first | rfl | (simp only [List.map_cons, List.map_nil, eGExpr_eq]; first | done | rfl)), (by first | rfl | (simp only [List.map_cons, List.map_nil, eGExpr_eq]; first | done | rfl))⟩
      · conv => whnf
        exact ⟨(), H, Cover.list (fr' := [(0, .d (.sl (a.map eGTable))), (1, .d (.sl (b.map eGTable))), (5, .d (.int .i64 ((i + 1 : Nat) : Int)))]) (ob' := []) (⟨.inr rfl, ⟨.inr rfl, ⟨.inr (congrArg (fun n => some (PV.d (D.int .i64 n))) (wrapUp HI1 HL1)), trivial⟩⟩⟩) (trivial)⟩
    · rintro RES1 HR1 i ⟨⟩ HI1 H
      rw [laws_eqTableS_l1] at H
      conv => whnf
      refine LenG.intro a.length (by simp only [List.length_map]) ?_
      conv => whnf
      refine BranchG.f (decide_eq_false (by omega)) ?_
      conv => whnf
      exact ⟨(), (Option.some.inj H).symm, Cover.list (fr' := []) (ob' := []) (trivial) (trivial)⟩
    · rintro ⟨⟩ H
      obtain rfl := Option.some.inj H
      conv => whnf
      exact ⟨(by first | rfl | (simp only [List.map_cons, List.map_nil, eGExpr_eq]; first | done | rfl)), (by first | rfl | (simp only [List.map_cons, List.map_nil, eGExpr_eq]; first | done | rfl))⟩

def laws_eqIndex (a : GIndex) (b : GIndex) : Option Bool :=
  if a.Name = b.Name then (if a.Table = b.Table then ((laws_eqStringS a.Cols b.Cols).bind fun t => if t = true then (if (a.Unique == b.Unique) = true then (some true) else (some false)) else (some false)) else (some false)) else (some false)

theorem laws_eqIndex_ok {a : GIndex} {b : GIndex} {r : Bool} (H : laws_eqIndex a b = some r) : FnG Go.Proofs.Try.prog 107 [.agg (eGIndex a), .agg (eGIndex b)] [] (.d (.bool r)) [] := by
  unfold laws_eqIndex at H
  refine FnG.intro (T := T) (fn := Go.Proofs.Try.f107) (c := (Go.Proofs.Try.f107).body.getD .skip) [.d (.bool r)] (by kernel_rfl) (by kernel_rfl) (by kernel_rfl) hfol hT (by kernel_rfl) rfl rfl rfl rfl rfl ?_
  intro N ok out pl0 W0
  refine PW_top ?_
  conv => whnf
  refine BranchG.iteN H (fun HP H => ?_) (fun HP H => ?_)
  · obtain rfl := Option.some.inj H
    conv => whnf
    exact ⟨(by first | rfl | (simp only [List.map_cons, List.map_nil, eGExpr_eq]; first | done | rfl)), (by first | rfl | (simp only [List.map_cons, List.map_nil, eGExpr_eq]; first | done | rfl))⟩
  · conv => whnf
    refine BranchG.iteN H (fun HP H => ?_) (fun HP H => ?_)
    · obtain rfl := Option.some.inj H
      conv => whnf
      exact ⟨(by first | rfl | (simp only [List.map_cons, List.map_nil, eGExpr_eq]; first | done | rfl)), (by first | rfl | (simp only [List.map_cons, List.map_nil, eGExpr_eq]; first | done | rfl))⟩
    · conv => whnf
      obtain ⟨t, HTt, H⟩ := bind_some H
      refine CallG.pure (by first | rfl | (simp only [argsG, argG, List.map_cons, List.map_nil, eGExpr_eq]; first | done | rfl)) (laws_eqStringS_ok HTt) ?_
      conv => whnf
      refine BranchG.iteBN H (fun HP H => ?_) (fun HP H => ?_)
      · obtain rfl := Option.some.inj H
        conv => whnf
        exact ⟨(by first | rfl | (simp only [List.map_cons, List.map_nil, eGExpr_eq]; first | done | rfl)), (by first | rfl | (simp only [List.map_cons, List.map_nil, eGExpr_eq]; first | done | rfl))⟩
      · conv => whnf
        refine BranchG.iteBN H (fun HP H => ?_) (fun HP H => ?_)
        · obtain rfl := Option.some.inj H
          conv => whnf
          exact ⟨(by first | rfl | (simp only [List.map_cons, List.map_nil, eGExpr_eq]; first | done | rfl)), (by first | rfl | (simp only [List.map_cons, List.map_nil, eGExpr_eq]; first | done | rfl))⟩
        · obtain rfl := Option.some.inj H
          conv => whnf
          exact ⟨(by first | rfl | (simp only [List.map_cons, List.map_nil, eGExpr_eq]; first | done | rfl)), (by first | rfl | (simp only [List.map_cons, List.map_nil, eGExpr_eq]; first | done | rfl))⟩

def laws_eqIndexS_l1 (b : (List GIndex)) : List GIndex → Nat → Option (Sum Unit Bool)
  | [], i => some (Sum.inl ())
  | x :: xs, i => (at? b (i : Int)).bind fun e => (laws_eqIndex x e).bind fun t => if t = true then (laws_eqIndexS_l1 b xs (i + 1) ) else (some (Sum.inr false))

def laws_eqIndexS (a : (List GIndex)) (b : (List GIndex)) : Option Bool :=
  if (a.length : Int) = (b.length : Int) then ((laws_eqIndexS_l1 b a 0).bind fun t => match t with | Sum.inl _ => some true | Sum.inr r => some r) else (some false)

theorem laws_eqIndexS_ok {a : (List GIndex)} {b : (List GIndex)} {r : Bool} (H : laws_eqIndexS a b = some r) : FnG Go.Proofs.Try.prog 80 [.d (.sl (a.map eGIndex)), .d (.sl (b.map eGIndex))] [] (.d (.bool r)) [] := by
  unfold laws_eqIndexS at H
  refine FnG.intro (T := T) (fn := Go.Proofs.Try.f80) (c := (Go.Proofs.Try.f80).body.getD .skip) [.d (.bool r)] (by kernel_rfl) (by kernel_rfl) (by kernel_rfl) hfol hT (by kernel_rfl) rfl rfl rfl rfl rfl ?_
  intro N ok out pl0 W0
  refine PW_top ?_
  conv => whnf
  refine LenG.intro a.length (by simp only [List.length_map]) ?_
  conv => whnf
  refine LenG.intro b.length (by simp only [List.length_map]) ?_
  conv => whnf
  refine BranchG.iteN H (fun HP H => ?_) (fun HP H => ?_)
  · obtain rfl := Option.some.inj H
    conv => whnf
    exact ⟨(by first | rfl | (simp only [List.map_cons, List.map_nil, eGExpr_eq]; first | done | rfl)), (by first | rfl | (simp only [List.map_cons, List.map_nil, eGExpr_eq]; first | done | rfl))⟩
  · conv => whnf
    refine LoopG.len 0 rfl (fun HL1 => ?_)
    rw [List.length_map] at HL1
    refine LoopG.listCut (σ := Unit) (ε := Unit) a (fun i SS => ([(0, .d (.sl (a.map eGIndex))), (1, .d (.sl (b.map eGIndex))), (5, .d (.int .i64 (i : Int)))], [])) (fun i SS LL => laws_eqIndexS_l1 b LL i) 0 (fun EE => ([], [])) (fun e => Sum.inl e) () (Cover.list (fr' := [(0, .d (.sl (a.map eGIndex))), (1, .d (.sl (b.map eGIndex))), (5, .d (.int .i64 ((0 : Nat) : Int)))]) (ob' := []) (⟨.inr rfl, ⟨.inr rfl, ⟨.inr rfl, trivial⟩⟩⟩) (trivial)) H ?_ ?_ ?_
    · rintro RES1 HR1 i ⟨⟩ x HI1 HX1 H
      rw [laws_eqIndexS_l1] at H
      conv => whnf
      refine LenG.intro a.length (by simp only [List.length_map]) ?_
      conv => whnf
      refine BranchG.t (decide_eq_true (by omega)) ?_
      conv => whnf
      refine IdxG.el (fun _ => rfl) rfl HX1 ?_
      conv => whnf
      refine IdxG.at (fun _ => rfl) H (fun e _ H => ?_)
      conv => whnf
      obtain ⟨t, HTt, H⟩ := bind_some H
      refine CallG.pure (by first | rfl | (simp only [argsG, argG, List.map_cons, List.map_nil, eGExpr_eq]; first | done | rfl)) (laws_eqIndex_ok HTt) ?_
      conv => whnf
      refine BranchG.iteBN H (fun HP H => ?_) (fun HP H => ?_)
      · obtain rfl := Option.some.inj H
        obtain rfl := Option.some.inj (HR1 : some _ = some _)
        conv => whnf
        exact ⟨(by first | rfl | (simp only [List.map_cons, List.map_nil, eGExpr_eq]; first | done | rfl)), (by first | rfl | (simp only [List.map_cons, List.map_nil, eGExpr_eq]; first | done | rfl))⟩
      · conv => whnf
        exact ⟨(), H, Cover.list (fr' := [(0, .d (.sl (a.map eGIndex))), (1, .d (.sl (b.map eGIndex))), (5, .d (.int .i64 ((i + 1 : Nat) : Int)))]) (ob' := []) (⟨.inr rfl, ⟨.inr rfl, ⟨.inr (congrArg (fun n => some (PV.d (D.int .i64 n))) (wrapUp HI1 HL1)), trivial⟩⟩⟩) (trivial)⟩
    · rintro RES1 HR1 i ⟨⟩ HI1 H
      rw [laws_eqIndexS_l1] at H
      conv => whnf
      refine LenG.intro a.length (by simp only [List.length_map]) ?_
      conv => whnf
      refine BranchG.f (decide_eq_false (by omega)) ?_
      conv => whnf
      exact ⟨(), (Option.some.inj H).symm, Cover.list (fr' := []) (ob' := []) (trivial) (trivial)⟩
    · rintro ⟨⟩ H
      obtain rfl := Option.some.inj H
      conv => whnf
      exact ⟨(by first | rfl | (simp only [List.map_cons, List.map_nil, eGExpr_eq]; first | done | rfl)), (by first | rfl | (simp only [List.map_cons, List.map_nil, eGExpr_eq]; first | done | rfl))⟩
end Go.Pv.S
