import Derived.Test.YtondofmlippbcaaVX2
set_option linter.unusedSimpArgs false
set_option linter.unusedVariables false
set_option maxRecDepth 100000
open Go Go.Pv
namespace Go.Pv.S
def laws_szTable (k : Nat) (a : GTable) (left : Int) : Option Int :=
  if (w64 (left - (a.Name.length : Int))) < 0 then (some (-1)) else ((laws_szColS k a.Cols (w64 (left - (a.Name.length : Int)))).bind fun t => if t < 0 then (some (-1)) else ((laws_szRuleS k a.Rules t).bind fun t1 => if t1 < 0 then (some (-1)) else (some t1)))

theorem laws_szTable_ok {k : Nat} {a : GTable} {left : Int} {r : Int} (H : laws_szTable k a left = some r) : FnG Go.Proofs.Try.prog 96 [.agg (eGTable a), .d (.int .i64 left)] [] (.d (.int .i64 r)) [] := by
  unfold laws_szTable at H
  refine FnG.intro (T := T) (fn := Go.Proofs.Try.f96) (c := (Go.Proofs.Try.f96).body.getD .skip) [.d (.int .i64 r)] (by kernel_rfl) (by kernel_rfl) (by kernel_rfl) hfol hT (by kernel_rfl) rfl rfl rfl rfl rfl ?_
  intro N ok out pl0 W0
  refine PW_top ?_
  conv => whnf
  refine BranchG.ite H (fun HP H => ?_) (fun HP H => ?_)
  · obtain rfl := Option.some.inj H
    conv => whnf
    exact ⟨(by first | rfl | (simp only [List.map_cons, List.map_nil, eGExpr_eq]; first | done | rfl)), (by first | rfl | (simp only [List.map_cons, List.map_nil, eGExpr_eq]; first | done | rfl))⟩
  · conv => whnf
    obtain ⟨t, HTt, H⟩ := bind_some H
    refine CallG.pure (by first | rfl | (simp only [argsG, argG, List.map_cons, List.map_nil, eGExpr_eq]; first | done | rfl)) (laws_szColS_ok HTt) ?_
    conv => whnf
    refine BranchG.ite H (fun HP H => ?_) (fun HP H => ?_)
    · obtain rfl := Option.some.inj H
      conv => whnf
      exact ⟨(by first | rfl | (simp only [List.map_cons, List.map_nil, eGExpr_eq]; first | done | rfl)), (by first | rfl | (simp only [List.map_cons, List.map_nil, eGExpr_eq]; first | done | rfl))⟩
    · conv => whnf
      obtain ⟨t1, HTt1, H⟩ := bind_some H
      refine CallG.pure (by first | rfl | (simp only [argsG, argG, List.map_cons, List.map_nil, eGExpr_eq]; first | done | rfl)) (laws_szRuleS_ok HTt1) ?_
      conv => whnf
      refine BranchG.ite H (fun HP H => ?_) (fun HP H => ?_)
      · obtain rfl := Option.some.inj H
        conv => whnf
        exact ⟨(by first | rfl | (simp only [List.map_cons, List.map_nil, eGExpr_eq]; first | done | rfl)), (by first | rfl | (simp only [List.map_cons, List.map_nil, eGExpr_eq]; first | done | rfl))⟩
      · obtain rfl := Option.some.inj H
        conv => whnf
        exact ⟨(by first | rfl | (simp only [List.map_cons, List.map_nil, eGExpr_eq]; first | done | rfl)), (by first | rfl | (simp only [List.map_cons, List.map_nil, eGExpr_eq]; first | done | rfl))⟩

def laws_szTableS_l1 (k : Nat) : List GTable → Int → Option (Sum Int Int)
  | [], left1 => some (Sum.inl left1)
  | x :: xs, left1 => (laws_szTable k x left1).bind fun t => if t < 0 then (some (Sum.inr (-1))) else (laws_szTableS_l1 k xs t)

def laws_szTableS (k : Nat) (a : (List GTable)) (left : Int) : Option Int :=
  if (w64 (left - (a.length : Int))) < 0 then (some (-1)) else ((laws_szTableS_l1 k a (w64 (left - (a.length : Int)))).bind fun t => match t with | Sum.inl left2 => some left2 | Sum.inr r => some r)

theorem laws_szTableS_ok {k : Nat} {a : (List GTable)} {left : Int} {r : Int} (H : laws_szTableS k a left = some r) : FnG Go.Proofs.Try.prog 69 [.d (.sl (a.map eGTable)), .d (.int .i64 left)] [] (.d (.int .i64 r)) [] := by
  unfold laws_szTableS at H
  refine FnG.intro (T := T) (fn := Go.Proofs.Try.f69) (c := (Go.Proofs.Try.f69).body.getD .skip) [.d (.int .i64 r)] (by kernel_rfl) (by kernel_rfl) (by kernel_rfl) hfol hT (by kernel_rfl) rfl rfl rfl rfl rfl ?_
  intro N ok out pl0 W0
  refine PW_top ?_
  conv => whnf
  refine LenG.intro a.length (by simp only [List.length_map]) ?_
  conv => whnf
  refine BranchG.ite H (fun HP H => ?_) (fun HP H => ?_)
  · obtain rfl := Option.some.inj H
    conv => whnf
    exact ⟨(by first | rfl | (simp only [List.map_cons, List.map_nil, eGExpr_eq]; first | done | rfl)), (by first | rfl | (simp only [List.map_cons, List.map_nil, eGExpr_eq]; first | done | rfl))⟩
  · conv => whnf
    refine LoopG.len 0 rfl (fun HL1 => ?_)
    rw [List.length_map] at HL1
    refine LoopG.listCut (σ := Int) (ε := Int) a (fun i SS => ([(0, .d (.sl (a.map eGTable))), (1, .d (.int .i64 SS)), (5, .d (.int .i64 (i : Int)))], [])) (fun i SS LL => laws_szTableS_l1 k LL SS) 0 (fun EE => ([(1, .d (.int .i64 EE))], [])) (fun e => Sum.inl e) (w64 (left - (a.length : Int))) (Cover.list (fr' := [(0, .d (.sl (a.map eGTable))), (1, .d (.int .i64 (w64 (left - (a.length : Int))))), (5, .d (.int .i64 ((0 : Nat) : Int)))]) (ob' := []) (⟨.inr rfl, ⟨.inr rfl, ⟨.inr rfl, trivial⟩⟩⟩) (trivial)) H ?_ ?_ ?_
    · rintro RES1 HR1 i left1 x HI1 HX1 H
      rw [laws_szTableS_l1] at H
      conv => whnf
      refine LenG.intro a.length (by simp only [List.length_map]) ?_
      conv => whnf
      refine BranchG.t (decide_eq_true (by omega)) ?_
      conv => whnf
      refine IdxG.el (fun _ => rfl) rfl HX1 ?_
      conv => whnf
      obtain ⟨t, HTt, H⟩ := bind_some H
      refine CallG.pure (by first | rfl | (simp only [argsG, argG, List.map_cons, List.map_nil, eGExpr_eq]; first | done | rfl)) (laws_szTable_ok HTt) ?_
      conv => whnf
      refine BranchG.ite H (fun HP H => ?_) (fun HP H => ?_)
      · obtain rfl := Option.some.inj H
        obtain rfl := Option.some.inj (HR1 : some _ = some _)
        conv => whnf
        exact ⟨(by first | rfl | (simp only [List.map_cons, List.map_nil, eGExpr_eq]; first | done | rfl)), (by first | rfl | (simp only [List.map_cons, List.map_nil, eGExpr_eq]; first | done | rfl))⟩
      · conv => whnf
        exact ⟨t, H, Cover.list (fr' := [(0, .d (.sl (a.map eGTable))), (1, .d (.int .i64 t)), (5, .d (.int .i64 ((i + 1 : Nat) : Int)))]) (ob' := []) (⟨.inr rfl, ⟨.inr rfl, ⟨.inr (congrArg (fun n => some (PV.d (D.int .i64 n))) (wrapUp HI1 HL1)), trivial⟩⟩⟩) (trivial)⟩
    · rintro RES1 HR1 i left1 HI1 H
      rw [laws_szTableS_l1] at H
      conv => whnf
      refine LenG.intro a.length (by simp only [List.length_map]) ?_
      conv => whnf
      refine BranchG.f (decide_eq_false (by omega)) ?_
      conv => whnf
      exact ⟨left1, (Option.some.inj H).symm, Cover.list (fr' := [(1, .d (.int .i64 left1))]) (ob' := []) (⟨.inr rfl, trivial⟩) (trivial)⟩
    · rintro left2 H
      obtain rfl := Option.some.inj H
      conv => whnf
      exact ⟨(by first | rfl | (simp only [List.map_cons, List.map_nil, eGExpr_eq]; first | done | rfl)), (by first | rfl | (simp only [List.map_cons, List.map_nil, eGExpr_eq]; first | done | rfl))⟩

def laws_szIndex (a : GIndex) (left : Int) : Option Int :=
  if (w64 (left - (a.Name.length : Int))) < 0 then (some (-1)) else (if (w64 ((w64 (left - (a.Name.length : Int))) - (a.Table.length : Int))) < 0 then (some (-1)) else ((laws_szStringS a.Cols (w64 ((w64 (left - (a.Name.length : Int))) - (a.Table.length : Int)))).bind fun t => if t < 0 then (some (-1)) else (some t)))

theorem laws_szIndex_ok {a : GIndex} {left : Int} {r : Int} (H : laws_szIndex a left = some r) : FnG Go.Proofs.Try.prog 97 [.agg (eGIndex a), .d (.int .i64 left)] [] (.d (.int .i64 r)) [] := by
  unfold laws_szIndex at H
  refine FnG.intro (T := T) (fn := Go.Proofs.Try.f97) (c := (Go.Proofs.Try.f97).body.getD .skip) [.d (.int .i64 r)] (by kernel_rfl) (by kernel_rfl) (by kernel_rfl) hfol hT (by kernel_rfl) rfl rfl rfl rfl rfl ?_
  intro N ok out pl0 W0
  refine PW_top ?_
  conv => whnf
  refine BranchG.ite H (fun HP H => ?_) (fun HP H => ?_)
  · obtain rfl := Option.some.inj H
    conv => whnf
    exact ⟨(by first | rfl | (simp only [List.map_cons, List.map_nil, eGExpr_eq]; first | done | rfl)), (by first | rfl | (simp only [List.map_cons, List.map_nil, eGExpr_eq]; first | done | rfl))⟩
  · conv => whnf
    refine BranchG.ite H (fun HP H => ?_) (fun HP H => ?_)
    · obtain rfl := Option.some.inj H
      conv => whnf
      exact ⟨(by first | rfl | (simp only [List.map_cons, List.map_nil, eGExpr_eq]; first | done | rfl)), (by first | rfl | (simp only [List.map_cons, List.map_nil, eGExpr_eq]; first | done | rfl))⟩
    · conv => whnf
      obtain ⟨t, HTt, H⟩ := bind_some H
      refine CallG.pure (by first | rfl | (simp only [argsG, argG, List.map_cons, List.map_nil, eGExpr_eq]; first | done | rfl)) (laws_szStringS_ok HTt) ?_
      conv => whnf
      refine BranchG.ite H (fun HP H => ?_) (fun HP H => ?_)
      · obtain rfl := Option.some.inj H
        conv => whnf
        exact ⟨(by first | rfl | (simp only [List.map_cons, List.map_nil, eGExpr_eq]; first | done | rfl)), (by first | rfl | (simp only [List.map_cons, List.map_nil, eGExpr_eq]; first | done | rfl))⟩
      · obtain rfl := Option.some.inj H
        conv => whnf
        exact ⟨(by first | rfl | (simp only [List.map_cons, List.map_nil, eGExpr_eq]; first | done | rfl)), (by first | rfl | (simp only [List.map_cons, List.map_nil, eGExpr_eq]; first | done | rfl))⟩

def laws_szIndexS_l1  : List GIndex → Int → Option (Sum Int Int)
  | [], left1 => some (Sum.inl left1)
  | x :: xs, left1 => (laws_szIndex x left1).bind fun t => if t < 0 then (some (Sum.inr (-1))) else (laws_szIndexS_l1 xs t)

def laws_szIndexS (a : (List GIndex)) (left : Int) : Option Int :=
  if (w64 (left - (a.length : Int))) < 0 then (some (-1)) else ((laws_szIndexS_l1 a (w64 (left - (a.length : Int)))).bind fun t => match t with | Sum.inl left2 => some left2 | Sum.inr r => some r)

theorem laws_szIndexS_ok {a : (List GIndex)} {left : Int} {r : Int} (H : laws_szIndexS a left = some r) : FnG Go.Proofs.Try.prog 70 [.d (.sl (a.map eGIndex)), .d (.int .i64 left)] [] (.d (.int .i64 r)) [] := by
  unfold laws_szIndexS at H
  refine FnG.intro (T := T) (fn := Go.Proofs.Try.f70) (c := (Go.Proofs.Try.f70).body.getD .skip) [.d (.int .i64 r)] (by kernel_rfl) (by kernel_rfl) (by kernel_rfl) hfol hT (by kernel_rfl) rfl rfl rfl rfl rfl ?_
  intro N ok out pl0 W0
  refine PW_top ?_
  conv => whnf
  refine LenG.intro a.length (by simp only [List.length_map]) ?_
  conv => whnf
  refine BranchG.ite H (fun HP H => ?_) (fun HP H => ?_)
  · obtain rfl := Option.some.inj H
    conv => whnf
    exact ⟨(by first | rfl | (simp only [List.map_cons, List.map_nil, eGExpr_eq]; first | done | rfl)), (by first | rfl | (simp only [List.map_cons, List.map_nil, eGExpr_eq]; first | done | rfl))⟩
  · conv => whnf
    refine LoopG.len 0 rfl (fun HL1 => ?_)
    rw [List.length_map] at HL1
    refine LoopG.listCut (σ := Int) (ε := Int) a (fun i SS => ([(0, .d (.sl (a.map eGIndex))), (1, .d (.int .i64 SS)), (5, .d (.int .i64 (i : Int)))], [])) (fun i SS LL => laws_szIndexS_l1 LL SS) 0 (fun EE => ([(1, .d (.int .i64 EE))], [])) (fun e => Sum.inl e) (w64 (left - (a.length : Int))) (Cover.list (fr' := [(0, .d (.sl (a.map eGIndex))), (1, .d (.int .i64 (w64 (left - (a.length : Int))))), (5, .d (.int .i64 ((0 : Nat) : Int)))]) (ob' := []) (⟨.inr rfl, ⟨.inr rfl, ⟨.inr rfl, trivial⟩⟩⟩) (trivial)) H ?_ ?_ ?_
    · rintro RES1 HR1 i left1 x HI1 HX1 H
      rw [laws_szIndexS_l1] at H
      conv => whnf
      refine LenG.intro a.length (by simp only [List.length_map]) ?_
      conv => whnf
      refine BranchG.t (decide_eq_true (by omega)) ?_
      conv => whnf
      refine IdxG.el (fun _ => rfl) rfl HX1 ?_
      conv => whnf
      obtain ⟨t, HTt, H⟩ := bind_some H
      refine CallG.pure (by first | rfl | (simp only [argsG, argG, List.map_cons, List.map_nil, eGExpr_eq]; first | done | rfl)) (laws_szIndex_ok HTt) ?_
      conv => whnf
      refine BranchG.ite H (fun HP H => ?_) (fun HP H => ?_)
      · obtain rfl := Option.some.inj H
        obtain rfl := Option.some.inj (HR1 : some _ = some _)
        conv => whnf
        exact ⟨(by first | rfl | (simp only [List.map_cons, List.map_nil, eGExpr_eq]; first | done | rfl)), (by first | rfl | (simp only [List.map_cons, List.map_nil, eGExpr_eq]; first | done | rfl))⟩
      · conv => whnf
        exact ⟨t, H, Cover.list (fr' := [(0, .d (.sl (a.map eGIndex))), (1, .d (.int .i64 t)), (5, .d (.int .i64 ((i + 1 : Nat) : Int)))]) (ob' := []) (⟨.inr rfl, ⟨.inr rfl, ⟨.inr (congrArg (fun n => some (PV.d (D.int .i64 n))) (wrapUp HI1 HL1)), trivial⟩⟩⟩) (trivial)⟩
    · rintro RES1 HR1 i left1 HI1 H
      rw [laws_szIndexS_l1] at H
      conv => whnf
      refine LenG.intro a.length (by simp only [List.length_map]) ?_
      conv => whnf
      refine BranchG.f (decide_eq_false (by omega)) ?_
      conv => whnf
      exact ⟨left1, (Option.some.inj H).symm, Cover.list (fr' := [(1, .d (.int .i64 left1))]) (ob' := []) (⟨.inr rfl, trivial⟩) (trivial)⟩
    · rintro left2 H
      obtain rfl := Option.some.inj H
      conv => whnf
      exact ⟨(by first | rfl | (simp only [List.map_cons, List.map_nil, eGExpr_eq]; first | done | rfl)), (by first | rfl | (simp only [List.map_cons, List.map_nil, eGExpr_eq]; first | done | rfl))⟩
end Go.Pv.S
