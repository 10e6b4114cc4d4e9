import Derived.Test.YtondofmlippbcaaVX16
set_option linter.unusedSimpArgs false
set_option linter.unusedVariables false
set_option maxRecDepth 100000
open Go Go.Pv
namespace Go.Pv.S
def laws_eqStore (k : Nat) (a : GStore) (b : GStore) : Option Bool :=
  (laws_eqPlan k a.Plan b.Plan).bind fun t => if t = true then ((laws_eqRowsS a.Data b.Data).bind fun t1 => if t1 = true then (some true) else (some false)) else (some false)

theorem laws_eqStore_ok {k : Nat} {a : GStore} {b : GStore} {r : Bool} (H : laws_eqStore k a b = some r) : FnG Go.Proofs.Try.prog 22 [.agg (eGStore a), .agg (eGStore b)] [] (.d (.bool r)) [] := by
  unfold laws_eqStore at H
  refine FnG.intro (T := T) (fn := Go.Proofs.Try.f22) (c := (Go.Proofs.Try.f22).body.getD .skip) [.d (.bool r)] (by kernel_rfl) (by kernel_rfl) (by kernel_rfl) hfol hT (by kernel_rfl) rfl rfl rfl rfl rfl ?_
  intro N ok out pl0 W0
  refine PW_top ?_
  conv => whnf
  obtain ⟨t, HTt, H⟩ := bind_some H
  refine CallG.pure (by first | rfl | (simp only [argsG, argG, List.map_cons, List.map_nil, eGExpr_eq]; first | done | rfl)) (laws_eqPlan_ok HTt) ?_
  conv => whnf
  refine BranchG.iteBN H (fun HP H => ?_) (fun HP H => ?_)
  · obtain rfl := Option.some.inj H
    conv => whnf
    exact ⟨(by first | rfl | (simp only [List.map_cons, List.map_nil, eGExpr_eq]; first | done | rfl)), (by first | rfl | (simp only [List.map_cons, List.map_nil, eGExpr_eq]; first | done | rfl))⟩
  · conv => whnf
    obtain ⟨t1, HTt1, H⟩ := bind_some H
    refine CallG.pure (by first | rfl | (simp only [argsG, argG, List.map_cons, List.map_nil, eGExpr_eq]; first | done | rfl)) (laws_eqRowsS_ok HTt1) ?_
    conv => whnf
    refine BranchG.iteBN H (fun HP H => ?_) (fun HP H => ?_)
    · obtain rfl := Option.some.inj H
      conv => whnf
      exact ⟨(by first | rfl | (simp only [List.map_cons, List.map_nil, eGExpr_eq]; first | done | rfl)), (by first | rfl | (simp only [List.map_cons, List.map_nil, eGExpr_eq]; first | done | rfl))⟩
    · obtain rfl := Option.some.inj H
      conv => whnf
      exact ⟨(by first | rfl | (simp only [List.map_cons, List.map_nil, eGExpr_eq]; first | done | rfl)), (by first | rfl | (simp only [List.map_cons, List.map_nil, eGExpr_eq]; first | done | rfl))⟩

def laws_FnExactCount (k : Nat) (aS : GStore) : Option Bool :=
  (laws_szStore k aS 1048576).bind fun t => if t < 0 then (some true) else ((laws_toStore k aS).bind fun t1 => (spec_Count t1).bind fun t2 => (laws_toStore k aS).bind fun t3 => (impl_Count t3).bind fun t4 => if t4 = t2 then ((laws_toStore k aS).bind fun t5 => (laws_eqStore k t3 t5).bind fun t6 => if t6 = true then (some true) else (some false)) else (some false))

theorem laws_FnExactCount_ok {k : Nat} {aS : GStore} {r : Bool} (H : laws_FnExactCount k aS = some r) : FnG Go.Proofs.Try.prog 5 [.agg (eGStore aS)] [] (.d (.bool r)) [] := by
  unfold laws_FnExactCount at H
  refine FnG.intro (T := T) (fn := Go.Proofs.Try.f5) (c := (Go.Proofs.Try.f5).body.getD .skip) [.d (.bool r)] (by kernel_rfl) (by kernel_rfl) (by kernel_rfl) hfol hT (by kernel_rfl) rfl rfl rfl rfl rfl ?_
  intro N ok out pl0 W0
  refine PW_top ?_
  conv => whnf
  obtain ⟨t, HTt, H⟩ := bind_some H
  refine CallG.pure (by first | rfl | (simp only [argsG, argG, List.map_cons, List.map_nil, eGExpr_eq]; first | done | rfl)) (laws_szStore_ok HTt) ?_
  conv => whnf
  refine BranchG.ite H (fun HP H => ?_) (fun HP H => ?_)
  · obtain rfl := Option.some.inj H
    conv => whnf
    exact ⟨(by first | rfl | (simp only [List.map_cons, List.map_nil, eGExpr_eq]; first | done | rfl)), (by first | rfl | (simp only [List.map_cons, List.map_nil, eGExpr_eq]; first | done | rfl))⟩
  · conv => whnf
    obtain ⟨t1, HTt1, H⟩ := bind_some H
    refine CallG.pure (by first | rfl | (simp only [argsG, argG, List.map_cons, List.map_nil, eGExpr_eq]; first | done | rfl)) (laws_toStore_ok HTt1) ?_
    conv => whnf
    obtain ⟨t2, HTt2, H⟩ := bind_some H
    refine CallG.pure (by first | rfl | (simp only [argsG, argG, List.map_cons, List.map_nil, eGExpr_eq]; first | done | rfl)) (spec_Count_ok HTt2) ?_
    conv => whnf
    obtain ⟨t3, HTt3, H⟩ := bind_some H
    refine CallG.pure (by first | rfl | (simp only [argsG, argG, List.map_cons, List.map_nil, eGExpr_eq]; first | done | rfl)) (laws_toStore_ok HTt3) ?_
    conv => whnf
    obtain ⟨t4, HTt4, H⟩ := bind_some H
    refine CallG.pure (by first | rfl | (simp only [argsG, argG, List.map_cons, List.map_nil, eGExpr_eq]; first | done | rfl)) (impl_Count_ok HTt4) ?_
    conv => whnf
    refine BranchG.iteN H (fun HP H => ?_) (fun HP H => ?_)
    · obtain rfl := Option.some.inj H
      conv => whnf
      exact ⟨(by first | rfl | (simp only [List.map_cons, List.map_nil, eGExpr_eq]; first | done | rfl)), (by first | rfl | (simp only [List.map_cons, List.map_nil, eGExpr_eq]; first | done | rfl))⟩
    · conv => whnf
      obtain ⟨t5, HTt5, H⟩ := bind_some H
      refine CallG.pure (by first | rfl | (simp only [argsG, argG, List.map_cons, List.map_nil, eGExpr_eq]; first | done | rfl)) (laws_toStore_ok HTt5) ?_
      conv => whnf
      obtain ⟨t6, HTt6, H⟩ := bind_some H
      refine CallG.pure (by first | rfl | (simp only [argsG, argG, List.map_cons, List.map_nil, eGExpr_eq]; first | done | rfl)) (laws_eqStore_ok HTt6) ?_
      conv => whnf
      refine BranchG.iteBN H (fun HP H => ?_) (fun HP H => ?_)
      · obtain rfl := Option.some.inj H
        conv => whnf
        exact ⟨(by first | rfl | (simp only [List.map_cons, List.map_nil, eGExpr_eq]; first | done | rfl)), (by first | rfl | (simp only [List.map_cons, List.map_nil, eGExpr_eq]; first | done | rfl))⟩
      · obtain rfl := Option.some.inj H
        conv => whnf
        exact ⟨(by first | rfl | (simp only [List.map_cons, List.map_nil, eGExpr_eq]; first | done | rfl)), (by first | rfl | (simp only [List.map_cons, List.map_nil, eGExpr_eq]; first | done | rfl))⟩
end Go.Pv.S
