import Derived.Test.YtondofmlippbcaaWY0
set_option linter.unusedSimpArgs false
set_option linter.unusedVariables false
set_option maxRecDepth 100000
set_option maxHeartbeats 2000000
open Go Go.Pv
namespace Go.Pv.S
theorem impl_isExpr_ring : ∀ (k : Nat), (∀ {e : GExpr} {left : Int} {r : (Bool × Int)}, impl_isExpr k e left = some r → FnG Go.Proofs.Try.prog 59 [.agg (eGExpr1 e), .ptr 1000001 0] [(1000001, .box [.d (.int .i64 left)])] (.d (.bool r.1)) [(1000001, .box [.d (.int .i64 r.2)])]) ∧ (∀ {s : (List GExpr)} {c : Int} {r : (Bool × Int)}, slices_ContainsFunc_impl_Expr_impl_Expr_isExpr_1 k s c = some r → FnG Go.Proofs.Try.prog 87 [.d (.sl (s.map eGExpr)), .fn 88 [] [1002000]] [(1002000, .box [.ptr 1002500 0]), (1002500, .box [.d (.int .i64 c)])] (.d (.bool r.1)) [(1002000, .box [.ptr 1002500 0]), (1002500, .box [.d (.int .i64 r.2)])]) ∧ (∀ {s : (List GExpr)} {c : Int} {r : (Int × Int)}, slices_IndexFunc_impl_Expr_impl_Expr_isExpr_1 k s c = some r → FnG Go.Proofs.Try.prog 111 [.d (.sl (s.map eGExpr)), .fn 88 [] [1002000]] [(1002000, .box [.ptr 1002500 0]), (1002500, .box [.d (.int .i64 c)])] (.d (.int .i64 r.1)) [(1002000, .box [.ptr 1002500 0]), (1002500, .box [.d (.int .i64 r.2)])]) ∧ (∀ {kid : GExpr} {c : Int} {r : (Bool × Int)}, impl_isExpr_1 k kid c = some r → FnG Go.Proofs.Try.prog 88 [.agg (eGExpr1 kid), .ptr 1000001 0] [(1000001, .box [.ptr 1000501 0]), (1000501, .box [.d (.int .i64 c)])] (.d (.bool r.1)) [(1000001, .box [.ptr 1000501 0]), (1000501, .box [.d (.int .i64 r.2)])]) := by
  intro k
  induction k with
  | zero => exact ⟨(by intros; rename_i H; rw [impl_isExpr] at H; cases H), (by intros; rename_i H; rw [slices_ContainsFunc_impl_Expr_impl_Expr_isExpr_1] at H; cases H), (by intros; rename_i H; rw [slices_IndexFunc_impl_Expr_impl_Expr_isExpr_1] at H; cases H), (by intros; rename_i H; rw [impl_isExpr_1] at H; cases H)⟩
  | succ k IH =>
    obtain ⟨IH_impl_isExpr, IH_slices_ContainsFunc_impl_Expr_impl_Expr_isExpr_1, IH_slices_IndexFunc_impl_Expr_impl_Expr_isExpr_1, IH_impl_isExpr_1⟩ := IH
    refine ⟨?_, ?_, ?_, ?_⟩
    · intro e left r H
      rw [impl_isExpr] at H
      refine FnG.intro (T := T) (fn := Go.Proofs.Try.f59) (c := (Go.Proofs.Try.f59).body.getD .skip) [.d (.bool r.1)] (by kernel_rfl) (by kernel_rfl) (by kernel_rfl) hfol hT (by kernel_rfl) rfl rfl rfl rfl rfl ?_
      intro N ok out pl0 W0
      refine PW_top ?_
      conv => whnf
      refine BranchG.ite H (fun HP H => ?_) (fun HP H => ?_)
      · obtain rfl := Option.some.inj H
        conv => whnf
        refine ⟨_, _, Cover.refl _ _, ?_⟩
        conv => whnf
        exact ⟨(by first | rfl | (simp only [List.map_cons, List.map_nil, eGExpr_eq]; first | done | rfl)), (by first | rfl | (simp only [List.map_cons, List.map_nil, eGExpr_eq]; first | done | rfl))⟩
      · conv => whnf
        refine CallG.pure (by first | rfl | (simp only [argsG, argsK, argG, List.map_cons, List.map_nil, eGExpr_eq]; first | done | rfl)) (impl_within_ok e.Kind 0 18) ?_
        conv => whnf
        refine BranchG.iteBN H (fun HP H => ?_) (fun HP H => ?_)
        · obtain rfl := Option.some.inj H
          conv => whnf
          refine ⟨_, _, Cover.refl _ _, ?_⟩
          conv => whnf
          exact ⟨(by first | rfl | (simp only [List.map_cons, List.map_nil, eGExpr_eq]; first | done | rfl)), (by first | rfl | (simp only [List.map_cons, List.map_nil, eGExpr_eq]; first | done | rfl))⟩
        · conv => whnf
          refine LenG.intro e.Kids.length (by simp only [List.length_map]) ?_
          conv => whnf
          refine CallG.pure (by first | rfl | (simp only [argsG, argsK, argG, List.map_cons, List.map_nil, eGExpr_eq]; first | done | rfl)) (impl_kidsOf_ok e.Kind) ?_
          conv => whnf
          refine BranchG.iteN H (fun HP H => ?_) (fun HP H => ?_)
          · obtain rfl := Option.some.inj H
            conv => whnf
            refine ⟨_, _, Cover.refl _ _, ?_⟩
            conv => whnf
            exact ⟨(by first | rfl | (simp only [List.map_cons, List.map_nil, eGExpr_eq]; first | done | rfl)), (by first | rfl | (simp only [List.map_cons, List.map_nil, eGExpr_eq]; first | done | rfl))⟩
          · conv => whnf
            refine BranchG.ite H (fun HP H => ?_) (fun HP H => ?_)
            · conv => whnf
              obtain ⟨t, HTt, H⟩ := bind_some H
              refine CallG.pure (by first | rfl | (simp only [argsG, argsK, argG, List.map_cons, List.map_nil, eGExpr_eq]; first | done | rfl)) (impl_NameOk_ok HTt) ?_
              conv => whnf
              refine BranchG.iteBN H (fun HP H => ?_) (fun HP H => ?_)
              · conv => whnf
                refine BranchG.iteBN H (fun HP H => ?_) (fun HP H => ?_)
                · obtain rfl := Option.some.inj H
                  conv => whnf
                  refine ⟨_, _, Cover.refl _ _, ?_⟩
                  conv => whnf
                  exact ⟨(by first | rfl | (simp only [List.map_cons, List.map_nil, eGExpr_eq]; first | done | rfl)), (by first | rfl | (simp only [List.map_cons, List.map_nil, eGExpr_eq]; first | done | rfl))⟩
                · conv => whnf
                  refine BranchG.ite H (fun HP H => ?_) (fun HP H => ?_)
                  · conv => whnf
                    refine CallG.pure (by first | rfl | (simp only [argsG, argsK, argG, List.map_cons, List.map_nil, eGExpr_eq]; first | done | rfl)) (impl_within_ok e.Num 0 999999999) ?_
                    conv => whnf
                    refine BranchG.iteBN H (fun HP H => ?_) (fun HP H => ?_)
                    · conv => whnf
                      refine BranchG.iteBN H (fun HP H => ?_) (fun HP H => ?_)
                      · obtain rfl := Option.some.inj H
                        conv => whnf
                        refine ⟨_, _, Cover.refl _ _, ?_⟩
                        conv => whnf
                        exact ⟨(by first | rfl | (simp only [List.map_cons, List.map_nil, eGExpr_eq]; first | done | rfl)), (by first | rfl | (simp only [List.map_cons, List.map_nil, eGExpr_eq]; first | done | rfl))⟩
                      · conv => whnf
                        obtain ⟨t1, HTt1, H⟩ := bind_some H
                        refine CallG.gen [(1002000, 3), (1002500, 1000001)] [] (by rfl) (IH_slices_ContainsFunc_impl_Expr_impl_Expr_isExpr_1 HTt1) rfl rfl ⟨rfl, ⟨rfl, trivial⟩⟩ trivial rfl rfl rfl rfl rfl rfl rfl rfl rfl ?_
                        obtain rfl := Option.some.inj H
                        conv => whnf
                        refine ⟨_, _, Cover.refl _ _, ?_⟩
                        conv => whnf
                        exact ⟨(by first | rfl | (simp only [List.map_cons, List.map_nil, eGExpr_eq]; first | done | rfl)), (by first | rfl | (simp only [List.map_cons, List.map_nil, eGExpr_eq]; first | done | rfl))⟩
                    · conv => whnf
                      refine BranchG.iteN H (fun HP H => ?_) (fun HP H => ?_)
                      · conv => whnf
                        refine BranchG.iteN H (fun HP H => ?_) (fun HP H => ?_)
                        · obtain rfl := Option.some.inj H
                          conv => whnf
                          refine ⟨_, _, Cover.refl _ _, ?_⟩
                          conv => whnf
                          exact ⟨(by first | rfl | (simp only [List.map_cons, List.map_nil, eGExpr_eq]; first | done | rfl)), (by first | rfl | (simp only [List.map_cons, List.map_nil, eGExpr_eq]; first | done | rfl))⟩
                        · conv => whnf
                          obtain ⟨t2, HTt2, H⟩ := bind_some H
                          refine CallG.gen [(1002000, 3), (1002500, 1000001)] [] (by rfl) (IH_slices_ContainsFunc_impl_Expr_impl_Expr_isExpr_1 HTt2) rfl rfl ⟨rfl, ⟨rfl, trivial⟩⟩ trivial rfl rfl rfl rfl rfl rfl rfl rfl rfl ?_
                          obtain rfl := Option.some.inj H
                          conv => whnf
                          refine ⟨_, _, Cover.refl _ _, ?_⟩
                          conv => whnf
                          exact ⟨(by first | rfl | (simp only [List.map_cons, List.map_nil, eGExpr_eq]; first | done | rfl)), (by first | rfl | (simp only [List.map_cons, List.map_nil, eGExpr_eq]; first | done | rfl))⟩
                      · conv => whnf
                        obtain ⟨t3, HTt3, H⟩ := bind_some H
                        refine CallG.gen [(1002000, 3), (1002500, 1000001)] [] (by rfl) (IH_slices_ContainsFunc_impl_Expr_impl_Expr_isExpr_1 HTt3) rfl rfl ⟨rfl, ⟨rfl, trivial⟩⟩ trivial rfl rfl rfl rfl rfl rfl rfl rfl rfl ?_
                        obtain rfl := Option.some.inj H
                        conv => whnf
                        refine ⟨_, _, Cover.refl _ _, ?_⟩
                        conv => whnf
                        exact ⟨(by first | rfl | (simp only [List.map_cons, List.map_nil, eGExpr_eq]; first | done | rfl)), (by first | rfl | (simp only [List.map_cons, List.map_nil, eGExpr_eq]; first | done | rfl))⟩
                  · conv => whnf
                    refine BranchG.iteN H (fun HP H => ?_) (fun HP H => ?_)
                    · conv => whnf
                      refine BranchG.iteN H (fun HP H => ?_) (fun HP H => ?_)
                      · obtain rfl := Option.some.inj H
                        conv => whnf
                        refine ⟨_, _, Cover.refl _ _, ?_⟩
                        conv => whnf
                        exact ⟨(by first | rfl | (simp only [List.map_cons, List.map_nil, eGExpr_eq]; first | done | rfl)), (by first | rfl | (simp only [List.map_cons, List.map_nil, eGExpr_eq]; first | done | rfl))⟩
                      · conv => whnf
                        obtain ⟨t4, HTt4, H⟩ := bind_some H
                        refine CallG.gen [(1002000, 3), (1002500, 1000001)] [] (by rfl) (IH_slices_ContainsFunc_impl_Expr_impl_Expr_isExpr_1 HTt4) rfl rfl ⟨rfl, ⟨rfl, trivial⟩⟩ trivial rfl rfl rfl rfl rfl rfl rfl rfl rfl ?_
                        obtain rfl := Option.some.inj H
                        conv => whnf
                        refine ⟨_, _, Cover.refl _ _, ?_⟩
                        conv => whnf
                        exact ⟨(by first | rfl | (simp only [List.map_cons, List.map_nil, eGExpr_eq]; first | done | rfl)), (by first | rfl | (simp only [List.map_cons, List.map_nil, eGExpr_eq]; first | done | rfl))⟩
                    · conv => whnf
                      obtain ⟨t5, HTt5, H⟩ := bind_some H
                      refine CallG.gen [(1002000, 3), (1002500, 1000001)] [] (by rfl) (IH_slices_ContainsFunc_impl_Expr_impl_Expr_isExpr_1 HTt5) rfl rfl ⟨rfl, ⟨rfl, trivial⟩⟩ trivial rfl rfl rfl rfl rfl rfl rfl rfl rfl ?_
                      obtain rfl := Option.some.inj H
                      conv => whnf
                      refine ⟨_, _, Cover.refl _ _, ?_⟩
                      conv => whnf
                      exact ⟨(by first | rfl | (simp only [List.map_cons, List.map_nil, eGExpr_eq]; first | done | rfl)), (by first | rfl | (simp only [List.map_cons, List.map_nil, eGExpr_eq]; first | done | rfl))⟩
              · conv => whnf
                refine BranchG.ite H (fun HP H => ?_) (fun HP H => ?_)
                · conv => whnf
                  refine BranchG.ite H (fun HP H => ?_) (fun HP H => ?_)
                  · conv => whnf
                    refine BranchG.ite H (fun HP H => ?_) (fun HP H => ?_)
                    · obtain rfl := Option.some.inj H
                      conv => whnf
                      refine ⟨_, _, Cover.refl _ _, ?_⟩
                      conv => whnf
                      exact ⟨(by first | rfl | (simp only [List.map_cons, List.map_nil, eGExpr_eq]; first | done | rfl)), (by first | rfl | (simp only [List.map_cons, List.map_nil, eGExpr_eq]; first | done | rfl))⟩
                    · conv => whnf
                      refine BranchG.ite H (fun HP H => ?_) (fun HP H => ?_)
                      · conv => whnf
                        refine CallG.pure (by first | rfl | (simp only [argsG, argsK, argG, List.map_cons, List.map_nil, eGExpr_eq]; first | done | rfl)) (impl_within_ok e.Num 0 999999999) ?_
                        conv => whnf
                        refine BranchG.iteBN H (fun HP H => ?_) (fun HP H => ?_)
                        · conv => whnf
                          refine BranchG.iteBN H (fun HP H => ?_) (fun HP H => ?_)
                          · obtain rfl := Option.some.inj H
                            conv => whnf
                            refine ⟨_, _, Cover.refl _ _, ?_⟩
                            conv => whnf
                            exact ⟨(by first | rfl | (simp only [List.map_cons, List.map_nil, eGExpr_eq]; first | done | rfl)), (by first | rfl | (simp only [List.map_cons, List.map_nil, eGExpr_eq]; first | done | rfl))⟩
                          · conv => whnf
                            obtain ⟨t6, HTt6, H⟩ := bind_some H
                            refine CallG.gen [(1002000, 3), (1002500, 1000001)] [] (by rfl) (IH_slices_ContainsFunc_impl_Expr_impl_Expr_isExpr_1 HTt6) rfl rfl ⟨rfl, ⟨rfl, trivial⟩⟩ trivial rfl rfl rfl rfl rfl rfl rfl rfl rfl ?_
                            obtain rfl := Option.some.inj H
                            conv => whnf
                            refine ⟨_, _, Cover.refl _ _, ?_⟩
                            conv => whnf
                            exact ⟨(by first | rfl | (simp only [List.map_cons, List.map_nil, eGExpr_eq]; first | done | rfl)), (by first | rfl | (simp only [List.map_cons, List.map_nil, eGExpr_eq]; first | done | rfl))⟩
                        · conv => whnf
                          refine BranchG.iteN H (fun HP H => ?_) (fun HP H => ?_)
                          · conv => whnf
                            refine BranchG.iteN H (fun HP H => ?_) (fun HP H => ?_)
                            · obtain rfl := Option.some.inj H
                              conv => whnf
                              refine ⟨_, _, Cover.refl _ _, ?_⟩
                              conv => whnf
                              exact ⟨(by first | rfl | (simp only [List.map_cons, List.map_nil, eGExpr_eq]; first | done | rfl)), (by first | rfl | (simp only [List.map_cons, List.map_nil, eGExpr_eq]; first | done | rfl))⟩
                            · conv => whnf
                              obtain ⟨t7, HTt7, H⟩ := bind_some H
                              refine CallG.gen [(1002000, 3), (1002500, 1000001)] [] (by rfl) (IH_slices_ContainsFunc_impl_Expr_impl_Expr_isExpr_1 HTt7) rfl rfl ⟨rfl, ⟨rfl, trivial⟩⟩ trivial rfl rfl rfl rfl rfl rfl rfl rfl rfl ?_
                              obtain rfl := Option.some.inj H
                              conv => whnf
                              refine ⟨_, _, Cover.refl _ _, ?_⟩
                              conv => whnf
                              exact ⟨(by first | rfl | (simp only [List.map_cons, List.map_nil, eGExpr_eq]; first | done | rfl)), (by first | rfl | (simp only [List.map_cons, List.map_nil, eGExpr_eq]; first | done | rfl))⟩
                          · conv => whnf
                            obtain ⟨t8, HTt8, H⟩ := bind_some H
                            refine CallG.gen [(1002000, 3), (1002500, 1000001)] [] (by rfl) (IH_slices_ContainsFunc_impl_Expr_impl_Expr_isExpr_1 HTt8) rfl rfl ⟨rfl, ⟨rfl, trivial⟩⟩ trivial rfl rfl rfl rfl rfl rfl rfl rfl rfl ?_
                            obtain rfl := Option.some.inj H
                            conv => whnf
                            refine ⟨_, _, Cover.refl _ _, ?_⟩
                            conv => whnf
                            exact ⟨(by first | rfl | (simp only [List.map_cons, List.map_nil, eGExpr_eq]; first | done | rfl)), (by first | rfl | (simp only [List.map_cons, List.map_nil, eGExpr_eq]; first | done | rfl))⟩
                      · conv => whnf
                        refine BranchG.iteN H (fun HP H => ?_) (fun HP H => ?_)
                        · conv => whnf
                          refine BranchG.iteN H (fun HP H => ?_) (fun HP H => ?_)
                          · obtain rfl := Option.some.inj H
                            conv => whnf
                            refine ⟨_, _, Cover.refl _ _, ?_⟩
                            conv => whnf
                            exact ⟨(by first | rfl | (simp only [List.map_cons, List.map_nil, eGExpr_eq]; first | done | rfl)), (by first | rfl | (simp only [List.map_cons, List.map_nil, eGExpr_eq]; first | done | rfl))⟩
                          · conv => whnf
                            obtain ⟨t9, HTt9, H⟩ := bind_some H
                            refine CallG.gen [(1002000, 3), (1002500, 1000001)] [] (by rfl) (IH_slices_ContainsFunc_impl_Expr_impl_Expr_isExpr_1 HTt9) rfl rfl ⟨rfl, ⟨rfl, trivial⟩⟩ trivial rfl rfl rfl rfl rfl rfl rfl rfl rfl ?_
                            obtain rfl := Option.some.inj H
                            conv => whnf
                            refine ⟨_, _, Cover.refl _ _, ?_⟩
                            conv => whnf
                            exact ⟨(by first | rfl | (simp only [List.map_cons, List.map_nil, eGExpr_eq]; first | done | rfl)), (by first | rfl | (simp only [List.map_cons, List.map_nil, eGExpr_eq]; first | done | rfl))⟩
                        · conv => whnf
                          obtain ⟨t10, HTt10, H⟩ := bind_some H
                          refine CallG.gen [(1002000, 3), (1002500, 1000001)] [] (by rfl) (IH_slices_ContainsFunc_impl_Expr_impl_Expr_isExpr_1 HTt10) rfl rfl ⟨rfl, ⟨rfl, trivial⟩⟩ trivial rfl rfl rfl rfl rfl rfl rfl rfl rfl ?_
                          obtain rfl := Option.some.inj H
                          conv => whnf
                          refine ⟨_, _, Cover.refl _ _, ?_⟩
                          conv => whnf
                          exact ⟨(by first | rfl | (simp only [List.map_cons, List.map_nil, eGExpr_eq]; first | done | rfl)), (by first | rfl | (simp only [List.map_cons, List.map_nil, eGExpr_eq]; first | done | rfl))⟩
                  · conv => whnf
                    refine BranchG.iteN H (fun HP H => ?_) (fun HP H => ?_)
                    · conv => whnf
                      refine BranchG.iteN H (fun HP H => ?_) (fun HP H => ?_)
                      · conv => whnf
                        refine BranchG.iteN H (fun HP H => ?_) (fun HP H => ?_)
                        · obtain rfl := Option.some.inj H
                          conv => whnf
                          refine ⟨_, _, Cover.refl _ _, ?_⟩
                          conv => whnf
                          exact ⟨(by first | rfl | (simp only [List.map_cons, List.map_nil, eGExpr_eq]; first | done | rfl)), (by first | rfl | (simp only [List.map_cons, List.map_nil, eGExpr_eq]; first | done | rfl))⟩
                        · conv => whnf
                          refine BranchG.ite H (fun HP H => ?_) (fun HP H => ?_)
                          · conv => whnf
                            refine CallG.pure (by first | rfl | (simp only [argsG, argsK, argG, List.map_cons, List.map_nil, eGExpr_eq]; first | done | rfl)) (impl_within_ok e.Num 0 999999999) ?_
                            conv => whnf
                            refine BranchG.iteBN H (fun HP H => ?_) (fun HP H => ?_)
                            · conv => whnf
                              refine BranchG.iteBN H (fun HP H => ?_) (fun HP H => ?_)
                              · obtain rfl := Option.some.inj H
                                conv => whnf
                                refine ⟨_, _, Cover.refl _ _, ?_⟩
                                conv => whnf
                                exact ⟨(by first | rfl | (simp only [List.map_cons, List.map_nil, eGExpr_eq]; first | done | rfl)), (by first | rfl | (simp only [List.map_cons, List.map_nil, eGExpr_eq]; first | done | rfl))⟩
                              · conv => whnf
                                obtain ⟨t11, HTt11, H⟩ := bind_some H
                                refine CallG.gen [(1002000, 3), (1002500, 1000001)] [] (by rfl) (IH_slices_ContainsFunc_impl_Expr_impl_Expr_isExpr_1 HTt11) rfl rfl ⟨rfl, ⟨rfl, trivial⟩⟩ trivial rfl rfl rfl rfl rfl rfl rfl rfl rfl ?_
                                obtain rfl := Option.some.inj H
                                conv => whnf
                                refine ⟨_, _, Cover.refl _ _, ?_⟩
                                conv => whnf
                                exact ⟨(by first | rfl | (simp only [List.map_cons, List.map_nil, eGExpr_eq]; first | done | rfl)), (by first | rfl | (simp only [List.map_cons, List.map_nil, eGExpr_eq]; first | done | rfl))⟩
                            · conv => whnf
                              refine BranchG.iteN H (fun HP H => ?_) (fun HP H => ?_)
                              · conv => whnf
                                refine BranchG.iteN H (fun HP H => ?_) (fun HP H => ?_)
                                · obtain rfl := Option.some.inj H
                                  conv => whnf
                                  refine ⟨_, _, Cover.refl _ _, ?_⟩
                                  conv => whnf
                                  exact ⟨(by first | rfl | (simp only [List.map_cons, List.map_nil, eGExpr_eq]; first | done | rfl)), (by first | rfl | (simp only [List.map_cons, List.map_nil, eGExpr_eq]; first | done | rfl))⟩
                                · conv => whnf
                                  obtain ⟨t12, HTt12, H⟩ := bind_some H
                                  refine CallG.gen [(1002000, 3), (1002500, 1000001)] [] (by rfl) (IH_slices_ContainsFunc_impl_Expr_impl_Expr_isExpr_1 HTt12) rfl rfl ⟨rfl, ⟨rfl, trivial⟩⟩ trivial rfl rfl rfl rfl rfl rfl rfl rfl rfl ?_
                                  obtain rfl := Option.some.inj H
                                  conv => whnf
                                  refine ⟨_, _, Cover.refl _ _, ?_⟩
                                  conv => whnf
                                  exact ⟨(by first | rfl | (simp only [List.map_cons, List.map_nil, eGExpr_eq]; first | done | rfl)), (by first | rfl | (simp only [List.map_cons, List.map_nil, eGExpr_eq]; first | done | rfl))⟩
                              · conv => whnf
                                obtain ⟨t13, HTt13, H⟩ := bind_some H
                                refine CallG.gen [(1002000, 3), (1002500, 1000001)] [] (by rfl) (IH_slices_ContainsFunc_impl_Expr_impl_Expr_isExpr_1 HTt13) rfl rfl ⟨rfl, ⟨rfl, trivial⟩⟩ trivial rfl rfl rfl rfl rfl rfl rfl rfl rfl ?_
                                obtain rfl := Option.some.inj H
                                conv => whnf
                                refine ⟨_, _, Cover.refl _ _, ?_⟩
                                conv => whnf
                                exact ⟨(by first | rfl | (simp only [List.map_cons, List.map_nil, eGExpr_eq]; first | done | rfl)), (by first | rfl | (simp only [List.map_cons, List.map_nil, eGExpr_eq]; first | done | rfl))⟩
                          · conv => whnf
                            refine BranchG.iteN H (fun HP H => ?_) (fun HP H => ?_)
                            · conv => whnf
                              refine BranchG.iteN H (fun HP H => ?_) (fun HP H => ?_)
                              · obtain rfl := Option.some.inj H
                                conv => whnf
                                refine ⟨_, _, Cover.refl _ _, ?_⟩
                                conv => whnf
                                exact ⟨(by first | rfl | (simp only [List.map_cons, List.map_nil, eGExpr_eq]; first | done | rfl)), (by first | rfl | (simp only [List.map_cons, List.map_nil, eGExpr_eq]; first | done | rfl))⟩
                              · conv => whnf
                                obtain ⟨t14, HTt14, H⟩ := bind_some H
                                refine CallG.gen [(1002000, 3), (1002500, 1000001)] [] (by rfl) (IH_slices_ContainsFunc_impl_Expr_impl_Expr_isExpr_1 HTt14) rfl rfl ⟨rfl, ⟨rfl, trivial⟩⟩ trivial rfl rfl rfl rfl rfl rfl rfl rfl rfl ?_
                                obtain rfl := Option.some.inj H
                                conv => whnf
                                refine ⟨_, _, Cover.refl _ _, ?_⟩
                                conv => whnf
                                exact ⟨(by first | rfl | (simp only [List.map_cons, List.map_nil, eGExpr_eq]; first | done | rfl)), (by first | rfl | (simp only [List.map_cons, List.map_nil, eGExpr_eq]; first | done | rfl))⟩
                            · conv => whnf
                              obtain ⟨t15, HTt15, H⟩ := bind_some H
                              refine CallG.gen [(1002000, 3), (1002500, 1000001)] [] (by rfl) (IH_slices_ContainsFunc_impl_Expr_impl_Expr_isExpr_1 HTt15) rfl rfl ⟨rfl, ⟨rfl, trivial⟩⟩ trivial rfl rfl rfl rfl rfl rfl rfl rfl rfl ?_
                              obtain rfl := Option.some.inj H
                              conv => whnf
                              refine ⟨_, _, Cover.refl _ _, ?_⟩
                              conv => whnf
                              exact ⟨(by first | rfl | (simp only [List.map_cons, List.map_nil, eGExpr_eq]; first | done | rfl)), (by first | rfl | (simp only [List.map_cons, List.map_nil, eGExpr_eq]; first | done | rfl))⟩
                      · conv => whnf
                        refine BranchG.ite H (fun HP H => ?_) (fun HP H => ?_)
                        · conv => whnf
                          refine CallG.pure (by first | rfl | (simp only [argsG, argsK, argG, List.map_cons, List.map_nil, eGExpr_eq]; first | done | rfl)) (impl_within_ok e.Num 0 999999999) ?_
                          conv => whnf
                          refine BranchG.iteBN H (fun HP H => ?_) (fun HP H => ?_)
                          · conv => whnf
                            refine BranchG.iteBN H (fun HP H => ?_) (fun HP H => ?_)
                            · obtain rfl := Option.some.inj H
                              conv => whnf
                              refine ⟨_, _, Cover.refl _ _, ?_⟩
                              conv => whnf
                              exact ⟨(by first | rfl | (simp only [List.map_cons, List.map_nil, eGExpr_eq]; first | done | rfl)), (by first | rfl | (simp only [List.map_cons, List.map_nil, eGExpr_eq]; first | done | rfl))⟩
                            · conv => whnf
                              obtain ⟨t16, HTt16, H⟩ := bind_some H
                              refine CallG.gen [(1002000, 3), (1002500, 1000001)] [] (by rfl) (IH_slices_ContainsFunc_impl_Expr_impl_Expr_isExpr_1 HTt16) rfl rfl ⟨rfl, ⟨rfl, trivial⟩⟩ trivial rfl rfl rfl rfl rfl rfl rfl rfl rfl ?_
                              obtain rfl := Option.some.inj H
                              conv => whnf
                              refine ⟨_, _, Cover.refl _ _, ?_⟩
                              conv => whnf
                              exact ⟨(by first | rfl | (simp only [List.map_cons, List.map_nil, eGExpr_eq]; first | done | rfl)), (by first | rfl | (simp only [List.map_cons, List.map_nil, eGExpr_eq]; first | done | rfl))⟩
                          · conv => whnf
                            refine BranchG.iteN H (fun HP H => ?_) (fun HP H => ?_)
                            · conv => whnf
                              refine BranchG.iteN H (fun HP H => ?_) (fun HP H => ?_)
                              · obtain rfl := Option.some.inj H
                                conv => whnf
                                refine ⟨_, _, Cover.refl _ _, ?_⟩
                                conv => whnf
                                exact ⟨(by first | rfl | (simp only [List.map_cons, List.map_nil, eGExpr_eq]; first | done | rfl)), (by first | rfl | (simp only [List.map_cons, List.map_nil, eGExpr_eq]; first | done | rfl))⟩
                              · conv => whnf
                                obtain ⟨t17, HTt17, H⟩ := bind_some H
                                refine CallG.gen [(1002000, 3), (1002500, 1000001)] [] (by rfl) (IH_slices_ContainsFunc_impl_Expr_impl_Expr_isExpr_1 HTt17) rfl rfl ⟨rfl, ⟨rfl, trivial⟩⟩ trivial rfl rfl rfl rfl rfl rfl rfl rfl rfl ?_
                                obtain rfl := Option.some.inj H
                                conv => whnf
                                refine ⟨_, _, Cover.refl _ _, ?_⟩
                                conv => whnf
                                exact ⟨(by first | rfl | (simp only [List.map_cons, List.map_nil, eGExpr_eq]; first | done | rfl)), (by first | rfl | (simp only [List.map_cons, List.map_nil, eGExpr_eq]; first | done | rfl))⟩
                            · conv => whnf
                              obtain ⟨t18, HTt18, H⟩ := bind_some H
                              refine CallG.gen [(1002000, 3), (1002500, 1000001)] [] (by rfl) (IH_slices_ContainsFunc_impl_Expr_impl_Expr_isExpr_1 HTt18) rfl rfl ⟨rfl, ⟨rfl, trivial⟩⟩ trivial rfl rfl rfl rfl rfl rfl rfl rfl rfl ?_
                              obtain rfl := Option.some.inj H
                              conv => whnf
                              refine ⟨_, _, Cover.refl _ _, ?_⟩
                              conv => whnf
                              exact ⟨(by first | rfl | (simp only [List.map_cons, List.map_nil, eGExpr_eq]; first | done | rfl)), (by first | rfl | (simp only [List.map_cons, List.map_nil, eGExpr_eq]; first | done | rfl))⟩
                        · conv => whnf
                          refine BranchG.iteN H (fun HP H => ?_) (fun HP H => ?_)
                          · conv => whnf
                            refine BranchG.iteN H (fun HP H => ?_) (fun HP H => ?_)
                            · obtain rfl := Option.some.inj H
                              conv => whnf
                              refine ⟨_, _, Cover.refl _ _, ?_⟩
                              conv => whnf
                              exact ⟨(by first | rfl | (simp only [List.map_cons, List.map_nil, eGExpr_eq]; first | done | rfl)), (by first | rfl | (simp only [List.map_cons, List.map_nil, eGExpr_eq]; first | done | rfl))⟩
                            · conv => whnf
                              obtain ⟨t19, HTt19, H⟩ := bind_some H
                              refine CallG.gen [(1002000, 3), (1002500, 1000001)] [] (by rfl) (IH_slices_ContainsFunc_impl_Expr_impl_Expr_isExpr_1 HTt19) rfl rfl ⟨rfl, ⟨rfl, trivial⟩⟩ trivial rfl rfl rfl rfl rfl rfl rfl rfl rfl ?_
                              obtain rfl := Option.some.inj H
                              conv => whnf
                              refine ⟨_, _, Cover.refl _ _, ?_⟩
                              conv => whnf
                              exact ⟨(by first | rfl | (simp only [List.map_cons, List.map_nil, eGExpr_eq]; first | done | rfl)), (by first | rfl | (simp only [List.map_cons, List.map_nil, eGExpr_eq]; first | done | rfl))⟩
                          · conv => whnf
                            obtain ⟨t20, HTt20, H⟩ := bind_some H
                            refine CallG.gen [(1002000, 3), (1002500, 1000001)] [] (by rfl) (IH_slices_ContainsFunc_impl_Expr_impl_Expr_isExpr_1 HTt20) rfl rfl ⟨rfl, ⟨rfl, trivial⟩⟩ trivial rfl rfl rfl rfl rfl rfl rfl rfl rfl ?_
                            obtain rfl := Option.some.inj H
                            conv => whnf
                            refine ⟨_, _, Cover.refl _ _, ?_⟩
                            conv => whnf
                            exact ⟨(by first | rfl | (simp only [List.map_cons, List.map_nil, eGExpr_eq]; first | done | rfl)), (by first | rfl | (simp only [List.map_cons, List.map_nil, eGExpr_eq]; first | done | rfl))⟩
                    · conv => whnf
                      refine BranchG.ite H (fun HP H => ?_) (fun HP H => ?_)
                      · conv => whnf
                        refine CallG.pure (by first | rfl | (simp only [argsG, argsK, argG, List.map_cons, List.map_nil, eGExpr_eq]; first | done | rfl)) (impl_within_ok e.Num 0 999999999) ?_
                        conv => whnf
                        refine BranchG.iteBN H (fun HP H => ?_) (fun HP H => ?_)
                        · conv => whnf
                          refine BranchG.iteBN H (fun HP H => ?_) (fun HP H => ?_)
                          · obtain rfl := Option.some.inj H
                            conv => whnf
                            refine ⟨_, _, Cover.refl _ _, ?_⟩
                            conv => whnf
                            exact ⟨(by first | rfl | (simp only [List.map_cons, List.map_nil, eGExpr_eq]; first | done | rfl)), (by first | rfl | (simp only [List.map_cons, List.map_nil, eGExpr_eq]; first | done | rfl))⟩
                          · conv => whnf
                            obtain ⟨t21, HTt21, H⟩ := bind_some H
                            refine CallG.gen [(1002000, 3), (1002500, 1000001)] [] (by rfl) (IH_slices_ContainsFunc_impl_Expr_impl_Expr_isExpr_1 HTt21) rfl rfl ⟨rfl, ⟨rfl, trivial⟩⟩ trivial rfl rfl rfl rfl rfl rfl rfl rfl rfl ?_
                            obtain rfl := Option.some.inj H
                            conv => whnf
                            refine ⟨_, _, Cover.refl _ _, ?_⟩
                            conv => whnf
                            exact ⟨(by first | rfl | (simp only [List.map_cons, List.map_nil, eGExpr_eq]; first | done | rfl)), (by first | rfl | (simp only [List.map_cons, List.map_nil, eGExpr_eq]; first | done | rfl))⟩
                        · conv => whnf
                          refine BranchG.iteN H (fun HP H => ?_) (fun HP H => ?_)
                          · conv => whnf
                            refine BranchG.iteN H (fun HP H => ?_) (fun HP H => ?_)
                            · obtain rfl := Option.some.inj H
                              conv => whnf
                              refine ⟨_, _, Cover.refl _ _, ?_⟩
                              conv => whnf
                              exact ⟨(by first | rfl | (simp only [List.map_cons, List.map_nil, eGExpr_eq]; first | done | rfl)), (by first | rfl | (simp only [List.map_cons, List.map_nil, eGExpr_eq]; first | done | rfl))⟩
                            · conv => whnf
                              obtain ⟨t22, HTt22, H⟩ := bind_some H
                              refine CallG.gen [(1002000, 3), (1002500, 1000001)] [] (by rfl) (IH_slices_ContainsFunc_impl_Expr_impl_Expr_isExpr_1 HTt22) rfl rfl ⟨rfl, ⟨rfl, trivial⟩⟩ trivial rfl rfl rfl rfl rfl rfl rfl rfl rfl ?_
                              obtain rfl := Option.some.inj H
                              conv => whnf
                              refine ⟨_, _, Cover.refl _ _, ?_⟩
                              conv => whnf
                              exact ⟨(by first | rfl | (simp only [List.map_cons, List.map_nil, eGExpr_eq]; first | done | rfl)), (by first | rfl | (simp only [List.map_cons, List.map_nil, eGExpr_eq]; first | done | rfl))⟩
                          · conv => whnf
                            obtain ⟨t23, HTt23, H⟩ := bind_some H
                            refine CallG.gen [(1002000, 3), (1002500, 1000001)] [] (by rfl) (IH_slices_ContainsFunc_impl_Expr_impl_Expr_isExpr_1 HTt23) rfl rfl ⟨rfl, ⟨rfl, trivial⟩⟩ trivial rfl rfl rfl rfl rfl rfl rfl rfl rfl ?_
                            obtain rfl := Option.some.inj H
                            conv => whnf
                            refine ⟨_, _, Cover.refl _ _, ?_⟩
                            conv => whnf
                            exact ⟨(by first | rfl | (simp only [List.map_cons, List.map_nil, eGExpr_eq]; first | done | rfl)), (by first | rfl | (simp only [List.map_cons, List.map_nil, eGExpr_eq]; first | done | rfl))⟩
                      · conv => whnf
                        refine BranchG.iteN H (fun HP H => ?_) (fun HP H => ?_)
                        · conv => whnf
                          refine BranchG.iteN H (fun HP H => ?_) (fun HP H => ?_)
                          · obtain rfl := Option.some.inj H
                            conv => whnf
                            refine ⟨_, _, Cover.refl _ _, ?_⟩
                            conv => whnf
                            exact ⟨(by first | rfl | (simp only [List.map_cons, List.map_nil, eGExpr_eq]; first | done | rfl)), (by first | rfl | (simp only [List.map_cons, List.map_nil, eGExpr_eq]; first | done | rfl))⟩
                          · conv => whnf
                            obtain ⟨t24, HTt24, H⟩ := bind_some H
                            refine CallG.gen [(1002000, 3), (1002500, 1000001)] [] (by rfl) (IH_slices_ContainsFunc_impl_Expr_impl_Expr_isExpr_1 HTt24) rfl rfl ⟨rfl, ⟨rfl, trivial⟩⟩ trivial rfl rfl rfl rfl rfl rfl rfl rfl rfl ?_
                            obtain rfl := Option.some.inj H
                            conv => whnf
                            refine ⟨_, _, Cover.refl _ _, ?_⟩
                            conv => whnf
                            exact ⟨(by first | rfl | (simp only [List.map_cons, List.map_nil, eGExpr_eq]; first | done | rfl)), (by first | rfl | (simp only [List.map_cons, List.map_nil, eGExpr_eq]; first | done | rfl))⟩
                        · conv => whnf
                          obtain ⟨t25, HTt25, H⟩ := bind_some H
                          refine CallG.gen [(1002000, 3), (1002500, 1000001)] [] (by rfl) (IH_slices_ContainsFunc_impl_Expr_impl_Expr_isExpr_1 HTt25) rfl rfl ⟨rfl, ⟨rfl, trivial⟩⟩ trivial rfl rfl rfl rfl rfl rfl rfl rfl rfl ?_
                          obtain rfl := Option.some.inj H
                          conv => whnf
                          refine ⟨_, _, Cover.refl _ _, ?_⟩
                          conv => whnf
                          exact ⟨(by first | rfl | (simp only [List.map_cons, List.map_nil, eGExpr_eq]; first | done | rfl)), (by first | rfl | (simp only [List.map_cons, List.map_nil, eGExpr_eq]; first | done | rfl))⟩
                · conv => whnf
                  refine BranchG.iteN H (fun HP H => ?_) (fun HP H => ?_)
                  · conv => whnf
                    refine BranchG.iteN H (fun HP H => ?_) (fun HP H => ?_)
                    · conv => whnf
                      refine BranchG.iteN H (fun HP H => ?_) (fun HP H => ?_)
                      · obtain rfl := Option.some.inj H
                        conv => whnf
                        refine ⟨_, _, Cover.refl _ _, ?_⟩
                        conv => whnf
                        exact ⟨(by first | rfl | (simp only [List.map_cons, List.map_nil, eGExpr_eq]; first | done | rfl)), (by first | rfl | (simp only [List.map_cons, List.map_nil, eGExpr_eq]; first | done | rfl))⟩
                      · conv => whnf
                        refine BranchG.ite H (fun HP H => ?_) (fun HP H => ?_)
                        · conv => whnf
                          refine CallG.pure (by first | rfl | (simp only [argsG, argsK, argG, List.map_cons, List.map_nil, eGExpr_eq]; first | done | rfl)) (impl_within_ok e.Num 0 999999999) ?_
                          conv => whnf
                          refine BranchG.iteBN H (fun HP H => ?_) (fun HP H => ?_)
                          · conv => whnf
                            refine BranchG.iteBN H (fun HP H => ?_) (fun HP H => ?_)
                            · obtain rfl := Option.some.inj H
                              conv => whnf
                              refine ⟨_, _, Cover.refl _ _, ?_⟩
                              conv => whnf
                              exact ⟨(by first | rfl | (simp only [List.map_cons, List.map_nil, eGExpr_eq]; first | done | rfl)), (by first | rfl | (simp only [List.map_cons, List.map_nil, eGExpr_eq]; first | done | rfl))⟩
                            · conv => whnf
                              obtain ⟨t26, HTt26, H⟩ := bind_some H
                              refine CallG.gen [(1002000, 3), (1002500, 1000001)] [] (by rfl) (IH_slices_ContainsFunc_impl_Expr_impl_Expr_isExpr_1 HTt26) rfl rfl ⟨rfl, ⟨rfl, trivial⟩⟩ trivial rfl rfl rfl rfl rfl rfl rfl rfl rfl ?_
                              obtain rfl := Option.some.inj H
                              conv => whnf
                              refine ⟨_, _, Cover.refl _ _, ?_⟩
                              conv => whnf
                              exact ⟨(by first | rfl | (simp only [List.map_cons, List.map_nil, eGExpr_eq]; first | done | rfl)), (by first | rfl | (simp only [List.map_cons, List.map_nil, eGExpr_eq]; first | done | rfl))⟩
                          · conv => whnf
                            refine BranchG.iteN H (fun HP H => ?_) (fun HP H => ?_)
                            · conv => whnf
                              refine BranchG.iteN H (fun HP H => ?_) (fun HP H => ?_)
                              · obtain rfl := Option.some.inj H
                                conv => whnf
                                refine ⟨_, _, Cover.refl _ _, ?_⟩
                                conv => whnf
                                exact ⟨(by first | rfl | (simp only [List.map_cons, List.map_nil, eGExpr_eq]; first | done | rfl)), (by first | rfl | (simp only [List.map_cons, List.map_nil, eGExpr_eq]; first | done | rfl))⟩
                              · conv => whnf
                                obtain ⟨t27, HTt27, H⟩ := bind_some H
                                refine CallG.gen [(1002000, 3), (1002500, 1000001)] [] (by rfl) (IH_slices_ContainsFunc_impl_Expr_impl_Expr_isExpr_1 HTt27) rfl rfl ⟨rfl, ⟨rfl, trivial⟩⟩ trivial rfl rfl rfl rfl rfl rfl rfl rfl rfl ?_
                                obtain rfl := Option.some.inj H
                                conv => whnf
                                refine ⟨_, _, Cover.refl _ _, ?_⟩
                                conv => whnf
                                exact ⟨(by first | rfl | (simp only [List.map_cons, List.map_nil, eGExpr_eq]; first | done | rfl)), (by first | rfl | (simp only [List.map_cons, List.map_nil, eGExpr_eq]; first | done | rfl))⟩
                            · conv => whnf
                              obtain ⟨t28, HTt28, H⟩ := bind_some H
                              refine CallG.gen [(1002000, 3), (1002500, 1000001)] [] (by rfl) (IH_slices_ContainsFunc_impl_Expr_impl_Expr_isExpr_1 HTt28) rfl rfl ⟨rfl, ⟨rfl, trivial⟩⟩ trivial rfl rfl rfl rfl rfl rfl rfl rfl rfl ?_
                              obtain rfl := Option.some.inj H
                              conv => whnf
                              refine ⟨_, _, Cover.refl _ _, ?_⟩
                              conv => whnf
                              exact ⟨(by first | rfl | (simp only [List.map_cons, List.map_nil, eGExpr_eq]; first | done | rfl)), (by first | rfl | (simp only [List.map_cons, List.map_nil, eGExpr_eq]; first | done | rfl))⟩
                        · conv => whnf
                          refine BranchG.iteN H (fun HP H => ?_) (fun HP H => ?_)
                          · conv => whnf
                            refine BranchG.iteN H (fun HP H => ?_) (fun HP H => ?_)
                            · obtain rfl := Option.some.inj H
                              conv => whnf
                              refine ⟨_, _, Cover.refl _ _, ?_⟩
                              conv => whnf
                              exact ⟨(by first | rfl | (simp only [List.map_cons, List.map_nil, eGExpr_eq]; first | done | rfl)), (by first | rfl | (simp only [List.map_cons, List.map_nil, eGExpr_eq]; first | done | rfl))⟩
                            · conv => whnf
                              obtain ⟨t29, HTt29, H⟩ := bind_some H
                              refine CallG.gen [(1002000, 3), (1002500, 1000001)] [] (by rfl) (IH_slices_ContainsFunc_impl_Expr_impl_Expr_isExpr_1 HTt29) rfl rfl ⟨rfl, ⟨rfl, trivial⟩⟩ trivial rfl rfl rfl rfl rfl rfl rfl rfl rfl ?_
                              obtain rfl := Option.some.inj H
                              conv => whnf
                              refine ⟨_, _, Cover.refl _ _, ?_⟩
                              conv => whnf
                              exact ⟨(by first | rfl | (simp only [List.map_cons, List.map_nil, eGExpr_eq]; first | done | rfl)), (by first | rfl | (simp only [List.map_cons, List.map_nil, eGExpr_eq]; first | done | rfl))⟩
                          · conv => whnf
                            obtain ⟨t30, HTt30, H⟩ := bind_some H
                            refine CallG.gen [(1002000, 3), (1002500, 1000001)] [] (by rfl) (IH_slices_ContainsFunc_impl_Expr_impl_Expr_isExpr_1 HTt30) rfl rfl ⟨rfl, ⟨rfl, trivial⟩⟩ trivial rfl rfl rfl rfl rfl rfl rfl rfl rfl ?_
                            obtain rfl := Option.some.inj H
                            conv => whnf
                            refine ⟨_, _, Cover.refl _ _, ?_⟩
                            conv => whnf
                            exact ⟨(by first | rfl | (simp only [List.map_cons, List.map_nil, eGExpr_eq]; first | done | rfl)), (by first | rfl | (simp only [List.map_cons, List.map_nil, eGExpr_eq]; first | done | rfl))⟩
                    · conv => whnf
                      refine BranchG.ite H (fun HP H => ?_) (fun HP H => ?_)
                      · conv => whnf
                        refine CallG.pure (by first | rfl | (simp only [argsG, argsK, argG, List.map_cons, List.map_nil, eGExpr_eq]; first | done | rfl)) (impl_within_ok e.Num 0 999999999) ?_
                        conv => whnf
                        refine BranchG.iteBN H (fun HP H => ?_) (fun HP H => ?_)
                        · conv => whnf
                          refine BranchG.iteBN H (fun HP H => ?_) (fun HP H => ?_)
                          · obtain rfl := Option.some.inj H
                            conv => whnf
                            refine ⟨_, _, Cover.refl _ _, ?_⟩
                            conv => whnf
                            exact ⟨(by first | rfl | (simp only [List.map_cons, List.map_nil, eGExpr_eq]; first | done | rfl)), (by first | rfl | (simp only [List.map_cons, List.map_nil, eGExpr_eq]; first | done | rfl))⟩
                          · conv => whnf
                            obtain ⟨t31, HTt31, H⟩ := bind_some H
                            refine CallG.gen [(1002000, 3), (1002500, 1000001)] [] (by rfl) (IH_slices_ContainsFunc_impl_Expr_impl_Expr_isExpr_1 HTt31) rfl rfl ⟨rfl, ⟨rfl, trivial⟩⟩ trivial rfl rfl rfl rfl rfl rfl rfl rfl rfl ?_
                            obtain rfl := Option.some.inj H
                            conv => whnf
                            refine ⟨_, _, Cover.refl _ _, ?_⟩
                            conv => whnf
                            exact ⟨(by first | rfl | (simp only [List.map_cons, List.map_nil, eGExpr_eq]; first | done | rfl)), (by first | rfl | (simp only [List.map_cons, List.map_nil, eGExpr_eq]; first | done | rfl))⟩
                        · conv => whnf
                          refine BranchG.iteN H (fun HP H => ?_) (fun HP H => ?_)
                          · conv => whnf
                            refine BranchG.iteN H (fun HP H => ?_) (fun HP H => ?_)
                            · obtain rfl := Option.some.inj H
                              conv => whnf
                              refine ⟨_, _, Cover.refl _ _, ?_⟩
                              conv => whnf
                              exact ⟨(by first | rfl | (simp only [List.map_cons, List.map_nil, eGExpr_eq]; first | done | rfl)), (by first | rfl | (simp only [List.map_cons, List.map_nil, eGExpr_eq]; first | done | rfl))⟩
                            · conv => whnf
                              obtain ⟨t32, HTt32, H⟩ := bind_some H
                              refine CallG.gen [(1002000, 3), (1002500, 1000001)] [] (by rfl) (IH_slices_ContainsFunc_impl_Expr_impl_Expr_isExpr_1 HTt32) rfl rfl ⟨rfl, ⟨rfl, trivial⟩⟩ trivial rfl rfl rfl rfl rfl rfl rfl rfl rfl ?_
                              obtain rfl := Option.some.inj H
                              conv => whnf
                              refine ⟨_, _, Cover.refl _ _, ?_⟩
                              conv => whnf
                              exact ⟨(by first | rfl | (simp only [List.map_cons, List.map_nil, eGExpr_eq]; first | done | rfl)), (by first | rfl | (simp only [List.map_cons, List.map_nil, eGExpr_eq]; first | done | rfl))⟩
                          · conv => whnf
                            obtain ⟨t33, HTt33, H⟩ := bind_some H
                            refine CallG.gen [(1002000, 3), (1002500, 1000001)] [] (by rfl) (IH_slices_ContainsFunc_impl_Expr_impl_Expr_isExpr_1 HTt33) rfl rfl ⟨rfl, ⟨rfl, trivial⟩⟩ trivial rfl rfl rfl rfl rfl rfl rfl rfl rfl ?_
                            obtain rfl := Option.some.inj H
                            conv => whnf
                            refine ⟨_, _, Cover.refl _ _, ?_⟩
                            conv => whnf
                            exact ⟨(by first | rfl | (simp only [List.map_cons, List.map_nil, eGExpr_eq]; first | done | rfl)), (by first | rfl | (simp only [List.map_cons, List.map_nil, eGExpr_eq]; first | done | rfl))⟩
                      · conv => whnf
                        refine BranchG.iteN H (fun HP H => ?_) (fun HP H => ?_)
                        · conv => whnf
                          refine BranchG.iteN H (fun HP H => ?_) (fun HP H => ?_)
                          · obtain rfl := Option.some.inj H
                            conv => whnf
                            refine ⟨_, _, Cover.refl _ _, ?_⟩
                            conv => whnf
                            exact ⟨(by first | rfl | (simp only [List.map_cons, List.map_nil, eGExpr_eq]; first | done | rfl)), (by first | rfl | (simp only [List.map_cons, List.map_nil, eGExpr_eq]; first | done | rfl))⟩
                          · conv => whnf
                            obtain ⟨t34, HTt34, H⟩ := bind_some H
                            refine CallG.gen [(1002000, 3), (1002500, 1000001)] [] (by rfl) (IH_slices_ContainsFunc_impl_Expr_impl_Expr_isExpr_1 HTt34) rfl rfl ⟨rfl, ⟨rfl, trivial⟩⟩ trivial rfl rfl rfl rfl rfl rfl rfl rfl rfl ?_
                            obtain rfl := Option.some.inj H
                            conv => whnf
                            refine ⟨_, _, Cover.refl _ _, ?_⟩
                            conv => whnf
                            exact ⟨(by first | rfl | (simp only [List.map_cons, List.map_nil, eGExpr_eq]; first | done | rfl)), (by first | rfl | (simp only [List.map_cons, List.map_nil, eGExpr_eq]; first | done | rfl))⟩
                        · conv => whnf
                          obtain ⟨t35, HTt35, H⟩ := bind_some H
                          refine CallG.gen [(1002000, 3), (1002500, 1000001)] [] (by rfl) (IH_slices_ContainsFunc_impl_Expr_impl_Expr_isExpr_1 HTt35) rfl rfl ⟨rfl, ⟨rfl, trivial⟩⟩ trivial rfl rfl rfl rfl rfl rfl rfl rfl rfl ?_
                          obtain rfl := Option.some.inj H
                          conv => whnf
                          refine ⟨_, _, Cover.refl _ _, ?_⟩
                          conv => whnf
                          exact ⟨(by first | rfl | (simp only [List.map_cons, List.map_nil, eGExpr_eq]; first | done | rfl)), (by first | rfl | (simp only [List.map_cons, List.map_nil, eGExpr_eq]; first | done | rfl))⟩
                  · conv => whnf
                    refine BranchG.ite H (fun HP H => ?_) (fun HP H => ?_)
                    · conv => whnf
                      refine CallG.pure (by first | rfl | (simp only [argsG, argsK, argG, List.map_cons, List.map_nil, eGExpr_eq]; first | done | rfl)) (impl_within_ok e.Num 0 999999999) ?_
                      conv => whnf
                      refine BranchG.iteBN H (fun HP H => ?_) (fun HP H => ?_)
                      · conv => whnf
                        refine BranchG.iteBN H (fun HP H => ?_) (fun HP H => ?_)
                        · obtain rfl := Option.some.inj H
                          conv => whnf
                          refine ⟨_, _, Cover.refl _ _, ?_⟩
                          conv => whnf
                          exact ⟨(by first | rfl | (simp only [List.map_cons, List.map_nil, eGExpr_eq]; first | done | rfl)), (by first | rfl | (simp only [List.map_cons, List.map_nil, eGExpr_eq]; first | done | rfl))⟩
                        · conv => whnf
                          obtain ⟨t36, HTt36, H⟩ := bind_some H
                          refine CallG.gen [(1002000, 3), (1002500, 1000001)] [] (by rfl) (IH_slices_ContainsFunc_impl_Expr_impl_Expr_isExpr_1 HTt36) rfl rfl ⟨rfl, ⟨rfl, trivial⟩⟩ trivial rfl rfl rfl rfl rfl rfl rfl rfl rfl ?_
                          obtain rfl := Option.some.inj H
                          conv => whnf
                          refine ⟨_, _, Cover.refl _ _, ?_⟩
                          conv => whnf
                          exact ⟨(by first | rfl | (simp only [List.map_cons, List.map_nil, eGExpr_eq]; first | done | rfl)), (by first | rfl | (simp only [List.map_cons, List.map_nil, eGExpr_eq]; first | done | rfl))⟩
                      · conv => whnf
                        refine BranchG.iteN H (fun HP H => ?_) (fun HP H => ?_)
                        · conv => whnf
                          refine BranchG.iteN H (fun HP H => ?_) (fun HP H => ?_)
                          · obtain rfl := Option.some.inj H
                            conv => whnf
                            refine ⟨_, _, Cover.refl _ _, ?_⟩
                            conv => whnf
                            exact ⟨(by first | rfl | (simp only [List.map_cons, List.map_nil, eGExpr_eq]; first | done | rfl)), (by first | rfl | (simp only [List.map_cons, List.map_nil, eGExpr_eq]; first | done | rfl))⟩
                          · conv => whnf
                            obtain ⟨t37, HTt37, H⟩ := bind_some H
                            refine CallG.gen [(1002000, 3), (1002500, 1000001)] [] (by rfl) (IH_slices_ContainsFunc_impl_Expr_impl_Expr_isExpr_1 HTt37) rfl rfl ⟨rfl, ⟨rfl, trivial⟩⟩ trivial rfl rfl rfl rfl rfl rfl rfl rfl rfl ?_
                            obtain rfl := Option.some.inj H
                            conv => whnf
                            refine ⟨_, _, Cover.refl _ _, ?_⟩
                            conv => whnf
                            exact ⟨(by first | rfl | (simp only [List.map_cons, List.map_nil, eGExpr_eq]; first | done | rfl)), (by first | rfl | (simp only [List.map_cons, List.map_nil, eGExpr_eq]; first | done | rfl))⟩
                        · conv => whnf
                          obtain ⟨t38, HTt38, H⟩ := bind_some H
                          refine CallG.gen [(1002000, 3), (1002500, 1000001)] [] (by rfl) (IH_slices_ContainsFunc_impl_Expr_impl_Expr_isExpr_1 HTt38) rfl rfl ⟨rfl, ⟨rfl, trivial⟩⟩ trivial rfl rfl rfl rfl rfl rfl rfl rfl rfl ?_
                          obtain rfl := Option.some.inj H
                          conv => whnf
                          refine ⟨_, _, Cover.refl _ _, ?_⟩
                          conv => whnf
                          exact ⟨(by first | rfl | (simp only [List.map_cons, List.map_nil, eGExpr_eq]; first | done | rfl)), (by first | rfl | (simp only [List.map_cons, List.map_nil, eGExpr_eq]; first | done | rfl))⟩
                    · conv => whnf
                      refine BranchG.iteN H (fun HP H => ?_) (fun HP H => ?_)
                      · conv => whnf
                        refine BranchG.iteN H (fun HP H => ?_) (fun HP H => ?_)
                        · obtain rfl := Option.some.inj H
                          conv => whnf
                          refine ⟨_, _, Cover.refl _ _, ?_⟩
                          conv => whnf
                          exact ⟨(by first | rfl | (simp only [List.map_cons, List.map_nil, eGExpr_eq]; first | done | rfl)), (by first | rfl | (simp only [List.map_cons, List.map_nil, eGExpr_eq]; first | done | rfl))⟩
                        · conv => whnf
                          obtain ⟨t39, HTt39, H⟩ := bind_some H
                          refine CallG.gen [(1002000, 3), (1002500, 1000001)] [] (by rfl) (IH_slices_ContainsFunc_impl_Expr_impl_Expr_isExpr_1 HTt39) rfl rfl ⟨rfl, ⟨rfl, trivial⟩⟩ trivial rfl rfl rfl rfl rfl rfl rfl rfl rfl ?_
                          obtain rfl := Option.some.inj H
                          conv => whnf
                          refine ⟨_, _, Cover.refl _ _, ?_⟩
                          conv => whnf
                          exact ⟨(by first | rfl | (simp only [List.map_cons, List.map_nil, eGExpr_eq]; first | done | rfl)), (by first | rfl | (simp only [List.map_cons, List.map_nil, eGExpr_eq]; first | done | rfl))⟩
                      · conv => whnf
                        obtain ⟨t40, HTt40, H⟩ := bind_some H
                        refine CallG.gen [(1002000, 3), (1002500, 1000001)] [] (by rfl) (IH_slices_ContainsFunc_impl_Expr_impl_Expr_isExpr_1 HTt40) rfl rfl ⟨rfl, ⟨rfl, trivial⟩⟩ trivial rfl rfl rfl rfl rfl rfl rfl rfl rfl ?_
                        obtain rfl := Option.some.inj H
                        conv => whnf
                        refine ⟨_, _, Cover.refl _ _, ?_⟩
                        conv => whnf
                        exact ⟨(by first | rfl | (simp only [List.map_cons, List.map_nil, eGExpr_eq]; first | done | rfl)), (by first | rfl | (simp only [List.map_cons, List.map_nil, eGExpr_eq]; first | done | rfl))⟩
            · conv => whnf
              refine BranchG.ite H (fun HP H => ?_) (fun HP H => ?_)
              · conv => whnf
                refine BranchG.ite H (fun HP H => ?_) (fun HP H => ?_)
                · conv => whnf
                  refine BranchG.ite H (fun HP H => ?_) (fun HP H => ?_)
                  · obtain rfl := Option.some.inj H
                    conv => whnf
                    refine ⟨_, _, Cover.refl _ _, ?_⟩
                    conv => whnf
                    exact ⟨(by first | rfl | (simp only [List.map_cons, List.map_nil, eGExpr_eq]; first | done | rfl)), (by first | rfl | (simp only [List.map_cons, List.map_nil, eGExpr_eq]; first | done | rfl))⟩
                  · conv => whnf
                    refine BranchG.ite H (fun HP H => ?_) (fun HP H => ?_)
                    · conv => whnf
                      refine CallG.pure (by first | rfl | (simp only [argsG, argsK, argG, List.map_cons, List.map_nil, eGExpr_eq]; first | done | rfl)) (impl_within_ok e.Num 0 999999999) ?_
                      conv => whnf
                      refine BranchG.iteBN H (fun HP H => ?_) (fun HP H => ?_)
                      · conv => whnf
                        refine BranchG.iteBN H (fun HP H => ?_) (fun HP H => ?_)
                        · obtain rfl := Option.some.inj H
                          conv => whnf
                          refine ⟨_, _, Cover.refl _ _, ?_⟩
                          conv => whnf
                          exact ⟨(by first | rfl | (simp only [List.map_cons, List.map_nil, eGExpr_eq]; first | done | rfl)), (by first | rfl | (simp only [List.map_cons, List.map_nil, eGExpr_eq]; first | done | rfl))⟩
                        · conv => whnf
                          obtain ⟨t41, HTt41, H⟩ := bind_some H
                          refine CallG.gen [(1002000, 3), (1002500, 1000001)] [] (by rfl) (IH_slices_ContainsFunc_impl_Expr_impl_Expr_isExpr_1 HTt41) rfl rfl ⟨rfl, ⟨rfl, trivial⟩⟩ trivial rfl rfl rfl rfl rfl rfl rfl rfl rfl ?_
                          obtain rfl := Option.some.inj H
                          conv => whnf
                          refine ⟨_, _, Cover.refl _ _, ?_⟩
                          conv => whnf
                          exact ⟨(by first | rfl | (simp only [List.map_cons, List.map_nil, eGExpr_eq]; first | done | rfl)), (by first | rfl | (simp only [List.map_cons, List.map_nil, eGExpr_eq]; first | done | rfl))⟩
                      · conv => whnf
                        refine BranchG.iteN H (fun HP H => ?_) (fun HP H => ?_)
                        · conv => whnf
                          refine BranchG.iteN H (fun HP H => ?_) (fun HP H => ?_)
                          · obtain rfl := Option.some.inj H
                            conv => whnf
                            refine ⟨_, _, Cover.refl _ _, ?_⟩
                            conv => whnf
                            exact ⟨(by first | rfl | (simp only [List.map_cons, List.map_nil, eGExpr_eq]; first | done | rfl)), (by first | rfl | (simp only [List.map_cons, List.map_nil, eGExpr_eq]; first | done | rfl))⟩
                          · conv => whnf
                            obtain ⟨t42, HTt42, H⟩ := bind_some H
                            refine CallG.gen [(1002000, 3), (1002500, 1000001)] [] (by rfl) (IH_slices_ContainsFunc_impl_Expr_impl_Expr_isExpr_1 HTt42) rfl rfl ⟨rfl, ⟨rfl, trivial⟩⟩ trivial rfl rfl rfl rfl rfl rfl rfl rfl rfl ?_
                            obtain rfl := Option.some.inj H
                            conv => whnf
                            refine ⟨_, _, Cover.refl _ _, ?_⟩
                            conv => whnf
                            exact ⟨(by first | rfl | (simp only [List.map_cons, List.map_nil, eGExpr_eq]; first | done | rfl)), (by first | rfl | (simp only [List.map_cons, List.map_nil, eGExpr_eq]; first | done | rfl))⟩
                        · conv => whnf
                          obtain ⟨t43, HTt43, H⟩ := bind_some H
                          refine CallG.gen [(1002000, 3), (1002500, 1000001)] [] (by rfl) (IH_slices_ContainsFunc_impl_Expr_impl_Expr_isExpr_1 HTt43) rfl rfl ⟨rfl, ⟨rfl, trivial⟩⟩ trivial rfl rfl rfl rfl rfl rfl rfl rfl rfl ?_
                          obtain rfl := Option.some.inj H
                          conv => whnf
                          refine ⟨_, _, Cover.refl _ _, ?_⟩
                          conv => whnf
                          exact ⟨(by first | rfl | (simp only [List.map_cons, List.map_nil, eGExpr_eq]; first | done | rfl)), (by first | rfl | (simp only [List.map_cons, List.map_nil, eGExpr_eq]; first | done | rfl))⟩
                    · conv => whnf
                      refine BranchG.iteN H (fun HP H => ?_) (fun HP H => ?_)
                      · conv => whnf
                        refine BranchG.iteN H (fun HP H => ?_) (fun HP H => ?_)
                        · obtain rfl := Option.some.inj H
                          conv => whnf
                          refine ⟨_, _, Cover.refl _ _, ?_⟩
                          conv => whnf
                          exact ⟨(by first | rfl | (simp only [List.map_cons, List.map_nil, eGExpr_eq]; first | done | rfl)), (by first | rfl | (simp only [List.map_cons, List.map_nil, eGExpr_eq]; first | done | rfl))⟩
                        · conv => whnf
                          obtain ⟨t44, HTt44, H⟩ := bind_some H
                          refine CallG.gen [(1002000, 3), (1002500, 1000001)] [] (by rfl) (IH_slices_ContainsFunc_impl_Expr_impl_Expr_isExpr_1 HTt44) rfl rfl ⟨rfl, ⟨rfl, trivial⟩⟩ trivial rfl rfl rfl rfl rfl rfl rfl rfl rfl ?_
                          obtain rfl := Option.some.inj H
                          conv => whnf
                          refine ⟨_, _, Cover.refl _ _, ?_⟩
                          conv => whnf
                          exact ⟨(by first | rfl | (simp only [List.map_cons, List.map_nil, eGExpr_eq]; first | done | rfl)), (by first | rfl | (simp only [List.map_cons, List.map_nil, eGExpr_eq]; first | done | rfl))⟩
                      · conv => whnf
                        obtain ⟨t45, HTt45, H⟩ := bind_some H
                        refine CallG.gen [(1002000, 3), (1002500, 1000001)] [] (by rfl) (IH_slices_ContainsFunc_impl_Expr_impl_Expr_isExpr_1 HTt45) rfl rfl ⟨rfl, ⟨rfl, trivial⟩⟩ trivial rfl rfl rfl rfl rfl rfl rfl rfl rfl ?_
                        obtain rfl := Option.some.inj H
                        conv => whnf
                        refine ⟨_, _, Cover.refl _ _, ?_⟩
                        conv => whnf
                        exact ⟨(by first | rfl | (simp only [List.map_cons, List.map_nil, eGExpr_eq]; first | done | rfl)), (by first | rfl | (simp only [List.map_cons, List.map_nil, eGExpr_eq]; first | done | rfl))⟩
                · conv => whnf
                  refine BranchG.iteN H (fun HP H => ?_) (fun HP H => ?_)
                  · conv => whnf
                    refine BranchG.iteN H (fun HP H => ?_) (fun HP H => ?_)
                    · conv => whnf
                      refine BranchG.iteN H (fun HP H => ?_) (fun HP H => ?_)
                      · obtain rfl := Option.some.inj H
                        conv => whnf
                        refine ⟨_, _, Cover.refl _ _, ?_⟩
                        conv => whnf
                        exact ⟨(by first | rfl | (simp only [List.map_cons, List.map_nil, eGExpr_eq]; first | done | rfl)), (by first | rfl | (simp only [List.map_cons, List.map_nil, eGExpr_eq]; first | done | rfl))⟩
                      · conv => whnf
                        refine BranchG.ite H (fun HP H => ?_) (fun HP H => ?_)
                        · conv => whnf
                          refine CallG.pure (by first | rfl | (simp only [argsG, argsK, argG, List.map_cons, List.map_nil, eGExpr_eq]; first | done | rfl)) (impl_within_ok e.Num 0 999999999) ?_
                          conv => whnf
                          refine BranchG.iteBN H (fun HP H => ?_) (fun HP H => ?_)
                          · conv => whnf
                            refine BranchG.iteBN H (fun HP H => ?_) (fun HP H => ?_)
                            · obtain rfl := Option.some.inj H
                              conv => whnf
                              refine ⟨_, _, Cover.refl _ _, ?_⟩
                              conv => whnf
                              exact ⟨(by first | rfl | (simp only [List.map_cons, List.map_nil, eGExpr_eq]; first | done | rfl)), (by first | rfl | (simp only [List.map_cons, List.map_nil, eGExpr_eq]; first | done | rfl))⟩
                            · conv => whnf
                              obtain ⟨t46, HTt46, H⟩ := bind_some H
                              refine CallG.gen [(1002000, 3), (1002500, 1000001)] [] (by rfl) (IH_slices_ContainsFunc_impl_Expr_impl_Expr_isExpr_1 HTt46) rfl rfl ⟨rfl, ⟨rfl, trivial⟩⟩ trivial rfl rfl rfl rfl rfl rfl rfl rfl rfl ?_
                              obtain rfl := Option.some.inj H
                              conv => whnf
                              refine ⟨_, _, Cover.refl _ _, ?_⟩
                              conv => whnf
                              exact ⟨(by first | rfl | (simp only [List.map_cons, List.map_nil, eGExpr_eq]; first | done | rfl)), (by first | rfl | (simp only [List.map_cons, List.map_nil, eGExpr_eq]; first | done | rfl))⟩
                          · conv => whnf
                            refine BranchG.iteN H (fun HP H => ?_) (fun HP H => ?_)
                            · conv => whnf
                              refine BranchG.iteN H (fun HP H => ?_) (fun HP H => ?_)
                              · obtain rfl := Option.some.inj H
                                conv => whnf
                                refine ⟨_, _, Cover.refl _ _, ?_⟩
                                conv => whnf
                                exact ⟨(by first | rfl | (simp only [List.map_cons, List.map_nil, eGExpr_eq]; first | done | rfl)), (by first | rfl | (simp only [List.map_cons, List.map_nil, eGExpr_eq]; first | done | rfl))⟩
                              · conv => whnf
                                obtain ⟨t47, HTt47, H⟩ := bind_some H
                                refine CallG.gen [(1002000, 3), (1002500, 1000001)] [] (by rfl) (IH_slices_ContainsFunc_impl_Expr_impl_Expr_isExpr_1 HTt47) rfl rfl ⟨rfl, ⟨rfl, trivial⟩⟩ trivial rfl rfl rfl rfl rfl rfl rfl rfl rfl ?_
                                obtain rfl := Option.some.inj H
                                conv => whnf
                                refine ⟨_, _, Cover.refl _ _, ?_⟩
                                conv => whnf
                                exact ⟨(by first | rfl | (simp only [List.map_cons, List.map_nil, eGExpr_eq]; first | done | rfl)), (by first | rfl | (simp only [List.map_cons, List.map_nil, eGExpr_eq]; first | done | rfl))⟩
                            · conv => whnf
                              obtain ⟨t48, HTt48, H⟩ := bind_some H
                              refine CallG.gen [(1002000, 3), (1002500, 1000001)] [] (by rfl) (IH_slices_ContainsFunc_impl_Expr_impl_Expr_isExpr_1 HTt48) rfl rfl ⟨rfl, ⟨rfl, trivial⟩⟩ trivial rfl rfl rfl rfl rfl rfl rfl rfl rfl ?_
                              obtain rfl := Option.some.inj H
                              conv => whnf
                              refine ⟨_, _, Cover.refl _ _, ?_⟩
                              conv => whnf
                              exact ⟨(by first | rfl | (simp only [List.map_cons, List.map_nil, eGExpr_eq]; first | done | rfl)), (by first | rfl | (simp only [List.map_cons, List.map_nil, eGExpr_eq]; first | done | rfl))⟩
                        · conv => whnf
                          refine BranchG.iteN H (fun HP H => ?_) (fun HP H => ?_)
                          · conv => whnf
                            refine BranchG.iteN H (fun HP H => ?_) (fun HP H => ?_)
                            · obtain rfl := Option.some.inj H
                              conv => whnf
                              refine ⟨_, _, Cover.refl _ _, ?_⟩
                              conv => whnf
                              exact ⟨(by first | rfl | (simp only [List.map_cons, List.map_nil, eGExpr_eq]; first | done | rfl)), (by first | rfl | (simp only [List.map_cons, List.map_nil, eGExpr_eq]; first | done | rfl))⟩
                            · conv => whnf
                              obtain ⟨t49, HTt49, H⟩ := bind_some H
                              refine CallG.gen [(1002000, 3), (1002500, 1000001)] [] (by rfl) (IH_slices_ContainsFunc_impl_Expr_impl_Expr_isExpr_1 HTt49) rfl rfl ⟨rfl, ⟨rfl, trivial⟩⟩ trivial rfl rfl rfl rfl rfl rfl rfl rfl rfl ?_
                              obtain rfl := Option.some.inj H
                              conv => whnf
                              refine ⟨_, _, Cover.refl _ _, ?_⟩
                              conv => whnf
                              exact ⟨(by first | rfl | (simp only [List.map_cons, List.map_nil, eGExpr_eq]; first | done | rfl)), (by first | rfl | (simp only [List.map_cons, List.map_nil, eGExpr_eq]; first | done | rfl))⟩
                          · conv => whnf
                            obtain ⟨t50, HTt50, H⟩ := bind_some H
                            refine CallG.gen [(1002000, 3), (1002500, 1000001)] [] (by rfl) (IH_slices_ContainsFunc_impl_Expr_impl_Expr_isExpr_1 HTt50) rfl rfl ⟨rfl, ⟨rfl, trivial⟩⟩ trivial rfl rfl rfl rfl rfl rfl rfl rfl rfl ?_
                            obtain rfl := Option.some.inj H
                            conv => whnf
                            refine ⟨_, _, Cover.refl _ _, ?_⟩
                            conv => whnf
                            exact ⟨(by first | rfl | (simp only [List.map_cons, List.map_nil, eGExpr_eq]; first | done | rfl)), (by first | rfl | (simp only [List.map_cons, List.map_nil, eGExpr_eq]; first | done | rfl))⟩
                    · conv => whnf
                      refine BranchG.ite H (fun HP H => ?_) (fun HP H => ?_)
                      · conv => whnf
                        refine CallG.pure (by first | rfl | (simp only [argsG, argsK, argG, List.map_cons, List.map_nil, eGExpr_eq]; first | done | rfl)) (impl_within_ok e.Num 0 999999999) ?_
                        conv => whnf
                        refine BranchG.iteBN H (fun HP H => ?_) (fun HP H => ?_)
                        · conv => whnf
                          refine BranchG.iteBN H (fun HP H => ?_) (fun HP H => ?_)
                          · obtain rfl := Option.some.inj H
                            conv => whnf
                            refine ⟨_, _, Cover.refl _ _, ?_⟩
                            conv => whnf
                            exact ⟨(by first | rfl | (simp only [List.map_cons, List.map_nil, eGExpr_eq]; first | done | rfl)), (by first | rfl | (simp only [List.map_cons, List.map_nil, eGExpr_eq]; first | done | rfl))⟩
                          · conv => whnf
                            obtain ⟨t51, HTt51, H⟩ := bind_some H
                            refine CallG.gen [(1002000, 3), (1002500, 1000001)] [] (by rfl) (IH_slices_ContainsFunc_impl_Expr_impl_Expr_isExpr_1 HTt51) rfl rfl ⟨rfl, ⟨rfl, trivial⟩⟩ trivial rfl rfl rfl rfl rfl rfl rfl rfl rfl ?_
                            obtain rfl := Option.some.inj H
                            conv => whnf
                            refine ⟨_, _, Cover.refl _ _, ?_⟩
                            conv => whnf
                            exact ⟨(by first | rfl | (simp only [List.map_cons, List.map_nil, eGExpr_eq]; first | done | rfl)), (by first | rfl | (simp only [List.map_cons, List.map_nil, eGExpr_eq]; first | done | rfl))⟩
                        · conv => whnf
                          refine BranchG.iteN H (fun HP H => ?_) (fun HP H => ?_)
                          · conv => whnf
                            refine BranchG.iteN H (fun HP H => ?_) (fun HP H => ?_)
                            · obtain rfl := Option.some.inj H
                              conv => whnf
                              refine ⟨_, _, Cover.refl _ _, ?_⟩
                              conv => whnf
                              exact ⟨(by first | rfl | (simp only [List.map_cons, List.map_nil, eGExpr_eq]; first | done | rfl)), (by first | rfl | (simp only [List.map_cons, List.map_nil, eGExpr_eq]; first | done | rfl))⟩
                            · conv => whnf
                              obtain ⟨t52, HTt52, H⟩ := bind_some H
                              refine CallG.gen [(1002000, 3), (1002500, 1000001)] [] (by rfl) (IH_slices_ContainsFunc_impl_Expr_impl_Expr_isExpr_1 HTt52) rfl rfl ⟨rfl, ⟨rfl, trivial⟩⟩ trivial rfl rfl rfl rfl rfl rfl rfl rfl rfl ?_
                              obtain rfl := Option.some.inj H
                              conv => whnf
                              refine ⟨_, _, Cover.refl _ _, ?_⟩
                              conv => whnf
                              exact ⟨(by first | rfl | (simp only [List.map_cons, List.map_nil, eGExpr_eq]; first | done | rfl)), (by first | rfl | (simp only [List.map_cons, List.map_nil, eGExpr_eq]; first | done | rfl))⟩
                          · conv => whnf
                            obtain ⟨t53, HTt53, H⟩ := bind_some H
                            refine CallG.gen [(1002000, 3), (1002500, 1000001)] [] (by rfl) (IH_slices_ContainsFunc_impl_Expr_impl_Expr_isExpr_1 HTt53) rfl rfl ⟨rfl, ⟨rfl, trivial⟩⟩ trivial rfl rfl rfl rfl rfl rfl rfl rfl rfl ?_
                            obtain rfl := Option.some.inj H
                            conv => whnf
                            refine ⟨_, _, Cover.refl _ _, ?_⟩
                            conv => whnf
                            exact ⟨(by first | rfl | (simp only [List.map_cons, List.map_nil, eGExpr_eq]; first | done | rfl)), (by first | rfl | (simp only [List.map_cons, List.map_nil, eGExpr_eq]; first | done | rfl))⟩
                      · conv => whnf
                        refine BranchG.iteN H (fun HP H => ?_) (fun HP H => ?_)
                        · conv => whnf
                          refine BranchG.iteN H (fun HP H => ?_) (fun HP H => ?_)
                          · obtain rfl := Option.some.inj H
                            conv => whnf
                            refine ⟨_, _, Cover.refl _ _, ?_⟩
                            conv => whnf
                            exact ⟨(by first | rfl | (simp only [List.map_cons, List.map_nil, eGExpr_eq]; first | done | rfl)), (by first | rfl | (simp only [List.map_cons, List.map_nil, eGExpr_eq]; first | done | rfl))⟩
                          · conv => whnf
                            obtain ⟨t54, HTt54, H⟩ := bind_some H
                            refine CallG.gen [(1002000, 3), (1002500, 1000001)] [] (by rfl) (IH_slices_ContainsFunc_impl_Expr_impl_Expr_isExpr_1 HTt54) rfl rfl ⟨rfl, ⟨rfl, trivial⟩⟩ trivial rfl rfl rfl rfl rfl rfl rfl rfl rfl ?_
                            obtain rfl := Option.some.inj H
                            conv => whnf
                            refine ⟨_, _, Cover.refl _ _, ?_⟩
                            conv => whnf
                            exact ⟨(by first | rfl | (simp only [List.map_cons, List.map_nil, eGExpr_eq]; first | done | rfl)), (by first | rfl | (simp only [List.map_cons, List.map_nil, eGExpr_eq]; first | done | rfl))⟩
                        · conv => whnf
                          obtain ⟨t55, HTt55, H⟩ := bind_some H
                          refine CallG.gen [(1002000, 3), (1002500, 1000001)] [] (by rfl) (IH_slices_ContainsFunc_impl_Expr_impl_Expr_isExpr_1 HTt55) rfl rfl ⟨rfl, ⟨rfl, trivial⟩⟩ trivial rfl rfl rfl rfl rfl rfl rfl rfl rfl ?_
                          obtain rfl := Option.some.inj H
                          conv => whnf
                          refine ⟨_, _, Cover.refl _ _, ?_⟩
                          conv => whnf
                          exact ⟨(by first | rfl | (simp only [List.map_cons, List.map_nil, eGExpr_eq]; first | done | rfl)), (by first | rfl | (simp only [List.map_cons, List.map_nil, eGExpr_eq]; first | done | rfl))⟩
                  · conv => whnf
                    refine BranchG.ite H (fun HP H => ?_) (fun HP H => ?_)
                    · conv => whnf
                      refine CallG.pure (by first | rfl | (simp only [argsG, argsK, argG, List.map_cons, List.map_nil, eGExpr_eq]; first | done | rfl)) (impl_within_ok e.Num 0 999999999) ?_
                      conv => whnf
                      refine BranchG.iteBN H (fun HP H => ?_) (fun HP H => ?_)
                      · conv => whnf
                        refine BranchG.iteBN H (fun HP H => ?_) (fun HP H => ?_)
                        · obtain rfl := Option.some.inj H
                          conv => whnf
                          refine ⟨_, _, Cover.refl _ _, ?_⟩
                          conv => whnf
                          exact ⟨(by first | rfl | (simp only [List.map_cons, List.map_nil, eGExpr_eq]; first | done | rfl)), (by first | rfl | (simp only [List.map_cons, List.map_nil, eGExpr_eq]; first | done | rfl))⟩
                        · conv => whnf
                          obtain ⟨t56, HTt56, H⟩ := bind_some H
                          refine CallG.gen [(1002000, 3), (1002500, 1000001)] [] (by rfl) (IH_slices_ContainsFunc_impl_Expr_impl_Expr_isExpr_1 HTt56) rfl rfl ⟨rfl, ⟨rfl, trivial⟩⟩ trivial rfl rfl rfl rfl rfl rfl rfl rfl rfl ?_
                          obtain rfl := Option.some.inj H
                          conv => whnf
                          refine ⟨_, _, Cover.refl _ _, ?_⟩
                          conv => whnf
                          exact ⟨(by first | rfl | (simp only [List.map_cons, List.map_nil, eGExpr_eq]; first | done | rfl)), (by first | rfl | (simp only [List.map_cons, List.map_nil, eGExpr_eq]; first | done | rfl))⟩
                      · conv => whnf
                        refine BranchG.iteN H (fun HP H => ?_) (fun HP H => ?_)
                        · conv => whnf
                          refine BranchG.iteN H (fun HP H => ?_) (fun HP H => ?_)
                          · obtain rfl := Option.some.inj H
                            conv => whnf
                            refine ⟨_, _, Cover.refl _ _, ?_⟩
                            conv => whnf
                            exact ⟨(by first | rfl | (simp only [List.map_cons, List.map_nil, eGExpr_eq]; first | done | rfl)), (by first | rfl | (simp only [List.map_cons, List.map_nil, eGExpr_eq]; first | done | rfl))⟩
                          · conv => whnf
                            obtain ⟨t57, HTt57, H⟩ := bind_some H
                            refine CallG.gen [(1002000, 3), (1002500, 1000001)] [] (by rfl) (IH_slices_ContainsFunc_impl_Expr_impl_Expr_isExpr_1 HTt57) rfl rfl ⟨rfl, ⟨rfl, trivial⟩⟩ trivial rfl rfl rfl rfl rfl rfl rfl rfl rfl ?_
                            obtain rfl := Option.some.inj H
                            conv => whnf
                            refine ⟨_, _, Cover.refl _ _, ?_⟩
                            conv => whnf
                            exact ⟨(by first | rfl | (simp only [List.map_cons, List.map_nil, eGExpr_eq]; first | done | rfl)), (by first | rfl | (simp only [List.map_cons, List.map_nil, eGExpr_eq]; first | done | rfl))⟩
                        · conv => whnf
                          obtain ⟨t58, HTt58, H⟩ := bind_some H
                          refine CallG.gen [(1002000, 3), (1002500, 1000001)] [] (by rfl) (IH_slices_ContainsFunc_impl_Expr_impl_Expr_isExpr_1 HTt58) rfl rfl ⟨rfl, ⟨rfl, trivial⟩⟩ trivial rfl rfl rfl rfl rfl rfl rfl rfl rfl ?_
                          obtain rfl := Option.some.inj H
                          conv => whnf
                          refine ⟨_, _, Cover.refl _ _, ?_⟩
                          conv => whnf
                          exact ⟨(by first | rfl | (simp only [List.map_cons, List.map_nil, eGExpr_eq]; first | done | rfl)), (by first | rfl | (simp only [List.map_cons, List.map_nil, eGExpr_eq]; first | done | rfl))⟩
                    · conv => whnf
                      refine BranchG.iteN H (fun HP H => ?_) (fun HP H => ?_)
                      · conv => whnf
                        refine BranchG.iteN H (fun HP H => ?_) (fun HP H => ?_)
                        · obtain rfl := Option.some.inj H
                          conv => whnf
                          refine ⟨_, _, Cover.refl _ _, ?_⟩
                          conv => whnf
                          exact ⟨(by first | rfl | (simp only [List.map_cons, List.map_nil, eGExpr_eq]; first | done | rfl)), (by first | rfl | (simp only [List.map_cons, List.map_nil, eGExpr_eq]; first | done | rfl))⟩
                        · conv => whnf
                          obtain ⟨t59, HTt59, H⟩ := bind_some H
                          refine CallG.gen [(1002000, 3), (1002500, 1000001)] [] (by rfl) (IH_slices_ContainsFunc_impl_Expr_impl_Expr_isExpr_1 HTt59) rfl rfl ⟨rfl, ⟨rfl, trivial⟩⟩ trivial rfl rfl rfl rfl rfl rfl rfl rfl rfl ?_
                          obtain rfl := Option.some.inj H
                          conv => whnf
                          refine ⟨_, _, Cover.refl _ _, ?_⟩
                          conv => whnf
                          exact ⟨(by first | rfl | (simp only [List.map_cons, List.map_nil, eGExpr_eq]; first | done | rfl)), (by first | rfl | (simp only [List.map_cons, List.map_nil, eGExpr_eq]; first | done | rfl))⟩
                      · conv => whnf
                        obtain ⟨t60, HTt60, H⟩ := bind_some H
                        refine CallG.gen [(1002000, 3), (1002500, 1000001)] [] (by rfl) (IH_slices_ContainsFunc_impl_Expr_impl_Expr_isExpr_1 HTt60) rfl rfl ⟨rfl, ⟨rfl, trivial⟩⟩ trivial rfl rfl rfl rfl rfl rfl rfl rfl rfl ?_
                        obtain rfl := Option.some.inj H
                        conv => whnf
                        refine ⟨_, _, Cover.refl _ _, ?_⟩
                        conv => whnf
                        exact ⟨(by first | rfl | (simp only [List.map_cons, List.map_nil, eGExpr_eq]; first | done | rfl)), (by first | rfl | (simp only [List.map_cons, List.map_nil, eGExpr_eq]; first | done | rfl))⟩
              · conv => whnf
                refine BranchG.iteN H (fun HP H => ?_) (fun HP H => ?_)
                · conv => whnf
                  refine BranchG.iteN H (fun HP H => ?_) (fun HP H => ?_)
                  · conv => whnf
                    refine BranchG.iteN H (fun HP H => ?_) (fun HP H => ?_)
                    · obtain rfl := Option.some.inj H
                      conv => whnf
                      refine ⟨_, _, Cover.refl _ _, ?_⟩
                      conv => whnf
                      exact ⟨(by first | rfl | (simp only [List.map_cons, List.map_nil, eGExpr_eq]; first | done | rfl)), (by first | rfl | (simp only [List.map_cons, List.map_nil, eGExpr_eq]; first | done | rfl))⟩
                    · conv => whnf
                      refine BranchG.ite H (fun HP H => ?_) (fun HP H => ?_)
                      · conv => whnf
                        refine CallG.pure (by first | rfl | (simp only [argsG, argsK, argG, List.map_cons, List.map_nil, eGExpr_eq]; first | done | rfl)) (impl_within_ok e.Num 0 999999999) ?_
                        conv => whnf
                        refine BranchG.iteBN H (fun HP H => ?_) (fun HP H => ?_)
                        · conv => whnf
                          refine BranchG.iteBN H (fun HP H => ?_) (fun HP H => ?_)
                          · obtain rfl := Option.some.inj H
                            conv => whnf
                            refine ⟨_, _, Cover.refl _ _, ?_⟩
                            conv => whnf
                            exact ⟨(by first | rfl | (simp only [List.map_cons, List.map_nil, eGExpr_eq]; first | done | rfl)), (by first | rfl | (simp only [List.map_cons, List.map_nil, eGExpr_eq]; first | done | rfl))⟩
                          · conv => whnf
                            obtain ⟨t61, HTt61, H⟩ := bind_some H
                            refine CallG.gen [(1002000, 3), (1002500, 1000001)] [] (by rfl) (IH_slices_ContainsFunc_impl_Expr_impl_Expr_isExpr_1 HTt61) rfl rfl ⟨rfl, ⟨rfl, trivial⟩⟩ trivial rfl rfl rfl rfl rfl rfl rfl rfl rfl ?_
                            obtain rfl := Option.some.inj H
                            conv => whnf
                            refine ⟨_, _, Cover.refl _ _, ?_⟩
                            conv => whnf
                            exact ⟨(by first | rfl | (simp only [List.map_cons, List.map_nil, eGExpr_eq]; first | done | rfl)), (by first | rfl | (simp only [List.map_cons, List.map_nil, eGExpr_eq]; first | done | rfl))⟩
                        · conv => whnf
                          refine BranchG.iteN H (fun HP H => ?_) (fun HP H => ?_)
                          · conv => whnf
                            refine BranchG.iteN H (fun HP H => ?_) (fun HP H => ?_)
                            · obtain rfl := Option.some.inj H
                              conv => whnf
                              refine ⟨_, _, Cover.refl _ _, ?_⟩
                              conv => whnf
                              exact ⟨(by first | rfl | (simp only [List.map_cons, List.map_nil, eGExpr_eq]; first | done | rfl)), (by first | rfl | (simp only [List.map_cons, List.map_nil, eGExpr_eq]; first | done | rfl))⟩
                            · conv => whnf
                              obtain ⟨t62, HTt62, H⟩ := bind_some H
                              refine CallG.gen [(1002000, 3), (1002500, 1000001)] [] (by rfl) (IH_slices_ContainsFunc_impl_Expr_impl_Expr_isExpr_1 HTt62) rfl rfl ⟨rfl, ⟨rfl, trivial⟩⟩ trivial rfl rfl rfl rfl rfl rfl rfl rfl rfl ?_
                              obtain rfl := Option.some.inj H
                              conv => whnf
                              refine ⟨_, _, Cover.refl _ _, ?_⟩
                              conv => whnf
                              exact ⟨(by first | rfl | (simp only [List.map_cons, List.map_nil, eGExpr_eq]; first | done | rfl)), (by first | rfl | (simp only [List.map_cons, List.map_nil, eGExpr_eq]; first | done | rfl))⟩
                          · conv => whnf
                            obtain ⟨t63, HTt63, H⟩ := bind_some H
                            refine CallG.gen [(1002000, 3), (1002500, 1000001)] [] (by rfl) (IH_slices_ContainsFunc_impl_Expr_impl_Expr_isExpr_1 HTt63) rfl rfl ⟨rfl, ⟨rfl, trivial⟩⟩ trivial rfl rfl rfl rfl rfl rfl rfl rfl rfl ?_
                            obtain rfl := Option.some.inj H
                            conv => whnf
                            refine ⟨_, _, Cover.refl _ _, ?_⟩
                            conv => whnf
                            exact ⟨(by first | rfl | (simp only [List.map_cons, List.map_nil, eGExpr_eq]; first | done | rfl)), (by first | rfl | (simp only [List.map_cons, List.map_nil, eGExpr_eq]; first | done | rfl))⟩
                      · conv => whnf
                        refine BranchG.iteN H (fun HP H => ?_) (fun HP H => ?_)
                        · conv => whnf
                          refine BranchG.iteN H (fun HP H => ?_) (fun HP H => ?_)
                          · obtain rfl := Option.some.inj H
                            conv => whnf
                            refine ⟨_, _, Cover.refl _ _, ?_⟩
                            conv => whnf
                            exact ⟨(by first | rfl | (simp only [List.map_cons, List.map_nil, eGExpr_eq]; first | done | rfl)), (by first | rfl | (simp only [List.map_cons, List.map_nil, eGExpr_eq]; first | done | rfl))⟩
                          · conv => whnf
                            obtain ⟨t64, HTt64, H⟩ := bind_some H
                            refine CallG.gen [(1002000, 3), (1002500, 1000001)] [] (by rfl) (IH_slices_ContainsFunc_impl_Expr_impl_Expr_isExpr_1 HTt64) rfl rfl ⟨rfl, ⟨rfl, trivial⟩⟩ trivial rfl rfl rfl rfl rfl rfl rfl rfl rfl ?_
                            obtain rfl := Option.some.inj H
                            conv => whnf
                            refine ⟨_, _, Cover.refl _ _, ?_⟩
                            conv => whnf
                            exact ⟨(by first | rfl | (simp only [List.map_cons, List.map_nil, eGExpr_eq]; first | done | rfl)), (by first | rfl | (simp only [List.map_cons, List.map_nil, eGExpr_eq]; first | done | rfl))⟩
                        · conv => whnf
                          obtain ⟨t65, HTt65, H⟩ := bind_some H
                          refine CallG.gen [(1002000, 3), (1002500, 1000001)] [] (by rfl) (IH_slices_ContainsFunc_impl_Expr_impl_Expr_isExpr_1 HTt65) rfl rfl ⟨rfl, ⟨rfl, trivial⟩⟩ trivial rfl rfl rfl rfl rfl rfl rfl rfl rfl ?_
                          obtain rfl := Option.some.inj H
                          conv => whnf
                          refine ⟨_, _, Cover.refl _ _, ?_⟩
                          conv => whnf
                          exact ⟨(by first | rfl | (simp only [List.map_cons, List.map_nil, eGExpr_eq]; first | done | rfl)), (by first | rfl | (simp only [List.map_cons, List.map_nil, eGExpr_eq]; first | done | rfl))⟩
                  · conv => whnf
                    refine BranchG.ite H (fun HP H => ?_) (fun HP H => ?_)
                    · conv => whnf
                      refine CallG.pure (by first | rfl | (simp only [argsG, argsK, argG, List.map_cons, List.map_nil, eGExpr_eq]; first | done | rfl)) (impl_within_ok e.Num 0 999999999) ?_
                      conv => whnf
                      refine BranchG.iteBN H (fun HP H => ?_) (fun HP H => ?_)
                      · conv => whnf
                        refine BranchG.iteBN H (fun HP H => ?_) (fun HP H => ?_)
                        · obtain rfl := Option.some.inj H
                          conv => whnf
                          refine ⟨_, _, Cover.refl _ _, ?_⟩
                          conv => whnf
                          exact ⟨(by first | rfl | (simp only [List.map_cons, List.map_nil, eGExpr_eq]; first | done | rfl)), (by first | rfl | (simp only [List.map_cons, List.map_nil, eGExpr_eq]; first | done | rfl))⟩
                        · conv => whnf
                          obtain ⟨t66, HTt66, H⟩ := bind_some H
                          refine CallG.gen [(1002000, 3), (1002500, 1000001)] [] (by rfl) (IH_slices_ContainsFunc_impl_Expr_impl_Expr_isExpr_1 HTt66) rfl rfl ⟨rfl, ⟨rfl, trivial⟩⟩ trivial rfl rfl rfl rfl rfl rfl rfl rfl rfl ?_
                          obtain rfl := Option.some.inj H
                          conv => whnf
                          refine ⟨_, _, Cover.refl _ _, ?_⟩
                          conv => whnf
                          exact ⟨(by first | rfl | (simp only [List.map_cons, List.map_nil, eGExpr_eq]; first | done | rfl)), (by first | rfl | (simp only [List.map_cons, List.map_nil, eGExpr_eq]; first | done | rfl))⟩
                      · conv => whnf
                        refine BranchG.iteN H (fun HP H => ?_) (fun HP H => ?_)
                        · conv => whnf
                          refine BranchG.iteN H (fun HP H => ?_) (fun HP H => ?_)
                          · obtain rfl := Option.some.inj H
                            conv => whnf
                            refine ⟨_, _, Cover.refl _ _, ?_⟩
                            conv => whnf
                            exact ⟨(by first | rfl | (simp only [List.map_cons, List.map_nil, eGExpr_eq]; first | done | rfl)), (by first | rfl | (simp only [List.map_cons, List.map_nil, eGExpr_eq]; first | done | rfl))⟩
                          · conv => whnf
                            obtain ⟨t67, HTt67, H⟩ := bind_some H
                            refine CallG.gen [(1002000, 3), (1002500, 1000001)] [] (by rfl) (IH_slices_ContainsFunc_impl_Expr_impl_Expr_isExpr_1 HTt67) rfl rfl ⟨rfl, ⟨rfl, trivial⟩⟩ trivial rfl rfl rfl rfl rfl rfl rfl rfl rfl ?_
                            obtain rfl := Option.some.inj H
                            conv => whnf
                            refine ⟨_, _, Cover.refl _ _, ?_⟩
                            conv => whnf
                            exact ⟨(by first | rfl | (simp only [List.map_cons, List.map_nil, eGExpr_eq]; first | done | rfl)), (by first | rfl | (simp only [List.map_cons, List.map_nil, eGExpr_eq]; first | done | rfl))⟩
                        · conv => whnf
                          obtain ⟨t68, HTt68, H⟩ := bind_some H
                          refine CallG.gen [(1002000, 3), (1002500, 1000001)] [] (by rfl) (IH_slices_ContainsFunc_impl_Expr_impl_Expr_isExpr_1 HTt68) rfl rfl ⟨rfl, ⟨rfl, trivial⟩⟩ trivial rfl rfl rfl rfl rfl rfl rfl rfl rfl ?_
                          obtain rfl := Option.some.inj H
                          conv => whnf
                          refine ⟨_, _, Cover.refl _ _, ?_⟩
                          conv => whnf
                          exact ⟨(by first | rfl | (simp only [List.map_cons, List.map_nil, eGExpr_eq]; first | done | rfl)), (by first | rfl | (simp only [List.map_cons, List.map_nil, eGExpr_eq]; first | done | rfl))⟩
                    · conv => whnf
                      refine BranchG.iteN H (fun HP H => ?_) (fun HP H => ?_)
                      · conv => whnf
                        refine BranchG.iteN H (fun HP H => ?_) (fun HP H => ?_)
                        · obtain rfl := Option.some.inj H
                          conv => whnf
                          refine ⟨_, _, Cover.refl _ _, ?_⟩
                          conv => whnf
                          exact ⟨(by first | rfl | (simp only [List.map_cons, List.map_nil, eGExpr_eq]; first | done | rfl)), (by first | rfl | (simp only [List.map_cons, List.map_nil, eGExpr_eq]; first | done | rfl))⟩
                        · conv => whnf
                          obtain ⟨t69, HTt69, H⟩ := bind_some H
                          refine CallG.gen [(1002000, 3), (1002500, 1000001)] [] (by rfl) (IH_slices_ContainsFunc_impl_Expr_impl_Expr_isExpr_1 HTt69) rfl rfl ⟨rfl, ⟨rfl, trivial⟩⟩ trivial rfl rfl rfl rfl rfl rfl rfl rfl rfl ?_
                          obtain rfl := Option.some.inj H
                          conv => whnf
                          refine ⟨_, _, Cover.refl _ _, ?_⟩
                          conv => whnf
                          exact ⟨(by first | rfl | (simp only [List.map_cons, List.map_nil, eGExpr_eq]; first | done | rfl)), (by first | rfl | (simp only [List.map_cons, List.map_nil, eGExpr_eq]; first | done | rfl))⟩
                      · conv => whnf
                        obtain ⟨t70, HTt70, H⟩ := bind_some H
                        refine CallG.gen [(1002000, 3), (1002500, 1000001)] [] (by rfl) (IH_slices_ContainsFunc_impl_Expr_impl_Expr_isExpr_1 HTt70) rfl rfl ⟨rfl, ⟨rfl, trivial⟩⟩ trivial rfl rfl rfl rfl rfl rfl rfl rfl rfl ?_
                        obtain rfl := Option.some.inj H
                        conv => whnf
                        refine ⟨_, _, Cover.refl _ _, ?_⟩
                        conv => whnf
                        exact ⟨(by first | rfl | (simp only [List.map_cons, List.map_nil, eGExpr_eq]; first | done | rfl)), (by first | rfl | (simp only [List.map_cons, List.map_nil, eGExpr_eq]; first | done | rfl))⟩
                · conv => whnf
                  refine BranchG.ite H (fun HP H => ?_) (fun HP H => ?_)
                  · conv => whnf
                    refine CallG.pure (by first | rfl | (simp only [argsG, argsK, argG, List.map_cons, List.map_nil, eGExpr_eq]; first | done | rfl)) (impl_within_ok e.Num 0 999999999) ?_
                    conv => whnf
                    refine BranchG.iteBN H (fun HP H => ?_) (fun HP H => ?_)
                    · conv => whnf
                      refine BranchG.iteBN H (fun HP H => ?_) (fun HP H => ?_)
                      · obtain rfl := Option.some.inj H
                        conv => whnf
                        refine ⟨_, _, Cover.refl _ _, ?_⟩
                        conv => whnf
                        exact ⟨(by first | rfl | (simp only [List.map_cons, List.map_nil, eGExpr_eq]; first | done | rfl)), (by first | rfl | (simp only [List.map_cons, List.map_nil, eGExpr_eq]; first | done | rfl))⟩
                      · conv => whnf
                        obtain ⟨t71, HTt71, H⟩ := bind_some H
                        refine CallG.gen [(1002000, 3), (1002500, 1000001)] [] (by rfl) (IH_slices_ContainsFunc_impl_Expr_impl_Expr_isExpr_1 HTt71) rfl rfl ⟨rfl, ⟨rfl, trivial⟩⟩ trivial rfl rfl rfl rfl rfl rfl rfl rfl rfl ?_
                        obtain rfl := Option.some.inj H
                        conv => whnf
                        refine ⟨_, _, Cover.refl _ _, ?_⟩
                        conv => whnf
                        exact ⟨(by first | rfl | (simp only [List.map_cons, List.map_nil, eGExpr_eq]; first | done | rfl)), (by first | rfl | (simp only [List.map_cons, List.map_nil, eGExpr_eq]; first | done | rfl))⟩
                    · conv => whnf
                      refine BranchG.iteN H (fun HP H => ?_) (fun HP H => ?_)
                      · conv => whnf
                        refine BranchG.iteN H (fun HP H => ?_) (fun HP H => ?_)
                        · obtain rfl := Option.some.inj H
                          conv => whnf
                          refine ⟨_, _, Cover.refl _ _, ?_⟩
                          conv => whnf
                          exact ⟨(by first | rfl | (simp only [List.map_cons, List.map_nil, eGExpr_eq]; first | done | rfl)), (by first | rfl | (simp only [List.map_cons, List.map_nil, eGExpr_eq]; first | done | rfl))⟩
                        · conv => whnf
                          obtain ⟨t72, HTt72, H⟩ := bind_some H
                          refine CallG.gen [(1002000, 3), (1002500, 1000001)] [] (by rfl) (IH_slices_ContainsFunc_impl_Expr_impl_Expr_isExpr_1 HTt72) rfl rfl ⟨rfl, ⟨rfl, trivial⟩⟩ trivial rfl rfl rfl rfl rfl rfl rfl rfl rfl ?_
                          obtain rfl := Option.some.inj H
                          conv => whnf
                          refine ⟨_, _, Cover.refl _ _, ?_⟩
                          conv => whnf
                          exact ⟨(by first | rfl | (simp only [List.map_cons, List.map_nil, eGExpr_eq]; first | done | rfl)), (by first | rfl | (simp only [List.map_cons, List.map_nil, eGExpr_eq]; first | done | rfl))⟩
                      · conv => whnf
                        obtain ⟨t73, HTt73, H⟩ := bind_some H
                        refine CallG.gen [(1002000, 3), (1002500, 1000001)] [] (by rfl) (IH_slices_ContainsFunc_impl_Expr_impl_Expr_isExpr_1 HTt73) rfl rfl ⟨rfl, ⟨rfl, trivial⟩⟩ trivial rfl rfl rfl rfl rfl rfl rfl rfl rfl ?_
                        obtain rfl := Option.some.inj H
                        conv => whnf
                        refine ⟨_, _, Cover.refl _ _, ?_⟩
                        conv => whnf
                        exact ⟨(by first | rfl | (simp only [List.map_cons, List.map_nil, eGExpr_eq]; first | done | rfl)), (by first | rfl | (simp only [List.map_cons, List.map_nil, eGExpr_eq]; first | done | rfl))⟩
                  · conv => whnf
                    refine BranchG.iteN H (fun HP H => ?_) (fun HP H => ?_)
                    · conv => whnf
                      refine BranchG.iteN H (fun HP H => ?_) (fun HP H => ?_)
                      · obtain rfl := Option.some.inj H
                        conv => whnf
                        refine ⟨_, _, Cover.refl _ _, ?_⟩
                        conv => whnf
                        exact ⟨(by first | rfl | (simp only [List.map_cons, List.map_nil, eGExpr_eq]; first | done | rfl)), (by first | rfl | (simp only [List.map_cons, List.map_nil, eGExpr_eq]; first | done | rfl))⟩
                      · conv => whnf
                        obtain ⟨t74, HTt74, H⟩ := bind_some H
                        refine CallG.gen [(1002000, 3), (1002500, 1000001)] [] (by rfl) (IH_slices_ContainsFunc_impl_Expr_impl_Expr_isExpr_1 HTt74) rfl rfl ⟨rfl, ⟨rfl, trivial⟩⟩ trivial rfl rfl rfl rfl rfl rfl rfl rfl rfl ?_
                        obtain rfl := Option.some.inj H
                        conv => whnf
                        refine ⟨_, _, Cover.refl _ _, ?_⟩
                        conv => whnf
                        exact ⟨(by first | rfl | (simp only [List.map_cons, List.map_nil, eGExpr_eq]; first | done | rfl)), (by first | rfl | (simp only [List.map_cons, List.map_nil, eGExpr_eq]; first | done | rfl))⟩
                    · conv => whnf
                      obtain ⟨t75, HTt75, H⟩ := bind_some H
                      refine CallG.gen [(1002000, 3), (1002500, 1000001)] [] (by rfl) (IH_slices_ContainsFunc_impl_Expr_impl_Expr_isExpr_1 HTt75) rfl rfl ⟨rfl, ⟨rfl, trivial⟩⟩ trivial rfl rfl rfl rfl rfl rfl rfl rfl rfl ?_
                      obtain rfl := Option.some.inj H
                      conv => whnf
                      refine ⟨_, _, Cover.refl _ _, ?_⟩
                      conv => whnf
                      exact ⟨(by first | rfl | (simp only [List.map_cons, List.map_nil, eGExpr_eq]; first | done | rfl)), (by first | rfl | (simp only [List.map_cons, List.map_nil, eGExpr_eq]; first | done | rfl))⟩
    · intro s c r H
      rw [slices_ContainsFunc_impl_Expr_impl_Expr_isExpr_1] at H
      refine FnG.intro (T := T) (fn := Go.Proofs.Try.f87) (c := (Go.Proofs.Try.f87).body.getD .skip) [.d (.bool r.1)] (by kernel_rfl) (by kernel_rfl) (by kernel_rfl) hfol hT (by kernel_rfl) rfl rfl rfl rfl rfl ?_
      intro N ok out pl0 W0
      refine PW_top ?_
      conv => whnf
      obtain ⟨t, HTt, H⟩ := bind_some H
      refine CallG.gen [(1002000, 1002000), (1002500, 1002500)] [] (by rfl) (IH_slices_IndexFunc_impl_Expr_impl_Expr_isExpr_1 HTt) rfl rfl ⟨rfl, ⟨rfl, trivial⟩⟩ trivial rfl rfl rfl rfl rfl rfl rfl rfl rfl ?_
      obtain rfl := Option.some.inj H
      conv => whnf
      refine ⟨_, _, Cover.refl _ _, ?_⟩
      conv => whnf
      exact ⟨(by first | rfl | (simp only [List.map_cons, List.map_nil, eGExpr_eq]; first | done | rfl)), (by first | rfl | (simp only [List.map_cons, List.map_nil, eGExpr_eq]; first | done | rfl))⟩
    · intro s c r H
      rw [slices_IndexFunc_impl_Expr_impl_Expr_isExpr_1] at H
      refine FnG.intro (T := T) (fn := Go.Proofs.Try.f111) (c := (Go.Proofs.Try.f111).body.getD .skip) [.d (.int .i64 r.1)] (by kernel_rfl) (by kernel_rfl) (by kernel_rfl) hfol hT (by kernel_rfl) rfl rfl rfl rfl rfl ?_
      intro N ok out pl0 W0
      refine PW_top ?_
      conv => whnf
      refine LenG.intro s.length (by simp only [List.length_map]) ?_
      conv => whnf
      refine LoopG.len 0 rfl (fun HL1 => ?_)
      rw [List.length_map] at HL1
      refine LoopG.listCut (σ := Int) (ε := Int) s (fun i SS => ([(0, .d (.sl (s.map eGExpr))), (1, .fn 88 [] [1002000]), (7, .d (.int .i64 (s.length : Int))), (8, .d (.int .i64 (i : Int)))], [(1002000, .box [.ptr 1002500 0]), (1002500, .box [.d (.int .i64 SS)])])) (fun i SS LL => slices_IndexFunc_impl_Expr_impl_Expr_isExpr_1_l1 (impl_isExpr_1 k) LL i SS) 0 (fun EE => ([(1, .fn 88 [] [1002000])], [(1002000, .box [.ptr 1002500 0]), (1002500, .box [.d (.int .i64 EE)])])) (fun e => Sum.inl e) c (Cover.list (fr' := [(0, .d (.sl (s.map eGExpr))), (1, .fn 88 [] [1002000]), (7, .d (.int .i64 (s.length : Int))), (8, .d (.int .i64 ((0 : Nat) : Int)))]) (ob' := [(1002000, .box [.ptr 1002500 0]), (1002500, .box [.d (.int .i64 c)])]) (⟨.inr rfl, ⟨.inl ⟨rfl, rfl⟩, ⟨.inr rfl, ⟨.inr rfl, trivial⟩⟩⟩⟩) (⟨⟨⟨.inl ⟨rfl, rfl⟩, rfl⟩, trivial⟩, ⟨⟨⟨.inr rfl, rfl⟩, trivial⟩, trivial⟩⟩)) H ?_ ?_ ?_
      · rintro RES1 HR1 i c1 x HI1 HX1 H
        rw [slices_IndexFunc_impl_Expr_impl_Expr_isExpr_1_l1] at H
        conv => whnf
        refine BranchG.t (decide_eq_true (by omega)) ?_
        conv => whnf
        refine IdxG.el eGExpr_eq rfl HX1 ?_
        conv => whnf
        obtain ⟨t, HTt, H⟩ := bind_some H
        refine CallG.gen [(1000001, 1002000), (1000501, 1002500)] [] (by rfl) (IH_impl_isExpr_1 HTt) rfl rfl ⟨rfl, ⟨rfl, trivial⟩⟩ trivial rfl rfl rfl rfl rfl rfl rfl rfl rfl ?_
        conv => whnf
        refine BranchG.iteB H (fun HP H => ?_) (fun HP H => ?_)
        · obtain rfl := Option.some.inj H
          obtain rfl := Option.some.inj (HR1 : some _ = some _)
          conv => whnf
          refine ⟨_, _, Cover.refl _ _, ?_⟩
          conv => whnf
          exact ⟨(by first | rfl | (simp only [List.map_cons, List.map_nil, eGExpr_eq]; first | done | rfl)), (by first | rfl | (simp only [List.map_cons, List.map_nil, eGExpr_eq]; first | done | rfl))⟩
        · conv => whnf
          exact ⟨t.2, H, Cover.list (fr' := [(0, .d (.sl (s.map eGExpr))), (1, .fn 88 [] [1002000]), (7, .d (.int .i64 (s.length : Int))), (8, .d (.int .i64 ((i + 1 : Nat) : Int)))]) (ob' := [(1002000, .box [.ptr 1002500 0]), (1002500, .box [.d (.int .i64 t.2)])]) (⟨.inr rfl, ⟨.inl ⟨rfl, rfl⟩, ⟨.inr rfl, ⟨.inr (congrArg (fun n => some (PV.d (D.int .i64 n))) (wrapUp HI1 HL1)), trivial⟩⟩⟩⟩) (⟨⟨⟨.inl ⟨rfl, rfl⟩, rfl⟩, trivial⟩, ⟨⟨⟨.inr rfl, rfl⟩, trivial⟩, trivial⟩⟩)⟩
      · rintro RES1 HR1 i c1 HI1 H
        rw [slices_IndexFunc_impl_Expr_impl_Expr_isExpr_1_l1] at H
        conv => whnf
        refine BranchG.f (decide_eq_false (by omega)) ?_
        conv => whnf
        exact ⟨c1, (Option.some.inj H).symm, Cover.list (fr' := [(1, .fn 88 [] [1002000])]) (ob' := [(1002000, .box [.ptr 1002500 0]), (1002500, .box [.d (.int .i64 c1)])]) (⟨.inl ⟨rfl, rfl⟩, trivial⟩) (⟨⟨⟨.inl ⟨rfl, rfl⟩, rfl⟩, trivial⟩, ⟨⟨⟨.inr rfl, rfl⟩, trivial⟩, trivial⟩⟩)⟩
      · rintro c2 H
        obtain rfl := Option.some.inj H
        conv => whnf
        refine ⟨_, _, Cover.refl _ _, ?_⟩
        conv => whnf
        exact ⟨(by first | rfl | (simp only [List.map_cons, List.map_nil, eGExpr_eq]; first | done | rfl)), (by first | rfl | (simp only [List.map_cons, List.map_nil, eGExpr_eq]; first | done | rfl))⟩
    · intro kid c r H
      rw [impl_isExpr_1] at H
      refine FnG.intro (T := T) (fn := Go.Proofs.Try.f88) (c := (Go.Proofs.Try.f88).body.getD .skip) [.d (.bool r.1)] (by kernel_rfl) (by kernel_rfl) (by kernel_rfl) hfol hT (by kernel_rfl) rfl rfl rfl rfl rfl ?_
      intro N ok out pl0 W0
      refine PW_top ?_
      conv => whnf
      obtain ⟨t, HTt, H⟩ := bind_some H
      refine CallG.gen [(1000001, 1000501)] [] (by rfl) (IH_impl_isExpr HTt) rfl rfl ⟨rfl, trivial⟩ trivial rfl rfl rfl rfl rfl rfl rfl rfl rfl ?_
      obtain rfl := Option.some.inj H
      conv => whnf
      refine ⟨_, _, Cover.refl _ _, ?_⟩
      conv => whnf
      exact ⟨(by first | rfl | (simp only [List.map_cons, List.map_nil, eGExpr_eq]; first | done | rfl)), (by first | rfl | (simp only [List.map_cons, List.map_nil, eGExpr_eq]; first | done | rfl))⟩
end Go.Pv.S
