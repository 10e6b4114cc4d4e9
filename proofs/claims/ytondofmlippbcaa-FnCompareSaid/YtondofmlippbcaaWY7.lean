import Derived.Test.YtondofmlippbcaaWY6
set_option linter.unusedSimpArgs false
set_option linter.unusedVariables false
set_option maxRecDepth 100000
set_option maxHeartbeats 2000000
open Go Go.Pv
namespace Go.Pv.S
def impl_eval_l1 (cols : (List GCol)) (row : GRow) (f_impl_eval : (GExpr → (List GCol) → GRow → Option GValue)) : List GExpr → (List GValue) → Option (List GValue)
  | [], l => some l
  | x :: xs, l => (f_impl_eval x cols row).bind fun t => if (l.length + [t].length) * 32 ≤ 140737488355328 then (impl_eval_l1 cols row f_impl_eval xs (l ++ [t])) else none

def impl_eval : Nat → GExpr → (List GCol) → GRow → Option GValue
  | 0, _, _, _ => none
  | k + 1, e, cols, row => (impl_eval_l1 cols row (impl_eval k) e.Kids ([] : List GValue)).bind fun l1 => if e.Kind = 0 then ((slices_IndexFunc_impl_Col_impl_Col_eval_1 cols e).bind fun t1 => (at? row.Vals t1.1).bind fun e1 => some e1) else (if e.Kind = 1 then (some (⟨1, e.Num, []⟩ : GValue)) else (if e.Kind = 2 then (some (⟨2, 0, e.Text⟩ : GValue)) else (if e.Kind = 3 then (if e.Kind = 3 then (some (impl_truth (decide (e.Kind = 3)))) else (if e.Kind = 5 then (some (⟨0, 0, []⟩ : GValue)) else (if e.Kind = 7 then ((at? l1 0).bind fun e2 => some (impl_truth (decide (e2.Kind = 0)))) else (if e.Kind = 6 then ((at? l1 0).bind fun e3 => if e3.Kind = 3 then ((at? l1 0).bind fun e4 => some (impl_truth (decide (e4.Num = 0)))) else (some (⟨0, 0, []⟩ : GValue))) else (if e.Kind = 8 then ((at? l1 0).bind fun e5 => (at? l1 1).bind fun e6 => some (impl_logical e5 e6 false)) else (if e.Kind = 9 then ((at? l1 0).bind fun e7 => (at? l1 1).bind fun e8 => some (impl_logical e7 e8 true)) else ((at? l1 0).bind fun e9 => (at? l1 1).bind fun e10 => (impl_compared e.Kind e9 e10).bind fun t2 => some t2))))))) else (if e.Kind = 4 then (some (impl_truth (decide (e.Kind = 3)))) else (if e.Kind = 5 then (some (⟨0, 0, []⟩ : GValue)) else (if e.Kind = 7 then ((at? l1 0).bind fun e11 => some (impl_truth (decide (e11.Kind = 0)))) else (if e.Kind = 6 then ((at? l1 0).bind fun e12 => if e12.Kind = 3 then ((at? l1 0).bind fun e13 => some (impl_truth (decide (e13.Num = 0)))) else (some (⟨0, 0, []⟩ : GValue))) else (if e.Kind = 8 then ((at? l1 0).bind fun e14 => (at? l1 1).bind fun e15 => some (impl_logical e14 e15 false)) else (if e.Kind = 9 then ((at? l1 0).bind fun e16 => (at? l1 1).bind fun e17 => some (impl_logical e16 e17 true)) else ((at? l1 0).bind fun e18 => (at? l1 1).bind fun e19 => (impl_compared e.Kind e18 e19).bind fun t3 => some t3))))))))))

theorem impl_eval_ring : ∀ (k : Nat), (∀ {e : GExpr} {cols : (List GCol)} {row : GRow} {r : GValue}, impl_eval k e cols row = some r → FnG Go.Proofs.Try.prog 39 [.agg (eGExpr1 e), .d (.sl (cols.map eGCol)), .agg (eGRow row)] [] (.agg (eGValue r)) []) := by
  intro k
  induction k with
  | zero => exact (by intros; rename_i H; rw [impl_eval] at H; cases H)
  | succ k IH =>
    have IH_impl_eval := @IH
    intro e cols row r H
    rw [impl_eval] at H
    refine FnG.intro (T := T) (fn := Go.Proofs.Try.f39) (c := (Go.Proofs.Try.f39).body.getD .skip) [.agg (eGValue r)] (by kernel_rfl) (by kernel_rfl) (by kernel_rfl) hfol hT (by kernel_rfl) rfl rfl rfl rfl rfl ?_
    intro N ok out pl0 W0
    refine PW_top ?_
    conv => whnf
    refine RowsG.intro (List.map eGValue ([] : List GValue)) (by first | rfl | (simp only [List.map_cons, List.map_nil, eGExpr_eq]; first | done | rfl)) ?_
    conv => whnf
    refine LenG.intro e.Kids.length (by simp only [List.length_map]) ?_
    conv => whnf
    refine LoopG.len 12 rfl (fun HL1 => ?_)
    rw [List.length_map] at HL1
    refine LoopG.listCut (σ := (List GValue)) (ε := (List GValue)) e.Kids (fun i SS => ([(1, .d (.sl (cols.map eGCol))), (3, .ptr 3 0), (5, .ptr 5 0), (6, .ptr 6 0), (7, .own 10), (12, .d (.sl (e.Kids.map eGExpr))), (13, .d (.int .i64 (e.Kids.length : Int))), (14, .d (.int .i64 (i : Int)))], [(3, .box [.d (.int .i64 e.Kind), .d (.str e.Text), .d (.int .i64 e.Num), .d (.sl (e.Kids.map eGExpr))]), (5, .box [.d (.sl (row.Vals.map eGValue))]), (6, .box [.d (.int .i64 0), .d (.int .i64 0), .d (.str [])]), (10, .row 31 3 (SS.map eGValue))])) (fun i SS LL => impl_eval_l1 cols row (impl_eval k) LL SS) 0 (fun EE => ([(1, .d (.sl (cols.map eGCol))), (3, .ptr 3 0), (5, .ptr 5 0), (6, .ptr 6 0), (7, .own 10)], [(3, .box [.d (.int .i64 e.Kind), .d (.str e.Text), .d (.int .i64 e.Num), .d (.sl (e.Kids.map eGExpr))]), (5, .box [.d (.sl (row.Vals.map eGValue))]), (6, .box [.d (.int .i64 0), .d (.int .i64 0), .d (.str [])]), (10, .row 31 3 (EE.map eGValue))])) (fun e => e) ([] : List GValue) (Cover.list (fr' := [(1, .d (.sl (cols.map eGCol))), (3, .ptr 3 0), (5, .ptr 5 0), (6, .ptr 6 0), (7, .own 10), (12, .d (.sl (e.Kids.map eGExpr))), (13, .d (.int .i64 (e.Kids.length : Int))), (14, .d (.int .i64 ((0 : Nat) : Int)))]) (ob' := [(3, .box [.d (.int .i64 e.Kind), .d (.str e.Text), .d (.int .i64 e.Num), .d (.sl (e.Kids.map eGExpr))]), (5, .box [.d (.sl (row.Vals.map eGValue))]), (6, .box [.d (.int .i64 0), .d (.int .i64 0), .d (.str [])]), (10, .row 31 3 (([] : List GValue).map eGValue))]) (⟨.inr rfl, ⟨.inl ⟨rfl, rfl⟩, ⟨.inl ⟨rfl, rfl⟩, ⟨.inl ⟨rfl, rfl⟩, ⟨.inl ⟨rfl, rfl⟩, ⟨.inr rfl, ⟨.inr rfl, ⟨.inr rfl, trivial⟩⟩⟩⟩⟩⟩⟩⟩) (⟨⟨⟨.inr rfl, rfl⟩, ⟨⟨.inr rfl, rfl⟩, ⟨⟨.inr rfl, rfl⟩, ⟨⟨.inr rfl, rfl⟩, trivial⟩⟩⟩⟩, ⟨⟨⟨.inr rfl, rfl⟩, trivial⟩, ⟨⟨⟨.inr rfl, rfl⟩, ⟨⟨.inr rfl, rfl⟩, ⟨⟨.inr rfl, rfl⟩, trivial⟩⟩⟩, ⟨rfl, trivial⟩⟩⟩⟩)) H ?_ ?_ ?_
    · rintro RES1 HR1 i l x HI1 HX1 H
      rw [impl_eval_l1] at H
      conv => whnf
      refine BranchG.t (decide_eq_true (by omega)) ?_
      conv => whnf
      refine IdxG.el eGExpr_eq rfl HX1 ?_
      conv => whnf
      obtain ⟨t, HTt, H⟩ := bind_some H
      refine CallG.pure (by first | rfl | (simp only [argsG, argsK, argG, List.map_cons, List.map_nil, eGExpr_eq]; first | done | rfl)) (IH_impl_eval HTt) ?_
      conv => whnf
      refine RowsG.intro (List.map eGValue [t]) (by first | rfl | (simp only [List.map_cons, List.map_nil, eGExpr_eq]; first | done | rfl)) ?_
      conv => whnf
      refine NeedG.sync H (fun HP => by simpa only [List.length_map, bytesRows] using HP) (fun HP H => ?_)
      conv => whnf
      refine RowsG.app ?_
      conv => whnf
      exact ⟨(l ++ [t]), H, Cover.trans (Cover.list (fr' := [(1, .d (.sl (cols.map eGCol))), (3, .ptr 3 0), (5, .ptr 5 0), (6, .ptr 6 0), (7, .own 24), (12, .d (.sl (e.Kids.map eGExpr))), (13, .d (.int .i64 (e.Kids.length : Int))), (14, .d (.int .i64 ((i + 1 : Nat) : Int)))]) (ob' := [(3, .box [.d (.int .i64 e.Kind), .d (.str e.Text), .d (.int .i64 e.Num), .d (.sl (e.Kids.map eGExpr))]), (5, .box [.d (.sl (row.Vals.map eGValue))]), (6, .box [.d (.int .i64 0), .d (.int .i64 0), .d (.str [])]), (24, .row 31 3 ((l ++ [t]).map eGValue))]) (⟨.inr rfl, ⟨.inl ⟨rfl, rfl⟩, ⟨.inl ⟨rfl, rfl⟩, ⟨.inl ⟨rfl, rfl⟩, ⟨.inl ⟨rfl, rfl⟩, ⟨.inr rfl, ⟨.inr rfl, ⟨.inr (congrArg (fun n => some (PV.d (D.int .i64 n))) (wrapUp HI1 HL1)), trivial⟩⟩⟩⟩⟩⟩⟩⟩) (⟨⟨⟨.inr rfl, rfl⟩, ⟨⟨.inr rfl, rfl⟩, ⟨⟨.inr rfl, rfl⟩, ⟨⟨.inr rfl, rfl⟩, trivial⟩⟩⟩⟩, ⟨⟨⟨.inr rfl, rfl⟩, trivial⟩, ⟨⟨⟨.inr rfl, rfl⟩, ⟨⟨.inr rfl, rfl⟩, ⟨⟨.inr rfl, rfl⟩, trivial⟩⟩⟩, ⟨rfl, trivial⟩⟩⟩⟩)) (Cover.ren [(3, 3), (5, 5), (6, 6), (24, 10)] rfl rfl rfl)⟩
    · rintro RES1 HR1 i l HI1 H
      rw [impl_eval_l1] at H
      conv => whnf
      refine BranchG.f (decide_eq_false (by omega)) ?_
      conv => whnf
      exact ⟨l, (Option.some.inj H).symm, Cover.list (fr' := [(1, .d (.sl (cols.map eGCol))), (3, .ptr 3 0), (5, .ptr 5 0), (6, .ptr 6 0), (7, .own 10)]) (ob' := [(3, .box [.d (.int .i64 e.Kind), .d (.str e.Text), .d (.int .i64 e.Num), .d (.sl (e.Kids.map eGExpr))]), (5, .box [.d (.sl (row.Vals.map eGValue))]), (6, .box [.d (.int .i64 0), .d (.int .i64 0), .d (.str [])]), (10, .row 31 3 (l.map eGValue))]) (⟨.inr rfl, ⟨.inl ⟨rfl, rfl⟩, ⟨.inl ⟨rfl, rfl⟩, ⟨.inl ⟨rfl, rfl⟩, ⟨.inl ⟨rfl, rfl⟩, trivial⟩⟩⟩⟩⟩) (⟨⟨⟨.inr rfl, rfl⟩, ⟨⟨.inr rfl, rfl⟩, ⟨⟨.inr rfl, rfl⟩, ⟨⟨.inr rfl, rfl⟩, trivial⟩⟩⟩⟩, ⟨⟨⟨.inr rfl, rfl⟩, trivial⟩, ⟨⟨⟨.inr rfl, rfl⟩, ⟨⟨.inr rfl, rfl⟩, ⟨⟨.inr rfl, rfl⟩, trivial⟩⟩⟩, ⟨rfl, trivial⟩⟩⟩⟩)⟩
    · rintro l1 H
      conv => whnf
      refine BranchG.ite H (fun HP H => ?_) (fun HP H => ?_)
      · conv => whnf
        obtain ⟨t1, HTt1, H⟩ := bind_some H
        refine CallG.gen [(1002000, 3)] [] (by rfl) (slices_IndexFunc_impl_Col_impl_Col_eval_1_ok HTt1) rfl rfl ⟨rfl, trivial⟩ trivial rfl rfl rfl rfl rfl rfl rfl rfl rfl ?_
        conv => whnf
        refine IdxG.at (fun _ => rfl) H (fun e1 _ H => ?_)
        obtain rfl := Option.some.inj H
        conv => whnf
        refine ⟨_, _, Cover.refl _ _, ?_⟩
        conv => whnf
        exact ⟨(by first | rfl | (simp only [List.map_cons, List.map_nil, eGExpr_eq]; first | done | rfl)), (by first | rfl | (simp only [List.map_cons, List.map_nil, eGExpr_eq]; first | done | rfl))⟩
      · conv => whnf
        refine BranchG.ite H (fun HP H => ?_) (fun HP H => ?_)
        · obtain rfl := Option.some.inj H
          conv => whnf
          refine ⟨_, _, Cover.refl _ _, ?_⟩
          conv => whnf
          exact ⟨(by first | rfl | (simp only [List.map_cons, List.map_nil, eGExpr_eq]; first | done | rfl)), (by first | rfl | (simp only [List.map_cons, List.map_nil, eGExpr_eq]; first | done | rfl))⟩
        · conv => whnf
          refine BranchG.ite H (fun HP H => ?_) (fun HP H => ?_)
          · obtain rfl := Option.some.inj H
            conv => whnf
            refine ⟨_, _, Cover.refl _ _, ?_⟩
            conv => whnf
            exact ⟨(by first | rfl | (simp only [List.map_cons, List.map_nil, eGExpr_eq]; first | done | rfl)), (by first | rfl | (simp only [List.map_cons, List.map_nil, eGExpr_eq]; first | done | rfl))⟩
          · conv => whnf
            refine BranchG.ite H (fun HP H => ?_) (fun HP H => ?_)
            · conv => whnf
              refine BranchG.ite H (fun HP H => ?_) (fun HP H => ?_)
              · conv => whnf
                refine CallG.pure (by first | rfl | (simp only [argsG, argsK, argG, List.map_cons, List.map_nil, eGExpr_eq]; first | done | rfl)) (impl_truth_ok (decide (e.Kind = 3))) ?_
                obtain rfl := Option.some.inj H
                conv => whnf
                refine ⟨_, _, Cover.refl _ _, ?_⟩
                conv => whnf
                exact ⟨(by first | rfl | (simp only [List.map_cons, List.map_nil, eGExpr_eq]; first | done | rfl)), (by first | rfl | (simp only [List.map_cons, List.map_nil, eGExpr_eq]; first | done | rfl))⟩
              · conv => whnf
                refine BranchG.ite H (fun HP H => ?_) (fun HP H => ?_)
                · obtain rfl := Option.some.inj H
                  conv => whnf
                  refine ⟨_, _, Cover.refl _ _, ?_⟩
                  conv => whnf
                  exact ⟨(by first | rfl | (simp only [List.map_cons, List.map_nil, eGExpr_eq]; first | done | rfl)), (by first | rfl | (simp only [List.map_cons, List.map_nil, eGExpr_eq]; first | done | rfl))⟩
                · conv => whnf
                  refine BranchG.ite H (fun HP H => ?_) (fun HP H => ?_)
                  · conv => whnf
                    refine IdxG.at (fun _ => rfl) H (fun e2 HXe2 H => ?_)
                    conv => whnf
                    refine IdxG.hitN (fun _ => rfl) HXe2 ?_
                    conv => whnf
                    refine CallG.pure (by first | rfl | (simp only [argsG, argsK, argG, List.map_cons, List.map_nil, eGExpr_eq]; first | done | rfl)) (impl_truth_ok (decide (e2.Kind = 0))) ?_
                    obtain rfl := Option.some.inj H
                    conv => whnf
                    refine ⟨_, _, Cover.refl _ _, ?_⟩
                    conv => whnf
                    exact ⟨(by first | rfl | (simp only [List.map_cons, List.map_nil, eGExpr_eq]; first | done | rfl)), (by first | rfl | (simp only [List.map_cons, List.map_nil, eGExpr_eq]; first | done | rfl))⟩
                  · conv => whnf
                    refine BranchG.ite H (fun HP H => ?_) (fun HP H => ?_)
                    · conv => whnf
                      refine IdxG.at (fun _ => rfl) H (fun e3 HXe3 H => ?_)
                      conv => whnf
                      refine IdxG.hitN (fun _ => rfl) HXe3 ?_
                      conv => whnf
                      refine BranchG.iteN H (fun HP H => ?_) (fun HP H => ?_)
                      · obtain rfl := Option.some.inj H
                        conv => whnf
                        refine ⟨_, _, Cover.refl _ _, ?_⟩
                        conv => whnf
                        exact ⟨(by first | rfl | (simp only [List.map_cons, List.map_nil, eGExpr_eq]; first | done | rfl)), (by first | rfl | (simp only [List.map_cons, List.map_nil, eGExpr_eq]; first | done | rfl))⟩
                      · conv => whnf
                        refine IdxG.at (fun _ => rfl) H (fun e4 HXe4 H => ?_)
                        conv => whnf
                        refine IdxG.hitN (fun _ => rfl) HXe4 ?_
                        conv => whnf
                        refine CallG.pure (by first | rfl | (simp only [argsG, argsK, argG, List.map_cons, List.map_nil, eGExpr_eq]; first | done | rfl)) (impl_truth_ok (decide (e4.Num = 0))) ?_
                        obtain rfl := Option.some.inj H
                        conv => whnf
                        refine ⟨_, _, Cover.refl _ _, ?_⟩
                        conv => whnf
                        exact ⟨(by first | rfl | (simp only [List.map_cons, List.map_nil, eGExpr_eq]; first | done | rfl)), (by first | rfl | (simp only [List.map_cons, List.map_nil, eGExpr_eq]; first | done | rfl))⟩
                    · conv => whnf
                      refine BranchG.ite H (fun HP H => ?_) (fun HP H => ?_)
                      · conv => whnf
                        refine IdxG.at (fun _ => rfl) H (fun e5 HXe5 H => ?_)
                        conv => whnf
                        refine IdxG.hitN (fun _ => rfl) HXe5 ?_
                        conv => whnf
                        refine IdxG.at (fun _ => rfl) H (fun e6 HXe6 H => ?_)
                        conv => whnf
                        refine IdxG.hitN (fun _ => rfl) HXe6 ?_
                        conv => whnf
                        refine CallG.pure (by first | rfl | (simp only [argsG, argsK, argG, List.map_cons, List.map_nil, eGExpr_eq]; first | done | rfl)) (impl_logical_ok e5 e6 false) ?_
                        obtain rfl := Option.some.inj H
                        conv => whnf
                        refine ⟨_, _, Cover.refl _ _, ?_⟩
                        conv => whnf
                        exact ⟨(by first | rfl | (simp only [List.map_cons, List.map_nil, eGExpr_eq]; first | done | rfl)), (by first | rfl | (simp only [List.map_cons, List.map_nil, eGExpr_eq]; first | done | rfl))⟩
                      · conv => whnf
                        refine BranchG.ite H (fun HP H => ?_) (fun HP H => ?_)
                        · conv => whnf
                          refine IdxG.at (fun _ => rfl) H (fun e7 HXe7 H => ?_)
                          conv => whnf
                          refine IdxG.hitN (fun _ => rfl) HXe7 ?_
                          conv => whnf
                          refine IdxG.at (fun _ => rfl) H (fun e8 HXe8 H => ?_)
                          conv => whnf
                          refine IdxG.hitN (fun _ => rfl) HXe8 ?_
                          conv => whnf
                          refine CallG.pure (by first | rfl | (simp only [argsG, argsK, argG, List.map_cons, List.map_nil, eGExpr_eq]; first | done | rfl)) (impl_logical_ok e7 e8 true) ?_
                          obtain rfl := Option.some.inj H
                          conv => whnf
                          refine ⟨_, _, Cover.refl _ _, ?_⟩
                          conv => whnf
                          exact ⟨(by first | rfl | (simp only [List.map_cons, List.map_nil, eGExpr_eq]; first | done | rfl)), (by first | rfl | (simp only [List.map_cons, List.map_nil, eGExpr_eq]; first | done | rfl))⟩
                        · conv => whnf
                          refine IdxG.at (fun _ => rfl) H (fun e9 HXe9 H => ?_)
                          conv => whnf
                          refine IdxG.hitN (fun _ => rfl) HXe9 ?_
                          conv => whnf
                          refine IdxG.at (fun _ => rfl) H (fun e10 HXe10 H => ?_)
                          conv => whnf
                          refine IdxG.hitN (fun _ => rfl) HXe10 ?_
                          conv => whnf
                          obtain ⟨t2, HTt2, H⟩ := bind_some H
                          refine CallG.pure (by first | rfl | (simp only [argsG, argsK, argG, List.map_cons, List.map_nil, eGExpr_eq]; first | done | rfl)) (impl_compared_ok HTt2) ?_
                          obtain rfl := Option.some.inj H
                          conv => whnf
                          refine ⟨_, _, Cover.refl _ _, ?_⟩
                          conv => whnf
                          exact ⟨(by first | rfl | (simp only [List.map_cons, List.map_nil, eGExpr_eq]; first | done | rfl)), (by first | rfl | (simp only [List.map_cons, List.map_nil, eGExpr_eq]; first | done | rfl))⟩
            · conv => whnf
              refine BranchG.ite H (fun HP H => ?_) (fun HP H => ?_)
              · conv => whnf
                refine CallG.pure (by first | rfl | (simp only [argsG, argsK, argG, List.map_cons, List.map_nil, eGExpr_eq]; first | done | rfl)) (impl_truth_ok (decide (e.Kind = 3))) ?_
                obtain rfl := Option.some.inj H
                conv => whnf
                refine ⟨_, _, Cover.refl _ _, ?_⟩
                conv => whnf
                exact ⟨(by first | rfl | (simp only [List.map_cons, List.map_nil, eGExpr_eq]; first | done | rfl)), (by first | rfl | (simp only [List.map_cons, List.map_nil, eGExpr_eq]; first | done | rfl))⟩
              · conv => whnf
                refine BranchG.ite H (fun HP H => ?_) (fun HP H => ?_)
                · obtain rfl := Option.some.inj H
                  conv => whnf
                  refine ⟨_, _, Cover.refl _ _, ?_⟩
                  conv => whnf
                  exact ⟨(by first | rfl | (simp only [List.map_cons, List.map_nil, eGExpr_eq]; first | done | rfl)), (by first | rfl | (simp only [List.map_cons, List.map_nil, eGExpr_eq]; first | done | rfl))⟩
                · conv => whnf
                  refine BranchG.ite H (fun HP H => ?_) (fun HP H => ?_)
                  · conv => whnf
                    refine IdxG.at (fun _ => rfl) H (fun e11 HXe11 H => ?_)
                    conv => whnf
                    refine IdxG.hitN (fun _ => rfl) HXe11 ?_
                    conv => whnf
                    refine CallG.pure (by first | rfl | (simp only [argsG, argsK, argG, List.map_cons, List.map_nil, eGExpr_eq]; first | done | rfl)) (impl_truth_ok (decide (e11.Kind = 0))) ?_
                    obtain rfl := Option.some.inj H
                    conv => whnf
                    refine ⟨_, _, Cover.refl _ _, ?_⟩
                    conv => whnf
                    exact ⟨(by first | rfl | (simp only [List.map_cons, List.map_nil, eGExpr_eq]; first | done | rfl)), (by first | rfl | (simp only [List.map_cons, List.map_nil, eGExpr_eq]; first | done | rfl))⟩
                  · conv => whnf
                    refine BranchG.ite H (fun HP H => ?_) (fun HP H => ?_)
                    · conv => whnf
                      refine IdxG.at (fun _ => rfl) H (fun e12 HXe12 H => ?_)
                      conv => whnf
                      refine IdxG.hitN (fun _ => rfl) HXe12 ?_
                      conv => whnf
                      refine BranchG.iteN H (fun HP H => ?_) (fun HP H => ?_)
                      · obtain rfl := Option.some.inj H
                        conv => whnf
                        refine ⟨_, _, Cover.refl _ _, ?_⟩
                        conv => whnf
                        exact ⟨(by first | rfl | (simp only [List.map_cons, List.map_nil, eGExpr_eq]; first | done | rfl)), (by first | rfl | (simp only [List.map_cons, List.map_nil, eGExpr_eq]; first | done | rfl))⟩
                      · conv => whnf
                        refine IdxG.at (fun _ => rfl) H (fun e13 HXe13 H => ?_)
                        conv => whnf
                        refine IdxG.hitN (fun _ => rfl) HXe13 ?_
                        conv => whnf
                        refine CallG.pure (by first | rfl | (simp only [argsG, argsK, argG, List.map_cons, List.map_nil, eGExpr_eq]; first | done | rfl)) (impl_truth_ok (decide (e13.Num = 0))) ?_
                        obtain rfl := Option.some.inj H
                        conv => whnf
                        refine ⟨_, _, Cover.refl _ _, ?_⟩
                        conv => whnf
                        exact ⟨(by first | rfl | (simp only [List.map_cons, List.map_nil, eGExpr_eq]; first | done | rfl)), (by first | rfl | (simp only [List.map_cons, List.map_nil, eGExpr_eq]; first | done | rfl))⟩
                    · conv => whnf
                      refine BranchG.ite H (fun HP H => ?_) (fun HP H => ?_)
                      · conv => whnf
                        refine IdxG.at (fun _ => rfl) H (fun e14 HXe14 H => ?_)
                        conv => whnf
                        refine IdxG.hitN (fun _ => rfl) HXe14 ?_
                        conv => whnf
                        refine IdxG.at (fun _ => rfl) H (fun e15 HXe15 H => ?_)
                        conv => whnf
                        refine IdxG.hitN (fun _ => rfl) HXe15 ?_
                        conv => whnf
                        refine CallG.pure (by first | rfl | (simp only [argsG, argsK, argG, List.map_cons, List.map_nil, eGExpr_eq]; first | done | rfl)) (impl_logical_ok e14 e15 false) ?_
                        obtain rfl := Option.some.inj H
                        conv => whnf
                        refine ⟨_, _, Cover.refl _ _, ?_⟩
                        conv => whnf
                        exact ⟨(by first | rfl | (simp only [List.map_cons, List.map_nil, eGExpr_eq]; first | done | rfl)), (by first | rfl | (simp only [List.map_cons, List.map_nil, eGExpr_eq]; first | done | rfl))⟩
                      · conv => whnf
                        refine BranchG.ite H (fun HP H => ?_) (fun HP H => ?_)
                        · conv => whnf
                          refine IdxG.at (fun _ => rfl) H (fun e16 HXe16 H => ?_)
                          conv => whnf
                          refine IdxG.hitN (fun _ => rfl) HXe16 ?_
                          conv => whnf
                          refine IdxG.at (fun _ => rfl) H (fun e17 HXe17 H => ?_)
                          conv => whnf
                          refine IdxG.hitN (fun _ => rfl) HXe17 ?_
                          conv => whnf
                          refine CallG.pure (by first | rfl | (simp only [argsG, argsK, argG, List.map_cons, List.map_nil, eGExpr_eq]; first | done | rfl)) (impl_logical_ok e16 e17 true) ?_
                          obtain rfl := Option.some.inj H
                          conv => whnf
                          refine ⟨_, _, Cover.refl _ _, ?_⟩
                          conv => whnf
                          exact ⟨(by first | rfl | (simp only [List.map_cons, List.map_nil, eGExpr_eq]; first | done | rfl)), (by first | rfl | (simp only [List.map_cons, List.map_nil, eGExpr_eq]; first | done | rfl))⟩
                        · conv => whnf
                          refine IdxG.at (fun _ => rfl) H (fun e18 HXe18 H => ?_)
                          conv => whnf
                          refine IdxG.hitN (fun _ => rfl) HXe18 ?_
                          conv => whnf
                          refine IdxG.at (fun _ => rfl) H (fun e19 HXe19 H => ?_)
                          conv => whnf
                          refine IdxG.hitN (fun _ => rfl) HXe19 ?_
                          conv => whnf
                          obtain ⟨t3, HTt3, H⟩ := bind_some H
                          refine CallG.pure (by first | rfl | (simp only [argsG, argsK, argG, List.map_cons, List.map_nil, eGExpr_eq]; first | done | rfl)) (impl_compared_ok HTt3) ?_
                          obtain rfl := Option.some.inj H
                          conv => whnf
                          refine ⟨_, _, Cover.refl _ _, ?_⟩
                          conv => whnf
                          exact ⟨(by first | rfl | (simp only [List.map_cons, List.map_nil, eGExpr_eq]; first | done | rfl)), (by first | rfl | (simp only [List.map_cons, List.map_nil, eGExpr_eq]; first | done | rfl))⟩
end Go.Pv.S
