import Derived.Test.YtondofmlippbcaaWY5
set_option linter.unusedSimpArgs false
set_option linter.unusedVariables false
set_option maxRecDepth 100000
set_option maxHeartbeats 2000000
open Go Go.Pv
namespace Go.Pv.S
def impl_Before (a : Str) (b : Str) : Bool :=
  Op.bytesLess a b

theorem impl_Before_ok (a : Str) (b : Str) : FnG Go.Proofs.Try.prog 92 [.d (.str a), .d (.str b)] [] (.d (.bool (impl_Before a b))) [] := by
  generalize H : impl_Before a b = r
  unfold impl_Before at H
  refine FnG.intro (T := T) (fn := Go.Proofs.Try.f92) (c := (Go.Proofs.Try.f92).body.getD .skip) [.d (.bool r)] (by kernel_rfl) (by kernel_rfl) (by kernel_rfl) hfol hT (by kernel_rfl) rfl rfl rfl rfl rfl ?_
  intro N ok out pl0 W0
  refine PW_top ?_
  subst H
  conv => whnf
  refine ⟨_, _, Cover.refl _ _, ?_⟩
  conv => whnf
  exact ⟨(by first | rfl | (simp only [List.map_cons, List.map_nil, eGExpr_eq]; first | done | rfl)), (by first | rfl | (simp only [List.map_cons, List.map_nil, eGExpr_eq]; first | done | rfl))⟩

def impl_compared_1 (x : GValue) (y : GValue) : Bool :=
  if x.Num < y.Num then (true) else ((impl_Before x.Text y.Text))

theorem impl_compared_1_ok (x : GValue) (y : GValue) : FnG Go.Proofs.Try.prog 91 [.agg (eGValue x), .agg (eGValue y)] [] (.d (.bool (impl_compared_1 x y))) [] := by
  generalize H : impl_compared_1 x y = r
  unfold impl_compared_1 at H
  refine FnG.intro (T := T) (fn := Go.Proofs.Try.f91) (c := (Go.Proofs.Try.f91).body.getD .skip) [.d (.bool r)] (by kernel_rfl) (by kernel_rfl) (by kernel_rfl) hfol hT (by kernel_rfl) rfl rfl rfl rfl rfl ?_
  intro N ok out pl0 W0
  refine PW_top ?_
  conv => whnf
  refine BranchG.ite H (fun HP H => ?_) (fun HP H => ?_)
  · subst H
    conv => whnf
    refine ⟨_, _, Cover.refl _ _, ?_⟩
    conv => whnf
    exact ⟨(by first | rfl | (simp only [List.map_cons, List.map_nil, eGExpr_eq]; first | done | rfl)), (by first | rfl | (simp only [List.map_cons, List.map_nil, eGExpr_eq]; first | done | rfl))⟩
  · conv => whnf
    refine CallG.pure (by first | rfl | (simp only [argsG, argsK, argG, List.map_cons, List.map_nil, eGExpr_eq]; first | done | rfl)) (impl_Before_ok x.Text y.Text) ?_
    subst H
    conv => whnf
    refine ⟨_, _, Cover.refl _ _, ?_⟩
    conv => whnf
    exact ⟨(by first | rfl | (simp only [List.map_cons, List.map_nil, eGExpr_eq]; first | done | rfl)), (by first | rfl | (simp only [List.map_cons, List.map_nil, eGExpr_eq]; first | done | rfl))⟩

def impl_number (n : Int) : GValue :=
  if (impl_within n (-999999999999) 999999999999) = true then ((⟨1, n, []⟩ : GValue)) else ((⟨0, 0, []⟩ : GValue))

theorem impl_number_ok (n : Int) : FnG Go.Proofs.Try.prog 93 [.d (.int .i64 n)] [] (.agg (eGValue (impl_number n))) [] := by
  generalize H : impl_number n = r
  unfold impl_number at H
  refine FnG.intro (T := T) (fn := Go.Proofs.Try.f93) (c := (Go.Proofs.Try.f93).body.getD .skip) [.agg (eGValue r)] (by kernel_rfl) (by kernel_rfl) (by kernel_rfl) hfol hT (by kernel_rfl) rfl rfl rfl rfl rfl ?_
  intro N ok out pl0 W0
  refine PW_top ?_
  conv => whnf
  refine CallG.pure (by first | rfl | (simp only [argsG, argsK, argG, List.map_cons, List.map_nil, eGExpr_eq]; first | done | rfl)) (impl_within_ok n (-999999999999) 999999999999) ?_
  conv => whnf
  refine BranchG.iteBN H (fun HP H => ?_) (fun HP H => ?_)
  · subst H
    conv => whnf
    refine ⟨_, _, Cover.refl _ _, ?_⟩
    conv => whnf
    exact ⟨(by first | rfl | (simp only [List.map_cons, List.map_nil, eGExpr_eq]; first | done | rfl)), (by first | rfl | (simp only [List.map_cons, List.map_nil, eGExpr_eq]; first | done | rfl))⟩
  · subst H
    conv => whnf
    refine ⟨_, _, Cover.refl _ _, ?_⟩
    conv => whnf
    exact ⟨(by first | rfl | (simp only [List.map_cons, List.map_nil, eGExpr_eq]; first | done | rfl)), (by first | rfl | (simp only [List.map_cons, List.map_nil, eGExpr_eq]; first | done | rfl))⟩

def impl_product (a : Int) (b : Int) : Option GValue :=
  if a = 0 then (some (impl_number (w64 (a * b)))) else (if (if (w64 (0 - a)) > a then (w64 (0 - a)) else a) ≠ 0 then (if (if (w64 (0 - b)) > b then (w64 (0 - b)) else b) > (w64 ((999999999999 : Int).tdiv (if (w64 (0 - a)) > a then (w64 (0 - a)) else a))) then (some (⟨0, 0, []⟩ : GValue)) else (some (impl_number (w64 (a * b))))) else none)

theorem impl_product_ok {a : Int} {b : Int} {r : GValue} (H : impl_product a b = some r) : FnG Go.Proofs.Try.prog 94 [.d (.int .i64 a), .d (.int .i64 b)] [] (.agg (eGValue r)) [] := by
  unfold impl_product at H
  refine FnG.intro (T := T) (fn := Go.Proofs.Try.f94) (c := (Go.Proofs.Try.f94).body.getD .skip) [.agg (eGValue r)] (by kernel_rfl) (by kernel_rfl) (by kernel_rfl) hfol hT (by kernel_rfl) rfl rfl rfl rfl rfl ?_
  intro N ok out pl0 W0
  refine PW_top ?_
  conv => whnf
  refine BranchG.iteN H (fun HP H => ?_) (fun HP H => ?_)
  · conv => whnf
    refine NeedG.sync H (fun HP => HP) (fun HP H => ?_)
    conv => whnf
    refine BranchG.ite H (fun HP H => ?_) (fun HP H => ?_)
    · obtain rfl := Option.some.inj H
      conv => whnf
      refine ⟨_, _, Cover.refl _ _, ?_⟩
      conv => whnf
      exact ⟨(by first | rfl | (simp only [List.map_cons, List.map_nil, eGExpr_eq]; first | done | rfl)), (by first | rfl | (simp only [List.map_cons, List.map_nil, eGExpr_eq]; first | done | rfl))⟩
    · conv => whnf
      refine CallG.pure (by first | rfl | (simp only [argsG, argsK, argG, List.map_cons, List.map_nil, eGExpr_eq]; first | done | rfl)) (impl_number_ok (w64 (a * b))) ?_
      obtain rfl := Option.some.inj H
      conv => whnf
      refine ⟨_, _, Cover.refl _ _, ?_⟩
      conv => whnf
      exact ⟨(by first | rfl | (simp only [List.map_cons, List.map_nil, eGExpr_eq]; first | done | rfl)), (by first | rfl | (simp only [List.map_cons, List.map_nil, eGExpr_eq]; first | done | rfl))⟩
  · conv => whnf
    refine CallG.pure (by first | rfl | (simp only [argsG, argsK, argG, List.map_cons, List.map_nil, eGExpr_eq]; first | done | rfl)) (impl_number_ok (w64 (a * b))) ?_
    obtain rfl := Option.some.inj H
    conv => whnf
    refine ⟨_, _, Cover.refl _ _, ?_⟩
    conv => whnf
    exact ⟨(by first | rfl | (simp only [List.map_cons, List.map_nil, eGExpr_eq]; first | done | rfl)), (by first | rfl | (simp only [List.map_cons, List.map_nil, eGExpr_eq]; first | done | rfl))⟩

def impl_compared (kind : Int) (a : GValue) (b : GValue) : Option GValue :=
  if a.Kind = 0 then (some (⟨0, 0, []⟩ : GValue)) else (if a.Kind = b.Kind then (if kind = 10 then (some (impl_truth (decide (a.Kind = b.Kind) && (decide (a.Num = b.Num) && (decide (a.Text = b.Text) && true))))) else (if kind = 11 then (some (impl_truth (!(decide (a.Kind = b.Kind) && (decide (a.Num = b.Num) && (decide (a.Text = b.Text) && true)))))) else (if kind = 12 then (some (impl_truth (impl_compared_1 a b))) else (if kind = 13 then (some (impl_truth (!(impl_compared_1 b a)))) else (if kind = 14 then (some (impl_truth (impl_compared_1 b a))) else (if kind = 15 then (some (impl_truth (!(impl_compared_1 a b)))) else (if a.Kind = 1 then (if kind = 16 then (some (impl_number (w64 (a.Num + b.Num)))) else (if kind = 17 then (some (impl_number (w64 (a.Num - b.Num)))) else ((impl_product a.Num b.Num).bind fun t => some t))) else (some (⟨0, 0, []⟩ : GValue))))))))) else (some (⟨0, 0, []⟩ : GValue)))

theorem impl_compared_ok {kind : Int} {a : GValue} {b : GValue} {r : GValue} (H : impl_compared kind a b = some r) : FnG Go.Proofs.Try.prog 67 [.d (.int .i64 kind), .agg (eGValue a), .agg (eGValue b)] [] (.agg (eGValue r)) [] := by
  unfold impl_compared at H
  refine FnG.intro (T := T) (fn := Go.Proofs.Try.f67) (c := (Go.Proofs.Try.f67).body.getD .skip) [.agg (eGValue r)] (by kernel_rfl) (by kernel_rfl) (by kernel_rfl) hfol hT (by kernel_rfl) rfl rfl rfl rfl rfl ?_
  intro N ok out pl0 W0
  refine PW_top ?_
  conv => whnf
  refine BranchG.ite H (fun HP H => ?_) (fun HP H => ?_)
  · obtain rfl := Option.some.inj H
    conv => whnf
    refine ⟨_, _, Cover.refl _ _, ?_⟩
    conv => whnf
    exact ⟨(by first | rfl | (simp only [List.map_cons, List.map_nil, eGExpr_eq]; first | done | rfl)), (by first | rfl | (simp only [List.map_cons, List.map_nil, eGExpr_eq]; first | done | rfl))⟩
  · conv => whnf
    refine BranchG.iteN H (fun HP H => ?_) (fun HP H => ?_)
    · obtain rfl := Option.some.inj H
      conv => whnf
      refine ⟨_, _, Cover.refl _ _, ?_⟩
      conv => whnf
      exact ⟨(by first | rfl | (simp only [List.map_cons, List.map_nil, eGExpr_eq]; first | done | rfl)), (by first | rfl | (simp only [List.map_cons, List.map_nil, eGExpr_eq]; first | done | rfl))⟩
    · conv => whnf
      refine BranchG.ite H (fun HP H => ?_) (fun HP H => ?_)
      · conv => whnf
        refine CallG.pure (by first | rfl | (simp only [argsG, argsK, argG, List.map_cons, List.map_nil, eGExpr_eq]; first | done | rfl)) (impl_truth_ok (decide (a.Kind = b.Kind) && (decide (a.Num = b.Num) && (decide (a.Text = b.Text) && true)))) ?_
        obtain rfl := Option.some.inj H
        conv => whnf
        refine ⟨_, _, Cover.refl _ _, ?_⟩
        conv => whnf
        exact ⟨(by first | rfl | (simp only [List.map_cons, List.map_nil, eGExpr_eq]; first | done | rfl)), (by first | rfl | (simp only [List.map_cons, List.map_nil, eGExpr_eq]; first | done | rfl))⟩
      · conv => whnf
        refine BranchG.ite H (fun HP H => ?_) (fun HP H => ?_)
        · conv => whnf
          refine CallG.pure (by first | rfl | (simp only [argsG, argsK, argG, List.map_cons, List.map_nil, eGExpr_eq]; first | done | rfl)) (impl_truth_ok (!(decide (a.Kind = b.Kind) && (decide (a.Num = b.Num) && (decide (a.Text = b.Text) && true))))) ?_
          obtain rfl := Option.some.inj H
          conv => whnf
          refine ⟨_, _, Cover.refl _ _, ?_⟩
          conv => whnf
          exact ⟨(by first | rfl | (simp only [List.map_cons, List.map_nil, eGExpr_eq]; first | done | rfl)), (by first | rfl | (simp only [List.map_cons, List.map_nil, eGExpr_eq]; first | done | rfl))⟩
        · conv => whnf
          refine BranchG.ite H (fun HP H => ?_) (fun HP H => ?_)
          · conv => whnf
            refine CallG.pure (by first | rfl | (simp only [argsG, argsK, argG, List.map_cons, List.map_nil, eGExpr_eq]; first | done | rfl)) (impl_compared_1_ok a b) ?_
            conv => whnf
            refine CallG.pure (by first | rfl | (simp only [argsG, argsK, argG, List.map_cons, List.map_nil, eGExpr_eq]; first | done | rfl)) (impl_truth_ok (impl_compared_1 a b)) ?_
            obtain rfl := Option.some.inj H
            conv => whnf
            refine ⟨_, _, Cover.refl _ _, ?_⟩
            conv => whnf
            exact ⟨(by first | rfl | (simp only [List.map_cons, List.map_nil, eGExpr_eq]; first | done | rfl)), (by first | rfl | (simp only [List.map_cons, List.map_nil, eGExpr_eq]; first | done | rfl))⟩
          · conv => whnf
            refine BranchG.ite H (fun HP H => ?_) (fun HP H => ?_)
            · conv => whnf
              refine CallG.pure (by first | rfl | (simp only [argsG, argsK, argG, List.map_cons, List.map_nil, eGExpr_eq]; first | done | rfl)) (impl_compared_1_ok b a) ?_
              conv => whnf
              refine CallG.pure (by first | rfl | (simp only [argsG, argsK, argG, List.map_cons, List.map_nil, eGExpr_eq]; first | done | rfl)) (impl_truth_ok (!(impl_compared_1 b a))) ?_
              obtain rfl := Option.some.inj H
              conv => whnf
              refine ⟨_, _, Cover.refl _ _, ?_⟩
              conv => whnf
              exact ⟨(by first | rfl | (simp only [List.map_cons, List.map_nil, eGExpr_eq]; first | done | rfl)), (by first | rfl | (simp only [List.map_cons, List.map_nil, eGExpr_eq]; first | done | rfl))⟩
            · conv => whnf
              refine BranchG.ite H (fun HP H => ?_) (fun HP H => ?_)
              · conv => whnf
                refine CallG.pure (by first | rfl | (simp only [argsG, argsK, argG, List.map_cons, List.map_nil, eGExpr_eq]; first | done | rfl)) (impl_compared_1_ok b a) ?_
                conv => whnf
                refine CallG.pure (by first | rfl | (simp only [argsG, argsK, argG, List.map_cons, List.map_nil, eGExpr_eq]; first | done | rfl)) (impl_truth_ok (impl_compared_1 b a)) ?_
                obtain rfl := Option.some.inj H
                conv => whnf
                refine ⟨_, _, Cover.refl _ _, ?_⟩
                conv => whnf
                exact ⟨(by first | rfl | (simp only [List.map_cons, List.map_nil, eGExpr_eq]; first | done | rfl)), (by first | rfl | (simp only [List.map_cons, List.map_nil, eGExpr_eq]; first | done | rfl))⟩
              · conv => whnf
                refine BranchG.ite H (fun HP H => ?_) (fun HP H => ?_)
                · conv => whnf
                  refine CallG.pure (by first | rfl | (simp only [argsG, argsK, argG, List.map_cons, List.map_nil, eGExpr_eq]; first | done | rfl)) (impl_compared_1_ok a b) ?_
                  conv => whnf
                  refine CallG.pure (by first | rfl | (simp only [argsG, argsK, argG, List.map_cons, List.map_nil, eGExpr_eq]; first | done | rfl)) (impl_truth_ok (!(impl_compared_1 a b))) ?_
                  obtain rfl := Option.some.inj H
                  conv => whnf
                  refine ⟨_, _, Cover.refl _ _, ?_⟩
                  conv => whnf
                  exact ⟨(by first | rfl | (simp only [List.map_cons, List.map_nil, eGExpr_eq]; first | done | rfl)), (by first | rfl | (simp only [List.map_cons, List.map_nil, eGExpr_eq]; first | done | rfl))⟩
                · conv => whnf
                  refine BranchG.iteN H (fun HP H => ?_) (fun HP H => ?_)
                  · obtain rfl := Option.some.inj H
                    conv => whnf
                    refine ⟨_, _, Cover.refl _ _, ?_⟩
                    conv => whnf
                    exact ⟨(by first | rfl | (simp only [List.map_cons, List.map_nil, eGExpr_eq]; first | done | rfl)), (by first | rfl | (simp only [List.map_cons, List.map_nil, eGExpr_eq]; first | done | rfl))⟩
                  · conv => whnf
                    refine BranchG.ite H (fun HP H => ?_) (fun HP H => ?_)
                    · conv => whnf
                      refine CallG.pure (by first | rfl | (simp only [argsG, argsK, argG, List.map_cons, List.map_nil, eGExpr_eq]; first | done | rfl)) (impl_number_ok (w64 (a.Num + b.Num))) ?_
                      obtain rfl := Option.some.inj H
                      conv => whnf
                      refine ⟨_, _, Cover.refl _ _, ?_⟩
                      conv => whnf
                      exact ⟨(by first | rfl | (simp only [List.map_cons, List.map_nil, eGExpr_eq]; first | done | rfl)), (by first | rfl | (simp only [List.map_cons, List.map_nil, eGExpr_eq]; first | done | rfl))⟩
                    · conv => whnf
                      refine BranchG.ite H (fun HP H => ?_) (fun HP H => ?_)
                      · conv => whnf
                        refine CallG.pure (by first | rfl | (simp only [argsG, argsK, argG, List.map_cons, List.map_nil, eGExpr_eq]; first | done | rfl)) (impl_number_ok (w64 (a.Num - b.Num))) ?_
                        obtain rfl := Option.some.inj H
                        conv => whnf
                        refine ⟨_, _, Cover.refl _ _, ?_⟩
                        conv => whnf
                        exact ⟨(by first | rfl | (simp only [List.map_cons, List.map_nil, eGExpr_eq]; first | done | rfl)), (by first | rfl | (simp only [List.map_cons, List.map_nil, eGExpr_eq]; first | done | rfl))⟩
                      · conv => whnf
                        obtain ⟨t, HTt, H⟩ := bind_some H
                        refine CallG.pure (by first | rfl | (simp only [argsG, argsK, argG, List.map_cons, List.map_nil, eGExpr_eq]; first | done | rfl)) (impl_product_ok HTt) ?_
                        obtain rfl := Option.some.inj H
                        conv => whnf
                        refine ⟨_, _, Cover.refl _ _, ?_⟩
                        conv => whnf
                        exact ⟨(by first | rfl | (simp only [List.map_cons, List.map_nil, eGExpr_eq]; first | done | rfl)), (by first | rfl | (simp only [List.map_cons, List.map_nil, eGExpr_eq]; first | done | rfl))⟩
end Go.Pv.S
