import Derived.Test.YtondofmlippbcaaWY4
set_option linter.unusedSimpArgs false
set_option linter.unusedVariables false
set_option maxRecDepth 100000
set_option maxHeartbeats 2000000
open Go Go.Pv
namespace Go.Pv.S
def slices_ContainsFunc_string_string_Eval_1 (s : (List Str)) (c : (List GCol)) : Option (Bool × (List GCol)) :=
  (slices_IndexFunc_string_string_Eval_1 s c).bind fun t => some ((decide (t.1 ≥ 0)), t.2)

theorem slices_ContainsFunc_string_string_Eval_1_ok {s : (List Str)} {c : (List GCol)} {r : (Bool × (List GCol))} (H : slices_ContainsFunc_string_string_Eval_1 s c = some r) : FnG Go.Proofs.Try.prog 37 [.d (.sl (s.map eStr)), .fn 32 [] [1002000]] [(1002000, .box [.d (.sl (c.map eGCol))])] (.d (.bool r.1)) [(1002000, .box [.d (.sl (r.2.map eGCol))])] := by
  unfold slices_ContainsFunc_string_string_Eval_1 at H
  refine FnG.intro (T := T) (fn := Go.Proofs.Try.f37) (c := (Go.Proofs.Try.f37).body.getD .skip) [.d (.bool r.1)] (by kernel_rfl) (by kernel_rfl) (by kernel_rfl) hfol hT (by kernel_rfl) rfl rfl rfl rfl rfl ?_
  intro N ok out pl0 W0
  refine PW_top ?_
  conv => whnf
  obtain ⟨t, HTt, H⟩ := bind_some H
  refine CallG.gen [(1002000, 1002000)] [] (by rfl) (slices_IndexFunc_string_string_Eval_1_ok HTt) rfl rfl ⟨rfl, trivial⟩ trivial rfl rfl rfl rfl rfl rfl rfl rfl rfl ?_
  obtain rfl := Option.some.inj H
  conv => whnf
  refine ⟨_, _, Cover.refl _ _, ?_⟩
  conv => whnf
  exact ⟨(by first | rfl | (simp only [List.map_cons, List.map_nil, eGExpr_eq]; first | done | rfl)), (by first | rfl | (simp only [List.map_cons, List.map_nil, eGExpr_eq]; first | done | rfl))⟩

def impl_eval_1 (x : GCol) (c : GExpr) : (Bool × GExpr) :=
  ((decide (x.Name = c.Text)), c)

theorem impl_eval_1_ok (x : GCol) (c : GExpr) : FnG Go.Proofs.Try.prog 64 [.agg (eGCol x), .ptr 1000001 0] [(1000001, .box [.d (.int .i64 c.Kind), .d (.str c.Text), .d (.int .i64 c.Num), .d (.sl (c.Kids.map eGExpr))])] (.d (.bool (impl_eval_1 x c).1)) [(1000001, .box [.d (.int .i64 (impl_eval_1 x c).2.Kind), .d (.str (impl_eval_1 x c).2.Text), .d (.int .i64 (impl_eval_1 x c).2.Num), .d (.sl ((impl_eval_1 x c).2.Kids.map eGExpr))])] := by
  generalize H : impl_eval_1 x c = r
  unfold impl_eval_1 at H
  refine FnG.intro (T := T) (fn := Go.Proofs.Try.f64) (c := (Go.Proofs.Try.f64).body.getD .skip) [.d (.bool r.1)] (by kernel_rfl) (by kernel_rfl) (by kernel_rfl) hfol hT (by kernel_rfl) rfl rfl rfl rfl rfl ?_
  intro N ok out pl0 W0
  refine PW_top ?_
  subst H
  conv => whnf
  refine ⟨_, _, Cover.refl _ _, ?_⟩
  conv => whnf
  exact ⟨(by first | rfl | (simp only [List.map_cons, List.map_nil, eGExpr_eq]; first | done | rfl)), (by first | rfl | (simp only [List.map_cons, List.map_nil, eGExpr_eq]; first | done | rfl))⟩

def slices_IndexFunc_impl_Col_impl_Col_eval_1_l1  : List GCol → Nat → Int → Str → Int → (List GExpr) → Option (Sum (Int × Str × Int × (List GExpr)) (Int × GExpr))
  | [], i, c1, c2, c3, c4 => some (Sum.inl (c1, c2, c3, c4))
  | x :: xs, i, c1, c2, c3, c4 => if ((impl_eval_1 x (⟨c1, c2, c3, c4⟩ : GExpr)).1) = true then (some (Sum.inr ((i : Int), ((impl_eval_1 x (⟨c1, c2, c3, c4⟩ : GExpr)).2)))) else (slices_IndexFunc_impl_Col_impl_Col_eval_1_l1 xs (i + 1) (((impl_eval_1 x (⟨c1, c2, c3, c4⟩ : GExpr)).2).Kind) (((impl_eval_1 x (⟨c1, c2, c3, c4⟩ : GExpr)).2).Text) (((impl_eval_1 x (⟨c1, c2, c3, c4⟩ : GExpr)).2).Num) (((impl_eval_1 x (⟨c1, c2, c3, c4⟩ : GExpr)).2).Kids))

def slices_IndexFunc_impl_Col_impl_Col_eval_1 (s : (List GCol)) (c : GExpr) : Option (Int × GExpr) :=
  (slices_IndexFunc_impl_Col_impl_Col_eval_1_l1 s 0 c.Kind c.Text c.Num c.Kids).bind fun mt => match mt with | Sum.inl (c5, c6, c7, c8) => some ((-1), (⟨c5, c6, c7, c8⟩ : GExpr)) | Sum.inr r => some r

theorem slices_IndexFunc_impl_Col_impl_Col_eval_1_ok {s : (List GCol)} {c : GExpr} {r : (Int × GExpr)} (H : slices_IndexFunc_impl_Col_impl_Col_eval_1 s c = some r) : FnG Go.Proofs.Try.prog 57 [.d (.sl (s.map eGCol)), .fn 64 [] [1002000]] [(1002000, .box [.d (.int .i64 c.Kind), .d (.str c.Text), .d (.int .i64 c.Num), .d (.sl (c.Kids.map eGExpr))])] (.d (.int .i64 r.1)) [(1002000, .box [.d (.int .i64 r.2.Kind), .d (.str r.2.Text), .d (.int .i64 r.2.Num), .d (.sl (r.2.Kids.map eGExpr))])] := by
  unfold slices_IndexFunc_impl_Col_impl_Col_eval_1 at H
  refine FnG.intro (T := T) (fn := Go.Proofs.Try.f57) (c := (Go.Proofs.Try.f57).body.getD .skip) [.d (.int .i64 r.1)] (by kernel_rfl) (by kernel_rfl) (by kernel_rfl) hfol hT (by kernel_rfl) rfl rfl rfl rfl rfl ?_
  intro N ok out pl0 W0
  refine PW_top ?_
  conv => whnf
  refine LenG.intro s.length (by simp only [List.length_map]) ?_
  conv => whnf
  refine LoopG.len 0 rfl (fun HL1 => ?_)
  rw [List.length_map] at HL1
  refine LoopG.listCut (σ := (Int × Str × Int × (List GExpr))) (ε := (Int × Str × Int × (List GExpr))) s (fun i SS => ([(0, .d (.sl (s.map eGCol))), (1, .fn 64 [] [1002000]), (7, .d (.int .i64 (s.length : Int))), (8, .d (.int .i64 (i : Int)))], [(1002000, .box [.d (.int .i64 SS.1), .d (.str SS.2.1), .d (.int .i64 SS.2.2.1), .d (.sl (SS.2.2.2.map eGExpr))])])) (fun i SS LL => slices_IndexFunc_impl_Col_impl_Col_eval_1_l1 LL i SS.1 SS.2.1 SS.2.2.1 SS.2.2.2) 0 (fun EE => ([(1, .fn 64 [] [1002000])], [(1002000, .box [.d (.int .i64 EE.1), .d (.str EE.2.1), .d (.int .i64 EE.2.2.1), .d (.sl (EE.2.2.2.map eGExpr))])])) (fun e => Sum.inl e) (c.Kind, c.Text, c.Num, c.Kids) (Cover.list (fr' := [(0, .d (.sl (s.map eGCol))), (1, .fn 64 [] [1002000]), (7, .d (.int .i64 (s.length : Int))), (8, .d (.int .i64 ((0 : Nat) : Int)))]) (ob' := [(1002000, .box [.d (.int .i64 c.Kind), .d (.str c.Text), .d (.int .i64 c.Num), .d (.sl (c.Kids.map eGExpr))])]) (⟨.inr rfl, ⟨.inl ⟨rfl, rfl⟩, ⟨.inr rfl, ⟨.inr rfl, trivial⟩⟩⟩⟩) (⟨⟨⟨.inr rfl, rfl⟩, ⟨⟨.inr rfl, rfl⟩, ⟨⟨.inr rfl, rfl⟩, ⟨⟨.inr rfl, rfl⟩, trivial⟩⟩⟩⟩, trivial⟩)) H ?_ ?_ ?_
  · rintro RES1 HR1 i ⟨c1, c2, c3, c4⟩ x HI1 HX1 H
    rw [slices_IndexFunc_impl_Col_impl_Col_eval_1_l1] at H
    conv => whnf
    refine BranchG.t (decide_eq_true (by omega)) ?_
    conv => whnf
    refine IdxG.el (fun _ => rfl) rfl HX1 ?_
    conv => whnf
    refine CallG.gen [(1000001, 1002000)] [] (by rfl) (impl_eval_1_ok x (⟨c1, c2, c3, c4⟩ : GExpr)) rfl rfl ⟨rfl, trivial⟩ trivial rfl rfl rfl rfl rfl rfl rfl rfl rfl ?_
    conv => whnf
    refine BranchG.iteB H (fun HP H => ?_) (fun HP H => ?_)
    · obtain rfl := Option.some.inj H
      obtain rfl := Option.some.inj (HR1 : some _ = some _)
      conv => whnf
      refine ⟨_, _, Cover.refl _ _, ?_⟩
      conv => whnf
      exact ⟨(by first | rfl | (simp only [List.map_cons, List.map_nil, eGExpr_eq]; first | done | rfl)), (by first | rfl | (simp only [List.map_cons, List.map_nil, eGExpr_eq]; first | done | rfl))⟩
    · conv => whnf
      exact ⟨(((impl_eval_1 x (⟨c1, c2, c3, c4⟩ : GExpr)).2).Kind, ((impl_eval_1 x (⟨c1, c2, c3, c4⟩ : GExpr)).2).Text, ((impl_eval_1 x (⟨c1, c2, c3, c4⟩ : GExpr)).2).Num, ((impl_eval_1 x (⟨c1, c2, c3, c4⟩ : GExpr)).2).Kids), H, Cover.list (fr' := [(0, .d (.sl (s.map eGCol))), (1, .fn 64 [] [1002000]), (7, .d (.int .i64 (s.length : Int))), (8, .d (.int .i64 ((i + 1 : Nat) : Int)))]) (ob' := [(1002000, .box [.d (.int .i64 (((impl_eval_1 x (⟨c1, c2, c3, c4⟩ : GExpr)).2).Kind)), .d (.str (((impl_eval_1 x (⟨c1, c2, c3, c4⟩ : GExpr)).2).Text)), .d (.int .i64 (((impl_eval_1 x (⟨c1, c2, c3, c4⟩ : GExpr)).2).Num)), .d (.sl ((((impl_eval_1 x (⟨c1, c2, c3, c4⟩ : GExpr)).2).Kids).map eGExpr))])]) (⟨.inr rfl, ⟨.inl ⟨rfl, rfl⟩, ⟨.inr rfl, ⟨.inr (congrArg (fun n => some (PV.d (D.int .i64 n))) (wrapUp HI1 HL1)), trivial⟩⟩⟩⟩) (⟨⟨⟨.inr rfl, rfl⟩, ⟨⟨.inr rfl, rfl⟩, ⟨⟨.inr rfl, rfl⟩, ⟨⟨.inr rfl, rfl⟩, trivial⟩⟩⟩⟩, trivial⟩)⟩
  · rintro RES1 HR1 i ⟨c1, c2, c3, c4⟩ HI1 H
    rw [slices_IndexFunc_impl_Col_impl_Col_eval_1_l1] at H
    conv => whnf
    refine BranchG.f (decide_eq_false (by omega)) ?_
    conv => whnf
    exact ⟨(c1, c2, c3, c4), (Option.some.inj H).symm, Cover.list (fr' := [(1, .fn 64 [] [1002000])]) (ob' := [(1002000, .box [.d (.int .i64 c1), .d (.str c2), .d (.int .i64 c3), .d (.sl (c4.map eGExpr))])]) (⟨.inl ⟨rfl, rfl⟩, trivial⟩) (⟨⟨⟨.inr rfl, rfl⟩, ⟨⟨.inr rfl, rfl⟩, ⟨⟨.inr rfl, rfl⟩, ⟨⟨.inr rfl, rfl⟩, trivial⟩⟩⟩⟩, trivial⟩)⟩
  · rintro ⟨c5, c6, c7, c8⟩ H
    obtain rfl := Option.some.inj H
    conv => whnf
    refine ⟨_, _, Cover.refl _ _, ?_⟩
    conv => whnf
    exact ⟨(by first | rfl | (simp only [List.map_cons, List.map_nil, eGExpr_eq]; first | done | rfl)), (by first | rfl | (simp only [List.map_cons, List.map_nil, eGExpr_eq]; first | done | rfl))⟩

def impl_truth (is : Bool) : GValue :=
  if is = true then ((⟨3, 1, []⟩ : GValue)) else ((⟨3, 0, []⟩ : GValue))

theorem impl_truth_ok (is : Bool) : FnG Go.Proofs.Try.prog 65 [.d (.bool is)] [] (.agg (eGValue (impl_truth is))) [] := by
  generalize H : impl_truth is = r
  unfold impl_truth at H
  refine FnG.intro (T := T) (fn := Go.Proofs.Try.f65) (c := (Go.Proofs.Try.f65).body.getD .skip) [.agg (eGValue r)] (by kernel_rfl) (by kernel_rfl) (by kernel_rfl) hfol hT (by kernel_rfl) rfl rfl rfl rfl rfl ?_
  intro N ok out pl0 W0
  refine PW_top ?_
  conv => whnf
  refine BranchG.iteB H (fun HP H => ?_) (fun HP H => ?_)
  · subst H
    conv => whnf
    refine ⟨_, _, Cover.refl _ _, ?_⟩
    conv => whnf
    exact ⟨(by first | rfl | (simp only [List.map_cons, List.map_nil, eGExpr_eq]; first | done | rfl)), (by first | rfl | (simp only [List.map_cons, List.map_nil, eGExpr_eq]; first | done | rfl))⟩
  · subst H
    conv => whnf
    refine ⟨_, _, Cover.refl _ _, ?_⟩
    conv => whnf
    exact ⟨(by first | rfl | (simp only [List.map_cons, List.map_nil, eGExpr_eq]; first | done | rfl)), (by first | rfl | (simp only [List.map_cons, List.map_nil, eGExpr_eq]; first | done | rfl))⟩

def impl_logical (a : GValue) (b : GValue) (deciding : Bool) : GValue :=
  if (decide (a.Kind = (impl_truth deciding).Kind) && (decide (a.Num = (impl_truth deciding).Num) && (decide (a.Text = (impl_truth deciding).Text) && true))) = true then ((impl_truth deciding)) else (if (decide (b.Kind = (impl_truth deciding).Kind) && (decide (b.Num = (impl_truth deciding).Num) && (decide (b.Text = (impl_truth deciding).Text) && true))) = true then ((impl_truth deciding)) else (if a.Kind = 3 then (if b.Kind = 3 then ((impl_truth (!deciding))) else ((⟨0, 0, []⟩ : GValue))) else ((⟨0, 0, []⟩ : GValue))))

theorem impl_logical_ok (a : GValue) (b : GValue) (deciding : Bool) : FnG Go.Proofs.Try.prog 66 [.agg (eGValue a), .agg (eGValue b), .d (.bool deciding)] [] (.agg (eGValue (impl_logical a b deciding))) [] := by
  generalize H : impl_logical a b deciding = r
  unfold impl_logical at H
  refine FnG.intro (T := T) (fn := Go.Proofs.Try.f66) (c := (Go.Proofs.Try.f66).body.getD .skip) [.agg (eGValue r)] (by kernel_rfl) (by kernel_rfl) (by kernel_rfl) hfol hT (by kernel_rfl) rfl rfl rfl rfl rfl ?_
  intro N ok out pl0 W0
  refine PW_top ?_
  conv => whnf
  refine CallG.pure (by first | rfl | (simp only [argsG, argsK, argG, List.map_cons, List.map_nil, eGExpr_eq]; first | done | rfl)) (impl_truth_ok deciding) ?_
  conv => whnf
  refine BranchG.iteB H (fun HP H => ?_) (fun HP H => ?_)
  · conv => whnf
    refine CallG.pure (by first | rfl | (simp only [argsG, argsK, argG, List.map_cons, List.map_nil, eGExpr_eq]; first | done | rfl)) (impl_truth_ok deciding) ?_
    subst H
    conv => whnf
    refine ⟨_, _, Cover.refl _ _, ?_⟩
    conv => whnf
    exact ⟨(by first | rfl | (simp only [List.map_cons, List.map_nil, eGExpr_eq]; first | done | rfl)), (by first | rfl | (simp only [List.map_cons, List.map_nil, eGExpr_eq]; first | done | rfl))⟩
  · conv => whnf
    refine CallG.pure (by first | rfl | (simp only [argsG, argsK, argG, List.map_cons, List.map_nil, eGExpr_eq]; first | done | rfl)) (impl_truth_ok deciding) ?_
    conv => whnf
    refine BranchG.iteB H (fun HP H => ?_) (fun HP H => ?_)
    · conv => whnf
      refine CallG.pure (by first | rfl | (simp only [argsG, argsK, argG, List.map_cons, List.map_nil, eGExpr_eq]; first | done | rfl)) (impl_truth_ok deciding) ?_
      subst H
      conv => whnf
      refine ⟨_, _, Cover.refl _ _, ?_⟩
      conv => whnf
      exact ⟨(by first | rfl | (simp only [List.map_cons, List.map_nil, eGExpr_eq]; first | done | rfl)), (by first | rfl | (simp only [List.map_cons, List.map_nil, eGExpr_eq]; first | done | rfl))⟩
    · conv => whnf
      refine BranchG.iteN H (fun HP H => ?_) (fun HP H => ?_)
      · subst H
        conv => whnf
        refine ⟨_, _, Cover.refl _ _, ?_⟩
        conv => whnf
        exact ⟨(by first | rfl | (simp only [List.map_cons, List.map_nil, eGExpr_eq]; first | done | rfl)), (by first | rfl | (simp only [List.map_cons, List.map_nil, eGExpr_eq]; first | done | rfl))⟩
      · conv => whnf
        refine BranchG.iteN H (fun HP H => ?_) (fun HP H => ?_)
        · subst H
          conv => whnf
          refine ⟨_, _, Cover.refl _ _, ?_⟩
          conv => whnf
          exact ⟨(by first | rfl | (simp only [List.map_cons, List.map_nil, eGExpr_eq]; first | done | rfl)), (by first | rfl | (simp only [List.map_cons, List.map_nil, eGExpr_eq]; first | done | rfl))⟩
        · conv => whnf
          refine CallG.pure (by first | rfl | (simp only [argsG, argsK, argG, List.map_cons, List.map_nil, eGExpr_eq]; first | done | rfl)) (impl_truth_ok (!deciding)) ?_
          subst H
          conv => whnf
          refine ⟨_, _, Cover.refl _ _, ?_⟩
          conv => whnf
          exact ⟨(by first | rfl | (simp only [List.map_cons, List.map_nil, eGExpr_eq]; first | done | rfl)), (by first | rfl | (simp only [List.map_cons, List.map_nil, eGExpr_eq]; first | done | rfl))⟩
end Go.Pv.S
