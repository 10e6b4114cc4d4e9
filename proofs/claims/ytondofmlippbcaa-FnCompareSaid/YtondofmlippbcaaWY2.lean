import Derived.Test.YtondofmlippbcaaWY1
set_option linter.unusedSimpArgs false
set_option linter.unusedVariables false
set_option maxRecDepth 100000
set_option maxHeartbeats 2000000
open Go Go.Pv
namespace Go.Pv.S
theorem impl_isExpr_ok {k : Nat} {e : GExpr} {left : Int} {r : (Bool × Int)} (H : impl_isExpr k e left = some r) : FnG Go.Proofs.Try.prog 59 [.agg (eGExpr1 e), .ptr 1000001 0] [(1000001, .box [.d (.int .i64 left)])] (.d (.bool r.1)) [(1000001, .box [.d (.int .i64 r.2)])] := (impl_isExpr_ring k).1 H

theorem slices_ContainsFunc_impl_Expr_impl_Expr_isExpr_1_ok {k : Nat} {s : (List GExpr)} {c : Int} {r : (Bool × Int)} (H : slices_ContainsFunc_impl_Expr_impl_Expr_isExpr_1 k s c = some r) : FnG Go.Proofs.Try.prog 87 [.d (.sl (s.map eGExpr)), .fn 88 [] [1002000]] [(1002000, .box [.ptr 1002500 0]), (1002500, .box [.d (.int .i64 c)])] (.d (.bool r.1)) [(1002000, .box [.ptr 1002500 0]), (1002500, .box [.d (.int .i64 r.2)])] := (impl_isExpr_ring k).2.1 H

theorem slices_IndexFunc_impl_Expr_impl_Expr_isExpr_1_ok {k : Nat} {s : (List GExpr)} {c : Int} {r : (Int × Int)} (H : slices_IndexFunc_impl_Expr_impl_Expr_isExpr_1 k s c = some r) : FnG Go.Proofs.Try.prog 111 [.d (.sl (s.map eGExpr)), .fn 88 [] [1002000]] [(1002000, .box [.ptr 1002500 0]), (1002500, .box [.d (.int .i64 c)])] (.d (.int .i64 r.1)) [(1002000, .box [.ptr 1002500 0]), (1002500, .box [.d (.int .i64 r.2)])] := (impl_isExpr_ring k).2.2.1 H

theorem impl_isExpr_1_ok {k : Nat} {kid : GExpr} {c : Int} {r : (Bool × Int)} (H : impl_isExpr_1 k kid c = some r) : FnG Go.Proofs.Try.prog 88 [.agg (eGExpr1 kid), .ptr 1000001 0] [(1000001, .box [.ptr 1000501 0]), (1000501, .box [.d (.int .i64 c)])] (.d (.bool r.1)) [(1000001, .box [.ptr 1000501 0]), (1000501, .box [.d (.int .i64 r.2)])] := (impl_isExpr_ring k).2.2.2 H

def impl_ExprOk (k : Nat) (e : GExpr) : Option Bool :=
  (impl_isExpr k e 40).bind fun t => some t.1

theorem impl_ExprOk_ok {k : Nat} {e : GExpr} {r : Bool} (H : impl_ExprOk k e = some r) : FnG Go.Proofs.Try.prog 34 [.agg (eGExpr1 e)] [] (.d (.bool r)) [] := by
  unfold impl_ExprOk at H
  refine FnG.intro (T := T) (fn := Go.Proofs.Try.f34) (c := (Go.Proofs.Try.f34).body.getD .skip) [.d (.bool r)] (by kernel_rfl) (by kernel_rfl) (by kernel_rfl) hfol hT (by kernel_rfl) rfl rfl rfl rfl rfl ?_
  intro N ok out pl0 W0
  refine PW_top ?_
  conv => whnf
  obtain ⟨t, HTt, H⟩ := bind_some H
  refine CallG.gen [(1000001, 3)] [] (by rfl) (impl_isExpr_ok HTt) rfl rfl ⟨rfl, trivial⟩ trivial rfl rfl rfl rfl rfl rfl rfl rfl rfl ?_
  obtain rfl := Option.some.inj H
  conv => whnf
  refine ⟨_, _, Cover.refl _ _, ?_⟩
  conv => whnf
  exact ⟨(by first | rfl | (simp only [List.map_cons, List.map_nil, eGExpr_eq]; first | done | rfl)), (by first | rfl | (simp only [List.map_cons, List.map_nil, eGExpr_eq]; first | done | rfl))⟩

def impl_ValueOk (v_ : GValue) : Bool :=
  if v_.Kind = 0 then (if v_.Num = 0 then ((decide (v_.Text = ([] : Str)))) else (false)) else (if v_.Kind = 1 then (if (impl_within v_.Num (-999999999999) 999999999999) = true then ((decide (v_.Text = ([] : Str)))) else (false)) else (if v_.Kind = 2 then (if v_.Num = 0 then ((decide ((v_.Text.length : Int) ≤ 100))) else (false)) else (if v_.Kind = 3 then (if (impl_within v_.Num 0 1) = true then ((decide (v_.Text = ([] : Str)))) else (false)) else (false))))

theorem impl_ValueOk_ok (v_ : GValue) : FnG Go.Proofs.Try.prog 28 [.agg (eGValue v_)] [] (.d (.bool (impl_ValueOk v_))) [] := by
  generalize H : impl_ValueOk v_ = r
  unfold impl_ValueOk at H
  refine FnG.intro (T := T) (fn := Go.Proofs.Try.f28) (c := (Go.Proofs.Try.f28).body.getD .skip) [.d (.bool r)] (by kernel_rfl) (by kernel_rfl) (by kernel_rfl) hfol hT (by kernel_rfl) rfl rfl rfl rfl rfl ?_
  intro N ok out pl0 W0
  refine PW_top ?_
  conv => whnf
  refine BranchG.ite H (fun HP H => ?_) (fun HP H => ?_)
  · conv => whnf
    refine BranchG.ite H (fun HP H => ?_) (fun HP H => ?_)
    · subst H
      conv => whnf
      refine ⟨_, _, Cover.refl _ _, ?_⟩
      conv => whnf
      exact ⟨(by first | rfl | (simp only [List.map_cons, List.map_nil, eGExpr_eq]; first | done | rfl)), (by first | rfl | (simp only [List.map_cons, List.map_nil, eGExpr_eq]; first | done | rfl))⟩
    · subst H
      conv => whnf
      refine ⟨_, _, Cover.refl _ _, ?_⟩
      conv => whnf
      exact ⟨(by first | rfl | (simp only [List.map_cons, List.map_nil, eGExpr_eq]; first | done | rfl)), (by first | rfl | (simp only [List.map_cons, List.map_nil, eGExpr_eq]; first | done | rfl))⟩
  · conv => whnf
    refine BranchG.ite H (fun HP H => ?_) (fun HP H => ?_)
    · conv => whnf
      refine CallG.pure (by first | rfl | (simp only [argsG, argsK, argG, List.map_cons, List.map_nil, eGExpr_eq]; first | done | rfl)) (impl_within_ok v_.Num (-999999999999) 999999999999) ?_
      conv => whnf
      refine BranchG.iteB H (fun HP H => ?_) (fun HP H => ?_)
      · subst H
        conv => whnf
        refine ⟨_, _, Cover.refl _ _, ?_⟩
        conv => whnf
        exact ⟨(by first | rfl | (simp only [List.map_cons, List.map_nil, eGExpr_eq]; first | done | rfl)), (by first | rfl | (simp only [List.map_cons, List.map_nil, eGExpr_eq]; first | done | rfl))⟩
      · subst H
        conv => whnf
        refine ⟨_, _, Cover.refl _ _, ?_⟩
        conv => whnf
        exact ⟨(by first | rfl | (simp only [List.map_cons, List.map_nil, eGExpr_eq]; first | done | rfl)), (by first | rfl | (simp only [List.map_cons, List.map_nil, eGExpr_eq]; first | done | rfl))⟩
    · conv => whnf
      refine BranchG.ite H (fun HP H => ?_) (fun HP H => ?_)
      · conv => whnf
        refine BranchG.ite H (fun HP H => ?_) (fun HP H => ?_)
        · subst H
          conv => whnf
          refine ⟨_, _, Cover.refl _ _, ?_⟩
          conv => whnf
          exact ⟨(by first | rfl | (simp only [List.map_cons, List.map_nil, eGExpr_eq]; first | done | rfl)), (by first | rfl | (simp only [List.map_cons, List.map_nil, eGExpr_eq]; first | done | rfl))⟩
        · subst H
          conv => whnf
          refine ⟨_, _, Cover.refl _ _, ?_⟩
          conv => whnf
          exact ⟨(by first | rfl | (simp only [List.map_cons, List.map_nil, eGExpr_eq]; first | done | rfl)), (by first | rfl | (simp only [List.map_cons, List.map_nil, eGExpr_eq]; first | done | rfl))⟩
      · conv => whnf
        refine BranchG.ite H (fun HP H => ?_) (fun HP H => ?_)
        · conv => whnf
          refine CallG.pure (by first | rfl | (simp only [argsG, argsK, argG, List.map_cons, List.map_nil, eGExpr_eq]; first | done | rfl)) (impl_within_ok v_.Num 0 1) ?_
          conv => whnf
          refine BranchG.iteB H (fun HP H => ?_) (fun HP H => ?_)
          · subst H
            conv => whnf
            refine ⟨_, _, Cover.refl _ _, ?_⟩
            conv => whnf
            exact ⟨(by first | rfl | (simp only [List.map_cons, List.map_nil, eGExpr_eq]; first | done | rfl)), (by first | rfl | (simp only [List.map_cons, List.map_nil, eGExpr_eq]; first | done | rfl))⟩
          · subst H
            conv => whnf
            refine ⟨_, _, Cover.refl _ _, ?_⟩
            conv => whnf
            exact ⟨(by first | rfl | (simp only [List.map_cons, List.map_nil, eGExpr_eq]; first | done | rfl)), (by first | rfl | (simp only [List.map_cons, List.map_nil, eGExpr_eq]; first | done | rfl))⟩
        · subst H
          conv => whnf
          refine ⟨_, _, Cover.refl _ _, ?_⟩
          conv => whnf
          exact ⟨(by first | rfl | (simp only [List.map_cons, List.map_nil, eGExpr_eq]; first | done | rfl)), (by first | rfl | (simp only [List.map_cons, List.map_nil, eGExpr_eq]; first | done | rfl))⟩

def impl_Eval_2 (v_ : GValue) : Bool :=
  (!(impl_ValueOk v_))

theorem impl_Eval_2_ok (v_ : GValue) : FnG Go.Proofs.Try.prog 36 [.agg (eGValue v_)] [] (.d (.bool (impl_Eval_2 v_))) [] := by
  generalize H : impl_Eval_2 v_ = r
  unfold impl_Eval_2 at H
  refine FnG.intro (T := T) (fn := Go.Proofs.Try.f36) (c := (Go.Proofs.Try.f36).body.getD .skip) [.d (.bool r)] (by kernel_rfl) (by kernel_rfl) (by kernel_rfl) hfol hT (by kernel_rfl) rfl rfl rfl rfl rfl ?_
  intro N ok out pl0 W0
  refine PW_top ?_
  conv => whnf
  refine CallG.pure (by first | rfl | (simp only [argsG, argsK, argG, List.map_cons, List.map_nil, eGExpr_eq]; first | done | rfl)) (impl_ValueOk_ok v_) ?_
  subst H
  conv => whnf
  refine ⟨_, _, Cover.refl _ _, ?_⟩
  conv => whnf
  exact ⟨(by first | rfl | (simp only [List.map_cons, List.map_nil, eGExpr_eq]; first | done | rfl)), (by first | rfl | (simp only [List.map_cons, List.map_nil, eGExpr_eq]; first | done | rfl))⟩

def slices_IndexFunc_impl_Value_impl_Value_Eval_2_l1  : List GValue → Nat → Option (Sum Unit Int)
  | [], i => some (Sum.inl ())
  | x :: xs, i => if (impl_Eval_2 x) = true then (some (Sum.inr (i : Int))) else (slices_IndexFunc_impl_Value_impl_Value_Eval_2_l1 xs (i + 1) )

def slices_IndexFunc_impl_Value_impl_Value_Eval_2 (s : (List GValue)) : Option Int :=
  (slices_IndexFunc_impl_Value_impl_Value_Eval_2_l1 s 0).bind fun mt => match mt with | Sum.inl _ => some (-1) | Sum.inr r => some r

theorem slices_IndexFunc_impl_Value_impl_Value_Eval_2_ok {s : (List GValue)} {r : Int} (H : slices_IndexFunc_impl_Value_impl_Value_Eval_2 s = some r) : FnG Go.Proofs.Try.prog 60 [.d (.sl (s.map eGValue)), .fn 36 [] []] [] (.d (.int .i64 r)) [] := by
  unfold slices_IndexFunc_impl_Value_impl_Value_Eval_2 at H
  refine FnG.intro (T := T) (fn := Go.Proofs.Try.f60) (c := (Go.Proofs.Try.f60).body.getD .skip) [.d (.int .i64 r)] (by kernel_rfl) (by kernel_rfl) (by kernel_rfl) hfol hT (by kernel_rfl) rfl rfl rfl rfl rfl ?_
  intro N ok out pl0 W0
  refine PW_top ?_
  conv => whnf
  refine LenG.intro s.length (by simp only [List.length_map]) ?_
  conv => whnf
  refine LoopG.len 0 rfl (fun HL1 => ?_)
  rw [List.length_map] at HL1
  refine LoopG.listCut (σ := Unit) (ε := Unit) s (fun i SS => ([(0, .d (.sl (s.map eGValue))), (1, .fn 36 [] []), (7, .d (.int .i64 (s.length : Int))), (8, .d (.int .i64 (i : Int)))], [])) (fun i SS LL => slices_IndexFunc_impl_Value_impl_Value_Eval_2_l1 LL i) 0 (fun EE => ([], [])) (fun e => Sum.inl e) () (Cover.list (fr' := [(0, .d (.sl (s.map eGValue))), (1, .fn 36 [] []), (7, .d (.int .i64 (s.length : Int))), (8, .d (.int .i64 ((0 : Nat) : Int)))]) (ob' := []) (⟨.inr rfl, ⟨.inl ⟨rfl, rfl⟩, ⟨.inr rfl, ⟨.inr rfl, trivial⟩⟩⟩⟩) (trivial)) H ?_ ?_ ?_
  · rintro RES1 HR1 i ⟨⟩ x HI1 HX1 H
    rw [slices_IndexFunc_impl_Value_impl_Value_Eval_2_l1] at H
    conv => whnf
    refine BranchG.t (decide_eq_true (by omega)) ?_
    conv => whnf
    refine IdxG.el (fun _ => rfl) rfl HX1 ?_
    conv => whnf
    refine CallG.pure (by first | rfl | (simp only [argsG, argsK, argG, List.map_cons, List.map_nil, eGExpr_eq]; first | done | rfl)) (impl_Eval_2_ok x) ?_
    conv => whnf
    refine BranchG.iteB H (fun HP H => ?_) (fun HP H => ?_)
    · obtain rfl := Option.some.inj H
      obtain rfl := Option.some.inj (HR1 : some _ = some _)
      conv => whnf
      refine ⟨_, _, Cover.refl _ _, ?_⟩
      conv => whnf
      exact ⟨(by first | rfl | (simp only [List.map_cons, List.map_nil, eGExpr_eq]; first | done | rfl)), (by first | rfl | (simp only [List.map_cons, List.map_nil, eGExpr_eq]; first | done | rfl))⟩
    · conv => whnf
      exact ⟨(), H, Cover.list (fr' := [(0, .d (.sl (s.map eGValue))), (1, .fn 36 [] []), (7, .d (.int .i64 (s.length : Int))), (8, .d (.int .i64 ((i + 1 : Nat) : Int)))]) (ob' := []) (⟨.inr rfl, ⟨.inl ⟨rfl, rfl⟩, ⟨.inr rfl, ⟨.inr (congrArg (fun n => some (PV.d (D.int .i64 n))) (wrapUp HI1 HL1)), trivial⟩⟩⟩⟩) (trivial)⟩
  · rintro RES1 HR1 i ⟨⟩ HI1 H
    rw [slices_IndexFunc_impl_Value_impl_Value_Eval_2_l1] at H
    conv => whnf
    refine BranchG.f (decide_eq_false (by omega)) ?_
    conv => whnf
    exact ⟨(), (Option.some.inj H).symm, Cover.list (fr' := []) (ob' := []) (trivial) (trivial)⟩
  · rintro ⟨⟩ H
    obtain rfl := Option.some.inj H
    conv => whnf
    refine ⟨_, _, Cover.refl _ _, ?_⟩
    conv => whnf
    exact ⟨(by first | rfl | (simp only [List.map_cons, List.map_nil, eGExpr_eq]; first | done | rfl)), (by first | rfl | (simp only [List.map_cons, List.map_nil, eGExpr_eq]; first | done | rfl))⟩

def slices_ContainsFunc_impl_Value_impl_Value_Eval_2 (s : (List GValue)) : Option Bool :=
  (slices_IndexFunc_impl_Value_impl_Value_Eval_2 s).bind fun t => some (decide (t ≥ 0))

theorem slices_ContainsFunc_impl_Value_impl_Value_Eval_2_ok {s : (List GValue)} {r : Bool} (H : slices_ContainsFunc_impl_Value_impl_Value_Eval_2 s = some r) : FnG Go.Proofs.Try.prog 35 [.d (.sl (s.map eGValue)), .fn 36 [] []] [] (.d (.bool r)) [] := by
  unfold slices_ContainsFunc_impl_Value_impl_Value_Eval_2 at H
  refine FnG.intro (T := T) (fn := Go.Proofs.Try.f35) (c := (Go.Proofs.Try.f35).body.getD .skip) [.d (.bool r)] (by kernel_rfl) (by kernel_rfl) (by kernel_rfl) hfol hT (by kernel_rfl) rfl rfl rfl rfl rfl ?_
  intro N ok out pl0 W0
  refine PW_top ?_
  conv => whnf
  obtain ⟨t, HTt, H⟩ := bind_some H
  refine CallG.pure (by first | rfl | (simp only [argsG, argsK, argG, List.map_cons, List.map_nil, eGExpr_eq]; first | done | rfl)) (slices_IndexFunc_impl_Value_impl_Value_Eval_2_ok HTt) ?_
  obtain rfl := Option.some.inj H
  conv => whnf
  refine ⟨_, _, Cover.refl _ _, ?_⟩
  conv => whnf
  exact ⟨(by first | rfl | (simp only [List.map_cons, List.map_nil, eGExpr_eq]; first | done | rfl)), (by first | rfl | (simp only [List.map_cons, List.map_nil, eGExpr_eq]; first | done | rfl))⟩
end Go.Pv.S
