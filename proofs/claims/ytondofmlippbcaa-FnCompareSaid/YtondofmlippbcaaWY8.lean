import Derived.Test.YtondofmlippbcaaWY7
set_option linter.unusedSimpArgs false
set_option linter.unusedVariables false
set_option maxRecDepth 100000
set_option maxHeartbeats 2000000
open Go Go.Pv
namespace Go.Pv.S
theorem impl_eval_ok {k : Nat} {e : GExpr} {cols : (List GCol)} {row : GRow} {r : GValue} (H : impl_eval k e cols row = some r) : FnG Go.Proofs.Try.prog 39 [.agg (eGExpr1 e), .d (.sl (cols.map eGCol)), .agg (eGRow row)] [] (.agg (eGValue r)) [] := (impl_eval_ring k) H

def impl_Eval (k : Nat) (e : GExpr) (cols : (List GCol)) (row : GRow) : Option GValue :=
  (impl_ExprOk k e).bind fun t => if t = true then (if (row.Vals.length : Int) = (cols.length : Int) then ((slices_ContainsFunc_impl_Value_impl_Value_Eval_2 row.Vals).bind fun t1 => if t1 = true then (some (⟨0, 0, []⟩ : GValue)) else ((impl_Columns k e).bind fun t2 => (slices_ContainsFunc_string_string_Eval_1 t2 cols).bind fun t3 => if t3.1 = true then (some (⟨0, 0, []⟩ : GValue)) else ((impl_eval k e t3.2 row).bind fun t4 => some t4))) else (some (⟨0, 0, []⟩ : GValue))) else (some (⟨0, 0, []⟩ : GValue))

theorem impl_Eval_ok {k : Nat} {e : GExpr} {cols : (List GCol)} {row : GRow} {r : GValue} (H : impl_Eval k e cols row = some r) : FnG Go.Proofs.Try.prog 17 [.agg (eGExpr1 e), .d (.sl (cols.map eGCol)), .agg (eGRow row)] [] (.agg (eGValue r)) [] := by
  unfold impl_Eval at H
  refine FnG.intro (T := T) (fn := Go.Proofs.Try.f17) (c := (Go.Proofs.Try.f17).body.getD .skip) [.agg (eGValue r)] (by kernel_rfl) (by kernel_rfl) (by kernel_rfl) hfol hT (by kernel_rfl) rfl rfl rfl rfl rfl ?_
  intro N ok out pl0 W0
  refine PW_top ?_
  conv => whnf
  obtain ⟨t, HTt, H⟩ := bind_some H
  refine CallG.pure (by first | rfl | (simp only [argsG, argsK, argG, List.map_cons, List.map_nil, eGExpr_eq]; first | done | rfl)) (impl_ExprOk_ok HTt) ?_
  conv => whnf
  refine BranchG.iteBN H (fun HP H => ?_) (fun HP H => ?_)
  · obtain rfl := Option.some.inj H
    conv => whnf
    refine ⟨_, _, Cover.refl _ _, ?_⟩
    conv => whnf
    exact ⟨(by first | rfl | (simp only [List.map_cons, List.map_nil, eGExpr_eq]; first | done | rfl)), (by first | rfl | (simp only [List.map_cons, List.map_nil, eGExpr_eq]; first | done | rfl))⟩
  · conv => whnf
    refine LenG.intro row.Vals.length (by simp only [List.length_map]) ?_
    conv => whnf
    refine LenG.intro cols.length (by simp only [List.length_map]) ?_
    conv => whnf
    refine BranchG.iteN H (fun HP H => ?_) (fun HP H => ?_)
    · obtain rfl := Option.some.inj H
      conv => whnf
      refine ⟨_, _, Cover.refl _ _, ?_⟩
      conv => whnf
      exact ⟨(by first | rfl | (simp only [List.map_cons, List.map_nil, eGExpr_eq]; first | done | rfl)), (by first | rfl | (simp only [List.map_cons, List.map_nil, eGExpr_eq]; first | done | rfl))⟩
    · conv => whnf
      obtain ⟨t1, HTt1, H⟩ := bind_some H
      refine CallG.pure (by first | rfl | (simp only [argsG, argsK, argG, List.map_cons, List.map_nil, eGExpr_eq]; first | done | rfl)) (slices_ContainsFunc_impl_Value_impl_Value_Eval_2_ok HTt1) ?_
      conv => whnf
      refine BranchG.iteB H (fun HP H => ?_) (fun HP H => ?_)
      · obtain rfl := Option.some.inj H
        conv => whnf
        refine ⟨_, _, Cover.refl _ _, ?_⟩
        conv => whnf
        exact ⟨(by first | rfl | (simp only [List.map_cons, List.map_nil, eGExpr_eq]; first | done | rfl)), (by first | rfl | (simp only [List.map_cons, List.map_nil, eGExpr_eq]; first | done | rfl))⟩
      · conv => whnf
        obtain ⟨t2, HTt2, H⟩ := bind_some H
        refine CallG.pure (by first | rfl | (simp only [argsG, argsK, argG, List.map_cons, List.map_nil, eGExpr_eq]; first | done | rfl)) (impl_Columns_ok HTt2) ?_
        conv => whnf
        obtain ⟨t3, HTt3, H⟩ := bind_some H
        refine CallG.gen [(1002000, 4)] [] (by rfl) (slices_ContainsFunc_string_string_Eval_1_ok HTt3) rfl rfl ⟨rfl, trivial⟩ trivial rfl rfl rfl rfl rfl rfl rfl rfl rfl ?_
        conv => whnf
        refine BranchG.iteB H (fun HP H => ?_) (fun HP H => ?_)
        · obtain rfl := Option.some.inj H
          conv => whnf
          refine ⟨_, _, Cover.refl _ _, ?_⟩
          conv => whnf
          exact ⟨(by first | rfl | (simp only [List.map_cons, List.map_nil, eGExpr_eq]; first | done | rfl)), (by first | rfl | (simp only [List.map_cons, List.map_nil, eGExpr_eq]; first | done | rfl))⟩
        · conv => whnf
          obtain ⟨t4, HTt4, H⟩ := bind_some H
          refine CallG.pure (by first | rfl | (simp only [argsG, argsK, argG, List.map_cons, List.map_nil, eGExpr_eq]; first | done | rfl)) (impl_eval_ok HTt4) ?_
          obtain rfl := Option.some.inj H
          conv => whnf
          refine ⟨_, _, Cover.refl _ _, ?_⟩
          conv => whnf
          exact ⟨(by first | rfl | (simp only [List.map_cons, List.map_nil, eGExpr_eq]; first | done | rfl)), (by first | rfl | (simp only [List.map_cons, List.map_nil, eGExpr_eq]; first | done | rfl))⟩

def laws_FnCompare_l1 (k : Nat) (t : Int) (t1 : Int) : List Int → Nat → Int → Option ((List GCol) × (List GExpr) × Int)
  | [], i, n => some ([(⟨[120], (⟨0, 0, []⟩ : GType_), false, []⟩ : GCol), (⟨[121], (⟨0, 0, []⟩ : GType_), false, []⟩ : GCol)], [(⟨0, [120], 0, []⟩ : GExpr), (⟨0, [121], 0, []⟩ : GExpr)], n)
  | x :: xs, i, n => (at? ([12, 10, 14] : List Int) (i : Int)).bind fun e => (impl_Eval k (⟨e, [], 0, [(⟨0, [120], 0, []⟩ : GExpr), (⟨0, [121], 0, []⟩ : GExpr)]⟩ : GExpr) ([(⟨[120], (⟨0, 0, []⟩ : GType_), false, []⟩ : GCol), (⟨[121], (⟨0, 0, []⟩ : GType_), false, []⟩ : GCol)]) (⟨[(⟨1, (w64 ((w64 (t * 4000000)) - 500000000)), []⟩ : GValue), (⟨1, (w64 ((w64 (t1 * 3999999)) - 499999000)), []⟩ : GValue)]⟩ : GRow)).bind fun t2 => if (decide (t2.Kind = 3) && (decide (t2.Num = 1) && (decide (t2.Text = []) && true))) = true then (laws_FnCompare_l1 k t t1 xs (i + 1) (w64 (n + 1))) else (laws_FnCompare_l1 k t t1 xs (i + 1) n)

def laws_FnCompare (k : Nat) (code : (List UInt8)) : Option Bool :=
  if (laws_big code) = true then (some true) else ((laws_at code 0).bind fun t => (laws_at code 1).bind fun t1 => (laws_FnCompare_l1 k t t1 ([12, 10, 14] : List Int) 0 0).bind fun mt => match mt with | (cols, kids, n1) => (impl_Eval k (⟨13, [], 0, kids⟩ : GExpr) cols (⟨[(⟨1, (w64 ((w64 (t * 4000000)) - 500000000)), []⟩ : GValue), (⟨1, (w64 ((w64 (t1 * 3999999)) - 499999000)), []⟩ : GValue)]⟩ : GRow)).bind fun t3 => (impl_Eval k (⟨15, [], 0, kids⟩ : GExpr) cols (⟨[(⟨1, (w64 ((w64 (t * 4000000)) - 500000000)), []⟩ : GValue), (⟨1, (w64 ((w64 (t1 * 3999999)) - 499999000)), []⟩ : GValue)]⟩ : GRow)).bind fun t4 => (impl_Eval k (⟨16, [], 0, kids⟩ : GExpr) cols (⟨[(⟨1, (w64 ((w64 (t * 4000000)) - 500000000)), []⟩ : GValue), (⟨1, (w64 ((w64 (t1 * 3999999)) - 499999000)), []⟩ : GValue)]⟩ : GRow)).bind fun t5 => (impl_Eval k (⟨18, [], 0, kids⟩ : GExpr) cols (⟨[(⟨1, (w64 ((w64 (t * 4000000)) - 500000000)), []⟩ : GValue), (⟨1, (w64 ((w64 (t1 * 3999999)) - 499999000)), []⟩ : GValue)]⟩ : GRow)).bind fun t6 => if (w64 ((w64 ((w64 (t * 4000000)) - 500000000)) * (w64 ((w64 (t1 * 3999999)) - 499999000)))) > 999999999999 then (if n1 = 1 then (if ((decide (t3.Kind = 3) && (decide (t3.Num = 1) && (decide (t3.Text = []) && true))) == (decide ((w64 ((w64 (t * 4000000)) - 500000000)) ≤ (w64 ((w64 (t1 * 3999999)) - 499999000))))) = true then (if ((decide (t4.Kind = 3) && (decide (t4.Num = 1) && (decide (t4.Text = []) && true))) == (decide ((w64 ((w64 (t * 4000000)) - 500000000)) ≥ (w64 ((w64 (t1 * 3999999)) - 499999000))))) = true then (if t5.Num = (w64 ((w64 ((w64 (t * 4000000)) - 500000000)) + (w64 ((w64 (t1 * 3999999)) - 499999000)))) then (if t5.Kind = 1 then (if (decide (t6.Kind = 0) && (decide (t6.Num = 0) && (decide (t6.Text = []) && true))) = true then (some true) else (some false)) else (some false)) else (some false)) else (some false)) else (some false)) else (some false)) else (if n1 = 1 then (if ((decide (t3.Kind = 3) && (decide (t3.Num = 1) && (decide (t3.Text = []) && true))) == (decide ((w64 ((w64 (t * 4000000)) - 500000000)) ≤ (w64 ((w64 (t1 * 3999999)) - 499999000))))) = true then (if ((decide (t4.Kind = 3) && (decide (t4.Num = 1) && (decide (t4.Text = []) && true))) == (decide ((w64 ((w64 (t * 4000000)) - 500000000)) ≥ (w64 ((w64 (t1 * 3999999)) - 499999000))))) = true then (if t5.Num = (w64 ((w64 ((w64 (t * 4000000)) - 500000000)) + (w64 ((w64 (t1 * 3999999)) - 499999000)))) then (if t5.Kind = 1 then (if (w64 ((w64 ((w64 (t * 4000000)) - 500000000)) * (w64 ((w64 (t1 * 3999999)) - 499999000)))) < (-999999999999) then (if (decide (t6.Kind = 0) && (decide (t6.Num = 0) && (decide (t6.Text = []) && true))) = true then (some true) else (if (w64 ((w64 ((w64 (t * 4000000)) - 500000000)) * (w64 ((w64 (t1 * 3999999)) - 499999000)))) < (-999999999999) then (some false) else (some (decide (t6.Num = (w64 ((w64 ((w64 (t * 4000000)) - 500000000)) * (w64 ((w64 (t1 * 3999999)) - 499999000))))))))) else (if (w64 ((w64 ((w64 (t * 4000000)) - 500000000)) * (w64 ((w64 (t1 * 3999999)) - 499999000)))) < (-999999999999) then (some false) else (some (decide (t6.Num = (w64 ((w64 ((w64 (t * 4000000)) - 500000000)) * (w64 ((w64 (t1 * 3999999)) - 499999000))))))))) else (some false)) else (some false)) else (some false)) else (some false)) else (some false)))

theorem laws_FnCompare_ok {k : Nat} {code : (List UInt8)} {r : Bool} (H : laws_FnCompare k code = some r) : FnG Go.Proofs.Try.prog 4 [.d (.sl (code.map eByte))] [] (.d (.bool r)) [] := by
  unfold laws_FnCompare at H
  refine FnG.intro (T := T) (fn := Go.Proofs.Try.f4) (c := (Go.Proofs.Try.f4).body.getD .skip) [.d (.bool r)] (by kernel_rfl) (by kernel_rfl) (by kernel_rfl) hfol hT (by kernel_rfl) rfl rfl rfl rfl rfl ?_
  intro N ok out pl0 W0
  refine PW_top ?_
  conv => whnf
  refine CallG.pure (by first | rfl | (simp only [argsG, argsK, argG, List.map_cons, List.map_nil, eGExpr_eq]; first | done | rfl)) (laws_big_ok code) ?_
  conv => whnf
  refine BranchG.iteB H (fun HP H => ?_) (fun HP H => ?_)
  · obtain rfl := Option.some.inj H
    conv => whnf
    refine ⟨_, _, Cover.refl _ _, ?_⟩
    conv => whnf
    exact ⟨rfl, rfl⟩
  · conv => whnf
    obtain ⟨t, HTt, H⟩ := bind_some H
    refine CallG.pure (by first | rfl | (simp only [argsG, argsK, argG, List.map_cons, List.map_nil, eGExpr_eq]; first | done | rfl)) (laws_at_ok HTt) ?_
    conv => whnf
    obtain ⟨t1, HTt1, H⟩ := bind_some H
    refine CallG.pure (by first | rfl | (simp only [argsG, argsK, argG, List.map_cons, List.map_nil, eGExpr_eq]; first | done | rfl)) (laws_at_ok HTt1) ?_
    conv => whnf
    refine RowsG.intro (List.map eGCol [(⟨[120], (⟨0, 0, []⟩ : GType_), false, []⟩ : GCol), (⟨[121], (⟨0, 0, []⟩ : GType_), false, []⟩ : GCol)]) (by first | rfl | (simp only [List.map_cons, List.map_nil, eGExpr_eq]; first | done | rfl)) ?_
    conv => whnf
    refine RowsG.intro (List.map eGValue [(⟨1, (w64 ((w64 (t * 4000000)) - 500000000)), []⟩ : GValue), (⟨1, (w64 ((w64 (t1 * 3999999)) - 499999000)), []⟩ : GValue)]) (by first | rfl | (simp only [List.map_cons, List.map_nil, eGExpr_eq]; first | done | rfl)) ?_
    conv => whnf
    refine RowsG.intro (List.map eGExpr [(⟨0, [120], 0, []⟩ : GExpr), (⟨0, [121], 0, []⟩ : GExpr)]) (by first | rfl | (simp only [List.map_cons, List.map_nil, eGExpr_eq]; first | done | rfl)) ?_
    conv => whnf
    refine RowsG.intro (List.map (eInt .i64) ([12, 10, 14] : List Int)) (by first | rfl | (simp only [List.map_cons, List.map_nil, eGExpr_eq]; first | done | rfl)) ?_
    conv => whnf
    refine LenG.intro ([12, 10, 14] : List Int).length (by simp only [List.length_map]) ?_
    conv => whnf
    refine LoopG.lenR 40 rfl (fun HL1 => ?_)
    rw [List.length_map] at HL1
    refine LoopG.listCut (σ := Int) (ε := ((List GCol) × (List GExpr) × Int)) ([12, 10, 14] : List Int) (fun i SS => ([(3, .d (.int .i64 (w64 ((w64 (t * 4000000)) - 500000000)))), (4, .d (.int .i64 (w64 ((w64 (t1 * 3999999)) - 499999000)))), (5, .d (.sl (([(⟨[120], (⟨0, 0, []⟩ : GType_), false, []⟩ : GCol), (⟨[121], (⟨0, 0, []⟩ : GType_), false, []⟩ : GCol)]).map eGCol))), (6, .ptr 6 0), (7, .d (.sl (([(⟨0, [120], 0, []⟩ : GExpr), (⟨0, [121], 0, []⟩ : GExpr)]).map eGExpr))), (8, .ptr 8 0), (9, .d (.int .i64 SS)), (40, .own 40), (41, .d (.int .i64 (([12, 10, 14] : List Int).length : Int))), (42, .d (.int .i64 (i : Int)))], [(6, .box [.d (.sl (([(⟨1, (w64 ((w64 (t * 4000000)) - 500000000)), []⟩ : GValue), (⟨1, (w64 ((w64 (t1 * 3999999)) - 499999000)), []⟩ : GValue)]).map eGValue))]), (8, .box [.d (.int .i64 3), .d (.int .i64 1), .d (.str [])]), (40, .row 3 1 (([12, 10, 14] : List Int).map (eInt .i64)))])) (fun i SS LL => laws_FnCompare_l1 k t t1 LL i SS) 0 (fun EE => ([(3, .d (.int .i64 (w64 ((w64 (t * 4000000)) - 500000000)))), (4, .d (.int .i64 (w64 ((w64 (t1 * 3999999)) - 499999000)))), (5, .d (.sl (EE.1.map eGCol))), (6, .ptr 6 0), (7, .d (.sl (EE.2.1.map eGExpr))), (8, .ptr 8 0), (9, .d (.int .i64 EE.2.2))], [(6, .box [.d (.sl (([(⟨1, (w64 ((w64 (t * 4000000)) - 500000000)), []⟩ : GValue), (⟨1, (w64 ((w64 (t1 * 3999999)) - 499999000)), []⟩ : GValue)]).map eGValue))]), (8, .box [.d (.int .i64 3), .d (.int .i64 1), .d (.str [])])])) (fun e => e) 0 (Cover.list (fr' := [(3, .d (.int .i64 (w64 ((w64 (t * 4000000)) - 500000000)))), (4, .d (.int .i64 (w64 ((w64 (t1 * 3999999)) - 499999000)))), (5, .d (.sl (([(⟨[120], (⟨0, 0, []⟩ : GType_), false, []⟩ : GCol), (⟨[121], (⟨0, 0, []⟩ : GType_), false, []⟩ : GCol)]).map eGCol))), (6, .ptr 6 0), (7, .d (.sl (([(⟨0, [120], 0, []⟩ : GExpr), (⟨0, [121], 0, []⟩ : GExpr)]).map eGExpr))), (8, .ptr 8 0), (9, .d (.int .i64 0)), (40, .own 40), (41, .d (.int .i64 (([12, 10, 14] : List Int).length : Int))), (42, .d (.int .i64 ((0 : Nat) : Int)))]) (ob' := [(6, .box [.d (.sl (([(⟨1, (w64 ((w64 (t * 4000000)) - 500000000)), []⟩ : GValue), (⟨1, (w64 ((w64 (t1 * 3999999)) - 499999000)), []⟩ : GValue)]).map eGValue))]), (8, .box [.d (.int .i64 3), .d (.int .i64 1), .d (.str [])]), (40, .row 3 1 (([12, 10, 14] : List Int).map (eInt .i64)))]) (⟨.inr rfl, ⟨.inr rfl, ⟨.inr rfl, ⟨.inl ⟨rfl, rfl⟩, ⟨.inr rfl, ⟨.inl ⟨rfl, rfl⟩, ⟨.inr rfl, ⟨.inl ⟨rfl, rfl⟩, ⟨.inr rfl, ⟨.inr rfl, trivial⟩⟩⟩⟩⟩⟩⟩⟩⟩⟩) (⟨⟨⟨.inr rfl, rfl⟩, trivial⟩, ⟨⟨⟨.inr rfl, rfl⟩, ⟨⟨.inr rfl, rfl⟩, ⟨⟨.inr rfl, rfl⟩, trivial⟩⟩⟩, ⟨rfl, trivial⟩⟩⟩)) H ?_ ?_ ?_
    · rintro RES1 HR1 i n x HI1 HX1 H
      rw [laws_FnCompare_l1] at H
      conv => whnf
      refine BranchG.t (decide_eq_true (by omega)) ?_
      conv => whnf
      refine IdxG.at (fun _ => rfl) H (fun e HXe H => ?_)
      conv => whnf
      refine IdxG.hitN (fun _ => rfl) HXe ?_
      conv => whnf
      obtain ⟨t2, HTt2, H⟩ := bind_some H
      refine CallG.pure (by first | rfl | (simp only [argsG, argsK, argG, List.map_cons, List.map_nil, eGExpr_eq]; first | done | rfl)) (impl_Eval_ok HTt2) ?_
      conv => whnf
      refine BranchG.iteB H (fun HP H => ?_) (fun HP H => ?_)
      · conv => whnf
        exact ⟨(w64 (n + 1)), H, Cover.list (fr' := [(3, .d (.int .i64 (w64 ((w64 (t * 4000000)) - 500000000)))), (4, .d (.int .i64 (w64 ((w64 (t1 * 3999999)) - 499999000)))), (5, .d (.sl (([(⟨[120], (⟨0, 0, []⟩ : GType_), false, []⟩ : GCol), (⟨[121], (⟨0, 0, []⟩ : GType_), false, []⟩ : GCol)]).map eGCol))), (6, .ptr 6 0), (7, .d (.sl (([(⟨0, [120], 0, []⟩ : GExpr), (⟨0, [121], 0, []⟩ : GExpr)]).map eGExpr))), (8, .ptr 8 0), (9, .d (.int .i64 (w64 (n + 1)))), (40, .own 40), (41, .d (.int .i64 (([12, 10, 14] : List Int).length : Int))), (42, .d (.int .i64 ((i + 1 : Nat) : Int)))]) (ob' := [(6, .box [.d (.sl (([(⟨1, (w64 ((w64 (t * 4000000)) - 500000000)), []⟩ : GValue), (⟨1, (w64 ((w64 (t1 * 3999999)) - 499999000)), []⟩ : GValue)]).map eGValue))]), (8, .box [.d (.int .i64 3), .d (.int .i64 1), .d (.str [])]), (40, .row 3 1 (([12, 10, 14] : List Int).map (eInt .i64)))]) (⟨.inr rfl, ⟨.inr rfl, ⟨.inr rfl, ⟨.inl ⟨rfl, rfl⟩, ⟨.inr rfl, ⟨.inl ⟨rfl, rfl⟩, ⟨.inr rfl, ⟨.inl ⟨rfl, rfl⟩, ⟨.inr rfl, ⟨.inr (congrArg (fun n => some (PV.d (D.int .i64 n))) (wrapUp HI1 HL1)), trivial⟩⟩⟩⟩⟩⟩⟩⟩⟩⟩) (⟨⟨⟨.inr rfl, rfl⟩, trivial⟩, ⟨⟨⟨.inr rfl, rfl⟩, ⟨⟨.inr rfl, rfl⟩, ⟨⟨.inr rfl, rfl⟩, trivial⟩⟩⟩, ⟨rfl, trivial⟩⟩⟩)⟩
      · conv => whnf
        exact ⟨n, H, Cover.list (fr' := [(3, .d (.int .i64 (w64 ((w64 (t * 4000000)) - 500000000)))), (4, .d (.int .i64 (w64 ((w64 (t1 * 3999999)) - 499999000)))), (5, .d (.sl (([(⟨[120], (⟨0, 0, []⟩ : GType_), false, []⟩ : GCol), (⟨[121], (⟨0, 0, []⟩ : GType_), false, []⟩ : GCol)]).map eGCol))), (6, .ptr 6 0), (7, .d (.sl (([(⟨0, [120], 0, []⟩ : GExpr), (⟨0, [121], 0, []⟩ : GExpr)]).map eGExpr))), (8, .ptr 8 0), (9, .d (.int .i64 n)), (40, .own 40), (41, .d (.int .i64 (([12, 10, 14] : List Int).length : Int))), (42, .d (.int .i64 ((i + 1 : Nat) : Int)))]) (ob' := [(6, .box [.d (.sl (([(⟨1, (w64 ((w64 (t * 4000000)) - 500000000)), []⟩ : GValue), (⟨1, (w64 ((w64 (t1 * 3999999)) - 499999000)), []⟩ : GValue)]).map eGValue))]), (8, .box [.d (.int .i64 3), .d (.int .i64 1), .d (.str [])]), (40, .row 3 1 (([12, 10, 14] : List Int).map (eInt .i64)))]) (⟨.inr rfl, ⟨.inr rfl, ⟨.inr rfl, ⟨.inl ⟨rfl, rfl⟩, ⟨.inr rfl, ⟨.inl ⟨rfl, rfl⟩, ⟨.inr rfl, ⟨.inl ⟨rfl, rfl⟩, ⟨.inr rfl, ⟨.inr (congrArg (fun n => some (PV.d (D.int .i64 n))) (wrapUp HI1 HL1)), trivial⟩⟩⟩⟩⟩⟩⟩⟩⟩⟩) (⟨⟨⟨.inr rfl, rfl⟩, trivial⟩, ⟨⟨⟨.inr rfl, rfl⟩, ⟨⟨.inr rfl, rfl⟩, ⟨⟨.inr rfl, rfl⟩, trivial⟩⟩⟩, ⟨rfl, trivial⟩⟩⟩)⟩
    · rintro RES1 HR1 i n HI1 H
      rw [laws_FnCompare_l1] at H
      conv => whnf
      refine BranchG.f (decide_eq_false (by omega)) ?_
      conv => whnf
      exact ⟨([(⟨[120], (⟨0, 0, []⟩ : GType_), false, []⟩ : GCol), (⟨[121], (⟨0, 0, []⟩ : GType_), false, []⟩ : GCol)], [(⟨0, [120], 0, []⟩ : GExpr), (⟨0, [121], 0, []⟩ : GExpr)], n), (Option.some.inj H).symm, Cover.list (fr' := [(3, .d (.int .i64 (w64 ((w64 (t * 4000000)) - 500000000)))), (4, .d (.int .i64 (w64 ((w64 (t1 * 3999999)) - 499999000)))), (5, .d (.sl (([(⟨[120], (⟨0, 0, []⟩ : GType_), false, []⟩ : GCol), (⟨[121], (⟨0, 0, []⟩ : GType_), false, []⟩ : GCol)]).map eGCol))), (6, .ptr 6 0), (7, .d (.sl (([(⟨0, [120], 0, []⟩ : GExpr), (⟨0, [121], 0, []⟩ : GExpr)]).map eGExpr))), (8, .ptr 8 0), (9, .d (.int .i64 n))]) (ob' := [(6, .box [.d (.sl (([(⟨1, (w64 ((w64 (t * 4000000)) - 500000000)), []⟩ : GValue), (⟨1, (w64 ((w64 (t1 * 3999999)) - 499999000)), []⟩ : GValue)]).map eGValue))]), (8, .box [.d (.int .i64 3), .d (.int .i64 1), .d (.str [])])]) (⟨.inr rfl, ⟨.inr rfl, ⟨.inr rfl, ⟨.inl ⟨rfl, rfl⟩, ⟨.inr rfl, ⟨.inl ⟨rfl, rfl⟩, ⟨.inr rfl, trivial⟩⟩⟩⟩⟩⟩⟩) (⟨⟨⟨.inr rfl, rfl⟩, trivial⟩, ⟨⟨⟨.inr rfl, rfl⟩, ⟨⟨.inr rfl, rfl⟩, ⟨⟨.inr rfl, rfl⟩, trivial⟩⟩⟩, trivial⟩⟩)⟩
    · rintro ⟨cols, kids, n1⟩ H
      conv => whnf
      obtain ⟨t3, HTt3, H⟩ := bind_some H
      refine CallG.pure (by first | rfl | (simp only [argsG, argsK, argG, List.map_cons, List.map_nil, eGExpr_eq]; first | done | rfl)) (impl_Eval_ok HTt3) ?_
      conv => whnf
      obtain ⟨t4, HTt4, H⟩ := bind_some H
      refine CallG.pure (by first | rfl | (simp only [argsG, argsK, argG, List.map_cons, List.map_nil, eGExpr_eq]; first | done | rfl)) (impl_Eval_ok HTt4) ?_
      conv => whnf
      obtain ⟨t5, HTt5, H⟩ := bind_some H
      refine CallG.pure (by first | rfl | (simp only [argsG, argsK, argG, List.map_cons, List.map_nil, eGExpr_eq]; first | done | rfl)) (impl_Eval_ok HTt5) ?_
      conv => whnf
      obtain ⟨t6, HTt6, H⟩ := bind_some H
      refine CallG.pure (by first | rfl | (simp only [argsG, argsK, argG, List.map_cons, List.map_nil, eGExpr_eq]; first | done | rfl)) (impl_Eval_ok HTt6) ?_
      conv => whnf
      refine BranchG.ite H (fun HP H => ?_) (fun HP H => ?_)
      · conv => whnf
        refine BranchG.ite H (fun HP H => ?_) (fun HP H => ?_)
        · conv => whnf
          refine BranchG.iteB H (fun HP H => ?_) (fun HP H => ?_)
          · conv => whnf
            refine BranchG.iteB H (fun HP H => ?_) (fun HP H => ?_)
            · conv => whnf
              refine BranchG.ite H (fun HP H => ?_) (fun HP H => ?_)
              · conv => whnf
                refine BranchG.ite H (fun HP H => ?_) (fun HP H => ?_)
                · conv => whnf
                  refine BranchG.iteB H (fun HP H => ?_) (fun HP H => ?_)
                  · obtain rfl := Option.some.inj H
                    conv => whnf
                    refine ⟨_, _, Cover.refl _ _, ?_⟩
                    conv => whnf
                    exact ⟨(by first | rfl | (simp only [List.map_cons, List.map_nil, eGExpr_eq]; first | done | rfl)), (by first | rfl | (simp only [List.map_cons, List.map_nil, eGExpr_eq]; first | done | rfl))⟩
                  · obtain rfl := Option.some.inj H
                    conv => whnf
                    refine ⟨_, _, Cover.refl _ _, ?_⟩
                    conv => whnf
                    exact ⟨(by first | rfl | (simp only [List.map_cons, List.map_nil, eGExpr_eq]; first | done | rfl)), (by first | rfl | (simp only [List.map_cons, List.map_nil, eGExpr_eq]; first | done | rfl))⟩
                · obtain rfl := Option.some.inj H
                  conv => whnf
                  refine ⟨_, _, Cover.refl _ _, ?_⟩
                  conv => whnf
                  exact ⟨(by first | rfl | (simp only [List.map_cons, List.map_nil, eGExpr_eq]; first | done | rfl)), (by first | rfl | (simp only [List.map_cons, List.map_nil, eGExpr_eq]; first | done | rfl))⟩
              · obtain rfl := Option.some.inj H
                conv => whnf
                refine ⟨_, _, Cover.refl _ _, ?_⟩
                conv => whnf
                exact ⟨(by first | rfl | (simp only [List.map_cons, List.map_nil, eGExpr_eq]; first | done | rfl)), (by first | rfl | (simp only [List.map_cons, List.map_nil, eGExpr_eq]; first | done | rfl))⟩
            · obtain rfl := Option.some.inj H
              conv => whnf
              refine ⟨_, _, Cover.refl _ _, ?_⟩
              conv => whnf
              exact ⟨(by first | rfl | (simp only [List.map_cons, List.map_nil, eGExpr_eq]; first | done | rfl)), (by first | rfl | (simp only [List.map_cons, List.map_nil, eGExpr_eq]; first | done | rfl))⟩
          · obtain rfl := Option.some.inj H
            conv => whnf
            refine ⟨_, _, Cover.refl _ _, ?_⟩
            conv => whnf
            exact ⟨(by first | rfl | (simp only [List.map_cons, List.map_nil, eGExpr_eq]; first | done | rfl)), (by first | rfl | (simp only [List.map_cons, List.map_nil, eGExpr_eq]; first | done | rfl))⟩
        · obtain rfl := Option.some.inj H
          conv => whnf
          refine ⟨_, _, Cover.refl _ _, ?_⟩
          conv => whnf
          exact ⟨(by first | rfl | (simp only [List.map_cons, List.map_nil, eGExpr_eq]; first | done | rfl)), (by first | rfl | (simp only [List.map_cons, List.map_nil, eGExpr_eq]; first | done | rfl))⟩
      · conv => whnf
        refine BranchG.ite H (fun HP H => ?_) (fun HP H => ?_)
        · conv => whnf
          refine BranchG.iteB H (fun HP H => ?_) (fun HP H => ?_)
          · conv => whnf
            refine BranchG.iteB H (fun HP H => ?_) (fun HP H => ?_)
            · conv => whnf
              refine BranchG.ite H (fun HP H => ?_) (fun HP H => ?_)
              · conv => whnf
                refine BranchG.ite H (fun HP H => ?_) (fun HP H => ?_)
                · conv => whnf
                  refine BranchG.ite H (fun HP H => ?_) (fun HP H => ?_)
                  · conv => whnf
                    refine BranchG.iteB H (fun HP H => ?_) (fun HP H => ?_)
                    · obtain rfl := Option.some.inj H
                      conv => whnf
                      refine ⟨_, _, Cover.refl _ _, ?_⟩
                      conv => whnf
                      exact ⟨(by first | rfl | (simp only [List.map_cons, List.map_nil, eGExpr_eq]; first | done | rfl)), (by first | rfl | (simp only [List.map_cons, List.map_nil, eGExpr_eq]; first | done | rfl))⟩
                    · conv => whnf
                      refine BranchG.iteN H (fun HP H => ?_) (fun HP H => ?_)
                      · obtain rfl := Option.some.inj H
                        conv => whnf
                        refine ⟨_, _, Cover.refl _ _, ?_⟩
                        conv => whnf
                        exact ⟨(by first | rfl | (simp only [List.map_cons, List.map_nil, eGExpr_eq]; first | done | rfl)), (by first | rfl | (simp only [List.map_cons, List.map_nil, eGExpr_eq]; first | done | rfl))⟩
                      · obtain rfl := Option.some.inj H
                        conv => whnf
                        refine ⟨_, _, Cover.refl _ _, ?_⟩
                        conv => whnf
                        exact ⟨(by first | rfl | (simp only [List.map_cons, List.map_nil, eGExpr_eq]; first | done | rfl)), (by first | rfl | (simp only [List.map_cons, List.map_nil, eGExpr_eq]; first | done | rfl))⟩
                  · conv => whnf
                    refine BranchG.iteN H (fun HP H => ?_) (fun HP H => ?_)
                    · obtain rfl := Option.some.inj H
                      conv => whnf
                      refine ⟨_, _, Cover.refl _ _, ?_⟩
                      conv => whnf
                      exact ⟨(by first | rfl | (simp only [List.map_cons, List.map_nil, eGExpr_eq]; first | done | rfl)), (by first | rfl | (simp only [List.map_cons, List.map_nil, eGExpr_eq]; first | done | rfl))⟩
                    · obtain rfl := Option.some.inj H
                      conv => whnf
                      refine ⟨_, _, Cover.refl _ _, ?_⟩
                      conv => whnf
                      exact ⟨(by first | rfl | (simp only [List.map_cons, List.map_nil, eGExpr_eq]; first | done | rfl)), (by first | rfl | (simp only [List.map_cons, List.map_nil, eGExpr_eq]; first | done | rfl))⟩
                · obtain rfl := Option.some.inj H
                  conv => whnf
                  refine ⟨_, _, Cover.refl _ _, ?_⟩
                  conv => whnf
                  exact ⟨(by first | rfl | (simp only [List.map_cons, List.map_nil, eGExpr_eq]; first | done | rfl)), (by first | rfl | (simp only [List.map_cons, List.map_nil, eGExpr_eq]; first | done | rfl))⟩
              · obtain rfl := Option.some.inj H
                conv => whnf
                refine ⟨_, _, Cover.refl _ _, ?_⟩
                conv => whnf
                exact ⟨(by first | rfl | (simp only [List.map_cons, List.map_nil, eGExpr_eq]; first | done | rfl)), (by first | rfl | (simp only [List.map_cons, List.map_nil, eGExpr_eq]; first | done | rfl))⟩
            · obtain rfl := Option.some.inj H
              conv => whnf
              refine ⟨_, _, Cover.refl _ _, ?_⟩
              conv => whnf
              exact ⟨(by first | rfl | (simp only [List.map_cons, List.map_nil, eGExpr_eq]; first | done | rfl)), (by first | rfl | (simp only [List.map_cons, List.map_nil, eGExpr_eq]; first | done | rfl))⟩
          · obtain rfl := Option.some.inj H
            conv => whnf
            refine ⟨_, _, Cover.refl _ _, ?_⟩
            conv => whnf
            exact ⟨(by first | rfl | (simp only [List.map_cons, List.map_nil, eGExpr_eq]; first | done | rfl)), (by first | rfl | (simp only [List.map_cons, List.map_nil, eGExpr_eq]; first | done | rfl))⟩
        · obtain rfl := Option.some.inj H
          conv => whnf
          refine ⟨_, _, Cover.refl _ _, ?_⟩
          conv => whnf
          exact ⟨(by first | rfl | (simp only [List.map_cons, List.map_nil, eGExpr_eq]; first | done | rfl)), (by first | rfl | (simp only [List.map_cons, List.map_nil, eGExpr_eq]; first | done | rfl))⟩
end Go.Pv.S
