import Derived.Test.YtondofmlippbcaaVX4
set_option linter.unusedSimpArgs false
set_option linter.unusedVariables false
set_option maxRecDepth 100000
open Go Go.Pv
namespace Go.Pv.S
def laws_szValueS_l1  : List GValue → Int → Option (Sum Int Int)
  | [], left1 => some (Sum.inl left1)
  | x :: xs, left1 => if (laws_szValue x left1) < 0 then (some (Sum.inr (-1))) else (laws_szValueS_l1 xs (laws_szValue x left1))

def laws_szValueS (a : (List GValue)) (left : Int) : Option Int :=
  if (w64 (left - (a.length : Int))) < 0 then (some (-1)) else ((laws_szValueS_l1 a (w64 (left - (a.length : Int)))).bind fun t => match t with | Sum.inl left2 => some left2 | Sum.inr r => some r)

theorem laws_szValueS_ok {a : (List GValue)} {left : Int} {r : Int} (H : laws_szValueS a left = some r) : FnG Go.Proofs.Try.prog 141 [.d (.sl (a.map eGValue)), .d (.int .i64 left)] [] (.d (.int .i64 r)) [] := by
  unfold laws_szValueS at H
  refine FnG.intro (T := T) (fn := Go.Proofs.Try.f141) (c := (Go.Proofs.Try.f141).body.getD .skip) [.d (.int .i64 r)] (by kernel_rfl) (by kernel_rfl) (by kernel_rfl) hfol hT (by kernel_rfl) rfl rfl rfl rfl rfl ?_
  intro N ok out pl0 W0
  refine PW_top ?_
  conv => whnf
  refine LenG.intro a.length (by simp only [List.length_map]) ?_
  conv => whnf
  refine BranchG.ite H (fun HP H => ?_) (fun HP H => ?_)
  · obtain rfl := Option.some.inj H
    conv => whnf
    exact ⟨(by first | rfl | (simp only [List.map_cons, List.map_nil, eGExpr_eq]; first | done | rfl)), (by first | rfl | (simp only [List.map_cons, List.map_nil, eGExpr_eq]; first | done | rfl))⟩
  · conv => whnf
    refine LoopG.len 0 rfl (fun HL1 => ?_)
    rw [List.length_map] at HL1
    refine LoopG.listCut (σ := Int) (ε := Int) a (fun i SS => ([(0, .d (.sl (a.map eGValue))), (1, .d (.int .i64 SS)), (5, .d (.int .i64 (i : Int)))], [])) (fun i SS LL => laws_szValueS_l1 LL SS) 0 (fun EE => ([(1, .d (.int .i64 EE))], [])) (fun e => Sum.inl e) (w64 (left - (a.length : Int))) (Cover.list (fr' := [(0, .d (.sl (a.map eGValue))), (1, .d (.int .i64 (w64 (left - (a.length : Int))))), (5, .d (.int .i64 ((0 : Nat) : Int)))]) (ob' := []) (⟨.inr rfl, ⟨.inr rfl, ⟨.inr rfl, trivial⟩⟩⟩) (trivial)) H ?_ ?_ ?_
    · rintro RES1 HR1 i left1 x HI1 HX1 H
      rw [laws_szValueS_l1] at H
      conv => whnf
      refine LenG.intro a.length (by simp only [List.length_map]) ?_
      conv => whnf
      refine BranchG.t (decide_eq_true (by omega)) ?_
      conv => whnf
      refine IdxG.el (fun _ => rfl) rfl HX1 ?_
      conv => whnf
      refine CallG.pure (by first | rfl | (simp only [argsG, argG, List.map_cons, List.map_nil, eGExpr_eq]; first | done | rfl)) (laws_szValue_ok x left1) ?_
      conv => whnf
      refine BranchG.ite H (fun HP H => ?_) (fun HP H => ?_)
      · obtain rfl := Option.some.inj H
        obtain rfl := Option.some.inj (HR1 : some _ = some _)
        conv => whnf
        exact ⟨(by first | rfl | (simp only [List.map_cons, List.map_nil, eGExpr_eq]; first | done | rfl)), (by first | rfl | (simp only [List.map_cons, List.map_nil, eGExpr_eq]; first | done | rfl))⟩
      · conv => whnf
        exact ⟨(laws_szValue x left1), H, Cover.list (fr' := [(0, .d (.sl (a.map eGValue))), (1, .d (.int .i64 (laws_szValue x left1))), (5, .d (.int .i64 ((i + 1 : Nat) : Int)))]) (ob' := []) (⟨.inr rfl, ⟨.inr rfl, ⟨.inr (congrArg (fun n => some (PV.d (D.int .i64 n))) (wrapUp HI1 HL1)), trivial⟩⟩⟩) (trivial)⟩
    · rintro RES1 HR1 i left1 HI1 H
      rw [laws_szValueS_l1] at H
      conv => whnf
      refine LenG.intro a.length (by simp only [List.length_map]) ?_
      conv => whnf
      refine BranchG.f (decide_eq_false (by omega)) ?_
      conv => whnf
      exact ⟨left1, (Option.some.inj H).symm, Cover.list (fr' := [(1, .d (.int .i64 left1))]) (ob' := []) (⟨.inr rfl, trivial⟩) (trivial)⟩
    · rintro left2 H
      obtain rfl := Option.some.inj H
      conv => whnf
      exact ⟨(by first | rfl | (simp only [List.map_cons, List.map_nil, eGExpr_eq]; first | done | rfl)), (by first | rfl | (simp only [List.map_cons, List.map_nil, eGExpr_eq]; first | done | rfl))⟩

def laws_szRow (a : GRow) (left : Int) : Option Int :=
  (laws_szValueS a.Vals left).bind fun t => if t < 0 then (some (-1)) else (some t)

theorem laws_szRow_ok {a : GRow} {left : Int} {r : Int} (H : laws_szRow a left = some r) : FnG Go.Proofs.Try.prog 117 [.agg (eGRow a), .d (.int .i64 left)] [] (.d (.int .i64 r)) [] := by
  unfold laws_szRow at H
  refine FnG.intro (T := T) (fn := Go.Proofs.Try.f117) (c := (Go.Proofs.Try.f117).body.getD .skip) [.d (.int .i64 r)] (by kernel_rfl) (by kernel_rfl) (by kernel_rfl) hfol hT (by kernel_rfl) rfl rfl rfl rfl rfl ?_
  intro N ok out pl0 W0
  refine PW_top ?_
  conv => whnf
  obtain ⟨t, HTt, H⟩ := bind_some H
  refine CallG.pure (by first | rfl | (simp only [argsG, argG, List.map_cons, List.map_nil, eGExpr_eq]; first | done | rfl)) (laws_szValueS_ok HTt) ?_
  conv => whnf
  refine BranchG.ite H (fun HP H => ?_) (fun HP H => ?_)
  · obtain rfl := Option.some.inj H
    conv => whnf
    exact ⟨(by first | rfl | (simp only [List.map_cons, List.map_nil, eGExpr_eq]; first | done | rfl)), (by first | rfl | (simp only [List.map_cons, List.map_nil, eGExpr_eq]; first | done | rfl))⟩
  · obtain rfl := Option.some.inj H
    conv => whnf
    exact ⟨(by first | rfl | (simp only [List.map_cons, List.map_nil, eGExpr_eq]; first | done | rfl)), (by first | rfl | (simp only [List.map_cons, List.map_nil, eGExpr_eq]; first | done | rfl))⟩

def laws_szRowS_l1  : List GRow → Int → Option (Sum Int Int)
  | [], left1 => some (Sum.inl left1)
  | x :: xs, left1 => (laws_szRow x left1).bind fun t => if t < 0 then (some (Sum.inr (-1))) else (laws_szRowS_l1 xs t)

def laws_szRowS (a : (List GRow)) (left : Int) : Option Int :=
  if (w64 (left - (a.length : Int))) < 0 then (some (-1)) else ((laws_szRowS_l1 a (w64 (left - (a.length : Int)))).bind fun t => match t with | Sum.inl left2 => some left2 | Sum.inr r => some r)

theorem laws_szRowS_ok {a : (List GRow)} {left : Int} {r : Int} (H : laws_szRowS a left = some r) : FnG Go.Proofs.Try.prog 99 [.d (.sl (a.map eGRow)), .d (.int .i64 left)] [] (.d (.int .i64 r)) [] := by
  unfold laws_szRowS at H
  refine FnG.intro (T := T) (fn := Go.Proofs.Try.f99) (c := (Go.Proofs.Try.f99).body.getD .skip) [.d (.int .i64 r)] (by kernel_rfl) (by kernel_rfl) (by kernel_rfl) hfol hT (by kernel_rfl) rfl rfl rfl rfl rfl ?_
  intro N ok out pl0 W0
  refine PW_top ?_
  conv => whnf
  refine LenG.intro a.length (by simp only [List.length_map]) ?_
  conv => whnf
  refine BranchG.ite H (fun HP H => ?_) (fun HP H => ?_)
  · obtain rfl := Option.some.inj H
    conv => whnf
    exact ⟨(by first | rfl | (simp only [List.map_cons, List.map_nil, eGExpr_eq]; first | done | rfl)), (by first | rfl | (simp only [List.map_cons, List.map_nil, eGExpr_eq]; first | done | rfl))⟩
  · conv => whnf
    refine LoopG.len 0 rfl (fun HL1 => ?_)
    rw [List.length_map] at HL1
    refine LoopG.listCut (σ := Int) (ε := Int) a (fun i SS => ([(0, .d (.sl (a.map eGRow))), (1, .d (.int .i64 SS)), (5, .d (.int .i64 (i : Int)))], [])) (fun i SS LL => laws_szRowS_l1 LL SS) 0 (fun EE => ([(1, .d (.int .i64 EE))], [])) (fun e => Sum.inl e) (w64 (left - (a.length : Int))) (Cover.list (fr' := [(0, .d (.sl (a.map eGRow))), (1, .d (.int .i64 (w64 (left - (a.length : Int))))), (5, .d (.int .i64 ((0 : Nat) : Int)))]) (ob' := []) (⟨.inr rfl, ⟨.inr rfl, ⟨.inr rfl, trivial⟩⟩⟩) (trivial)) H ?_ ?_ ?_
    · rintro RES1 HR1 i left1 x HI1 HX1 H
      rw [laws_szRowS_l1] at H
      conv => whnf
      refine LenG.intro a.length (by simp only [List.length_map]) ?_
      conv => whnf
      refine BranchG.t (decide_eq_true (by omega)) ?_
      conv => whnf
      refine IdxG.el (fun _ => rfl) rfl HX1 ?_
      conv => whnf
      obtain ⟨t, HTt, H⟩ := bind_some H
      refine CallG.pure (by first | rfl | (simp only [argsG, argG, List.map_cons, List.map_nil, eGExpr_eq]; first | done | rfl)) (laws_szRow_ok HTt) ?_
      conv => whnf
      refine BranchG.ite H (fun HP H => ?_) (fun HP H => ?_)
      · obtain rfl := Option.some.inj H
        obtain rfl := Option.some.inj (HR1 : some _ = some _)
        conv => whnf
        exact ⟨(by first | rfl | (simp only [List.map_cons, List.map_nil, eGExpr_eq]; first | done | rfl)), (by first | rfl | (simp only [List.map_cons, List.map_nil, eGExpr_eq]; first | done | rfl))⟩
      · conv => whnf
        exact ⟨t, H, Cover.list (fr' := [(0, .d (.sl (a.map eGRow))), (1, .d (.int .i64 t)), (5, .d (.int .i64 ((i + 1 : Nat) : Int)))]) (ob' := []) (⟨.inr rfl, ⟨.inr rfl, ⟨.inr (congrArg (fun n => some (PV.d (D.int .i64 n))) (wrapUp HI1 HL1)), trivial⟩⟩⟩) (trivial)⟩
    · rintro RES1 HR1 i left1 HI1 H
      rw [laws_szRowS_l1] at H
      conv => whnf
      refine LenG.intro a.length (by simp only [List.length_map]) ?_
      conv => whnf
      refine BranchG.f (decide_eq_false (by omega)) ?_
      conv => whnf
      exact ⟨left1, (Option.some.inj H).symm, Cover.list (fr' := [(1, .d (.int .i64 left1))]) (ob' := []) (⟨.inr rfl, trivial⟩) (trivial)⟩
    · rintro left2 H
      obtain rfl := Option.some.inj H
      conv => whnf
      exact ⟨(by first | rfl | (simp only [List.map_cons, List.map_nil, eGExpr_eq]; first | done | rfl)), (by first | rfl | (simp only [List.map_cons, List.map_nil, eGExpr_eq]; first | done | rfl))⟩

def laws_szRows (a : GRows) (left : Int) : Option Int :=
  if (w64 (left - (a.Table.length : Int))) < 0 then (some (-1)) else ((laws_szRowS a.List (w64 (left - (a.Table.length : Int)))).bind fun t => if t < 0 then (some (-1)) else (some t))

theorem laws_szRows_ok {a : GRows} {left : Int} {r : Int} (H : laws_szRows a left = some r) : FnG Go.Proofs.Try.prog 72 [.agg (eGRows a), .d (.int .i64 left)] [] (.d (.int .i64 r)) [] := by
  unfold laws_szRows at H
  refine FnG.intro (T := T) (fn := Go.Proofs.Try.f72) (c := (Go.Proofs.Try.f72).body.getD .skip) [.d (.int .i64 r)] (by kernel_rfl) (by kernel_rfl) (by kernel_rfl) hfol hT (by kernel_rfl) rfl rfl rfl rfl rfl ?_
  intro N ok out pl0 W0
  refine PW_top ?_
  conv => whnf
  refine BranchG.ite H (fun HP H => ?_) (fun HP H => ?_)
  · obtain rfl := Option.some.inj H
    conv => whnf
    exact ⟨(by first | rfl | (simp only [List.map_cons, List.map_nil, eGExpr_eq]; first | done | rfl)), (by first | rfl | (simp only [List.map_cons, List.map_nil, eGExpr_eq]; first | done | rfl))⟩
  · conv => whnf
    obtain ⟨t, HTt, H⟩ := bind_some H
    refine CallG.pure (by first | rfl | (simp only [argsG, argG, List.map_cons, List.map_nil, eGExpr_eq]; first | done | rfl)) (laws_szRowS_ok HTt) ?_
    conv => whnf
    refine BranchG.ite H (fun HP H => ?_) (fun HP H => ?_)
    · obtain rfl := Option.some.inj H
      conv => whnf
      exact ⟨(by first | rfl | (simp only [List.map_cons, List.map_nil, eGExpr_eq]; first | done | rfl)), (by first | rfl | (simp only [List.map_cons, List.map_nil, eGExpr_eq]; first | done | rfl))⟩
    · obtain rfl := Option.some.inj H
      conv => whnf
      exact ⟨(by first | rfl | (simp only [List.map_cons, List.map_nil, eGExpr_eq]; first | done | rfl)), (by first | rfl | (simp only [List.map_cons, List.map_nil, eGExpr_eq]; first | done | rfl))⟩

def laws_szRowsS_l1  : List GRows → Int → Option (Sum Int Int)
  | [], left1 => some (Sum.inl left1)
  | x :: xs, left1 => (laws_szRows x left1).bind fun t => if t < 0 then (some (Sum.inr (-1))) else (laws_szRowsS_l1 xs t)

def laws_szRowsS (a : (List GRows)) (left : Int) : Option Int :=
  if (w64 (left - (a.length : Int))) < 0 then (some (-1)) else ((laws_szRowsS_l1 a (w64 (left - (a.length : Int)))).bind fun t => match t with | Sum.inl left2 => some left2 | Sum.inr r => some r)

theorem laws_szRowsS_ok {a : (List GRows)} {left : Int} {r : Int} (H : laws_szRowsS a left = some r) : FnG Go.Proofs.Try.prog 41 [.d (.sl (a.map eGRows)), .d (.int .i64 left)] [] (.d (.int .i64 r)) [] := by
  unfold laws_szRowsS at H
  refine FnG.intro (T := T) (fn := Go.Proofs.Try.f41) (c := (Go.Proofs.Try.f41).body.getD .skip) [.d (.int .i64 r)] (by kernel_rfl) (by kernel_rfl) (by kernel_rfl) hfol hT (by kernel_rfl) rfl rfl rfl rfl rfl ?_
  intro N ok out pl0 W0
  refine PW_top ?_
  conv => whnf
  refine LenG.intro a.length (by simp only [List.length_map]) ?_
  conv => whnf
  refine BranchG.ite H (fun HP H => ?_) (fun HP H => ?_)
  · obtain rfl := Option.some.inj H
    conv => whnf
    exact ⟨(by first | rfl | (simp only [List.map_cons, List.map_nil, eGExpr_eq]; first | done | rfl)), (by first | rfl | (simp only [List.map_cons, List.map_nil, eGExpr_eq]; first | done | rfl))⟩
  · conv => whnf
    refine LoopG.len 0 rfl (fun HL1 => ?_)
    rw [List.length_map] at HL1
    refine LoopG.listCut (σ := Int) (ε := Int) a (fun i SS => ([(0, .d (.sl (a.map eGRows))), (1, .d (.int .i64 SS)), (5, .d (.int .i64 (i : Int)))], [])) (fun i SS LL => laws_szRowsS_l1 LL SS) 0 (fun EE => ([(1, .d (.int .i64 EE))], [])) (fun e => Sum.inl e) (w64 (left - (a.length : Int))) (Cover.list (fr' := [(0, .d (.sl (a.map eGRows))), (1, .d (.int .i64 (w64 (left - (a.length : Int))))), (5, .d (.int .i64 ((0 : Nat) : Int)))]) (ob' := []) (⟨.inr rfl, ⟨.inr rfl, ⟨.inr rfl, trivial⟩⟩⟩) (trivial)) H ?_ ?_ ?_
    · rintro RES1 HR1 i left1 x HI1 HX1 H
      rw [laws_szRowsS_l1] at H
      conv => whnf
      refine LenG.intro a.length (by simp only [List.length_map]) ?_
      conv => whnf
      refine BranchG.t (decide_eq_true (by omega)) ?_
      conv => whnf
      refine IdxG.el (fun _ => rfl) rfl HX1 ?_
      conv => whnf
      obtain ⟨t, HTt, H⟩ := bind_some H
      refine CallG.pure (by first | rfl | (simp only [argsG, argG, List.map_cons, List.map_nil, eGExpr_eq]; first | done | rfl)) (laws_szRows_ok HTt) ?_
      conv => whnf
      refine BranchG.ite H (fun HP H => ?_) (fun HP H => ?_)
      · obtain rfl := Option.some.inj H
        obtain rfl := Option.some.inj (HR1 : some _ = some _)
        conv => whnf
        exact ⟨(by first | rfl | (simp only [List.map_cons, List.map_nil, eGExpr_eq]; first | done | rfl)), (by first | rfl | (simp only [List.map_cons, List.map_nil, eGExpr_eq]; first | done | rfl))⟩
      · conv => whnf
        exact ⟨t, H, Cover.list (fr' := [(0, .d (.sl (a.map eGRows))), (1, .d (.int .i64 t)), (5, .d (.int .i64 ((i + 1 : Nat) : Int)))]) (ob' := []) (⟨.inr rfl, ⟨.inr rfl, ⟨.inr (congrArg (fun n => some (PV.d (D.int .i64 n))) (wrapUp HI1 HL1)), trivial⟩⟩⟩) (trivial)⟩
    · rintro RES1 HR1 i left1 HI1 H
      rw [laws_szRowsS_l1] at H
      conv => whnf
      refine LenG.intro a.length (by simp only [List.length_map]) ?_
      conv => whnf
      refine BranchG.f (decide_eq_false (by omega)) ?_
      conv => whnf
      exact ⟨left1, (Option.some.inj H).symm, Cover.list (fr' := [(1, .d (.int .i64 left1))]) (ob' := []) (⟨.inr rfl, trivial⟩) (trivial)⟩
    · rintro left2 H
      obtain rfl := Option.some.inj H
      conv => whnf
      exact ⟨(by first | rfl | (simp only [List.map_cons, List.map_nil, eGExpr_eq]; first | done | rfl)), (by first | rfl | (simp only [List.map_cons, List.map_nil, eGExpr_eq]; first | done | rfl))⟩
end Go.Pv.S
