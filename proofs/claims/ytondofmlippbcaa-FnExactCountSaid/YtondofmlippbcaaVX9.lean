import Derived.Test.YtondofmlippbcaaVX8
set_option linter.unusedSimpArgs false
set_option linter.unusedVariables false
set_option maxRecDepth 100000
open Go Go.Pv
namespace Go.Pv.S
def laws_toView (k : Nat) (a : GView) : Option GView :=
  (laws_toStringS a.Cols).bind fun t => (laws_toExprS k a.Where).bind fun t1 => some (⟨a.Name, a.Table, t, t1⟩ : GView)

theorem laws_toView_ok {k : Nat} {a : GView} {r : GView} (H : laws_toView k a = some r) : FnG Go.Proofs.Try.prog 103 [.agg (eGView a)] [] (.agg (eGView r)) [] := by
  unfold laws_toView at H
  refine FnG.intro (T := T) (fn := Go.Proofs.Try.f103) (c := (Go.Proofs.Try.f103).body.getD .skip) [.agg (eGView r)] (by kernel_rfl) (by kernel_rfl) (by kernel_rfl) hfol hT (by kernel_rfl) rfl rfl rfl rfl rfl ?_
  intro N ok out pl0 W0
  refine PW_top ?_
  conv => whnf
  obtain ⟨t, HTt, H⟩ := bind_some H
  refine CallG.pure (by first | rfl | (simp only [argsG, argG, List.map_cons, List.map_nil, eGExpr_eq]; first | done | rfl)) (laws_toStringS_ok HTt) ?_
  conv => whnf
  obtain ⟨t1, HTt1, H⟩ := bind_some H
  refine CallG.pure (by first | rfl | (simp only [argsG, argG, List.map_cons, List.map_nil, eGExpr_eq]; first | done | rfl)) (laws_toExprS_ok HTt1) ?_
  obtain rfl := Option.some.inj H
  conv => whnf
  exact ⟨(by first | rfl | (simp only [List.map_cons, List.map_nil, eGExpr_eq]; first | done | rfl)), (by first | rfl | (simp only [List.map_cons, List.map_nil, eGExpr_eq]; first | done | rfl))⟩

def laws_toViewS_l1 (k : Nat) : List GView → Nat → (List GView) → Option (List GView)
  | [], i, l => some l
  | x :: xs, i, l => (laws_toView k x).bind fun t => (at? l (i : Int)).bind fun e => laws_toViewS_l1 k xs (i + 1) (l.set (i : Int).toNat t)

def laws_toViewS (k : Nat) (a : (List GView)) : Option (List GView) :=
  if 0 ≤ (a.length : Int) ∧ (a.length : Int) ≤ (a.length : Int) ∧ (a.length : Int) * 80 ≤ 140737488355328 ∧ (a.length : Int) ≤ 140737488355328 then ((laws_toViewS_l1 k a 0 (List.replicate (a.length : Int).toNat (⟨[], [], [], []⟩ : GView))).bind fun l1 => some l1) else none

theorem laws_toViewS_ok {k : Nat} {a : (List GView)} {r : (List GView)} (H : laws_toViewS k a = some r) : FnG Go.Proofs.Try.prog 76 [.d (.sl (a.map eGView))] [] (.d (.sl (r.map eGView))) [] := by
  unfold laws_toViewS at H
  refine FnG.intro (T := T) (fn := Go.Proofs.Try.f76) (c := (Go.Proofs.Try.f76).body.getD .skip) [.d (.sl (r.map eGView))] (by kernel_rfl) (by kernel_rfl) (by kernel_rfl) hfol hT (by kernel_rfl) rfl rfl rfl rfl rfl ?_
  intro N ok out pl0 W0
  refine PW_top ?_
  conv => whnf
  refine LenG.intro a.length (by simp only [List.length_map]) ?_
  conv => whnf
  refine NeedG.sync H (fun HP => HP) (fun HP H => ?_)
  conv => whnf
  refine RowsG.intro (List.map eGView (List.replicate (a.length : Int).toNat (⟨[], [], [], []⟩ : GView))) (by rw [List.map_replicate]; exact (by first | rfl | (simp only [List.map_cons, List.map_nil, eGExpr_eq]; first | done | rfl))) ?_
  conv => whnf
  refine LoopG.len 0 rfl (fun HL1 => ?_)
  rw [List.length_map] at HL1
  refine LoopG.listCut (σ := (List GView)) (ε := (List GView)) a (fun i SS => ([(0, .d (.sl (a.map eGView))), (3, .own 7), (4, .d (.int .i64 (i : Int)))], [(7, .row 170 4 (SS.map eGView))])) (fun i SS LL => laws_toViewS_l1 k LL i SS) 0 (fun EE => ([(3, .own 7)], [(7, .row 170 4 (EE.map eGView))])) (fun e => e) (List.replicate (a.length : Int).toNat (⟨[], [], [], []⟩ : GView)) (Cover.list (fr' := [(0, .d (.sl (a.map eGView))), (3, .own 7), (4, .d (.int .i64 ((0 : Nat) : Int)))]) (ob' := [(7, .row 170 4 ((List.replicate (a.length : Int).toNat (⟨[], [], [], []⟩ : GView)).map eGView))]) (⟨.inr rfl, ⟨.inl ⟨rfl, rfl⟩, ⟨.inr rfl, trivial⟩⟩⟩) (⟨rfl, trivial⟩)) H ?_ ?_ ?_
  · rintro RES1 HR1 i l x HI1 HX1 H
    rw [laws_toViewS_l1] at H
    conv => whnf
    refine LenG.intro a.length (by simp only [List.length_map]) ?_
    conv => whnf
    refine BranchG.t (decide_eq_true (by omega)) ?_
    conv => whnf
    refine IdxG.el (fun _ => rfl) rfl HX1 ?_
    conv => whnf
    obtain ⟨t, HTt, H⟩ := bind_some H
    refine CallG.pure (by first | rfl | (simp only [argsG, argG, List.map_cons, List.map_nil, eGExpr_eq]; first | done | rfl)) (laws_toView_ok HTt) ?_
    conv => whnf
    refine IdxG.at (fun _ => rfl) H (fun e HXe H => ?_)
    conv => whnf
    refine IdxG.hitN (fun _ => rfl) HXe ?_
    conv => whnf
    refine RowsG.set t (by first | rfl | (simp only [List.map_cons, List.map_nil, eGExpr_eq]; first | done | rfl)) ?_
    conv => whnf
    exact ⟨(l.set (i : Int).toNat t), H, Cover.list (fr' := [(0, .d (.sl (a.map eGView))), (3, .own 7), (4, .d (.int .i64 ((i + 1 : Nat) : Int)))]) (ob' := [(7, .row 170 4 ((l.set (i : Int).toNat t).map eGView))]) (⟨.inr rfl, ⟨.inl ⟨rfl, rfl⟩, ⟨.inr (congrArg (fun n => some (PV.d (D.int .i64 n))) (wrapUp HI1 HL1)), trivial⟩⟩⟩) (⟨rfl, trivial⟩)⟩
  · rintro RES1 HR1 i l HI1 H
    rw [laws_toViewS_l1] at H
    conv => whnf
    refine LenG.intro a.length (by simp only [List.length_map]) ?_
    conv => whnf
    refine BranchG.f (decide_eq_false (by omega)) ?_
    conv => whnf
    exact ⟨l, (Option.some.inj H).symm, Cover.list (fr' := [(3, .own 7)]) (ob' := [(7, .row 170 4 (l.map eGView))]) (⟨.inl ⟨rfl, rfl⟩, trivial⟩) (⟨rfl, trivial⟩)⟩
  · rintro l1 H
    obtain rfl := Option.some.inj H
    conv => whnf
    exact ⟨(by first | rfl | (simp only [List.map_cons, List.map_nil, eGExpr_eq]; first | done | rfl)), (by first | rfl | (simp only [List.map_cons, List.map_nil, eGExpr_eq]; first | done | rfl))⟩

def laws_toPlan (k : Nat) (a : GPlan) : Option GPlan :=
  (laws_toLabelsS a.Enums).bind fun t => (laws_toSeqS a.Seqs).bind fun t1 => (laws_toTableS k a.Tables).bind fun t2 => (laws_toIndexS a.Indexes).bind fun t3 => (laws_toViewS k a.Views).bind fun t4 => some (⟨t, t1, t2, t3, t4, a.Next⟩ : GPlan)

theorem laws_toPlan_ok {k : Nat} {a : GPlan} {r : GPlan} (H : laws_toPlan k a = some r) : FnG Go.Proofs.Try.prog 42 [.agg (eGPlan a)] [] (.agg (eGPlan r)) [] := by
  unfold laws_toPlan at H
  refine FnG.intro (T := T) (fn := Go.Proofs.Try.f42) (c := (Go.Proofs.Try.f42).body.getD .skip) [.agg (eGPlan r)] (by kernel_rfl) (by kernel_rfl) (by kernel_rfl) hfol hT (by kernel_rfl) rfl rfl rfl rfl rfl ?_
  intro N ok out pl0 W0
  refine PW_top ?_
  conv => whnf
  obtain ⟨t, HTt, H⟩ := bind_some H
  refine CallG.pure (by first | rfl | (simp only [argsG, argG, List.map_cons, List.map_nil, eGExpr_eq]; first | done | rfl)) (laws_toLabelsS_ok HTt) ?_
  conv => whnf
  obtain ⟨t1, HTt1, H⟩ := bind_some H
  refine CallG.pure (by first | rfl | (simp only [argsG, argG, List.map_cons, List.map_nil, eGExpr_eq]; first | done | rfl)) (laws_toSeqS_ok HTt1) ?_
  conv => whnf
  obtain ⟨t2, HTt2, H⟩ := bind_some H
  refine CallG.pure (by first | rfl | (simp only [argsG, argG, List.map_cons, List.map_nil, eGExpr_eq]; first | done | rfl)) (laws_toTableS_ok HTt2) ?_
  conv => whnf
  obtain ⟨t3, HTt3, H⟩ := bind_some H
  refine CallG.pure (by first | rfl | (simp only [argsG, argG, List.map_cons, List.map_nil, eGExpr_eq]; first | done | rfl)) (laws_toIndexS_ok HTt3) ?_
  conv => whnf
  obtain ⟨t4, HTt4, H⟩ := bind_some H
  refine CallG.pure (by first | rfl | (simp only [argsG, argG, List.map_cons, List.map_nil, eGExpr_eq]; first | done | rfl)) (laws_toViewS_ok HTt4) ?_
  obtain rfl := Option.some.inj H
  conv => whnf
  exact ⟨(by first | rfl | (simp only [List.map_cons, List.map_nil, eGExpr_eq]; first | done | rfl)), (by first | rfl | (simp only [List.map_cons, List.map_nil, eGExpr_eq]; first | done | rfl))⟩

def laws_toValue (a : GValue) : GValue :=
  a

theorem laws_toValue_ok (a : GValue) : FnG Go.Proofs.Try.prog 10 [.agg (eGValue a)] [] (.agg (eGValue (laws_toValue a))) [] := by
  generalize H : laws_toValue a = r
  unfold laws_toValue at H
  refine FnG.intro (T := T) (fn := Go.Proofs.Try.f10) (c := (Go.Proofs.Try.f10).body.getD .skip) [.agg (eGValue r)] (by kernel_rfl) (by kernel_rfl) (by kernel_rfl) hfol hT (by kernel_rfl) rfl rfl rfl rfl rfl ?_
  intro N ok out pl0 W0
  refine PW_top ?_
  subst H
  conv => whnf
  exact ⟨(by first | rfl | (simp only [List.map_cons, List.map_nil, eGExpr_eq]; first | done | rfl)), (by first | rfl | (simp only [List.map_cons, List.map_nil, eGExpr_eq]; first | done | rfl))⟩

def laws_toValueS_l1  : List GValue → Nat → (List GValue) → Option (List GValue)
  | [], i, l => some l
  | x :: xs, i, l => (at? l (i : Int)).bind fun e => laws_toValueS_l1 xs (i + 1) (l.set (i : Int).toNat (laws_toValue x))

def laws_toValueS (a : (List GValue)) : Option (List GValue) :=
  if 0 ≤ (a.length : Int) ∧ (a.length : Int) ≤ (a.length : Int) ∧ (a.length : Int) * 32 ≤ 140737488355328 ∧ (a.length : Int) ≤ 140737488355328 then ((laws_toValueS_l1 a 0 (List.replicate (a.length : Int).toNat (⟨0, 0, []⟩ : GValue))).bind fun l1 => some l1) else none

theorem laws_toValueS_ok {a : (List GValue)} {r : (List GValue)} (H : laws_toValueS a = some r) : FnG Go.Proofs.Try.prog 145 [.d (.sl (a.map eGValue))] [] (.d (.sl (r.map eGValue))) [] := by
  unfold laws_toValueS at H
  refine FnG.intro (T := T) (fn := Go.Proofs.Try.f145) (c := (Go.Proofs.Try.f145).body.getD .skip) [.d (.sl (r.map eGValue))] (by kernel_rfl) (by kernel_rfl) (by kernel_rfl) hfol hT (by kernel_rfl) rfl rfl rfl rfl rfl ?_
  intro N ok out pl0 W0
  refine PW_top ?_
  conv => whnf
  refine LenG.intro a.length (by simp only [List.length_map]) ?_
  conv => whnf
  refine NeedG.sync H (fun HP => HP) (fun HP H => ?_)
  conv => whnf
  refine RowsG.intro (List.map eGValue (List.replicate (a.length : Int).toNat (⟨0, 0, []⟩ : GValue))) (by rw [List.map_replicate]; exact (by first | rfl | (simp only [List.map_cons, List.map_nil, eGExpr_eq]; first | done | rfl))) ?_
  conv => whnf
  refine LoopG.len 0 rfl (fun HL1 => ?_)
  rw [List.length_map] at HL1
  refine LoopG.listCut (σ := (List GValue)) (ε := (List GValue)) a (fun i SS => ([(0, .d (.sl (a.map eGValue))), (3, .own 7), (4, .d (.int .i64 (i : Int)))], [(7, .row 31 3 (SS.map eGValue))])) (fun i SS LL => laws_toValueS_l1 LL i SS) 0 (fun EE => ([(3, .own 7)], [(7, .row 31 3 (EE.map eGValue))])) (fun e => e) (List.replicate (a.length : Int).toNat (⟨0, 0, []⟩ : GValue)) (Cover.list (fr' := [(0, .d (.sl (a.map eGValue))), (3, .own 7), (4, .d (.int .i64 ((0 : Nat) : Int)))]) (ob' := [(7, .row 31 3 ((List.replicate (a.length : Int).toNat (⟨0, 0, []⟩ : GValue)).map eGValue))]) (⟨.inr rfl, ⟨.inl ⟨rfl, rfl⟩, ⟨.inr rfl, trivial⟩⟩⟩) (⟨rfl, trivial⟩)) H ?_ ?_ ?_
  · rintro RES1 HR1 i l x HI1 HX1 H
    rw [laws_toValueS_l1] at H
    conv => whnf
    refine LenG.intro a.length (by simp only [List.length_map]) ?_
    conv => whnf
    refine BranchG.t (decide_eq_true (by omega)) ?_
    conv => whnf
    refine IdxG.el (fun _ => rfl) rfl HX1 ?_
    conv => whnf
    refine CallG.pure (by first | rfl | (simp only [argsG, argG, List.map_cons, List.map_nil, eGExpr_eq]; first | done | rfl)) (laws_toValue_ok x) ?_
    conv => whnf
    refine IdxG.at (fun _ => rfl) H (fun e HXe H => ?_)
    conv => whnf
    refine IdxG.hitN (fun _ => rfl) HXe ?_
    conv => whnf
    refine RowsG.set (laws_toValue x) (by first | rfl | (simp only [List.map_cons, List.map_nil, eGExpr_eq]; first | done | rfl)) ?_
    conv => whnf
    exact ⟨(l.set (i : Int).toNat (laws_toValue x)), H, Cover.list (fr' := [(0, .d (.sl (a.map eGValue))), (3, .own 7), (4, .d (.int .i64 ((i + 1 : Nat) : Int)))]) (ob' := [(7, .row 31 3 ((l.set (i : Int).toNat (laws_toValue x)).map eGValue))]) (⟨.inr rfl, ⟨.inl ⟨rfl, rfl⟩, ⟨.inr (congrArg (fun n => some (PV.d (D.int .i64 n))) (wrapUp HI1 HL1)), trivial⟩⟩⟩) (⟨rfl, trivial⟩)⟩
  · rintro RES1 HR1 i l HI1 H
    rw [laws_toValueS_l1] at H
    conv => whnf
    refine LenG.intro a.length (by simp only [List.length_map]) ?_
    conv => whnf
    refine BranchG.f (decide_eq_false (by omega)) ?_
    conv => whnf
    exact ⟨l, (Option.some.inj H).symm, Cover.list (fr' := [(3, .own 7)]) (ob' := [(7, .row 31 3 (l.map eGValue))]) (⟨.inl ⟨rfl, rfl⟩, trivial⟩) (⟨rfl, trivial⟩)⟩
  · rintro l1 H
    obtain rfl := Option.some.inj H
    conv => whnf
    exact ⟨(by first | rfl | (simp only [List.map_cons, List.map_nil, eGExpr_eq]; first | done | rfl)), (by first | rfl | (simp only [List.map_cons, List.map_nil, eGExpr_eq]; first | done | rfl))⟩

def laws_toRow (a : GRow) : Option GRow :=
  (laws_toValueS a.Vals).bind fun t => some (⟨t⟩ : GRow)

theorem laws_toRow_ok {a : GRow} {r : GRow} (H : laws_toRow a = some r) : FnG Go.Proofs.Try.prog 121 [.agg (eGRow a)] [] (.agg (eGRow r)) [] := by
  unfold laws_toRow at H
  refine FnG.intro (T := T) (fn := Go.Proofs.Try.f121) (c := (Go.Proofs.Try.f121).body.getD .skip) [.agg (eGRow r)] (by kernel_rfl) (by kernel_rfl) (by kernel_rfl) hfol hT (by kernel_rfl) rfl rfl rfl rfl rfl ?_
  intro N ok out pl0 W0
  refine PW_top ?_
  conv => whnf
  obtain ⟨t, HTt, H⟩ := bind_some H
  refine CallG.pure (by first | rfl | (simp only [argsG, argG, List.map_cons, List.map_nil, eGExpr_eq]; first | done | rfl)) (laws_toValueS_ok HTt) ?_
  obtain rfl := Option.some.inj H
  conv => whnf
  exact ⟨(by first | rfl | (simp only [List.map_cons, List.map_nil, eGExpr_eq]; first | done | rfl)), (by first | rfl | (simp only [List.map_cons, List.map_nil, eGExpr_eq]; first | done | rfl))⟩
end Go.Pv.S
