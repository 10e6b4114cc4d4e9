import Derived.Test.YtondofmlippbcaaVX7
set_option linter.unusedSimpArgs false
set_option linter.unusedVariables false
set_option maxRecDepth 100000
open Go Go.Pv
namespace Go.Pv.S
def laws_toRuleS_l1 (k : Nat) : List GRule → Nat → (List GRule) → Option (List GRule)
  | [], i, l => some l
  | x :: xs, i, l => (laws_toRule k x).bind fun t => (at? l (i : Int)).bind fun e => laws_toRuleS_l1 k xs (i + 1) (l.set (i : Int).toNat t)

def laws_toRuleS (k : Nat) (a : (List GRule)) : Option (List GRule) :=
  if 0 ≤ (a.length : Int) ∧ (a.length : Int) ≤ (a.length : Int) ∧ (a.length : Int) * 112 ≤ 140737488355328 ∧ (a.length : Int) ≤ 140737488355328 then ((laws_toRuleS_l1 k a 0 (List.replicate (a.length : Int).toNat (⟨[], 0, [], [], [], []⟩ : GRule))).bind fun l1 => some l1) else none

theorem laws_toRuleS_ok {k : Nat} {a : (List GRule)} {r : (List GRule)} (H : laws_toRuleS k a = some r) : FnG Go.Proofs.Try.prog 119 [.d (.sl (a.map eGRule))] [] (.d (.sl (r.map eGRule))) [] := by
  unfold laws_toRuleS at H
  refine FnG.intro (T := T) (fn := Go.Proofs.Try.f119) (c := (Go.Proofs.Try.f119).body.getD .skip) [.d (.sl (r.map eGRule))] (by kernel_rfl) (by kernel_rfl) (by kernel_rfl) hfol hT (by kernel_rfl) rfl rfl rfl rfl rfl ?_
  intro N ok out pl0 W0
  refine PW_top ?_
  conv => whnf
  refine LenG.intro a.length (by simp only [List.length_map]) ?_
  conv => whnf
  refine NeedG.sync H (fun HP => HP) (fun HP H => ?_)
  conv => whnf
  refine RowsG.intro (List.map eGRule (List.replicate (a.length : Int).toNat (⟨[], 0, [], [], [], []⟩ : GRule))) (by rw [List.map_replicate]; exact (by first | rfl | (simp only [List.map_cons, List.map_nil, eGExpr_eq]; first | done | rfl))) ?_
  conv => whnf
  refine LoopG.len 0 rfl (fun HL1 => ?_)
  rw [List.length_map] at HL1
  refine LoopG.listCut (σ := (List GRule)) (ε := (List GRule)) a (fun i SS => ([(0, .d (.sl (a.map eGRule))), (3, .own 7), (4, .d (.int .i64 (i : Int)))], [(7, .row 222 6 (SS.map eGRule))])) (fun i SS LL => laws_toRuleS_l1 k LL i SS) 0 (fun EE => ([(3, .own 7)], [(7, .row 222 6 (EE.map eGRule))])) (fun e => e) (List.replicate (a.length : Int).toNat (⟨[], 0, [], [], [], []⟩ : GRule)) (Cover.list (fr' := [(0, .d (.sl (a.map eGRule))), (3, .own 7), (4, .d (.int .i64 ((0 : Nat) : Int)))]) (ob' := [(7, .row 222 6 ((List.replicate (a.length : Int).toNat (⟨[], 0, [], [], [], []⟩ : GRule)).map eGRule))]) (⟨.inr rfl, ⟨.inl ⟨rfl, rfl⟩, ⟨.inr rfl, trivial⟩⟩⟩) (⟨rfl, trivial⟩)) H ?_ ?_ ?_
  · rintro RES1 HR1 i l x HI1 HX1 H
    rw [laws_toRuleS_l1] at H
    conv => whnf
    refine LenG.intro a.length (by simp only [List.length_map]) ?_
    conv => whnf
    refine BranchG.t (decide_eq_true (by omega)) ?_
    conv => whnf
    refine IdxG.el (fun _ => rfl) rfl HX1 ?_
    conv => whnf
    obtain ⟨t, HTt, H⟩ := bind_some H
    refine CallG.pure (by first | rfl | (simp only [argsG, argG, List.map_cons, List.map_nil, eGExpr_eq]; first | done | rfl)) (laws_toRule_ok HTt) ?_
    conv => whnf
    refine IdxG.at (fun _ => rfl) H (fun e HXe H => ?_)
    conv => whnf
    refine IdxG.hitN (fun _ => rfl) HXe ?_
    conv => whnf
    refine RowsG.set t (by first | rfl | (simp only [List.map_cons, List.map_nil, eGExpr_eq]; first | done | rfl)) ?_
    conv => whnf
    exact ⟨(l.set (i : Int).toNat t), H, Cover.list (fr' := [(0, .d (.sl (a.map eGRule))), (3, .own 7), (4, .d (.int .i64 ((i + 1 : Nat) : Int)))]) (ob' := [(7, .row 222 6 ((l.set (i : Int).toNat t).map eGRule))]) (⟨.inr rfl, ⟨.inl ⟨rfl, rfl⟩, ⟨.inr (congrArg (fun n => some (PV.d (D.int .i64 n))) (wrapUp HI1 HL1)), trivial⟩⟩⟩) (⟨rfl, trivial⟩)⟩
  · rintro RES1 HR1 i l HI1 H
    rw [laws_toRuleS_l1] at H
    conv => whnf
    refine LenG.intro a.length (by simp only [List.length_map]) ?_
    conv => whnf
    refine BranchG.f (decide_eq_false (by omega)) ?_
    conv => whnf
    exact ⟨l, (Option.some.inj H).symm, Cover.list (fr' := [(3, .own 7)]) (ob' := [(7, .row 222 6 (l.map eGRule))]) (⟨.inl ⟨rfl, rfl⟩, trivial⟩) (⟨rfl, trivial⟩)⟩
  · rintro l1 H
    obtain rfl := Option.some.inj H
    conv => whnf
    exact ⟨(by first | rfl | (simp only [List.map_cons, List.map_nil, eGExpr_eq]; first | done | rfl)), (by first | rfl | (simp only [List.map_cons, List.map_nil, eGExpr_eq]; first | done | rfl))⟩

def laws_toTable (k : Nat) (a : GTable) : Option GTable :=
  (laws_toColS k a.Cols).bind fun t => (laws_toRuleS k a.Rules).bind fun t1 => some (⟨a.Name, t, t1, a.Token⟩ : GTable)

theorem laws_toTable_ok {k : Nat} {a : GTable} {r : GTable} (H : laws_toTable k a = some r) : FnG Go.Proofs.Try.prog 101 [.agg (eGTable a)] [] (.agg (eGTable r)) [] := by
  unfold laws_toTable at H
  refine FnG.intro (T := T) (fn := Go.Proofs.Try.f101) (c := (Go.Proofs.Try.f101).body.getD .skip) [.agg (eGTable r)] (by kernel_rfl) (by kernel_rfl) (by kernel_rfl) hfol hT (by kernel_rfl) rfl rfl rfl rfl rfl ?_
  intro N ok out pl0 W0
  refine PW_top ?_
  conv => whnf
  obtain ⟨t, HTt, H⟩ := bind_some H
  refine CallG.pure (by first | rfl | (simp only [argsG, argG, List.map_cons, List.map_nil, eGExpr_eq]; first | done | rfl)) (laws_toColS_ok HTt) ?_
  conv => whnf
  obtain ⟨t1, HTt1, H⟩ := bind_some H
  refine CallG.pure (by first | rfl | (simp only [argsG, argG, List.map_cons, List.map_nil, eGExpr_eq]; first | done | rfl)) (laws_toRuleS_ok HTt1) ?_
  obtain rfl := Option.some.inj H
  conv => whnf
  exact ⟨(by first | rfl | (simp only [List.map_cons, List.map_nil, eGExpr_eq]; first | done | rfl)), (by first | rfl | (simp only [List.map_cons, List.map_nil, eGExpr_eq]; first | done | rfl))⟩

def laws_toTableS_l1 (k : Nat) : List GTable → Nat → (List GTable) → Option (List GTable)
  | [], i, l => some l
  | x :: xs, i, l => (laws_toTable k x).bind fun t => (at? l (i : Int)).bind fun e => laws_toTableS_l1 k xs (i + 1) (l.set (i : Int).toNat t)

def laws_toTableS (k : Nat) (a : (List GTable)) : Option (List GTable) :=
  if 0 ≤ (a.length : Int) ∧ (a.length : Int) ≤ (a.length : Int) ∧ (a.length : Int) * 72 ≤ 140737488355328 ∧ (a.length : Int) ≤ 140737488355328 then ((laws_toTableS_l1 k a 0 (List.replicate (a.length : Int).toNat (⟨[], [], [], 0⟩ : GTable))).bind fun l1 => some l1) else none

theorem laws_toTableS_ok {k : Nat} {a : (List GTable)} {r : (List GTable)} (H : laws_toTableS k a = some r) : FnG Go.Proofs.Try.prog 74 [.d (.sl (a.map eGTable))] [] (.d (.sl (r.map eGTable))) [] := by
  unfold laws_toTableS at H
  refine FnG.intro (T := T) (fn := Go.Proofs.Try.f74) (c := (Go.Proofs.Try.f74).body.getD .skip) [.d (.sl (r.map eGTable))] (by kernel_rfl) (by kernel_rfl) (by kernel_rfl) hfol hT (by kernel_rfl) rfl rfl rfl rfl rfl ?_
  intro N ok out pl0 W0
  refine PW_top ?_
  conv => whnf
  refine LenG.intro a.length (by simp only [List.length_map]) ?_
  conv => whnf
  refine NeedG.sync H (fun HP => HP) (fun HP H => ?_)
  conv => whnf
  refine RowsG.intro (List.map eGTable (List.replicate (a.length : Int).toNat (⟨[], [], [], 0⟩ : GTable))) (by rw [List.map_replicate]; exact (by first | rfl | (simp only [List.map_cons, List.map_nil, eGExpr_eq]; first | done | rfl))) ?_
  conv => whnf
  refine LoopG.len 0 rfl (fun HL1 => ?_)
  rw [List.length_map] at HL1
  refine LoopG.listCut (σ := (List GTable)) (ε := (List GTable)) a (fun i SS => ([(0, .d (.sl (a.map eGTable))), (3, .own 7), (4, .d (.int .i64 (i : Int)))], [(7, .row 165 4 (SS.map eGTable))])) (fun i SS LL => laws_toTableS_l1 k LL i SS) 0 (fun EE => ([(3, .own 7)], [(7, .row 165 4 (EE.map eGTable))])) (fun e => e) (List.replicate (a.length : Int).toNat (⟨[], [], [], 0⟩ : GTable)) (Cover.list (fr' := [(0, .d (.sl (a.map eGTable))), (3, .own 7), (4, .d (.int .i64 ((0 : Nat) : Int)))]) (ob' := [(7, .row 165 4 ((List.replicate (a.length : Int).toNat (⟨[], [], [], 0⟩ : GTable)).map eGTable))]) (⟨.inr rfl, ⟨.inl ⟨rfl, rfl⟩, ⟨.inr rfl, trivial⟩⟩⟩) (⟨rfl, trivial⟩)) H ?_ ?_ ?_
  · rintro RES1 HR1 i l x HI1 HX1 H
    rw [laws_toTableS_l1] at H
    conv => whnf
    refine LenG.intro a.length (by simp only [List.length_map]) ?_
    conv => whnf
    refine BranchG.t (decide_eq_true (by omega)) ?_
    conv => whnf
    refine IdxG.el (fun _ => rfl) rfl HX1 ?_
    conv => whnf
    obtain ⟨t, HTt, H⟩ := bind_some H
    refine CallG.pure (by first | rfl | (simp only [argsG, argG, List.map_cons, List.map_nil, eGExpr_eq]; first | done | rfl)) (laws_toTable_ok HTt) ?_
    conv => whnf
    refine IdxG.at (fun _ => rfl) H (fun e HXe H => ?_)
    conv => whnf
    refine IdxG.hitN (fun _ => rfl) HXe ?_
    conv => whnf
    refine RowsG.set t (by first | rfl | (simp only [List.map_cons, List.map_nil, eGExpr_eq]; first | done | rfl)) ?_
    conv => whnf
    exact ⟨(l.set (i : Int).toNat t), H, Cover.list (fr' := [(0, .d (.sl (a.map eGTable))), (3, .own 7), (4, .d (.int .i64 ((i + 1 : Nat) : Int)))]) (ob' := [(7, .row 165 4 ((l.set (i : Int).toNat t).map eGTable))]) (⟨.inr rfl, ⟨.inl ⟨rfl, rfl⟩, ⟨.inr (congrArg (fun n => some (PV.d (D.int .i64 n))) (wrapUp HI1 HL1)), trivial⟩⟩⟩) (⟨rfl, trivial⟩)⟩
  · rintro RES1 HR1 i l HI1 H
    rw [laws_toTableS_l1] at H
    conv => whnf
    refine LenG.intro a.length (by simp only [List.length_map]) ?_
    conv => whnf
    refine BranchG.f (decide_eq_false (by omega)) ?_
    conv => whnf
    exact ⟨l, (Option.some.inj H).symm, Cover.list (fr' := [(3, .own 7)]) (ob' := [(7, .row 165 4 (l.map eGTable))]) (⟨.inl ⟨rfl, rfl⟩, trivial⟩) (⟨rfl, trivial⟩)⟩
  · rintro l1 H
    obtain rfl := Option.some.inj H
    conv => whnf
    exact ⟨(by first | rfl | (simp only [List.map_cons, List.map_nil, eGExpr_eq]; first | done | rfl)), (by first | rfl | (simp only [List.map_cons, List.map_nil, eGExpr_eq]; first | done | rfl))⟩

def laws_toIndex (a : GIndex) : Option GIndex :=
  (laws_toStringS a.Cols).bind fun t => some (⟨a.Name, a.Table, t, a.Unique⟩ : GIndex)

theorem laws_toIndex_ok {a : GIndex} {r : GIndex} (H : laws_toIndex a = some r) : FnG Go.Proofs.Try.prog 102 [.agg (eGIndex a)] [] (.agg (eGIndex r)) [] := by
  unfold laws_toIndex at H
  refine FnG.intro (T := T) (fn := Go.Proofs.Try.f102) (c := (Go.Proofs.Try.f102).body.getD .skip) [.agg (eGIndex r)] (by kernel_rfl) (by kernel_rfl) (by kernel_rfl) hfol hT (by kernel_rfl) rfl rfl rfl rfl rfl ?_
  intro N ok out pl0 W0
  refine PW_top ?_
  conv => whnf
  obtain ⟨t, HTt, H⟩ := bind_some H
  refine CallG.pure (by first | rfl | (simp only [argsG, argG, List.map_cons, List.map_nil, eGExpr_eq]; first | done | rfl)) (laws_toStringS_ok HTt) ?_
  obtain rfl := Option.some.inj H
  conv => whnf
  exact ⟨(by first | rfl | (simp only [List.map_cons, List.map_nil, eGExpr_eq]; first | done | rfl)), (by first | rfl | (simp only [List.map_cons, List.map_nil, eGExpr_eq]; first | done | rfl))⟩

def laws_toIndexS_l1  : List GIndex → Nat → (List GIndex) → Option (List GIndex)
  | [], i, l => some l
  | x :: xs, i, l => (laws_toIndex x).bind fun t => (at? l (i : Int)).bind fun e => laws_toIndexS_l1 xs (i + 1) (l.set (i : Int).toNat t)

def laws_toIndexS (a : (List GIndex)) : Option (List GIndex) :=
  if 0 ≤ (a.length : Int) ∧ (a.length : Int) ≤ (a.length : Int) ∧ (a.length : Int) * 64 ≤ 140737488355328 ∧ (a.length : Int) ≤ 140737488355328 then ((laws_toIndexS_l1 a 0 (List.replicate (a.length : Int).toNat (⟨[], [], [], false⟩ : GIndex))).bind fun l1 => some l1) else none

theorem laws_toIndexS_ok {a : (List GIndex)} {r : (List GIndex)} (H : laws_toIndexS a = some r) : FnG Go.Proofs.Try.prog 75 [.d (.sl (a.map eGIndex))] [] (.d (.sl (r.map eGIndex))) [] := by
  unfold laws_toIndexS at H
  refine FnG.intro (T := T) (fn := Go.Proofs.Try.f75) (c := (Go.Proofs.Try.f75).body.getD .skip) [.d (.sl (r.map eGIndex))] (by kernel_rfl) (by kernel_rfl) (by kernel_rfl) hfol hT (by kernel_rfl) rfl rfl rfl rfl rfl ?_
  intro N ok out pl0 W0
  refine PW_top ?_
  conv => whnf
  refine LenG.intro a.length (by simp only [List.length_map]) ?_
  conv => whnf
  refine NeedG.sync H (fun HP => HP) (fun HP H => ?_)
  conv => whnf
  refine RowsG.intro (List.map eGIndex (List.replicate (a.length : Int).toNat (⟨[], [], [], false⟩ : GIndex))) (by rw [List.map_replicate]; exact (by first | rfl | (simp only [List.map_cons, List.map_nil, eGExpr_eq]; first | done | rfl))) ?_
  conv => whnf
  refine LoopG.len 0 rfl (fun HL1 => ?_)
  rw [List.length_map] at HL1
  refine LoopG.listCut (σ := (List GIndex)) (ε := (List GIndex)) a (fun i SS => ([(0, .d (.sl (a.map eGIndex))), (3, .own 7), (4, .d (.int .i64 (i : Int)))], [(7, .row 167 4 (SS.map eGIndex))])) (fun i SS LL => laws_toIndexS_l1 LL i SS) 0 (fun EE => ([(3, .own 7)], [(7, .row 167 4 (EE.map eGIndex))])) (fun e => e) (List.replicate (a.length : Int).toNat (⟨[], [], [], false⟩ : GIndex)) (Cover.list (fr' := [(0, .d (.sl (a.map eGIndex))), (3, .own 7), (4, .d (.int .i64 ((0 : Nat) : Int)))]) (ob' := [(7, .row 167 4 ((List.replicate (a.length : Int).toNat (⟨[], [], [], false⟩ : GIndex)).map eGIndex))]) (⟨.inr rfl, ⟨.inl ⟨rfl, rfl⟩, ⟨.inr rfl, trivial⟩⟩⟩) (⟨rfl, trivial⟩)) H ?_ ?_ ?_
  · rintro RES1 HR1 i l x HI1 HX1 H
    rw [laws_toIndexS_l1] at H
    conv => whnf
    refine LenG.intro a.length (by simp only [List.length_map]) ?_
    conv => whnf
    refine BranchG.t (decide_eq_true (by omega)) ?_
    conv => whnf
    refine IdxG.el (fun _ => rfl) rfl HX1 ?_
    conv => whnf
    obtain ⟨t, HTt, H⟩ := bind_some H
    refine CallG.pure (by first | rfl | (simp only [argsG, argG, List.map_cons, List.map_nil, eGExpr_eq]; first | done | rfl)) (laws_toIndex_ok HTt) ?_
    conv => whnf
    refine IdxG.at (fun _ => rfl) H (fun e HXe H => ?_)
    conv => whnf
    refine IdxG.hitN (fun _ => rfl) HXe ?_
    conv => whnf
    refine RowsG.set t (by first | rfl | (simp only [List.map_cons, List.map_nil, eGExpr_eq]; first | done | rfl)) ?_
    conv => whnf
    exact ⟨(l.set (i : Int).toNat t), H, Cover.list (fr' := [(0, .d (.sl (a.map eGIndex))), (3, .own 7), (4, .d (.int .i64 ((i + 1 : Nat) : Int)))]) (ob' := [(7, .row 167 4 ((l.set (i : Int).toNat t).map eGIndex))]) (⟨.inr rfl, ⟨.inl ⟨rfl, rfl⟩, ⟨.inr (congrArg (fun n => some (PV.d (D.int .i64 n))) (wrapUp HI1 HL1)), trivial⟩⟩⟩) (⟨rfl, trivial⟩)⟩
  · rintro RES1 HR1 i l HI1 H
    rw [laws_toIndexS_l1] at H
    conv => whnf
    refine LenG.intro a.length (by simp only [List.length_map]) ?_
    conv => whnf
    refine BranchG.f (decide_eq_false (by omega)) ?_
    conv => whnf
    exact ⟨l, (Option.some.inj H).symm, Cover.list (fr' := [(3, .own 7)]) (ob' := [(7, .row 167 4 (l.map eGIndex))]) (⟨.inl ⟨rfl, rfl⟩, trivial⟩) (⟨rfl, trivial⟩)⟩
  · rintro l1 H
    obtain rfl := Option.some.inj H
    conv => whnf
    exact ⟨(by first | rfl | (simp only [List.map_cons, List.map_nil, eGExpr_eq]; first | done | rfl)), (by first | rfl | (simp only [List.map_cons, List.map_nil, eGExpr_eq]; first | done | rfl))⟩
end Go.Pv.S
