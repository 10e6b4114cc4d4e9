import Derived.Test.YtondofmlippbcaaVX5
set_option linter.unusedSimpArgs false
set_option linter.unusedVariables false
set_option maxRecDepth 100000
open Go Go.Pv
namespace Go.Pv.S
def laws_szStore (k : Nat) (a : GStore) (left : Int) : Option Int :=
  (laws_szPlan k a.Plan left).bind fun t => if t < 0 then (some (-1)) else ((laws_szRowsS a.Data t).bind fun t1 => if t1 < 0 then (some (-1)) else (some t1))

theorem laws_szStore_ok {k : Nat} {a : GStore} {left : Int} {r : Int} (H : laws_szStore k a left = some r) : FnG Go.Proofs.Try.prog 18 [.agg (eGStore a), .d (.int .i64 left)] [] (.d (.int .i64 r)) [] := by
  unfold laws_szStore at H
  refine FnG.intro (T := T) (fn := Go.Proofs.Try.f18) (c := (Go.Proofs.Try.f18).body.getD .skip) [.d (.int .i64 r)] (by kernel_rfl) (by kernel_rfl) (by kernel_rfl) hfol hT (by kernel_rfl) rfl rfl rfl rfl rfl ?_
  intro N ok out pl0 W0
  refine PW_top ?_
  conv => whnf
  obtain ⟨t, HTt, H⟩ := bind_some H
  refine CallG.pure (by first | rfl | (simp only [argsG, argG, List.map_cons, List.map_nil, eGExpr_eq]; first | done | rfl)) (laws_szPlan_ok HTt) ?_
  conv => whnf
  refine BranchG.ite H (fun HP H => ?_) (fun HP H => ?_)
  · obtain rfl := Option.some.inj H
    conv => whnf
    exact ⟨(by first | rfl | (simp only [List.map_cons, List.map_nil, eGExpr_eq]; first | done | rfl)), (by first | rfl | (simp only [List.map_cons, List.map_nil, eGExpr_eq]; first | done | rfl))⟩
  · conv => whnf
    obtain ⟨t1, HTt1, H⟩ := bind_some H
    refine CallG.pure (by first | rfl | (simp only [argsG, argG, List.map_cons, List.map_nil, eGExpr_eq]; first | done | rfl)) (laws_szRowsS_ok HTt1) ?_
    conv => whnf
    refine BranchG.ite H (fun HP H => ?_) (fun HP H => ?_)
    · obtain rfl := Option.some.inj H
      conv => whnf
      exact ⟨(by first | rfl | (simp only [List.map_cons, List.map_nil, eGExpr_eq]; first | done | rfl)), (by first | rfl | (simp only [List.map_cons, List.map_nil, eGExpr_eq]; first | done | rfl))⟩
    · obtain rfl := Option.some.inj H
      conv => whnf
      exact ⟨(by first | rfl | (simp only [List.map_cons, List.map_nil, eGExpr_eq]; first | done | rfl)), (by first | rfl | (simp only [List.map_cons, List.map_nil, eGExpr_eq]; first | done | rfl))⟩

def laws_toStringS_l1  : List Str → Nat → (List Str) → Option (List Str)
  | [], i, l => some l
  | x :: xs, i, l => (at? l (i : Int)).bind fun e => laws_toStringS_l1 xs (i + 1) (l.set (i : Int).toNat x)

def laws_toStringS (a : (List Str)) : Option (List Str) :=
  if 0 ≤ (a.length : Int) ∧ (a.length : Int) ≤ (a.length : Int) ∧ (a.length : Int) * 16 ≤ 140737488355328 ∧ (a.length : Int) ≤ 140737488355328 then ((laws_toStringS_l1 a 0 (List.replicate (a.length : Int).toNat [])).bind fun l1 => some l1) else none

theorem laws_toStringS_ok {a : (List Str)} {r : (List Str)} (H : laws_toStringS a = some r) : FnG Go.Proofs.Try.prog 50 [.d (.sl (a.map eStr))] [] (.d (.sl (r.map eStr))) [] := by
  unfold laws_toStringS at H
  refine FnG.intro (T := T) (fn := Go.Proofs.Try.f50) (c := (Go.Proofs.Try.f50).body.getD .skip) [.d (.sl (r.map eStr))] (by kernel_rfl) (by kernel_rfl) (by kernel_rfl) hfol hT (by kernel_rfl) rfl rfl rfl rfl rfl ?_
  intro N ok out pl0 W0
  refine PW_top ?_
  conv => whnf
  refine LenG.intro a.length (by simp only [List.length_map]) ?_
  conv => whnf
  refine NeedG.sync H (fun HP => HP) (fun HP H => ?_)
  conv => whnf
  refine RowsG.intro (List.map eStr (List.replicate (a.length : Int).toNat [])) (by rw [List.map_replicate]; exact (by first | rfl | (simp only [List.map_cons, List.map_nil, eGExpr_eq]; first | done | rfl))) ?_
  conv => whnf
  refine LoopG.len 0 rfl (fun HL1 => ?_)
  rw [List.length_map] at HL1
  refine LoopG.listCut (σ := (List Str)) (ε := (List Str)) a (fun i SS => ([(0, .d (.sl (a.map eStr))), (3, .own 7), (4, .d (.int .i64 (i : Int)))], [(7, .row 9 1 (SS.map eStr))])) (fun i SS LL => laws_toStringS_l1 LL i SS) 0 (fun EE => ([(3, .own 7)], [(7, .row 9 1 (EE.map eStr))])) (fun e => e) (List.replicate (a.length : Int).toNat []) (Cover.list (fr' := [(0, .d (.sl (a.map eStr))), (3, .own 7), (4, .d (.int .i64 ((0 : Nat) : Int)))]) (ob' := [(7, .row 9 1 ((List.replicate (a.length : Int).toNat []).map eStr))]) (⟨.inr rfl, ⟨.inl ⟨rfl, rfl⟩, ⟨.inr rfl, trivial⟩⟩⟩) (⟨rfl, trivial⟩)) H ?_ ?_ ?_
  · rintro RES1 HR1 i l x HI1 HX1 H
    rw [laws_toStringS_l1] at H
    conv => whnf
    refine LenG.intro a.length (by simp only [List.length_map]) ?_
    conv => whnf
    refine BranchG.t (decide_eq_true (by omega)) ?_
    conv => whnf
    refine IdxG.el (fun _ => rfl) rfl HX1 ?_
    conv => whnf
    refine IdxG.at (fun _ => rfl) H (fun e HXe H => ?_)
    conv => whnf
    refine IdxG.hitN (fun _ => rfl) HXe ?_
    conv => whnf
    refine RowsG.set x (by first | rfl | (simp only [List.map_cons, List.map_nil, eGExpr_eq]; first | done | rfl)) ?_
    conv => whnf
    exact ⟨(l.set (i : Int).toNat x), H, Cover.list (fr' := [(0, .d (.sl (a.map eStr))), (3, .own 7), (4, .d (.int .i64 ((i + 1 : Nat) : Int)))]) (ob' := [(7, .row 9 1 ((l.set (i : Int).toNat x).map eStr))]) (⟨.inr rfl, ⟨.inl ⟨rfl, rfl⟩, ⟨.inr (congrArg (fun n => some (PV.d (D.int .i64 n))) (wrapUp HI1 HL1)), trivial⟩⟩⟩) (⟨rfl, trivial⟩)⟩
  · rintro RES1 HR1 i l HI1 H
    rw [laws_toStringS_l1] at H
    conv => whnf
    refine LenG.intro a.length (by simp only [List.length_map]) ?_
    conv => whnf
    refine BranchG.f (decide_eq_false (by omega)) ?_
    conv => whnf
    exact ⟨l, (Option.some.inj H).symm, Cover.list (fr' := [(3, .own 7)]) (ob' := [(7, .row 9 1 (l.map eStr))]) (⟨.inl ⟨rfl, rfl⟩, trivial⟩) (⟨rfl, trivial⟩)⟩
  · rintro l1 H
    obtain rfl := Option.some.inj H
    conv => whnf
    exact ⟨(by first | rfl | (simp only [List.map_cons, List.map_nil, eGExpr_eq]; first | done | rfl)), (by first | rfl | (simp only [List.map_cons, List.map_nil, eGExpr_eq]; first | done | rfl))⟩

def laws_toLabels (a : GLabels) : Option GLabels :=
  (laws_toStringS a.List).bind fun t => some (⟨a.Name, t⟩ : GLabels)

theorem laws_toLabels_ok {a : GLabels} {r : GLabels} (H : laws_toLabels a = some r) : FnG Go.Proofs.Try.prog 27 [.agg (eGLabels a)] [] (.agg (eGLabels r)) [] := by
  unfold laws_toLabels at H
  refine FnG.intro (T := T) (fn := Go.Proofs.Try.f27) (c := (Go.Proofs.Try.f27).body.getD .skip) [.agg (eGLabels r)] (by kernel_rfl) (by kernel_rfl) (by kernel_rfl) hfol hT (by kernel_rfl) rfl rfl rfl rfl rfl ?_
  intro N ok out pl0 W0
  refine PW_top ?_
  conv => whnf
  obtain ⟨t, HTt, H⟩ := bind_some H
  refine CallG.pure (by first | rfl | (simp only [argsG, argG, List.map_cons, List.map_nil, eGExpr_eq]; first | done | rfl)) (laws_toStringS_ok HTt) ?_
  obtain rfl := Option.some.inj H
  conv => whnf
  exact ⟨(by first | rfl | (simp only [List.map_cons, List.map_nil, eGExpr_eq]; first | done | rfl)), (by first | rfl | (simp only [List.map_cons, List.map_nil, eGExpr_eq]; first | done | rfl))⟩

def laws_toLabelsS_l1  : List GLabels → Nat → (List GLabels) → Option (List GLabels)
  | [], i, l => some l
  | x :: xs, i, l => (laws_toLabels x).bind fun t => (at? l (i : Int)).bind fun e => laws_toLabelsS_l1 xs (i + 1) (l.set (i : Int).toNat t)

def laws_toLabelsS (a : (List GLabels)) : Option (List GLabels) :=
  if 0 ≤ (a.length : Int) ∧ (a.length : Int) ≤ (a.length : Int) ∧ (a.length : Int) * 40 ≤ 140737488355328 ∧ (a.length : Int) ≤ 140737488355328 then ((laws_toLabelsS_l1 a 0 (List.replicate (a.length : Int).toNat (⟨[], []⟩ : GLabels))).bind fun l1 => some l1) else none

theorem laws_toLabelsS_ok {a : (List GLabels)} {r : (List GLabels)} (H : laws_toLabelsS a = some r) : FnG Go.Proofs.Try.prog 12 [.d (.sl (a.map eGLabels))] [] (.d (.sl (r.map eGLabels))) [] := by
  unfold laws_toLabelsS at H
  refine FnG.intro (T := T) (fn := Go.Proofs.Try.f12) (c := (Go.Proofs.Try.f12).body.getD .skip) [.d (.sl (r.map eGLabels))] (by kernel_rfl) (by kernel_rfl) (by kernel_rfl) hfol hT (by kernel_rfl) rfl rfl rfl rfl rfl ?_
  intro N ok out pl0 W0
  refine PW_top ?_
  conv => whnf
  refine LenG.intro a.length (by simp only [List.length_map]) ?_
  conv => whnf
  refine NeedG.sync H (fun HP => HP) (fun HP H => ?_)
  conv => whnf
  refine RowsG.intro (List.map eGLabels (List.replicate (a.length : Int).toNat (⟨[], []⟩ : GLabels))) (by rw [List.map_replicate]; exact (by first | rfl | (simp only [List.map_cons, List.map_nil, eGExpr_eq]; first | done | rfl))) ?_
  conv => whnf
  refine LoopG.len 0 rfl (fun HL1 => ?_)
  rw [List.length_map] at HL1
  refine LoopG.listCut (σ := (List GLabels)) (ε := (List GLabels)) a (fun i SS => ([(0, .d (.sl (a.map eGLabels))), (3, .own 7), (4, .d (.int .i64 (i : Int)))], [(7, .row 83 2 (SS.map eGLabels))])) (fun i SS LL => laws_toLabelsS_l1 LL i SS) 0 (fun EE => ([(3, .own 7)], [(7, .row 83 2 (EE.map eGLabels))])) (fun e => e) (List.replicate (a.length : Int).toNat (⟨[], []⟩ : GLabels)) (Cover.list (fr' := [(0, .d (.sl (a.map eGLabels))), (3, .own 7), (4, .d (.int .i64 ((0 : Nat) : Int)))]) (ob' := [(7, .row 83 2 ((List.replicate (a.length : Int).toNat (⟨[], []⟩ : GLabels)).map eGLabels))]) (⟨.inr rfl, ⟨.inl ⟨rfl, rfl⟩, ⟨.inr rfl, trivial⟩⟩⟩) (⟨rfl, trivial⟩)) H ?_ ?_ ?_
  · rintro RES1 HR1 i l x HI1 HX1 H
    rw [laws_toLabelsS_l1] at H
    conv => whnf
    refine LenG.intro a.length (by simp only [List.length_map]) ?_
    conv => whnf
    refine BranchG.t (decide_eq_true (by omega)) ?_
    conv => whnf
    refine IdxG.el (fun _ => rfl) rfl HX1 ?_
    conv => whnf
    obtain ⟨t, HTt, H⟩ := bind_some H
    refine CallG.pure (by first | rfl | (simp only [argsG, argG, List.map_cons, List.map_nil, eGExpr_eq]; first | done | rfl)) (laws_toLabels_ok HTt) ?_
    conv => whnf
    refine IdxG.at (fun _ => rfl) H (fun e HXe H => ?_)
    conv => whnf
    refine IdxG.hitN (fun _ => rfl) HXe ?_
    conv => whnf
    refine RowsG.set t (by first | rfl | (simp only [List.map_cons, List.map_nil, eGExpr_eq]; first | done | rfl)) ?_
    conv => whnf
    exact ⟨(l.set (i : Int).toNat t), H, Cover.list (fr' := [(0, .d (.sl (a.map eGLabels))), (3, .own 7), (4, .d (.int .i64 ((i + 1 : Nat) : Int)))]) (ob' := [(7, .row 83 2 ((l.set (i : Int).toNat t).map eGLabels))]) (⟨.inr rfl, ⟨.inl ⟨rfl, rfl⟩, ⟨.inr (congrArg (fun n => some (PV.d (D.int .i64 n))) (wrapUp HI1 HL1)), trivial⟩⟩⟩) (⟨rfl, trivial⟩)⟩
  · rintro RES1 HR1 i l HI1 H
    rw [laws_toLabelsS_l1] at H
    conv => whnf
    refine LenG.intro a.length (by simp only [List.length_map]) ?_
    conv => whnf
    refine BranchG.f (decide_eq_false (by omega)) ?_
    conv => whnf
    exact ⟨l, (Option.some.inj H).symm, Cover.list (fr' := [(3, .own 7)]) (ob' := [(7, .row 83 2 (l.map eGLabels))]) (⟨.inl ⟨rfl, rfl⟩, trivial⟩) (⟨rfl, trivial⟩)⟩
  · rintro l1 H
    obtain rfl := Option.some.inj H
    conv => whnf
    exact ⟨(by first | rfl | (simp only [List.map_cons, List.map_nil, eGExpr_eq]; first | done | rfl)), (by first | rfl | (simp only [List.map_cons, List.map_nil, eGExpr_eq]; first | done | rfl))⟩

def laws_toSeq (a : GSeq) : GSeq :=
  a

theorem laws_toSeq_ok (a : GSeq) : FnG Go.Proofs.Try.prog 100 [.agg (eGSeq a)] [] (.agg (eGSeq (laws_toSeq a))) [] := by
  generalize H : laws_toSeq a = r
  unfold laws_toSeq at H
  refine FnG.intro (T := T) (fn := Go.Proofs.Try.f100) (c := (Go.Proofs.Try.f100).body.getD .skip) [.agg (eGSeq r)] (by kernel_rfl) (by kernel_rfl) (by kernel_rfl) hfol hT (by kernel_rfl) rfl rfl rfl rfl rfl ?_
  intro N ok out pl0 W0
  refine PW_top ?_
  subst H
  conv => whnf
  exact ⟨(by first | rfl | (simp only [List.map_cons, List.map_nil, eGExpr_eq]; first | done | rfl)), (by first | rfl | (simp only [List.map_cons, List.map_nil, eGExpr_eq]; first | done | rfl))⟩

def laws_toSeqS_l1  : List GSeq → Nat → (List GSeq) → Option (List GSeq)
  | [], i, l => some l
  | x :: xs, i, l => (at? l (i : Int)).bind fun e => laws_toSeqS_l1 xs (i + 1) (l.set (i : Int).toNat (laws_toSeq x))

def laws_toSeqS (a : (List GSeq)) : Option (List GSeq) :=
  if 0 ≤ (a.length : Int) ∧ (a.length : Int) ≤ (a.length : Int) ∧ (a.length : Int) * 24 ≤ 140737488355328 ∧ (a.length : Int) ≤ 140737488355328 then ((laws_toSeqS_l1 a 0 (List.replicate (a.length : Int).toNat (⟨[], 0⟩ : GSeq))).bind fun l1 => some l1) else none

theorem laws_toSeqS_ok {a : (List GSeq)} {r : (List GSeq)} (H : laws_toSeqS a = some r) : FnG Go.Proofs.Try.prog 73 [.d (.sl (a.map eGSeq))] [] (.d (.sl (r.map eGSeq))) [] := by
  unfold laws_toSeqS at H
  refine FnG.intro (T := T) (fn := Go.Proofs.Try.f73) (c := (Go.Proofs.Try.f73).body.getD .skip) [.d (.sl (r.map eGSeq))] (by kernel_rfl) (by kernel_rfl) (by kernel_rfl) hfol hT (by kernel_rfl) rfl rfl rfl rfl rfl ?_
  intro N ok out pl0 W0
  refine PW_top ?_
  conv => whnf
  refine LenG.intro a.length (by simp only [List.length_map]) ?_
  conv => whnf
  refine NeedG.sync H (fun HP => HP) (fun HP H => ?_)
  conv => whnf
  refine RowsG.intro (List.map eGSeq (List.replicate (a.length : Int).toNat (⟨[], 0⟩ : GSeq))) (by rw [List.map_replicate]; exact (by first | rfl | (simp only [List.map_cons, List.map_nil, eGExpr_eq]; first | done | rfl))) ?_
  conv => whnf
  refine LoopG.len 0 rfl (fun HL1 => ?_)
  rw [List.length_map] at HL1
  refine LoopG.listCut (σ := (List GSeq)) (ε := (List GSeq)) a (fun i SS => ([(0, .d (.sl (a.map eGSeq))), (3, .own 7), (4, .d (.int .i64 (i : Int)))], [(7, .row 161 2 (SS.map eGSeq))])) (fun i SS LL => laws_toSeqS_l1 LL i SS) 0 (fun EE => ([(3, .own 7)], [(7, .row 161 2 (EE.map eGSeq))])) (fun e => e) (List.replicate (a.length : Int).toNat (⟨[], 0⟩ : GSeq)) (Cover.list (fr' := [(0, .d (.sl (a.map eGSeq))), (3, .own 7), (4, .d (.int .i64 ((0 : Nat) : Int)))]) (ob' := [(7, .row 161 2 ((List.replicate (a.length : Int).toNat (⟨[], 0⟩ : GSeq)).map eGSeq))]) (⟨.inr rfl, ⟨.inl ⟨rfl, rfl⟩, ⟨.inr rfl, trivial⟩⟩⟩) (⟨rfl, trivial⟩)) H ?_ ?_ ?_
  · rintro RES1 HR1 i l x HI1 HX1 H
    rw [laws_toSeqS_l1] at H
    conv => whnf
    refine LenG.intro a.length (by simp only [List.length_map]) ?_
    conv => whnf
    refine BranchG.t (decide_eq_true (by omega)) ?_
    conv => whnf
    refine IdxG.el (fun _ => rfl) rfl HX1 ?_
    conv => whnf
    refine CallG.pure (by first | rfl | (simp only [argsG, argG, List.map_cons, List.map_nil, eGExpr_eq]; first | done | rfl)) (laws_toSeq_ok x) ?_
    conv => whnf
    refine IdxG.at (fun _ => rfl) H (fun e HXe H => ?_)
    conv => whnf
    refine IdxG.hitN (fun _ => rfl) HXe ?_
    conv => whnf
    refine RowsG.set (laws_toSeq x) (by first | rfl | (simp only [List.map_cons, List.map_nil, eGExpr_eq]; first | done | rfl)) ?_
    conv => whnf
    exact ⟨(l.set (i : Int).toNat (laws_toSeq x)), H, Cover.list (fr' := [(0, .d (.sl (a.map eGSeq))), (3, .own 7), (4, .d (.int .i64 ((i + 1 : Nat) : Int)))]) (ob' := [(7, .row 161 2 ((l.set (i : Int).toNat (laws_toSeq x)).map eGSeq))]) (⟨.inr rfl, ⟨.inl ⟨rfl, rfl⟩, ⟨.inr (congrArg (fun n => some (PV.d (D.int .i64 n))) (wrapUp HI1 HL1)), trivial⟩⟩⟩) (⟨rfl, trivial⟩)⟩
  · rintro RES1 HR1 i l HI1 H
    rw [laws_toSeqS_l1] at H
    conv => whnf
    refine LenG.intro a.length (by simp only [List.length_map]) ?_
    conv => whnf
    refine BranchG.f (decide_eq_false (by omega)) ?_
    conv => whnf
    exact ⟨l, (Option.some.inj H).symm, Cover.list (fr' := [(3, .own 7)]) (ob' := [(7, .row 161 2 (l.map eGSeq))]) (⟨.inl ⟨rfl, rfl⟩, trivial⟩) (⟨rfl, trivial⟩)⟩
  · rintro l1 H
    obtain rfl := Option.some.inj H
    conv => whnf
    exact ⟨(by first | rfl | (simp only [List.map_cons, List.map_nil, eGExpr_eq]; first | done | rfl)), (by first | rfl | (simp only [List.map_cons, List.map_nil, eGExpr_eq]; first | done | rfl))⟩
end Go.Pv.S
