import Derived.Test.YtondofmlippbcaaVX6
set_option linter.unusedSimpArgs false
set_option linter.unusedVariables false
set_option maxRecDepth 100000
open Go Go.Pv
namespace Go.Pv.S
def laws_toType (a : GType_) : GType_ :=
  a

theorem laws_toType_ok (a : GType_) : FnG Go.Proofs.Try.prog 11 [.agg (eGType_ a)] [] (.agg (eGType_ (laws_toType a))) [] := by
  generalize H : laws_toType a = r
  unfold laws_toType at H
  refine FnG.intro (T := T) (fn := Go.Proofs.Try.f11) (c := (Go.Proofs.Try.f11).body.getD .skip) [.agg (eGType_ r)] (by kernel_rfl) (by kernel_rfl) (by kernel_rfl) hfol hT (by kernel_rfl) rfl rfl rfl rfl rfl ?_
  intro N ok out pl0 W0
  refine PW_top ?_
  subst H
  conv => whnf
  exact ⟨(by first | rfl | (simp only [List.map_cons, List.map_nil, eGExpr_eq]; first | done | rfl)), (by first | rfl | (simp only [List.map_cons, List.map_nil, eGExpr_eq]; first | done | rfl))⟩

def laws_toExprS_l1 (f_laws_toExpr : (GExpr → Option GExpr)) : List GExpr → Nat → (List GExpr) → Option (List GExpr)
  | [], i, l => some l
  | x :: xs, i, l => (f_laws_toExpr x).bind fun t => (at? l (i : Int)).bind fun e => laws_toExprS_l1 f_laws_toExpr xs (i + 1) (l.set (i : Int).toNat t)

mutual
def laws_toExprS : Nat → (List GExpr) → Option (List GExpr)
  | 0, _ => none
  | k + 1, a => if 0 ≤ (a.length : Int) ∧ (a.length : Int) ≤ (a.length : Int) ∧ (a.length : Int) * 56 ≤ 140737488355328 ∧ (a.length : Int) ≤ 140737488355328 then ((laws_toExprS_l1 (laws_toExpr k) a 0 (List.replicate (a.length : Int).toNat (⟨0, [], 0, []⟩ : GExpr))).bind fun l1 => some l1) else none

def laws_toExpr : Nat → GExpr → Option GExpr
  | 0, _ => none
  | k + 1, a => ((laws_toExprS k) a.Kids).bind fun t => some (⟨a.Kind, a.Text, a.Num, t⟩ : GExpr)
end

theorem laws_toExprS_ring : ∀ (k : Nat), (∀ {a : (List GExpr)} {r : (List GExpr)}, laws_toExprS k a = some r → FnG Go.Proofs.Try.prog 120 [.d (.sl (a.map eGExpr))] [] (.d (.sl (r.map eGExpr))) []) ∧ (∀ {a : GExpr} {r : GExpr}, laws_toExpr k a = some r → FnG Go.Proofs.Try.prog 144 [.agg (eGExpr1 a)] [] (.agg (eGExpr1 r)) []) := by
  intro k
  induction k with
  | zero => exact ⟨(by intros; rename_i H; rw [laws_toExprS] at H; cases H), (by intros; rename_i H; rw [laws_toExpr] at H; cases H)⟩
  | succ k IH =>
    obtain ⟨IH_laws_toExprS, IH_laws_toExpr⟩ := IH
    refine ⟨?_, ?_⟩
    · intro a r H
      rw [laws_toExprS] at H
      refine FnG.intro (T := T) (fn := Go.Proofs.Try.f120) (c := (Go.Proofs.Try.f120).body.getD .skip) [.d (.sl (r.map eGExpr))] (by kernel_rfl) (by kernel_rfl) (by kernel_rfl) hfol hT (by kernel_rfl) rfl rfl rfl rfl rfl ?_
      intro N ok out pl0 W0
      refine PW_top ?_
      conv => whnf
      refine LenG.intro a.length (by simp only [List.length_map]) ?_
      conv => whnf
      refine NeedG.sync H (fun HP => HP) (fun HP H => ?_)
      conv => whnf
      refine RowsG.intro (List.map eGExpr (List.replicate (a.length : Int).toNat (⟨0, [], 0, []⟩ : GExpr))) (by rw [List.map_replicate]; exact (by first | rfl | (simp only [List.map_cons, List.map_nil, eGExpr_eq]; first | done | rfl))) ?_
      conv => whnf
      refine LoopG.len 0 rfl (fun HL1 => ?_)
      rw [List.length_map] at HL1
      refine LoopG.listCut (σ := (List GExpr)) (ε := (List GExpr)) a (fun i SS => ([(0, .d (.sl (a.map eGExpr))), (3, .own 7), (4, .d (.int .i64 (i : Int)))], [(7, .row 50 4 (SS.map eGExpr))])) (fun i SS LL => laws_toExprS_l1 (laws_toExpr k) LL i SS) 0 (fun EE => ([(3, .own 7)], [(7, .row 50 4 (EE.map eGExpr))])) (fun e => e) (List.replicate (a.length : Int).toNat (⟨0, [], 0, []⟩ : GExpr)) (Cover.list (fr' := [(0, .d (.sl (a.map eGExpr))), (3, .own 7), (4, .d (.int .i64 ((0 : Nat) : Int)))]) (ob' := [(7, .row 50 4 ((List.replicate (a.length : Int).toNat (⟨0, [], 0, []⟩ : GExpr)).map eGExpr))]) (⟨.inr rfl, ⟨.inl ⟨rfl, rfl⟩, ⟨.inr rfl, trivial⟩⟩⟩) (⟨rfl, trivial⟩)) H ?_ ?_ ?_
      · rintro RES1 HR1 i l x HI1 HX1 H
        rw [laws_toExprS_l1] at H
        conv => whnf
        refine LenG.intro a.length (by simp only [List.length_map]) ?_
        conv => whnf
        refine BranchG.t (decide_eq_true (by omega)) ?_
        conv => whnf
        refine IdxG.el eGExpr_eq rfl HX1 ?_
        conv => whnf
        obtain ⟨t, HTt, H⟩ := bind_some H
        refine CallG.pure (by first | rfl | (simp only [argsG, argG, List.map_cons, List.map_nil, eGExpr_eq]; first | done | rfl)) (IH_laws_toExpr HTt) ?_
        conv => whnf
        refine IdxG.at eGExpr_eq H (fun e HXe H => ?_)
        conv => whnf
        refine IdxG.hitN eGExpr_eq HXe ?_
        conv => whnf
        refine RowsG.set t (by first | rfl | (simp only [List.map_cons, List.map_nil, eGExpr_eq]; first | done | rfl)) ?_
        conv => whnf
        exact ⟨(l.set (i : Int).toNat t), H, Cover.list (fr' := [(0, .d (.sl (a.map eGExpr))), (3, .own 7), (4, .d (.int .i64 ((i + 1 : Nat) : Int)))]) (ob' := [(7, .row 50 4 ((l.set (i : Int).toNat t).map eGExpr))]) (⟨.inr rfl, ⟨.inl ⟨rfl, rfl⟩, ⟨.inr (congrArg (fun n => some (PV.d (D.int .i64 n))) (wrapUp HI1 HL1)), trivial⟩⟩⟩) (⟨rfl, trivial⟩)⟩
      · rintro RES1 HR1 i l HI1 H
        rw [laws_toExprS_l1] at H
        conv => whnf
        refine LenG.intro a.length (by simp only [List.length_map]) ?_
        conv => whnf
        refine BranchG.f (decide_eq_false (by omega)) ?_
        conv => whnf
        exact ⟨l, (Option.some.inj H).symm, Cover.list (fr' := [(3, .own 7)]) (ob' := [(7, .row 50 4 (l.map eGExpr))]) (⟨.inl ⟨rfl, rfl⟩, trivial⟩) (⟨rfl, trivial⟩)⟩
      · rintro l1 H
        obtain rfl := Option.some.inj H
        conv => whnf
        exact ⟨(by first | rfl | (simp only [List.map_cons, List.map_nil, eGExpr_eq]; first | done | rfl)), (by first | rfl | (simp only [List.map_cons, List.map_nil, eGExpr_eq]; first | done | rfl))⟩
    · intro a r H
      rw [laws_toExpr] at H
      refine FnG.intro (T := T) (fn := Go.Proofs.Try.f144) (c := (Go.Proofs.Try.f144).body.getD .skip) [.agg (eGExpr1 r)] (by kernel_rfl) (by kernel_rfl) (by kernel_rfl) hfol hT (by kernel_rfl) rfl rfl rfl rfl rfl ?_
      intro N ok out pl0 W0
      refine PW_top ?_
      conv => whnf
      obtain ⟨t, HTt, H⟩ := bind_some H
      refine CallG.pure (by first | rfl | (simp only [argsG, argG, List.map_cons, List.map_nil, eGExpr_eq]; first | done | rfl)) (IH_laws_toExprS HTt) ?_
      obtain rfl := Option.some.inj H
      conv => whnf
      exact ⟨(by first | rfl | (simp only [List.map_cons, List.map_nil, eGExpr_eq]; first | done | rfl)), (by first | rfl | (simp only [List.map_cons, List.map_nil, eGExpr_eq]; first | done | rfl))⟩

theorem laws_toExprS_ok {k : Nat} {a : (List GExpr)} {r : (List GExpr)} (H : laws_toExprS k a = some r) : FnG Go.Proofs.Try.prog 120 [.d (.sl (a.map eGExpr))] [] (.d (.sl (r.map eGExpr))) [] := (laws_toExprS_ring k).1 H

theorem laws_toExpr_ok {k : Nat} {a : GExpr} {r : GExpr} (H : laws_toExpr k a = some r) : FnG Go.Proofs.Try.prog 144 [.agg (eGExpr1 a)] [] (.agg (eGExpr1 r)) [] := (laws_toExprS_ring k).2 H

def laws_toCol (k : Nat) (a : GCol) : Option GCol :=
  (laws_toExprS k a.Default).bind fun t => some (⟨a.Name, (laws_toType a.Type_), a.NotNull, t⟩ : GCol)

theorem laws_toCol_ok {k : Nat} {a : GCol} {r : GCol} (H : laws_toCol k a = some r) : FnG Go.Proofs.Try.prog 142 [.agg (eGCol a)] [] (.agg (eGCol r)) [] := by
  unfold laws_toCol at H
  refine FnG.intro (T := T) (fn := Go.Proofs.Try.f142) (c := (Go.Proofs.Try.f142).body.getD .skip) [.agg (eGCol r)] (by kernel_rfl) (by kernel_rfl) (by kernel_rfl) hfol hT (by kernel_rfl) rfl rfl rfl rfl rfl ?_
  intro N ok out pl0 W0
  refine PW_top ?_
  conv => whnf
  refine CallG.pure (by first | rfl | (simp only [argsG, argG, List.map_cons, List.map_nil, eGExpr_eq]; first | done | rfl)) (laws_toType_ok a.Type_) ?_
  conv => whnf
  obtain ⟨t, HTt, H⟩ := bind_some H
  refine CallG.pure (by first | rfl | (simp only [argsG, argG, List.map_cons, List.map_nil, eGExpr_eq]; first | done | rfl)) (laws_toExprS_ok HTt) ?_
  obtain rfl := Option.some.inj H
  conv => whnf
  exact ⟨(by first | rfl | (simp only [List.map_cons, List.map_nil, eGExpr_eq]; first | done | rfl)), (by first | rfl | (simp only [List.map_cons, List.map_nil, eGExpr_eq]; first | done | rfl))⟩

def laws_toColS_l1 (k : Nat) : List GCol → Nat → (List GCol) → Option (List GCol)
  | [], i, l => some l
  | x :: xs, i, l => (laws_toCol k x).bind fun t => (at? l (i : Int)).bind fun e => laws_toColS_l1 k xs (i + 1) (l.set (i : Int).toNat t)

def laws_toColS (k : Nat) (a : (List GCol)) : Option (List GCol) :=
  if 0 ≤ (a.length : Int) ∧ (a.length : Int) ≤ (a.length : Int) ∧ (a.length : Int) * 80 ≤ 140737488355328 ∧ (a.length : Int) ≤ 140737488355328 then ((laws_toColS_l1 k a 0 (List.replicate (a.length : Int).toNat (⟨[], (⟨0, 0, []⟩ : GType_), false, []⟩ : GCol))).bind fun l1 => some l1) else none

theorem laws_toColS_ok {k : Nat} {a : (List GCol)} {r : (List GCol)} (H : laws_toColS k a = some r) : FnG Go.Proofs.Try.prog 118 [.d (.sl (a.map eGCol))] [] (.d (.sl (r.map eGCol))) [] := by
  unfold laws_toColS at H
  refine FnG.intro (T := T) (fn := Go.Proofs.Try.f118) (c := (Go.Proofs.Try.f118).body.getD .skip) [.d (.sl (r.map eGCol))] (by kernel_rfl) (by kernel_rfl) (by kernel_rfl) hfol hT (by kernel_rfl) rfl rfl rfl rfl rfl ?_
  intro N ok out pl0 W0
  refine PW_top ?_
  conv => whnf
  refine LenG.intro a.length (by simp only [List.length_map]) ?_
  conv => whnf
  refine NeedG.sync H (fun HP => HP) (fun HP H => ?_)
  conv => whnf
  refine RowsG.intro (List.map eGCol (List.replicate (a.length : Int).toNat (⟨[], (⟨0, 0, []⟩ : GType_), false, []⟩ : GCol))) (by rw [List.map_replicate]; exact (by first | rfl | (simp only [List.map_cons, List.map_nil, eGExpr_eq]; first | done | rfl))) ?_
  conv => whnf
  refine LoopG.len 0 rfl (fun HL1 => ?_)
  rw [List.length_map] at HL1
  refine LoopG.listCut (σ := (List GCol)) (ε := (List GCol)) a (fun i SS => ([(0, .d (.sl (a.map eGCol))), (3, .own 7), (4, .d (.int .i64 (i : Int)))], [(7, .row 44 6 (SS.map eGCol))])) (fun i SS LL => laws_toColS_l1 k LL i SS) 0 (fun EE => ([(3, .own 7)], [(7, .row 44 6 (EE.map eGCol))])) (fun e => e) (List.replicate (a.length : Int).toNat (⟨[], (⟨0, 0, []⟩ : GType_), false, []⟩ : GCol)) (Cover.list (fr' := [(0, .d (.sl (a.map eGCol))), (3, .own 7), (4, .d (.int .i64 ((0 : Nat) : Int)))]) (ob' := [(7, .row 44 6 ((List.replicate (a.length : Int).toNat (⟨[], (⟨0, 0, []⟩ : GType_), false, []⟩ : GCol)).map eGCol))]) (⟨.inr rfl, ⟨.inl ⟨rfl, rfl⟩, ⟨.inr rfl, trivial⟩⟩⟩) (⟨rfl, trivial⟩)) H ?_ ?_ ?_
  · rintro RES1 HR1 i l x HI1 HX1 H
    rw [laws_toColS_l1] at H
    conv => whnf
    refine LenG.intro a.length (by simp only [List.length_map]) ?_
    conv => whnf
    refine BranchG.t (decide_eq_true (by omega)) ?_
    conv => whnf
    refine IdxG.el (fun _ => rfl) rfl HX1 ?_
    conv => whnf
    obtain ⟨t, HTt, H⟩ := bind_some H
    refine CallG.pure (by first | rfl | (simp only [argsG, argG, List.map_cons, List.map_nil, eGExpr_eq]; first | done | rfl)) (laws_toCol_ok HTt) ?_
    conv => whnf
    refine IdxG.at (fun _ => rfl) H (fun e HXe H => ?_)
    conv => whnf
    refine IdxG.hitN (fun _ => rfl) HXe ?_
    conv => whnf
    refine RowsG.set t (by first | rfl | (simp only [List.map_cons, List.map_nil, eGExpr_eq]; first | done | rfl)) ?_
    conv => whnf
    exact ⟨(l.set (i : Int).toNat t), H, Cover.list (fr' := [(0, .d (.sl (a.map eGCol))), (3, .own 7), (4, .d (.int .i64 ((i + 1 : Nat) : Int)))]) (ob' := [(7, .row 44 6 ((l.set (i : Int).toNat t).map eGCol))]) (⟨.inr rfl, ⟨.inl ⟨rfl, rfl⟩, ⟨.inr (congrArg (fun n => some (PV.d (D.int .i64 n))) (wrapUp HI1 HL1)), trivial⟩⟩⟩) (⟨rfl, trivial⟩)⟩
  · rintro RES1 HR1 i l HI1 H
    rw [laws_toColS_l1] at H
    conv => whnf
    refine LenG.intro a.length (by simp only [List.length_map]) ?_
    conv => whnf
    refine BranchG.f (decide_eq_false (by omega)) ?_
    conv => whnf
    exact ⟨l, (Option.some.inj H).symm, Cover.list (fr' := [(3, .own 7)]) (ob' := [(7, .row 44 6 (l.map eGCol))]) (⟨.inl ⟨rfl, rfl⟩, trivial⟩) (⟨rfl, trivial⟩)⟩
  · rintro l1 H
    obtain rfl := Option.some.inj H
    conv => whnf
    exact ⟨(by first | rfl | (simp only [List.map_cons, List.map_nil, eGExpr_eq]; first | done | rfl)), (by first | rfl | (simp only [List.map_cons, List.map_nil, eGExpr_eq]; first | done | rfl))⟩

def laws_toRule (k : Nat) (a : GRule) : Option GRule :=
  (laws_toStringS a.Cols).bind fun t => (laws_toExprS k a.Expr).bind fun t1 => (laws_toStringS a.To).bind fun t2 => some (⟨a.Name, a.Kind, t, t1, a.Table, t2⟩ : GRule)

theorem laws_toRule_ok {k : Nat} {a : GRule} {r : GRule} (H : laws_toRule k a = some r) : FnG Go.Proofs.Try.prog 143 [.agg (eGRule a)] [] (.agg (eGRule r)) [] := by
  unfold laws_toRule at H
  refine FnG.intro (T := T) (fn := Go.Proofs.Try.f143) (c := (Go.Proofs.Try.f143).body.getD .skip) [.agg (eGRule r)] (by kernel_rfl) (by kernel_rfl) (by kernel_rfl) hfol hT (by kernel_rfl) rfl rfl rfl rfl rfl ?_
  intro N ok out pl0 W0
  refine PW_top ?_
  conv => whnf
  obtain ⟨t, HTt, H⟩ := bind_some H
  refine CallG.pure (by first | rfl | (simp only [argsG, argG, List.map_cons, List.map_nil, eGExpr_eq]; first | done | rfl)) (laws_toStringS_ok HTt) ?_
  conv => whnf
  obtain ⟨t1, HTt1, H⟩ := bind_some H
  refine CallG.pure (by first | rfl | (simp only [argsG, argG, List.map_cons, List.map_nil, eGExpr_eq]; first | done | rfl)) (laws_toExprS_ok HTt1) ?_
  conv => whnf
  obtain ⟨t2, HTt2, H⟩ := bind_some H
  refine CallG.pure (by first | rfl | (simp only [argsG, argG, List.map_cons, List.map_nil, eGExpr_eq]; first | done | rfl)) (laws_toStringS_ok HTt2) ?_
  obtain rfl := Option.some.inj H
  conv => whnf
  exact ⟨(by first | rfl | (simp only [List.map_cons, List.map_nil, eGExpr_eq]; first | done | rfl)), (by first | rfl | (simp only [List.map_cons, List.map_nil, eGExpr_eq]; first | done | rfl))⟩
end Go.Pv.S
