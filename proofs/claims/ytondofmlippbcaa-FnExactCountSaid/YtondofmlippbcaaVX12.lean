import Derived.Test.YtondofmlippbcaaVX11
set_option linter.unusedSimpArgs false
set_option linter.unusedVariables false
set_option maxRecDepth 100000
open Go Go.Pv
namespace Go.Pv.S
def laws_eqSeq (a : GSeq) (b : GSeq) : Bool :=
  if a.Name = b.Name then (if a.Start = b.Start then (true) else (false)) else (false)

theorem laws_eqSeq_ok (a : GSeq) (b : GSeq) : FnG Go.Proofs.Try.prog 105 [.agg (eGSeq a), .agg (eGSeq b)] [] (.d (.bool (laws_eqSeq a b))) [] := by
  generalize H : laws_eqSeq a b = r
  unfold laws_eqSeq at H
  refine FnG.intro (T := T) (fn := Go.Proofs.Try.f105) (c := (Go.Proofs.Try.f105).body.getD .skip) [.d (.bool r)] (by kernel_rfl) (by kernel_rfl) (by kernel_rfl) hfol hT (by kernel_rfl) rfl rfl rfl rfl rfl ?_
  intro N ok out pl0 W0
  refine PW_top ?_
  conv => whnf
  refine BranchG.iteN H (fun HP H => ?_) (fun HP H => ?_)
  · subst H
    conv => whnf
    exact ⟨(by first | rfl | (simp only [List.map_cons, List.map_nil, eGExpr_eq]; first | done | rfl)), (by first | rfl | (simp only [List.map_cons, List.map_nil, eGExpr_eq]; first | done | rfl))⟩
  · conv => whnf
    refine BranchG.iteN H (fun HP H => ?_) (fun HP H => ?_)
    · subst H
      conv => whnf
      exact ⟨(by first | rfl | (simp only [List.map_cons, List.map_nil, eGExpr_eq]; first | done | rfl)), (by first | rfl | (simp only [List.map_cons, List.map_nil, eGExpr_eq]; first | done | rfl))⟩
    · subst H
      conv => whnf
      exact ⟨(by first | rfl | (simp only [List.map_cons, List.map_nil, eGExpr_eq]; first | done | rfl)), (by first | rfl | (simp only [List.map_cons, List.map_nil, eGExpr_eq]; first | done | rfl))⟩

def laws_eqSeqS_l1 (b : (List GSeq)) : List GSeq → Nat → Option (Sum Unit Bool)
  | [], i => some (Sum.inl ())
  | x :: xs, i => (at? b (i : Int)).bind fun e => if (laws_eqSeq x e) = true then (laws_eqSeqS_l1 b xs (i + 1) ) else (some (Sum.inr false))

def laws_eqSeqS (a : (List GSeq)) (b : (List GSeq)) : Option Bool :=
  if (a.length : Int) = (b.length : Int) then ((laws_eqSeqS_l1 b a 0).bind fun t => match t with | Sum.inl _ => some true | Sum.inr r => some r) else (some false)

theorem laws_eqSeqS_ok {a : (List GSeq)} {b : (List GSeq)} {r : Bool} (H : laws_eqSeqS a b = some r) : FnG Go.Proofs.Try.prog 78 [.d (.sl (a.map eGSeq)), .d (.sl (b.map eGSeq))] [] (.d (.bool r)) [] := by
  unfold laws_eqSeqS at H
  refine FnG.intro (T := T) (fn := Go.Proofs.Try.f78) (c := (Go.Proofs.Try.f78).body.getD .skip) [.d (.bool r)] (by kernel_rfl) (by kernel_rfl) (by kernel_rfl) hfol hT (by kernel_rfl) rfl rfl rfl rfl rfl ?_
  intro N ok out pl0 W0
  refine PW_top ?_
  conv => whnf
  refine LenG.intro a.length (by simp only [List.length_map]) ?_
  conv => whnf
  refine LenG.intro b.length (by simp only [List.length_map]) ?_
  conv => whnf
  refine BranchG.iteN H (fun HP H => ?_) (fun HP H => ?_)
  · obtain rfl := Option.some.inj H
    conv => whnf
    exact ⟨(by first | rfl | (simp only [List.map_cons, List.map_nil, eGExpr_eq]; first | done | rfl)), (by first | rfl | (simp only [List.map_cons, List.map_nil, eGExpr_eq]; first | done | rfl))⟩
  · conv => whnf
    refine LoopG.len 0 rfl (fun HL1 => ?_)
    rw [List.length_map] at HL1
    refine LoopG.listCut (σ := Unit) (ε := Unit) a (fun i SS => ([(0, .d (.sl (a.map eGSeq))), (1, .d (.sl (b.map eGSeq))), (5, .d (.int .i64 (i : Int)))], [])) (fun i SS LL => laws_eqSeqS_l1 b LL i) 0 (fun EE => ([], [])) (fun e => Sum.inl e) () (Cover.list (fr' := [(0, .d (.sl (a.map eGSeq))), (1, .d (.sl (b.map eGSeq))), (5, .d (.int .i64 ((0 : Nat) : Int)))]) (ob' := []) (⟨.inr rfl, ⟨.inr rfl, ⟨.inr rfl, trivial⟩⟩⟩) (trivial)) H ?_ ?_ ?_
    · rintro RES1 HR1 i ⟨⟩ x HI1 HX1 H
      rw [laws_eqSeqS_l1] at H
      conv => whnf
      refine LenG.intro a.length (by simp only [List.length_map]) ?_
      conv => whnf
      refine BranchG.t (decide_eq_true (by omega)) ?_
      conv => whnf
      refine IdxG.el (fun _ => rfl) rfl HX1 ?_
      conv => whnf
      refine IdxG.at (fun _ => rfl) H (fun e _ H => ?_)
      conv => whnf
      refine CallG.pure (by first | rfl | (simp only [argsG, argG, List.map_cons, List.map_nil, eGExpr_eq]; first | done | rfl)) (laws_eqSeq_ok x e) ?_
      conv => whnf
      refine BranchG.iteBN H (fun HP H => ?_) (fun HP H => ?_)
      · obtain rfl := Option.some.inj H
        obtain rfl := Option.some.inj (HR1 : some _ = some _)
        conv => whnf
        exact ⟨(by first | rfl | (simp only [List.map_cons, List.map_nil, eGExpr_eq]; first | done | rfl)), (by first | rfl | (simp only [List.map_cons, List.map_nil, eGExpr_eq]; first | done | rfl))⟩
      · conv => whnf
        exact ⟨(), H, Cover.list (fr' := [(0, .d (.sl (a.map eGSeq))), (1, .d (.sl (b.map eGSeq))), (5, .d (.int .i64 ((i + 1 : Nat) : Int)))]) (ob' := []) (⟨.inr rfl, ⟨.inr rfl, ⟨.inr (congrArg (fun n => some (PV.d (D.int .i64 n))) (wrapUp HI1 HL1)), trivial⟩⟩⟩) (trivial)⟩
    · rintro RES1 HR1 i ⟨⟩ HI1 H
      rw [laws_eqSeqS_l1] at H
      conv => whnf
      refine LenG.intro a.length (by simp only [List.length_map]) ?_
      conv => whnf
      refine BranchG.f (decide_eq_false (by omega)) ?_
      conv => whnf
      exact ⟨(), (Option.some.inj H).symm, Cover.list (fr' := []) (ob' := []) (trivial) (trivial)⟩
    · rintro ⟨⟩ H
      obtain rfl := Option.some.inj H
      conv => whnf
      exact ⟨(by first | rfl | (simp only [List.map_cons, List.map_nil, eGExpr_eq]; first | done | rfl)), (by first | rfl | (simp only [List.map_cons, List.map_nil, eGExpr_eq]; first | done | rfl))⟩

def laws_eqType (a : GType_) (b : GType_) : Bool :=
  if a.Kind = b.Kind then (if a.Len = b.Len then (if a.Name = b.Name then (true) else (false)) else (false)) else (false)

theorem laws_eqType_ok (a : GType_) (b : GType_) : FnG Go.Proofs.Try.prog 160 [.agg (eGType_ a), .agg (eGType_ b)] [] (.d (.bool (laws_eqType a b))) [] := by
  generalize H : laws_eqType a b = r
  unfold laws_eqType at H
  refine FnG.intro (T := T) (fn := Go.Proofs.Try.f160) (c := (Go.Proofs.Try.f160).body.getD .skip) [.d (.bool r)] (by kernel_rfl) (by kernel_rfl) (by kernel_rfl) hfol hT (by kernel_rfl) rfl rfl rfl rfl rfl ?_
  intro N ok out pl0 W0
  refine PW_top ?_
  conv => whnf
  refine BranchG.iteN H (fun HP H => ?_) (fun HP H => ?_)
  · subst H
    conv => whnf
    exact ⟨(by first | rfl | (simp only [List.map_cons, List.map_nil, eGExpr_eq]; first | done | rfl)), (by first | rfl | (simp only [List.map_cons, List.map_nil, eGExpr_eq]; first | done | rfl))⟩
  · conv => whnf
    refine BranchG.iteN H (fun HP H => ?_) (fun HP H => ?_)
    · subst H
      conv => whnf
      exact ⟨(by first | rfl | (simp only [List.map_cons, List.map_nil, eGExpr_eq]; first | done | rfl)), (by first | rfl | (simp only [List.map_cons, List.map_nil, eGExpr_eq]; first | done | rfl))⟩
    · conv => whnf
      refine BranchG.iteN H (fun HP H => ?_) (fun HP H => ?_)
      · subst H
        conv => whnf
        exact ⟨(by first | rfl | (simp only [List.map_cons, List.map_nil, eGExpr_eq]; first | done | rfl)), (by first | rfl | (simp only [List.map_cons, List.map_nil, eGExpr_eq]; first | done | rfl))⟩
      · subst H
        conv => whnf
        exact ⟨(by first | rfl | (simp only [List.map_cons, List.map_nil, eGExpr_eq]; first | done | rfl)), (by first | rfl | (simp only [List.map_cons, List.map_nil, eGExpr_eq]; first | done | rfl))⟩

def laws_eqExprS_l1 (b : (List GExpr)) (f_laws_eqExpr : (GExpr → GExpr → Option Bool)) : List GExpr → Nat → Option (Sum Unit Bool)
  | [], i => some (Sum.inl ())
  | x :: xs, i => (at? b (i : Int)).bind fun e => (f_laws_eqExpr x e).bind fun t => if t = true then (laws_eqExprS_l1 b f_laws_eqExpr xs (i + 1) ) else (some (Sum.inr false))

mutual
def laws_eqExprS : Nat → (List GExpr) → (List GExpr) → Option Bool
  | 0, _, _ => none
  | k + 1, a, b => if (a.length : Int) = (b.length : Int) then ((laws_eqExprS_l1 b (laws_eqExpr k) a 0).bind fun t => match t with | Sum.inl _ => some true | Sum.inr r => some r) else (some false)

def laws_eqExpr : Nat → GExpr → GExpr → Option Bool
  | 0, _, _ => none
  | k + 1, a, b => if a.Kind = b.Kind then (if a.Text = b.Text then (if a.Num = b.Num then (((laws_eqExprS k) a.Kids b.Kids).bind fun t => if t = true then (some true) else (some false)) else (some false)) else (some false)) else (some false)
end

theorem laws_eqExprS_ring : ∀ (k : Nat), (∀ {a : (List GExpr)} {b : (List GExpr)} {r : Bool}, laws_eqExprS k a b = some r → FnG Go.Proofs.Try.prog 124 [.d (.sl (a.map eGExpr)), .d (.sl (b.map eGExpr))] [] (.d (.bool r)) []) ∧ (∀ {a : GExpr} {b : GExpr} {r : Bool}, laws_eqExpr k a b = some r → FnG Go.Proofs.Try.prog 148 [.agg (eGExpr1 a), .agg (eGExpr1 b)] [] (.d (.bool r)) []) := by
  intro k
  induction k with
  | zero => exact ⟨(by intros; rename_i H; rw [laws_eqExprS] at H; cases H), (by intros; rename_i H; rw [laws_eqExpr] at H; cases H)⟩
  | succ k IH =>
    obtain ⟨IH_laws_eqExprS, IH_laws_eqExpr⟩ := IH
    refine ⟨?_, ?_⟩
    · intro a b r H
      rw [laws_eqExprS] at H
      refine FnG.intro (T := T) (fn := Go.Proofs.Try.f124) (c := (Go.Proofs.Try.f124).body.getD .skip) [.d (.bool r)] (by kernel_rfl) (by kernel_rfl) (by kernel_rfl) hfol hT (by kernel_rfl) rfl rfl rfl rfl rfl ?_
      intro N ok out pl0 W0
      refine PW_top ?_
      conv => whnf
      refine LenG.intro a.length (by simp only [List.length_map]) ?_
      conv => whnf
      refine LenG.intro b.length (by simp only [List.length_map]) ?_
      conv => whnf
      refine BranchG.iteN H (fun HP H => ?_) (fun HP H => ?_)
      · obtain rfl := Option.some.inj H
        conv => whnf
        exact ⟨(by first | rfl | (simp only [List.map_cons, List.map_nil, eGExpr_eq]; first | done | rfl)), (by first | rfl | (simp only [List.map_cons, List.map_nil, eGExpr_eq]; first | done | rfl))⟩
      · conv => whnf
        refine LoopG.len 0 rfl (fun HL1 => ?_)
        rw [List.length_map] at HL1
        refine LoopG.listCut (σ := Unit) (ε := Unit) a (fun i SS => ([(0, .d (.sl (a.map eGExpr))), (1, .d (.sl (b.map eGExpr))), (5, .d (.int .i64 (i : Int)))], [])) (fun i SS LL => laws_eqExprS_l1 b (laws_eqExpr k) LL i) 0 (fun EE => ([], [])) (fun e => Sum.inl e) () (Cover.list (fr' := [(0, .d (.sl (a.map eGExpr))), (1, .d (.sl (b.map eGExpr))), (5, .d (.int .i64 ((0 : Nat) : Int)))]) (ob' := []) (⟨.inr rfl, ⟨.inr rfl, ⟨.inr rfl, trivial⟩⟩⟩) (trivial)) H ?_ ?_ ?_
        · rintro RES1 HR1 i ⟨⟩ x HI1 HX1 H
          rw [laws_eqExprS_l1] at H
          conv => whnf
          refine LenG.intro a.length (by simp only [List.length_map]) ?_
          conv => whnf
          refine BranchG.t (decide_eq_true (by omega)) ?_
          conv => whnf
          refine IdxG.el eGExpr_eq rfl HX1 ?_
          conv => whnf
          refine IdxG.at eGExpr_eq H (fun e _ H => ?_)
          conv => whnf
          obtain ⟨t, HTt, H⟩ := bind_some H
          refine CallG.pure (by first | rfl | (simp only [argsG, argG, List.map_cons, List.map_nil, eGExpr_eq]; first | done | rfl)) (IH_laws_eqExpr HTt) ?_
          conv => whnf
          refine BranchG.iteBN H (fun HP H => ?_) (fun HP H => ?_)
          · obtain rfl := Option.some.inj H
            obtain rfl := Option.some.inj (HR1 : some _ = some _)
            conv => whnf
            exact ⟨(by first | rfl | (simp only [List.map_cons, List.map_nil, eGExpr_eq]; first | done | rfl)), (by first | rfl | (simp only [List.map_cons, List.map_nil, eGExpr_eq]; first | done | rfl))⟩
          · conv => whnf
            exact ⟨(), H, Cover.list (fr' := [(0, .d (.sl (a.map eGExpr))), (1, .d (.sl (b.map eGExpr))), (5, .d (.int .i64 ((i + 1 : Nat) : Int)))]) (ob' := []) (⟨.inr rfl, ⟨.inr rfl, ⟨.inr (congrArg (fun n => some (PV.d (D.int .i64 n))) (wrapUp HI1 HL1)), trivial⟩⟩⟩) (trivial)⟩
        · rintro RES1 HR1 i ⟨⟩ HI1 H
          rw [laws_eqExprS_l1] at H
          conv => whnf
          refine LenG.intro a.length (by simp only [List.length_map]) ?_
          conv => whnf
          refine BranchG.f (decide_eq_false (by omega)) ?_
          conv => whnf
          exact ⟨(), (Option.some.inj H).symm, Cover.list (fr' := []) (ob' := []) (trivial) (trivial)⟩
        · rintro ⟨⟩ H
          obtain rfl := Option.some.inj H
          conv => whnf
          exact ⟨(by first | rfl | (simp only [List.map_cons, List.map_nil, eGExpr_eq]; first | done | rfl)), (by first | rfl | (simp only [List.map_cons, List.map_nil, eGExpr_eq]; first | done | rfl))⟩
    · intro a b r H
      rw [laws_eqExpr] at H
      refine FnG.intro (T := T) (fn := Go.Proofs.Try.f148) (c := (Go.Proofs.Try.f148).body.getD .skip) [.d (.bool r)] (by kernel_rfl) (by kernel_rfl) (by kernel_rfl) hfol hT (by kernel_rfl) rfl rfl rfl rfl rfl ?_
      intro N ok out pl0 W0
      refine PW_top ?_
      conv => whnf
      refine BranchG.iteN H (fun HP H => ?_) (fun HP H => ?_)
      · obtain rfl := Option.some.inj H
        conv => whnf
        exact ⟨(by first | rfl | (simp only [List.map_cons, List.map_nil, eGExpr_eq]; first | done | rfl)), (by first | rfl | (simp only [List.map_cons, List.map_nil, eGExpr_eq]; first | done | rfl))⟩
      · conv => whnf
        refine BranchG.iteN H (fun HP H => ?_) (fun HP H => ?_)
        · obtain rfl := Option.some.inj H
          conv => whnf
          exact ⟨(by first | rfl | (simp only [List.map_cons, List.map_nil, eGExpr_eq]; first | done | rfl)), (by first | rfl | (simp only [List.map_cons, List.map_nil, eGExpr_eq]; first | done | rfl))⟩
        · conv => whnf
          refine BranchG.iteN H (fun HP H => ?_) (fun HP H => ?_)
          · obtain rfl := Option.some.inj H
            conv => whnf
            exact ⟨(by first | rfl | (simp only [List.map_cons, List.map_nil, eGExpr_eq]; first | done | rfl)), (by first | rfl | (simp only [List.map_cons, List.map_nil, eGExpr_eq]; first | done | rfl))⟩
          · conv => whnf
            obtain ⟨t, HTt, H⟩ := bind_some H
            refine CallG.pure (by first | rfl | (simp only [argsG, argG, List.map_cons, List.map_nil, eGExpr_eq]; first | done | rfl)) (IH_laws_eqExprS HTt) ?_
            conv => whnf
            refine BranchG.iteBN H (fun HP H => ?_) (fun HP H => ?_)
            · obtain rfl := Option.some.inj H
              conv => whnf
              exact ⟨(by first | rfl | (simp only [List.map_cons, List.map_nil, eGExpr_eq]; first | done | rfl)), (by first | rfl | (simp only [List.map_cons, List.map_nil, eGExpr_eq]; first | done | rfl))⟩
            · obtain rfl := Option.some.inj H
              conv => whnf
              exact ⟨(by first | rfl | (simp only [List.map_cons, List.map_nil, eGExpr_eq]; first | done | rfl)), (by first | rfl | (simp only [List.map_cons, List.map_nil, eGExpr_eq]; first | done | rfl))⟩
end Go.Pv.S
