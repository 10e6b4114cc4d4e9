import Derived.Test.YtondofmlippbcaaVX15
set_option linter.unusedSimpArgs false
set_option linter.unusedVariables false
set_option maxRecDepth 100000
open Go Go.Pv
namespace Go.Pv.S
def laws_eqValueS_l1 (b : (List GValue)) : List GValue → Nat → Option (Sum Unit Bool)
  | [], i => some (Sum.inl ())
  | x :: xs, i => (at? b (i : Int)).bind fun e => if (laws_eqValue x e) = true then (laws_eqValueS_l1 b xs (i + 1) ) else (some (Sum.inr false))

def laws_eqValueS (a : (List GValue)) (b : (List GValue)) : Option Bool :=
  if (a.length : Int) = (b.length : Int) then ((laws_eqValueS_l1 b a 0).bind fun t => match t with | Sum.inl _ => some true | Sum.inr r => some r) else (some false)

theorem laws_eqValueS_ok {a : (List GValue)} {b : (List GValue)} {r : Bool} (H : laws_eqValueS a b = some r) : FnG Go.Proofs.Try.prog 149 [.d (.sl (a.map eGValue)), .d (.sl (b.map eGValue))] [] (.d (.bool r)) [] := by
  unfold laws_eqValueS at H
  refine FnG.intro (T := T) (fn := Go.Proofs.Try.f149) (c := (Go.Proofs.Try.f149).body.getD .skip) [.d (.bool r)] (by kernel_rfl) (by kernel_rfl) (by kernel_rfl) hfol hT (by kernel_rfl) rfl rfl rfl rfl rfl ?_
  intro N ok out pl0 W0
  refine PW_top ?_
  conv => whnf
  refine LenG.intro a.length (by simp only [List.length_map]) ?_
  conv => whnf
  refine LenG.intro b.length (by simp only [List.length_map]) ?_
  conv => whnf
  refine BranchG.iteN H (fun HP H => ?_) (fun HP H => ?_)
  · obtain rfl := Option.some.inj H
    conv => whnf
    exact ⟨(by first | rfl | (simp only [List.map_cons, List.map_nil, eGExpr_eq]; first | done | rfl)), (by first | rfl | (simp only [List.map_cons, List.map_nil, eGExpr_eq]; first | done | rfl))⟩
  · conv => whnf
    refine LoopG.len 0 rfl (fun HL1 => ?_)
    rw [List.length_map] at HL1
    refine LoopG.listCut (σ := Unit) (ε := Unit) a (fun i SS => ([(0, .d (.sl (a.map eGValue))), (1, .d (.sl (b.map eGValue))), (5, .d (.int .i64 (i : Int)))], [])) (fun i SS LL => laws_eqValueS_l1 b LL i) 0 (fun EE => ([], [])) (fun e => Sum.inl e) () (Cover.list (fr' := [(0, .d (.sl (a.map eGValue))), (1, .d (.sl (b.map eGValue))), (5, .d (.int .i64 ((0 : Nat) : Int)))]) (ob' := []) (⟨.inr rfl, ⟨.inr rfl, ⟨.inr rfl, trivial⟩⟩⟩) (trivial)) H ?_ ?_ ?_
    · rintro RES1 HR1 i ⟨⟩ x HI1 HX1 H
      rw [laws_eqValueS_l1] at H
      conv => whnf
      refine LenG.intro a.length (by simp only [List.length_map]) ?_
      conv => whnf
      refine BranchG.t (decide_eq_true (by omega)) ?_
      conv => whnf
      refine IdxG.el (fun _ => rfl) rfl HX1 ?_
      conv => whnf
      refine IdxG.at (fun _ => rfl) H (fun e _ H => ?_)
      conv => whnf
      refine CallG.pure (by first | rfl | (simp only [argsG, argG, List.map_cons, List.map_nil, eGExpr_eq]; first | done | rfl)) (laws_eqValue_ok x e) ?_
      conv => whnf
      refine BranchG.iteBN H (fun HP H => ?_) (fun HP H => ?_)
      · obtain rfl := Option.some.inj H
        obtain rfl := Option.some.inj (HR1 : some _ = some _)
        conv => whnf
        exact ⟨(by first | rfl | (simp only [List.map_cons, List.map_nil, eGExpr_eq]; first | done | rfl)), (by first | rfl | (simp only [List.map_cons, List.map_nil, eGExpr_eq]; first | done | rfl))⟩
      · conv => whnf
        exact ⟨(), H, Cover.list (fr' := [(0, .d (.sl (a.map eGValue))), (1, .d (.sl (b.map eGValue))), (5, .d (.int .i64 ((i + 1 : Nat) : Int)))]) (ob' := []) (⟨.inr rfl, ⟨.inr rfl, ⟨.inr (congrArg (fun n => some (PV.d (D.int .i64 n))) (wrapUp HI1 HL1)), trivial⟩⟩⟩) (trivial)⟩
    · rintro RES1 HR1 i ⟨⟩ HI1 H
      rw [laws_eqValueS_l1] at H
      conv => whnf
      refine LenG.intro a.length (by simp only [List.length_map]) ?_
      conv => whnf
      refine BranchG.f (decide_eq_false (by omega)) ?_
      conv => whnf
      exact ⟨(), (Option.some.inj H).symm, Cover.list (fr' := []) (ob' := []) (trivial) (trivial)⟩
    · rintro ⟨⟩ H
      obtain rfl := Option.some.inj H
      conv => whnf
      exact ⟨(by first | rfl | (simp only [List.map_cons, List.map_nil, eGExpr_eq]; first | done | rfl)), (by first | rfl | (simp only [List.map_cons, List.map_nil, eGExpr_eq]; first | done | rfl))⟩

def laws_eqRow (a : GRow) (b : GRow) : Option Bool :=
  (laws_eqValueS a.Vals b.Vals).bind fun t => if t = true then (some true) else (some false)

theorem laws_eqRow_ok {a : GRow} {b : GRow} {r : Bool} (H : laws_eqRow a b = some r) : FnG Go.Proofs.Try.prog 125 [.agg (eGRow a), .agg (eGRow b)] [] (.d (.bool r)) [] := by
  unfold laws_eqRow at H
  refine FnG.intro (T := T) (fn := Go.Proofs.Try.f125) (c := (Go.Proofs.Try.f125).body.getD .skip) [.d (.bool r)] (by kernel_rfl) (by kernel_rfl) (by kernel_rfl) hfol hT (by kernel_rfl) rfl rfl rfl rfl rfl ?_
  intro N ok out pl0 W0
  refine PW_top ?_
  conv => whnf
  obtain ⟨t, HTt, H⟩ := bind_some H
  refine CallG.pure (by first | rfl | (simp only [argsG, argG, List.map_cons, List.map_nil, eGExpr_eq]; first | done | rfl)) (laws_eqValueS_ok HTt) ?_
  conv => whnf
  refine BranchG.iteBN H (fun HP H => ?_) (fun HP H => ?_)
  · obtain rfl := Option.some.inj H
    conv => whnf
    exact ⟨(by first | rfl | (simp only [List.map_cons, List.map_nil, eGExpr_eq]; first | done | rfl)), (by first | rfl | (simp only [List.map_cons, List.map_nil, eGExpr_eq]; first | done | rfl))⟩
  · obtain rfl := Option.some.inj H
    conv => whnf
    exact ⟨(by first | rfl | (simp only [List.map_cons, List.map_nil, eGExpr_eq]; first | done | rfl)), (by first | rfl | (simp only [List.map_cons, List.map_nil, eGExpr_eq]; first | done | rfl))⟩

def laws_eqRowS_l1 (b : (List GRow)) : List GRow → Nat → Option (Sum Unit Bool)
  | [], i => some (Sum.inl ())
  | x :: xs, i => (at? b (i : Int)).bind fun e => (laws_eqRow x e).bind fun t => if t = true then (laws_eqRowS_l1 b xs (i + 1) ) else (some (Sum.inr false))

def laws_eqRowS (a : (List GRow)) (b : (List GRow)) : Option Bool :=
  if (a.length : Int) = (b.length : Int) then ((laws_eqRowS_l1 b a 0).bind fun t => match t with | Sum.inl _ => some true | Sum.inr r => some r) else (some false)

theorem laws_eqRowS_ok {a : (List GRow)} {b : (List GRow)} {r : Bool} (H : laws_eqRowS a b = some r) : FnG Go.Proofs.Try.prog 109 [.d (.sl (a.map eGRow)), .d (.sl (b.map eGRow))] [] (.d (.bool r)) [] := by
  unfold laws_eqRowS at H
  refine FnG.intro (T := T) (fn := Go.Proofs.Try.f109) (c := (Go.Proofs.Try.f109).body.getD .skip) [.d (.bool r)] (by kernel_rfl) (by kernel_rfl) (by kernel_rfl) hfol hT (by kernel_rfl) rfl rfl rfl rfl rfl ?_
  intro N ok out pl0 W0
  refine PW_top ?_
  conv => whnf
  refine LenG.intro a.length (by simp only [List.length_map]) ?_
  conv => whnf
  refine LenG.intro b.length (by simp only [List.length_map]) ?_
  conv => whnf
  refine BranchG.iteN H (fun HP H => ?_) (fun HP H => ?_)
  · obtain rfl := Option.some.inj H
    conv => whnf
    exact ⟨(by first | rfl | (simp only [List.map_cons, List.map_nil, eGExpr_eq]; first | done | rfl)), (by first | rfl | (simp only [List.map_cons, List.map_nil, eGExpr_eq]; first | done | rfl))⟩
  · conv => whnf
    refine LoopG.len 0 rfl (fun HL1 => ?_)
    rw [List.length_map] at HL1
    refine LoopG.listCut (σ := Unit) (ε := Unit) a (fun i SS => ([(0, .d (.sl (a.map eGRow))), (1, .d (.sl (b.map eGRow))), (5, .d (.int .i64 (i : Int)))], [])) (fun i SS LL => laws_eqRowS_l1 b LL i) 0 (fun EE => ([], [])) (fun e => Sum.inl e) () (Cover.list (fr' := [(0, .d (.sl (a.map eGRow))), (1, .d (.sl (b.map eGRow))), (5, .d (.int .i64 ((0 : Nat) : Int)))]) (ob' := []) (⟨.inr rfl, ⟨.inr rfl, ⟨.inr rfl, trivial⟩⟩⟩) (trivial)) H ?_ ?_ ?_
    · rintro RES1 HR1 i ⟨⟩ x HI1 HX1 H
      rw [laws_eqRowS_l1] at H
      conv => whnf
      refine LenG.intro a.length (by simp only [List.length_map]) ?_
      conv => whnf
      refine BranchG.t (decide_eq_true (by omega)) ?_
      conv => whnf
      refine IdxG.el (fun _ => rfl) rfl HX1 ?_
      conv => whnf
      refine IdxG.at (fun _ => rfl) H (fun e _ H => ?_)
      conv => whnf
      obtain ⟨t, HTt, H⟩ := bind_some H
      refine CallG.pure (by first | rfl | (simp only [argsG, argG, List.map_cons, List.map_nil, eGExpr_eq]; first | done | rfl)) (laws_eqRow_ok HTt) ?_
      conv => whnf
      refine BranchG.iteBN H (fun HP H => ?_) (fun HP H => ?_)
      · obtain rfl := Option.some.inj H
        obtain rfl := Option.some.inj (HR1 : some _ = some _)
        conv => whnf
        exact ⟨(by first | rfl | (simp only [List.map_cons, List.map_nil, eGExpr_eq]; first | done | rfl)), (by first | rfl | (simp only [List.map_cons, List.map_nil, eGExpr_eq]; first | done | rfl))⟩
      · conv => whnf
        exact ⟨(), H, Cover.list (fr' := [(0, .d (.sl (a.map eGRow))), (1, .d (.sl (b.map eGRow))), (5, .d (.int .i64 ((i + 1 : Nat) : Int)))]) (ob' := []) (⟨.inr rfl, ⟨.inr rfl, ⟨.inr (congrArg (fun n => some (PV.d (D.int .i64 n))) (wrapUp HI1 HL1)), trivial⟩⟩⟩) (trivial)⟩
    · rintro RES1 HR1 i ⟨⟩ HI1 H
      rw [laws_eqRowS_l1] at H
      conv => whnf
      refine LenG.intro a.length (by simp only [List.length_map]) ?_
      conv => whnf
      refine BranchG.f (decide_eq_false (by omega)) ?_
      conv => whnf
      exact ⟨(), (Option.some.inj H).symm, Cover.list (fr' := []) (ob' := []) (trivial) (trivial)⟩
    · rintro ⟨⟩ H
      obtain rfl := Option.some.inj H
      conv => whnf
      exact ⟨(by first | rfl | (simp only [List.map_cons, List.map_nil, eGExpr_eq]; first | done | rfl)), (by first | rfl | (simp only [List.map_cons, List.map_nil, eGExpr_eq]; first | done | rfl))⟩

def laws_eqRows (a : GRows) (b : GRows) : Option Bool :=
  if a.Table = b.Table then ((laws_eqRowS a.List b.List).bind fun t => if t = true then (some true) else (some false)) else (some false)

theorem laws_eqRows_ok {a : GRows} {b : GRows} {r : Bool} (H : laws_eqRows a b = some r) : FnG Go.Proofs.Try.prog 82 [.agg (eGRows a), .agg (eGRows b)] [] (.d (.bool r)) [] := by
  unfold laws_eqRows at H
  refine FnG.intro (T := T) (fn := Go.Proofs.Try.f82) (c := (Go.Proofs.Try.f82).body.getD .skip) [.d (.bool r)] (by kernel_rfl) (by kernel_rfl) (by kernel_rfl) hfol hT (by kernel_rfl) rfl rfl rfl rfl rfl ?_
  intro N ok out pl0 W0
  refine PW_top ?_
  conv => whnf
  refine BranchG.iteN H (fun HP H => ?_) (fun HP H => ?_)
  · obtain rfl := Option.some.inj H
    conv => whnf
    exact ⟨(by first | rfl | (simp only [List.map_cons, List.map_nil, eGExpr_eq]; first | done | rfl)), (by first | rfl | (simp only [List.map_cons, List.map_nil, eGExpr_eq]; first | done | rfl))⟩
  · conv => whnf
    obtain ⟨t, HTt, H⟩ := bind_some H
    refine CallG.pure (by first | rfl | (simp only [argsG, argG, List.map_cons, List.map_nil, eGExpr_eq]; first | done | rfl)) (laws_eqRowS_ok HTt) ?_
    conv => whnf
    refine BranchG.iteBN H (fun HP H => ?_) (fun HP H => ?_)
    · obtain rfl := Option.some.inj H
      conv => whnf
      exact ⟨(by first | rfl | (simp only [List.map_cons, List.map_nil, eGExpr_eq]; first | done | rfl)), (by first | rfl | (simp only [List.map_cons, List.map_nil, eGExpr_eq]; first | done | rfl))⟩
    · obtain rfl := Option.some.inj H
      conv => whnf
      exact ⟨(by first | rfl | (simp only [List.map_cons, List.map_nil, eGExpr_eq]; first | done | rfl)), (by first | rfl | (simp only [List.map_cons, List.map_nil, eGExpr_eq]; first | done | rfl))⟩

def laws_eqRowsS_l1 (b : (List GRows)) : List GRows → Nat → Option (Sum Unit Bool)
  | [], i => some (Sum.inl ())
  | x :: xs, i => (at? b (i : Int)).bind fun e => (laws_eqRows x e).bind fun t => if t = true then (laws_eqRowsS_l1 b xs (i + 1) ) else (some (Sum.inr false))

def laws_eqRowsS (a : (List GRows)) (b : (List GRows)) : Option Bool :=
  if (a.length : Int) = (b.length : Int) then ((laws_eqRowsS_l1 b a 0).bind fun t => match t with | Sum.inl _ => some true | Sum.inr r => some r) else (some false)

theorem laws_eqRowsS_ok {a : (List GRows)} {b : (List GRows)} {r : Bool} (H : laws_eqRowsS a b = some r) : FnG Go.Proofs.Try.prog 45 [.d (.sl (a.map eGRows)), .d (.sl (b.map eGRows))] [] (.d (.bool r)) [] := by
  unfold laws_eqRowsS at H
  refine FnG.intro (T := T) (fn := Go.Proofs.Try.f45) (c := (Go.Proofs.Try.f45).body.getD .skip) [.d (.bool r)] (by kernel_rfl) (by kernel_rfl) (by kernel_rfl) hfol hT (by kernel_rfl) rfl rfl rfl rfl rfl ?_
  intro N ok out pl0 W0
  refine PW_top ?_
  conv => whnf
  refine LenG.intro a.length (by simp only [List.length_map]) ?_
  conv => whnf
  refine LenG.intro b.length (by simp only [List.length_map]) ?_
  conv => whnf
  refine BranchG.iteN H (fun HP H => ?_) (fun HP H => ?_)
  · obtain rfl := Option.some.inj H
    conv => whnf
    exact ⟨(by first | rfl | (simp only [List.map_cons, List.map_nil, eGExpr_eq]; first | done | rfl)), (by first | rfl | (simp only [List.map_cons, List.map_nil, eGExpr_eq]; first | done | rfl))⟩
  · conv => whnf
    refine LoopG.len 0 rfl (fun HL1 => ?_)
    rw [List.length_map] at HL1
    refine LoopG.listCut (σ := Unit) (ε := Unit) a (fun i SS => ([(0, .d (.sl (a.map eGRows))), (1, .d (.sl (b.map eGRows))), (5, .d (.int .i64 (i : Int)))], [])) (fun i SS LL => laws_eqRowsS_l1 b LL i) 0 (fun EE => ([], [])) (fun e => Sum.inl e) () (Cover.list (fr' := [(0, .d (.sl (a.map eGRows))), (1, .d (.sl (b.map eGRows))), (5, .d (.int .i64 ((0 : Nat) : Int)))]) (ob' := []) (⟨.inr rfl, ⟨.inr rfl, ⟨.inr rfl, trivial⟩⟩⟩) (trivial)) H ?_ ?_ ?_
    · rintro RES1 HR1 i ⟨⟩ x HI1 HX1 H
      rw [laws_eqRowsS_l1] at H
      conv => whnf
      refine LenG.intro a.length (by simp only [List.length_map]) ?_
      conv => whnf
      refine BranchG.t (decide_eq_true (by omega)) ?_
      conv => whnf
      refine IdxG.el (fun _ => rfl) rfl HX1 ?_
      conv => whnf
      refine IdxG.at (fun _ => rfl) H (fun e _ H => ?_)
      conv => whnf
      obtain ⟨t, HTt, H⟩ := bind_some H
      refine CallG.pure (by first | rfl | (simp only [argsG, argG, List.map_cons, List.map_nil, eGExpr_eq]; first | done | rfl)) (laws_eqRows_ok HTt) ?_
      conv => whnf
      refine BranchG.iteBN H (fun HP H => ?_) (fun HP H => ?_)
      · obtain rfl := Option.some.inj H
        obtain rfl := Option.some.inj (HR1 : some _ = some _)
        conv => whnf
        exact ⟨(by first | rfl | (simp only [List.map_cons, List.map_nil, eGExpr_eq]; first | done | rfl)), (by first | rfl | (simp only [List.map_cons, List.map_nil, eGExpr_eq]; first | done | rfl))⟩
      · conv => whnf
        exact ⟨(), H, Cover.list (fr' := [(0, .d (.sl (a.map eGRows))), (1, .d (.sl (b.map eGRows))), (5, .d (.int .i64 ((i + 1 : Nat) : Int)))]) (ob' := []) (⟨.inr rfl, ⟨.inr rfl, ⟨.inr (congrArg (fun n => some (PV.d (D.int .i64 n))) (wrapUp HI1 HL1)), trivial⟩⟩⟩) (trivial)⟩
    · rintro RES1 HR1 i ⟨⟩ HI1 H
      rw [laws_eqRowsS_l1] at H
      conv => whnf
      refine LenG.intro a.length (by simp only [List.length_map]) ?_
      conv => whnf
      refine BranchG.f (decide_eq_false (by omega)) ?_
      conv => whnf
      exact ⟨(), (Option.some.inj H).symm, Cover.list (fr' := []) (ob' := []) (trivial) (trivial)⟩
    · rintro ⟨⟩ H
      obtain rfl := Option.some.inj H
      conv => whnf
      exact ⟨(by first | rfl | (simp only [List.map_cons, List.map_nil, eGExpr_eq]; first | done | rfl)), (by first | rfl | (simp only [List.map_cons, List.map_nil, eGExpr_eq]; first | done | rfl))⟩
end Go.Pv.S
