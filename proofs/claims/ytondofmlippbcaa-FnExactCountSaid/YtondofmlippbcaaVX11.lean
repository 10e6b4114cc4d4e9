import Derived.Test.YtondofmlippbcaaVX10
set_option linter.unusedSimpArgs false
set_option linter.unusedVariables false
set_option maxRecDepth 100000
open Go Go.Pv
namespace Go.Pv.S
def impl_Count_l1  : List GRows → Int → Option Int
  | [], count => some count
  | x :: xs, count => impl_Count_l1 xs (w64 (count + (x.List.length : Int)))

def impl_Count (s : GStore) : Option Int :=
  (impl_Count_l1 s.Data 0).bind fun count1 => some count1

theorem impl_Count_ok {s : GStore} {r : Int} (H : impl_Count s = some r) : FnG Go.Proofs.Try.prog 21 [.agg (eGStore s)] [] (.d (.int .i64 r)) [] := by
  unfold impl_Count at H
  refine FnG.intro (T := T) (fn := Go.Proofs.Try.f21) (c := (Go.Proofs.Try.f21).body.getD .skip) [.d (.int .i64 r)] (by kernel_rfl) (by kernel_rfl) (by kernel_rfl) hfol hT (by kernel_rfl) rfl rfl rfl rfl rfl ?_
  intro N ok out pl0 W0
  refine PW_top ?_
  conv => whnf
  refine LenG.intro s.Data.length (by simp only [List.length_map]) ?_
  conv => whnf
  refine LoopG.len 7 rfl (fun HL1 => ?_)
  rw [List.length_map] at HL1
  refine LoopG.listCut (σ := Int) (ε := Int) s.Data (fun i SS => ([(3, .d (.int .i64 SS)), (7, .d (.sl (s.Data.map eGRows))), (8, .d (.int .i64 (s.Data.length : Int))), (9, .d (.int .i64 (i : Int)))], [])) (fun i SS LL => impl_Count_l1 LL SS) 0 (fun EE => ([(3, .d (.int .i64 EE))], [])) (fun e => e) 0 (Cover.list (fr' := [(3, .d (.int .i64 0)), (7, .d (.sl (s.Data.map eGRows))), (8, .d (.int .i64 (s.Data.length : Int))), (9, .d (.int .i64 ((0 : Nat) : Int)))]) (ob' := []) (⟨.inr rfl, ⟨.inr rfl, ⟨.inr rfl, ⟨.inr rfl, trivial⟩⟩⟩⟩) (trivial)) H ?_ ?_ ?_
  · rintro RES1 HR1 i count x HI1 HX1 H
    rw [impl_Count_l1] at H
    conv => whnf
    refine BranchG.t (decide_eq_true (by omega)) ?_
    conv => whnf
    refine IdxG.el (fun _ => rfl) rfl HX1 ?_
    conv => whnf
    refine LenG.intro x.List.length (by simp only [List.length_map]) ?_
    conv => whnf
    exact ⟨(w64 (count + (x.List.length : Int))), H, Cover.list (fr' := [(3, .d (.int .i64 (w64 (count + (x.List.length : Int))))), (7, .d (.sl (s.Data.map eGRows))), (8, .d (.int .i64 (s.Data.length : Int))), (9, .d (.int .i64 ((i + 1 : Nat) : Int)))]) (ob' := []) (⟨.inr rfl, ⟨.inr rfl, ⟨.inr rfl, ⟨.inr (congrArg (fun n => some (PV.d (D.int .i64 n))) (wrapUp HI1 HL1)), trivial⟩⟩⟩⟩) (trivial)⟩
  · rintro RES1 HR1 i count HI1 H
    rw [impl_Count_l1] at H
    conv => whnf
    refine BranchG.f (decide_eq_false (by omega)) ?_
    conv => whnf
    exact ⟨count, (Option.some.inj H).symm, Cover.list (fr' := [(3, .d (.int .i64 count))]) (ob' := []) (⟨.inr rfl, trivial⟩) (trivial)⟩
  · rintro count1 H
    obtain rfl := Option.some.inj H
    conv => whnf
    exact ⟨(by first | rfl | (simp only [List.map_cons, List.map_nil, eGExpr_eq]; first | done | rfl)), (by first | rfl | (simp only [List.map_cons, List.map_nil, eGExpr_eq]; first | done | rfl))⟩

def laws_eqStringS_l1 (b : (List Str)) : List Str → Nat → Option (Sum Unit Bool)
  | [], i => some (Sum.inl ())
  | x :: xs, i => (at? b (i : Int)).bind fun e => if x = e then (laws_eqStringS_l1 b xs (i + 1) ) else (some (Sum.inr false))

def laws_eqStringS (a : (List Str)) (b : (List Str)) : Option Bool :=
  if (a.length : Int) = (b.length : Int) then ((laws_eqStringS_l1 b a 0).bind fun t => match t with | Sum.inl _ => some true | Sum.inr r => some r) else (some false)

theorem laws_eqStringS_ok {a : (List Str)} {b : (List Str)} {r : Bool} (H : laws_eqStringS a b = some r) : FnG Go.Proofs.Try.prog 56 [.d (.sl (a.map eStr)), .d (.sl (b.map eStr))] [] (.d (.bool r)) [] := by
  unfold laws_eqStringS at H
  refine FnG.intro (T := T) (fn := Go.Proofs.Try.f56) (c := (Go.Proofs.Try.f56).body.getD .skip) [.d (.bool r)] (by kernel_rfl) (by kernel_rfl) (by kernel_rfl) hfol hT (by kernel_rfl) rfl rfl rfl rfl rfl ?_
  intro N ok out pl0 W0
  refine PW_top ?_
  conv => whnf
  refine LenG.intro a.length (by simp only [List.length_map]) ?_
  conv => whnf
  refine LenG.intro b.length (by simp only [List.length_map]) ?_
  conv => whnf
  refine BranchG.iteN H (fun HP H => ?_) (fun HP H => ?_)
  · obtain rfl := Option.some.inj H
    conv => whnf
    exact ⟨(by first | rfl | (simp only [List.map_cons, List.map_nil, eGExpr_eq]; first | done | rfl)), (by first | rfl | (simp only [List.map_cons, List.map_nil, eGExpr_eq]; first | done | rfl))⟩
  · conv => whnf
    refine LoopG.len 0 rfl (fun HL1 => ?_)
    rw [List.length_map] at HL1
    refine LoopG.listCut (σ := Unit) (ε := Unit) a (fun i SS => ([(0, .d (.sl (a.map eStr))), (1, .d (.sl (b.map eStr))), (5, .d (.int .i64 (i : Int)))], [])) (fun i SS LL => laws_eqStringS_l1 b LL i) 0 (fun EE => ([], [])) (fun e => Sum.inl e) () (Cover.list (fr' := [(0, .d (.sl (a.map eStr))), (1, .d (.sl (b.map eStr))), (5, .d (.int .i64 ((0 : Nat) : Int)))]) (ob' := []) (⟨.inr rfl, ⟨.inr rfl, ⟨.inr rfl, trivial⟩⟩⟩) (trivial)) H ?_ ?_ ?_
    · rintro RES1 HR1 i ⟨⟩ x HI1 HX1 H
      rw [laws_eqStringS_l1] at H
      conv => whnf
      refine LenG.intro a.length (by simp only [List.length_map]) ?_
      conv => whnf
      refine BranchG.t (decide_eq_true (by omega)) ?_
      conv => whnf
      refine IdxG.el (fun _ => rfl) rfl HX1 ?_
      conv => whnf
      refine IdxG.at (fun _ => rfl) H (fun e _ H => ?_)
      conv => whnf
      refine BranchG.iteN H (fun HP H => ?_) (fun HP H => ?_)
      · obtain rfl := Option.some.inj H
        obtain rfl := Option.some.inj (HR1 : some _ = some _)
        conv => whnf
        exact ⟨(by first | rfl | (simp only [List.map_cons, List.map_nil, eGExpr_eq]; first | done | rfl)), (by first | rfl | (simp only [List.map_cons, List.map_nil, eGExpr_eq]; first | done | rfl))⟩
      · conv => whnf
        exact ⟨(), H, Cover.list (fr' := [(0, .d (.sl (a.map eStr))), (1, .d (.sl (b.map eStr))), (5, .d (.int .i64 ((i + 1 : Nat) : Int)))]) (ob' := []) (⟨.inr rfl, ⟨.inr rfl, ⟨.inr (congrArg (fun n => some (PV.d (D.int .i64 n))) (wrapUp HI1 HL1)), trivial⟩⟩⟩) (trivial)⟩
    · rintro RES1 HR1 i ⟨⟩ HI1 H
      rw [laws_eqStringS_l1] at H
      conv => whnf
      refine LenG.intro a.length (by simp only [List.length_map]) ?_
      conv => whnf
      refine BranchG.f (decide_eq_false (by omega)) ?_
      conv => whnf
      exact ⟨(), (Option.some.inj H).symm, Cover.list (fr' := []) (ob' := []) (trivial) (trivial)⟩
    · rintro ⟨⟩ H
      obtain rfl := Option.some.inj H
      conv => whnf
      exact ⟨(by first | rfl | (simp only [List.map_cons, List.map_nil, eGExpr_eq]; first | done | rfl)), (by first | rfl | (simp only [List.map_cons, List.map_nil, eGExpr_eq]; first | done | rfl))⟩

def laws_eqLabels (a : GLabels) (b : GLabels) : Option Bool :=
  if a.Name = b.Name then ((laws_eqStringS a.List b.List).bind fun t => if t = true then (some true) else (some false)) else (some false)

theorem laws_eqLabels_ok {a : GLabels} {b : GLabels} {r : Bool} (H : laws_eqLabels a b = some r) : FnG Go.Proofs.Try.prog 31 [.agg (eGLabels a), .agg (eGLabels b)] [] (.d (.bool r)) [] := by
  unfold laws_eqLabels at H
  refine FnG.intro (T := T) (fn := Go.Proofs.Try.f31) (c := (Go.Proofs.Try.f31).body.getD .skip) [.d (.bool r)] (by kernel_rfl) (by kernel_rfl) (by kernel_rfl) hfol hT (by kernel_rfl) rfl rfl rfl rfl rfl ?_
  intro N ok out pl0 W0
  refine PW_top ?_
  conv => whnf
  refine BranchG.iteN H (fun HP H => ?_) (fun HP H => ?_)
  · obtain rfl := Option.some.inj H
    conv => whnf
    exact ⟨(by first | rfl | (simp only [List.map_cons, List.map_nil, eGExpr_eq]; first | done | rfl)), (by first | rfl | (simp only [List.map_cons, List.map_nil, eGExpr_eq]; first | done | rfl))⟩
  · conv => whnf
    obtain ⟨t, HTt, H⟩ := bind_some H
    refine CallG.pure (by first | rfl | (simp only [argsG, argG, List.map_cons, List.map_nil, eGExpr_eq]; first | done | rfl)) (laws_eqStringS_ok HTt) ?_
    conv => whnf
    refine BranchG.iteBN H (fun HP H => ?_) (fun HP H => ?_)
    · obtain rfl := Option.some.inj H
      conv => whnf
      exact ⟨(by first | rfl | (simp only [List.map_cons, List.map_nil, eGExpr_eq]; first | done | rfl)), (by first | rfl | (simp only [List.map_cons, List.map_nil, eGExpr_eq]; first | done | rfl))⟩
    · obtain rfl := Option.some.inj H
      conv => whnf
      exact ⟨(by first | rfl | (simp only [List.map_cons, List.map_nil, eGExpr_eq]; first | done | rfl)), (by first | rfl | (simp only [List.map_cons, List.map_nil, eGExpr_eq]; first | done | rfl))⟩

def laws_eqLabelsS_l1 (b : (List GLabels)) : List GLabels → Nat → Option (Sum Unit Bool)
  | [], i => some (Sum.inl ())
  | x :: xs, i => (at? b (i : Int)).bind fun e => (laws_eqLabels x e).bind fun t => if t = true then (laws_eqLabelsS_l1 b xs (i + 1) ) else (some (Sum.inr false))

def laws_eqLabelsS (a : (List GLabels)) (b : (List GLabels)) : Option Bool :=
  if (a.length : Int) = (b.length : Int) then ((laws_eqLabelsS_l1 b a 0).bind fun t => match t with | Sum.inl _ => some true | Sum.inr r => some r) else (some false)

theorem laws_eqLabelsS_ok {a : (List GLabels)} {b : (List GLabels)} {r : Bool} (H : laws_eqLabelsS a b = some r) : FnG Go.Proofs.Try.prog 14 [.d (.sl (a.map eGLabels)), .d (.sl (b.map eGLabels))] [] (.d (.bool r)) [] := by
  unfold laws_eqLabelsS at H
  refine FnG.intro (T := T) (fn := Go.Proofs.Try.f14) (c := (Go.Proofs.Try.f14).body.getD .skip) [.d (.bool r)] (by kernel_rfl) (by kernel_rfl) (by kernel_rfl) hfol hT (by kernel_rfl) rfl rfl rfl rfl rfl ?_
  intro N ok out pl0 W0
  refine PW_top ?_
  conv => whnf
  refine LenG.intro a.length (by simp only [List.length_map]) ?_
  conv => whnf
  refine LenG.intro b.length (by simp only [List.length_map]) ?_
  conv => whnf
  refine BranchG.iteN H (fun HP H => ?_) (fun HP H => ?_)
  · obtain rfl := Option.some.inj H
    conv => whnf
    exact ⟨(by first | rfl | (simp only [List.map_cons, List.map_nil, eGExpr_eq]; first | done | rfl)), (by first | rfl | (simp only [List.map_cons, List.map_nil, eGExpr_eq]; first | done | rfl))⟩
  · conv => whnf
    refine LoopG.len 0 rfl (fun HL1 => ?_)
    rw [List.length_map] at HL1
    refine LoopG.listCut (σ := Unit) (ε := Unit) a (fun i SS => ([(0, .d (.sl (a.map eGLabels))), (1, .d (.sl (b.map eGLabels))), (5, .d (.int .i64 (i : Int)))], [])) (fun i SS LL => laws_eqLabelsS_l1 b LL i) 0 (fun EE => ([], [])) (fun e => Sum.inl e) () (Cover.list (fr' := [(0, .d (.sl (a.map eGLabels))), (1, .d (.sl (b.map eGLabels))), (5, .d (.int .i64 ((0 : Nat) : Int)))]) (ob' := []) (⟨.inr rfl, ⟨.inr rfl, ⟨.inr rfl, trivial⟩⟩⟩) (trivial)) H ?_ ?_ ?_
    · rintro RES1 HR1 i ⟨⟩ x HI1 HX1 H
      rw [laws_eqLabelsS_l1] at H
      conv => whnf
      refine LenG.intro a.length (by simp only [List.length_map]) ?_
      conv => whnf
      refine BranchG.t (decide_eq_true (by omega)) ?_
      conv => whnf
      refine IdxG.el (fun _ => rfl) rfl HX1 ?_
      conv => whnf
      refine IdxG.at (fun _ => rfl) H (fun e _ H => ?_)
      conv => whnf
      obtain ⟨t, HTt, H⟩ := bind_some H
      refine CallG.pure (by first | rfl | (simp only [argsG, argG, List.map_cons, List.map_nil, eGExpr_eq]; first | done | rfl)) (laws_eqLabels_ok HTt) ?_
      conv => whnf
      refine BranchG.iteBN H (fun HP H => ?_) (fun HP H => ?_)
      · obtain rfl := Option.some.inj H
        obtain rfl := Option.some.inj (HR1 : some _ = some _)
        conv => whnf
        exact ⟨(by first | rfl | (simp only [List.map_cons, List.map_nil, eGExpr_eq]; first | done | rfl)), (by first | rfl | (simp only [List.map_cons, List.map_nil, eGExpr_eq]; first | done | rfl))⟩
      · conv => whnf
        exact ⟨(), H, Cover.list (fr' := [(0, .d (.sl (a.map eGLabels))), (1, .d (.sl (b.map eGLabels))), (5, .d (.int .i64 ((i + 1 : Nat) : Int)))]) (ob' := []) (⟨.inr rfl, ⟨.inr rfl, ⟨.inr (congrArg (fun n => some (PV.d (D.int .i64 n))) (wrapUp HI1 HL1)), trivial⟩⟩⟩) (trivial)⟩
    · rintro RES1 HR1 i ⟨⟩ HI1 H
      rw [laws_eqLabelsS_l1] at H
      conv => whnf
      refine LenG.intro a.length (by simp only [List.length_map]) ?_
      conv => whnf
      refine BranchG.f (decide_eq_false (by omega)) ?_
      conv => whnf
      exact ⟨(), (Option.some.inj H).symm, Cover.list (fr' := []) (ob' := []) (trivial) (trivial)⟩
    · rintro ⟨⟩ H
      obtain rfl := Option.some.inj H
      conv => whnf
      exact ⟨(by first | rfl | (simp only [List.map_cons, List.map_nil, eGExpr_eq]; first | done | rfl)), (by first | rfl | (simp only [List.map_cons, List.map_nil, eGExpr_eq]; first | done | rfl))⟩
end Go.Pv.S
