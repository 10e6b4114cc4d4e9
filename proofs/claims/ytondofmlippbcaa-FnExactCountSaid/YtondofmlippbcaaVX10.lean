import Derived.Test.YtondofmlippbcaaVX9
set_option linter.unusedSimpArgs false
set_option linter.unusedVariables false
set_option maxRecDepth 100000
open Go Go.Pv
namespace Go.Pv.S
def laws_toRowS_l1  : List GRow → Nat → (List GRow) → Option (List GRow)
  | [], i, l => some l
  | x :: xs, i, l => (laws_toRow x).bind fun t => (at? l (i : Int)).bind fun e => laws_toRowS_l1 xs (i + 1) (l.set (i : Int).toNat t)

def laws_toRowS (a : (List GRow)) : Option (List GRow) :=
  if 0 ≤ (a.length : Int) ∧ (a.length : Int) ≤ (a.length : Int) ∧ (a.length : Int) * 24 ≤ 140737488355328 ∧ (a.length : Int) ≤ 140737488355328 then ((laws_toRowS_l1 a 0 (List.replicate (a.length : Int).toNat (⟨[]⟩ : GRow))).bind fun l1 => some l1) else none

theorem laws_toRowS_ok {a : (List GRow)} {r : (List GRow)} (H : laws_toRowS a = some r) : FnG Go.Proofs.Try.prog 104 [.d (.sl (a.map eGRow))] [] (.d (.sl (r.map eGRow))) [] := by
  unfold laws_toRowS at H
  refine FnG.intro (T := T) (fn := Go.Proofs.Try.f104) (c := (Go.Proofs.Try.f104).body.getD .skip) [.d (.sl (r.map eGRow))] (by kernel_rfl) (by kernel_rfl) (by kernel_rfl) hfol hT (by kernel_rfl) rfl rfl rfl rfl rfl ?_
  intro N ok out pl0 W0
  refine PW_top ?_
  conv => whnf
  refine LenG.intro a.length (by simp only [List.length_map]) ?_
  conv => whnf
  refine NeedG.sync H (fun HP => HP) (fun HP H => ?_)
  conv => whnf
  refine RowsG.intro (List.map eGRow (List.replicate (a.length : Int).toNat (⟨[]⟩ : GRow))) (by rw [List.map_replicate]; exact (by first | rfl | (simp only [List.map_cons, List.map_nil, eGExpr_eq]; first | done | rfl))) ?_
  conv => whnf
  refine LoopG.len 0 rfl (fun HL1 => ?_)
  rw [List.length_map] at HL1
  refine LoopG.listCut (σ := (List GRow)) (ε := (List GRow)) a (fun i SS => ([(0, .d (.sl (a.map eGRow))), (3, .own 7), (4, .d (.int .i64 (i : Int)))], [(7, .row 48 1 (SS.map eGRow))])) (fun i SS LL => laws_toRowS_l1 LL i SS) 0 (fun EE => ([(3, .own 7)], [(7, .row 48 1 (EE.map eGRow))])) (fun e => e) (List.replicate (a.length : Int).toNat (⟨[]⟩ : GRow)) (Cover.list (fr' := [(0, .d (.sl (a.map eGRow))), (3, .own 7), (4, .d (.int .i64 ((0 : Nat) : Int)))]) (ob' := [(7, .row 48 1 ((List.replicate (a.length : Int).toNat (⟨[]⟩ : GRow)).map eGRow))]) (⟨.inr rfl, ⟨.inl ⟨rfl, rfl⟩, ⟨.inr rfl, trivial⟩⟩⟩) (⟨rfl, trivial⟩)) H ?_ ?_ ?_
  · rintro RES1 HR1 i l x HI1 HX1 H
    rw [laws_toRowS_l1] at H
    conv => whnf
    refine LenG.intro a.length (by simp only [List.length_map]) ?_
    conv => whnf
    refine BranchG.t (decide_eq_true (by omega)) ?_
    conv => whnf
    refine IdxG.el (fun _ => rfl) rfl HX1 ?_
    conv => whnf
    obtain ⟨t, HTt, H⟩ := bind_some H
    refine CallG.pure (by first | rfl | (simp only [argsG, argG, List.map_cons, List.map_nil, eGExpr_eq]; first | done | rfl)) (laws_toRow_ok HTt) ?_
    conv => whnf
    refine IdxG.at (fun _ => rfl) H (fun e HXe H => ?_)
    conv => whnf
    refine IdxG.hitN (fun _ => rfl) HXe ?_
    conv => whnf
    refine RowsG.set t (by first | rfl | (simp only [List.map_cons, List.map_nil, eGExpr_eq]; first | done | rfl)) ?_
    conv => whnf
    exact ⟨(l.set (i : Int).toNat t), H, Cover.list (fr' := [(0, .d (.sl (a.map eGRow))), (3, .own 7), (4, .d (.int .i64 ((i + 1 : Nat) : Int)))]) (ob' := [(7, .row 48 1 ((l.set (i : Int).toNat t).map eGRow))]) (⟨.inr rfl, ⟨.inl ⟨rfl, rfl⟩, ⟨.inr (congrArg (fun n => some (PV.d (D.int .i64 n))) (wrapUp HI1 HL1)), trivial⟩⟩⟩) (⟨rfl, trivial⟩)⟩
  · rintro RES1 HR1 i l HI1 H
    rw [laws_toRowS_l1] at H
    conv => whnf
    refine LenG.intro a.length (by simp only [List.length_map]) ?_
    conv => whnf
    refine BranchG.f (decide_eq_false (by omega)) ?_
    conv => whnf
    exact ⟨l, (Option.some.inj H).symm, Cover.list (fr' := [(3, .own 7)]) (ob' := [(7, .row 48 1 (l.map eGRow))]) (⟨.inl ⟨rfl, rfl⟩, trivial⟩) (⟨rfl, trivial⟩)⟩
  · rintro l1 H
    obtain rfl := Option.some.inj H
    conv => whnf
    exact ⟨(by first | rfl | (simp only [List.map_cons, List.map_nil, eGExpr_eq]; first | done | rfl)), (by first | rfl | (simp only [List.map_cons, List.map_nil, eGExpr_eq]; first | done | rfl))⟩

def laws_toRows (a : GRows) : Option GRows :=
  (laws_toRowS a.List).bind fun t => some (⟨a.Table, t⟩ : GRows)

theorem laws_toRows_ok {a : GRows} {r : GRows} (H : laws_toRows a = some r) : FnG Go.Proofs.Try.prog 77 [.agg (eGRows a)] [] (.agg (eGRows r)) [] := by
  unfold laws_toRows at H
  refine FnG.intro (T := T) (fn := Go.Proofs.Try.f77) (c := (Go.Proofs.Try.f77).body.getD .skip) [.agg (eGRows r)] (by kernel_rfl) (by kernel_rfl) (by kernel_rfl) hfol hT (by kernel_rfl) rfl rfl rfl rfl rfl ?_
  intro N ok out pl0 W0
  refine PW_top ?_
  conv => whnf
  obtain ⟨t, HTt, H⟩ := bind_some H
  refine CallG.pure (by first | rfl | (simp only [argsG, argG, List.map_cons, List.map_nil, eGExpr_eq]; first | done | rfl)) (laws_toRowS_ok HTt) ?_
  obtain rfl := Option.some.inj H
  conv => whnf
  exact ⟨(by first | rfl | (simp only [List.map_cons, List.map_nil, eGExpr_eq]; first | done | rfl)), (by first | rfl | (simp only [List.map_cons, List.map_nil, eGExpr_eq]; first | done | rfl))⟩

def laws_toRowsS_l1  : List GRows → Nat → (List GRows) → Option (List GRows)
  | [], i, l => some l
  | x :: xs, i, l => (laws_toRows x).bind fun t => (at? l (i : Int)).bind fun e => laws_toRowsS_l1 xs (i + 1) (l.set (i : Int).toNat t)

def laws_toRowsS (a : (List GRows)) : Option (List GRows) :=
  if 0 ≤ (a.length : Int) ∧ (a.length : Int) ≤ (a.length : Int) ∧ (a.length : Int) * 40 ≤ 140737488355328 ∧ (a.length : Int) ≤ 140737488355328 then ((laws_toRowsS_l1 a 0 (List.replicate (a.length : Int).toNat (⟨[], []⟩ : GRows))).bind fun l1 => some l1) else none

theorem laws_toRowsS_ok {a : (List GRows)} {r : (List GRows)} (H : laws_toRowsS a = some r) : FnG Go.Proofs.Try.prog 43 [.d (.sl (a.map eGRows))] [] (.d (.sl (r.map eGRows))) [] := by
  unfold laws_toRowsS at H
  refine FnG.intro (T := T) (fn := Go.Proofs.Try.f43) (c := (Go.Proofs.Try.f43).body.getD .skip) [.d (.sl (r.map eGRows))] (by kernel_rfl) (by kernel_rfl) (by kernel_rfl) hfol hT (by kernel_rfl) rfl rfl rfl rfl rfl ?_
  intro N ok out pl0 W0
  refine PW_top ?_
  conv => whnf
  refine LenG.intro a.length (by simp only [List.length_map]) ?_
  conv => whnf
  refine NeedG.sync H (fun HP => HP) (fun HP H => ?_)
  conv => whnf
  refine RowsG.intro (List.map eGRows (List.replicate (a.length : Int).toNat (⟨[], []⟩ : GRows))) (by rw [List.map_replicate]; exact (by first | rfl | (simp only [List.map_cons, List.map_nil, eGExpr_eq]; first | done | rfl))) ?_
  conv => whnf
  refine LoopG.len 0 rfl (fun HL1 => ?_)
  rw [List.length_map] at HL1
  refine LoopG.listCut (σ := (List GRows)) (ε := (List GRows)) a (fun i SS => ([(0, .d (.sl (a.map eGRows))), (3, .own 7), (4, .d (.int .i64 (i : Int)))], [(7, .row 97 2 (SS.map eGRows))])) (fun i SS LL => laws_toRowsS_l1 LL i SS) 0 (fun EE => ([(3, .own 7)], [(7, .row 97 2 (EE.map eGRows))])) (fun e => e) (List.replicate (a.length : Int).toNat (⟨[], []⟩ : GRows)) (Cover.list (fr' := [(0, .d (.sl (a.map eGRows))), (3, .own 7), (4, .d (.int .i64 ((0 : Nat) : Int)))]) (ob' := [(7, .row 97 2 ((List.replicate (a.length : Int).toNat (⟨[], []⟩ : GRows)).map eGRows))]) (⟨.inr rfl, ⟨.inl ⟨rfl, rfl⟩, ⟨.inr rfl, trivial⟩⟩⟩) (⟨rfl, trivial⟩)) H ?_ ?_ ?_
  · rintro RES1 HR1 i l x HI1 HX1 H
    rw [laws_toRowsS_l1] at H
    conv => whnf
    refine LenG.intro a.length (by simp only [List.length_map]) ?_
    conv => whnf
    refine BranchG.t (decide_eq_true (by omega)) ?_
    conv => whnf
    refine IdxG.el (fun _ => rfl) rfl HX1 ?_
    conv => whnf
    obtain ⟨t, HTt, H⟩ := bind_some H
    refine CallG.pure (by first | rfl | (simp only [argsG, argG, List.map_cons, List.map_nil, eGExpr_eq]; first | done | rfl)) (laws_toRows_ok HTt) ?_
    conv => whnf
    refine IdxG.at (fun _ => rfl) H (fun e HXe H => ?_)
    conv => whnf
    refine IdxG.hitN (fun _ => rfl) HXe ?_
    conv => whnf
    refine RowsG.set t (by first | rfl | (simp only [List.map_cons, List.map_nil, eGExpr_eq]; first | done | rfl)) ?_
    conv => whnf
    exact ⟨(l.set (i : Int).toNat t), H, Cover.list (fr' := [(0, .d (.sl (a.map eGRows))), (3, .own 7), (4, .d (.int .i64 ((i + 1 : Nat) : Int)))]) (ob' := [(7, .row 97 2 ((l.set (i : Int).toNat t).map eGRows))]) (⟨.inr rfl, ⟨.inl ⟨rfl, rfl⟩, ⟨.inr (congrArg (fun n => some (PV.d (D.int .i64 n))) (wrapUp HI1 HL1)), trivial⟩⟩⟩) (⟨rfl, trivial⟩)⟩
  · rintro RES1 HR1 i l HI1 H
    rw [laws_toRowsS_l1] at H
    conv => whnf
    refine LenG.intro a.length (by simp only [List.length_map]) ?_
    conv => whnf
    refine BranchG.f (decide_eq_false (by omega)) ?_
    conv => whnf
    exact ⟨l, (Option.some.inj H).symm, Cover.list (fr' := [(3, .own 7)]) (ob' := [(7, .row 97 2 (l.map eGRows))]) (⟨.inl ⟨rfl, rfl⟩, trivial⟩) (⟨rfl, trivial⟩)⟩
  · rintro l1 H
    obtain rfl := Option.some.inj H
    conv => whnf
    exact ⟨(by first | rfl | (simp only [List.map_cons, List.map_nil, eGExpr_eq]; first | done | rfl)), (by first | rfl | (simp only [List.map_cons, List.map_nil, eGExpr_eq]; first | done | rfl))⟩

def laws_toStore (k : Nat) (a : GStore) : Option GStore :=
  (laws_toPlan k a.Plan).bind fun t => (laws_toRowsS a.Data).bind fun t1 => some (⟨t, t1⟩ : GStore)

theorem laws_toStore_ok {k : Nat} {a : GStore} {r : GStore} (H : laws_toStore k a = some r) : FnG Go.Proofs.Try.prog 20 [.agg (eGStore a)] [] (.agg (eGStore r)) [] := by
  unfold laws_toStore at H
  refine FnG.intro (T := T) (fn := Go.Proofs.Try.f20) (c := (Go.Proofs.Try.f20).body.getD .skip) [.agg (eGStore r)] (by kernel_rfl) (by kernel_rfl) (by kernel_rfl) hfol hT (by kernel_rfl) rfl rfl rfl rfl rfl ?_
  intro N ok out pl0 W0
  refine PW_top ?_
  conv => whnf
  obtain ⟨t, HTt, H⟩ := bind_some H
  refine CallG.pure (by first | rfl | (simp only [argsG, argG, List.map_cons, List.map_nil, eGExpr_eq]; first | done | rfl)) (laws_toPlan_ok HTt) ?_
  conv => whnf
  obtain ⟨t1, HTt1, H⟩ := bind_some H
  refine CallG.pure (by first | rfl | (simp only [argsG, argG, List.map_cons, List.map_nil, eGExpr_eq]; first | done | rfl)) (laws_toRowsS_ok HTt1) ?_
  obtain rfl := Option.some.inj H
  conv => whnf
  exact ⟨(by first | rfl | (simp only [List.map_cons, List.map_nil, eGExpr_eq]; first | done | rfl)), (by first | rfl | (simp only [List.map_cons, List.map_nil, eGExpr_eq]; first | done | rfl))⟩

def spec_Count_l1  : List GRows → Int → Option Int
  | [], n => some n
  | x :: xs, n => spec_Count_l1 xs (w64 (n + (x.List.length : Int)))

def spec_Count (s : GStore) : Option Int :=
  (spec_Count_l1 s.Data 0).bind fun n1 => some n1

theorem spec_Count_ok {s : GStore} {r : Int} (H : spec_Count s = some r) : FnG Go.Proofs.Try.prog 19 [.agg (eGStore s)] [] (.d (.int .i64 r)) [] := by
  unfold spec_Count at H
  refine FnG.intro (T := T) (fn := Go.Proofs.Try.f19) (c := (Go.Proofs.Try.f19).body.getD .skip) [.d (.int .i64 r)] (by kernel_rfl) (by kernel_rfl) (by kernel_rfl) hfol hT (by kernel_rfl) rfl rfl rfl rfl rfl ?_
  intro N ok out pl0 W0
  refine PW_top ?_
  conv => whnf
  refine LoopG.lenB 1 6 rfl rfl (fun HL1 => ?_)
  rw [List.length_map] at HL1
  refine LoopG.listCut (σ := Int) (ε := Int) s.Data (fun i SS => ([(1, .ptr 1 0), (3, .d (.int .i64 SS)), (4, .d (.int .i64 (i : Int)))], [(1, .box [.d (.sl (s.Plan.Enums.map eGLabels)), .d (.sl (s.Plan.Seqs.map eGSeq)), .d (.sl (s.Plan.Tables.map eGTable)), .d (.sl (s.Plan.Indexes.map eGIndex)), .d (.sl (s.Plan.Views.map eGView)), .d (.int .i64 s.Plan.Next), .d (.sl (s.Data.map eGRows))])])) (fun i SS LL => spec_Count_l1 LL SS) 0 (fun EE => ([(3, .d (.int .i64 EE))], [])) (fun e => e) 0 (Cover.list (fr' := [(1, .ptr 1 0), (3, .d (.int .i64 0)), (4, .d (.int .i64 ((0 : Nat) : Int)))]) (ob' := [(1, .box [.d (.sl (s.Plan.Enums.map eGLabels)), .d (.sl (s.Plan.Seqs.map eGSeq)), .d (.sl (s.Plan.Tables.map eGTable)), .d (.sl (s.Plan.Indexes.map eGIndex)), .d (.sl (s.Plan.Views.map eGView)), .d (.int .i64 s.Plan.Next), .d (.sl (s.Data.map eGRows))])]) (⟨.inl ⟨rfl, rfl⟩, ⟨.inr rfl, ⟨.inr rfl, trivial⟩⟩⟩) (⟨⟨⟨.inr rfl, rfl⟩, ⟨⟨.inr rfl, rfl⟩, ⟨⟨.inr rfl, rfl⟩, ⟨⟨.inr rfl, rfl⟩, ⟨⟨.inr rfl, rfl⟩, ⟨⟨.inr rfl, rfl⟩, ⟨⟨.inr rfl, rfl⟩, trivial⟩⟩⟩⟩⟩⟩⟩, trivial⟩)) H ?_ ?_ ?_
  · rintro RES1 HR1 i n x HI1 HX1 H
    rw [spec_Count_l1] at H
    conv => whnf
    refine LenG.intro s.Data.length (by simp only [List.length_map]) ?_
    conv => whnf
    refine BranchG.t (decide_eq_true (by omega)) ?_
    conv => whnf
    refine IdxG.el (fun _ => rfl) rfl HX1 ?_
    conv => whnf
    refine LenG.intro x.List.length (by simp only [List.length_map]) ?_
    conv => whnf
    exact ⟨(w64 (n + (x.List.length : Int))), H, Cover.list (fr' := [(1, .ptr 1 0), (3, .d (.int .i64 (w64 (n + (x.List.length : Int))))), (4, .d (.int .i64 ((i + 1 : Nat) : Int)))]) (ob' := [(1, .box [.d (.sl (s.Plan.Enums.map eGLabels)), .d (.sl (s.Plan.Seqs.map eGSeq)), .d (.sl (s.Plan.Tables.map eGTable)), .d (.sl (s.Plan.Indexes.map eGIndex)), .d (.sl (s.Plan.Views.map eGView)), .d (.int .i64 s.Plan.Next), .d (.sl (s.Data.map eGRows))])]) (⟨.inl ⟨rfl, rfl⟩, ⟨.inr rfl, ⟨.inr (congrArg (fun n => some (PV.d (D.int .i64 n))) (wrapUp HI1 HL1)), trivial⟩⟩⟩) (⟨⟨⟨.inr rfl, rfl⟩, ⟨⟨.inr rfl, rfl⟩, ⟨⟨.inr rfl, rfl⟩, ⟨⟨.inr rfl, rfl⟩, ⟨⟨.inr rfl, rfl⟩, ⟨⟨.inr rfl, rfl⟩, ⟨⟨.inr rfl, rfl⟩, trivial⟩⟩⟩⟩⟩⟩⟩, trivial⟩)⟩
  · rintro RES1 HR1 i n HI1 H
    rw [spec_Count_l1] at H
    conv => whnf
    refine LenG.intro s.Data.length (by simp only [List.length_map]) ?_
    conv => whnf
    refine BranchG.f (decide_eq_false (by omega)) ?_
    conv => whnf
    exact ⟨n, (Option.some.inj H).symm, Cover.list (fr' := [(3, .d (.int .i64 n))]) (ob' := []) (⟨.inr rfl, trivial⟩) (trivial)⟩
  · rintro n1 H
    obtain rfl := Option.some.inj H
    conv => whnf
    exact ⟨(by first | rfl | (simp only [List.map_cons, List.map_nil, eGExpr_eq]; first | done | rfl)), (by first | rfl | (simp only [List.map_cons, List.map_nil, eGExpr_eq]; first | done | rfl))⟩
end Go.Pv.S
