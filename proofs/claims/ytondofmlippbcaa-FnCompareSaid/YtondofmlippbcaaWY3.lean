import Derived.Test.YtondofmlippbcaaWY2
set_option linter.unusedSimpArgs false
set_option linter.unusedVariables false
set_option maxRecDepth 100000
set_option maxHeartbeats 2000000
open Go Go.Pv
namespace Go.Pv.S
def impl_columns_l1 (f_impl_columns : (GExpr → (List Str) → Option (List Str))) : List GExpr → (List Str) → Option (List Str)
  | [], l => some l
  | x :: xs, l => (f_impl_columns x l).bind fun t => impl_columns_l1 f_impl_columns xs t

def impl_columns_l2 (f_impl_columns : (GExpr → (List Str) → Option (List Str))) : List GExpr → (List Str) → Option (List Str)
  | [], l2 => some l2
  | x1 :: xs, l2 => (f_impl_columns x1 l2).bind fun t1 => impl_columns_l2 f_impl_columns xs t1

def impl_columns : Nat → GExpr → (List Str) → Option (List Str)
  | 0, _, _ => none
  | k + 1, e, list => if e.Kind = 0 then (if (list.length + ([e.Text] : List Str).length) * 16 ≤ 140737488355328 then ((impl_columns_l1 (impl_columns k) e.Kids (list ++ ([e.Text] : List Str))).bind fun l1 => some l1) else none) else ((impl_columns_l2 (impl_columns k) e.Kids list).bind fun l3 => some l3)

theorem impl_columns_ring : ∀ (k : Nat), (∀ {e : GExpr} {list : (List Str)} {r : (List Str)}, impl_columns k e list = some r → FnG Go.Proofs.Try.prog 63 [.agg (eGExpr1 e), .own 1000001] [(1000001, .row 9 1 (list.map eStr))] (.own 400000) [(1000001, .gone), (400000, .row 9 1 (r.map eStr))]) := by
  intro k
  induction k with
  | zero => exact (by intros; rename_i H; rw [impl_columns] at H; cases H)
  | succ k IH =>
    have IH_impl_columns := @IH
    intro e list r H
    rw [impl_columns] at H
    refine FnG.intro (T := T) (fn := Go.Proofs.Try.f63) (c := (Go.Proofs.Try.f63).body.getD .skip) [.own 400000] (by kernel_rfl) (by kernel_rfl) (by kernel_rfl) hfol hT (by kernel_rfl) rfl rfl rfl rfl rfl ?_
    intro N ok out pl0 W0
    refine WpG.cover (Cover.move 1 1000001 300001 9 1 _ rfl rfl rfl rfl) ?_
    refine PW_top ?_
    conv => whnf
    refine BranchG.ite H (fun HP H => ?_) (fun HP H => ?_)
    · conv => whnf
      refine RowsG.intro (List.map eStr ([e.Text] : List Str)) (by first | rfl | (simp only [List.map_cons, List.map_nil, eGExpr_eq]; first | done | rfl)) ?_
      conv => whnf
      refine NeedG.sync H (fun HP => by simpa only [List.length_map, bytesRows] using HP) (fun HP H => ?_)
      conv => whnf
      refine RowsG.app ?_
      conv => whnf
      refine LenG.intro e.Kids.length (by simp only [List.length_map]) ?_
      conv => whnf
      refine LoopG.len 16 rfl (fun HL1 => ?_)
      rw [List.length_map] at HL1
      refine LoopG.listCut (σ := (List Str)) (ε := (List Str)) e.Kids (fun i SS => ([(1, .own 14), (16, .d (.sl (e.Kids.map eGExpr))), (17, .d (.int .i64 (e.Kids.length : Int))), (18, .d (.int .i64 (i : Int)))], [(14, .row 9 1 (SS.map eStr)), (1000001, .gone)])) (fun i SS LL => impl_columns_l1 (impl_columns k) LL SS) 0 (fun EE => ([(1, .own 14)], [(14, .row 9 1 (EE.map eStr)), (1000001, .gone)])) (fun e => e) (list ++ ([e.Text] : List Str)) (Cover.list (fr' := [(1, .own 14), (16, .d (.sl (e.Kids.map eGExpr))), (17, .d (.int .i64 (e.Kids.length : Int))), (18, .d (.int .i64 ((0 : Nat) : Int)))]) (ob' := [(14, .row 9 1 ((list ++ ([e.Text] : List Str)).map eStr)), (1000001, .gone)]) (⟨.inl ⟨rfl, rfl⟩, ⟨.inr rfl, ⟨.inr rfl, ⟨.inr rfl, trivial⟩⟩⟩⟩) (⟨rfl, ⟨rfl, trivial⟩⟩)) H ?_ ?_ ?_
      · rintro RES1 HR1 i l x HI1 HX1 H
        rw [impl_columns_l1] at H
        conv => whnf
        refine BranchG.t (decide_eq_true (by omega)) ?_
        conv => whnf
        refine IdxG.el eGExpr_eq rfl HX1 ?_
        conv => whnf
        obtain ⟨t, HTt, H⟩ := bind_some H
        refine CallG.gen [(1000001, 14)] [(400000, 500240)] (by rfl) (IH_impl_columns HTt) rfl rfl ⟨rfl, trivial⟩ ⟨rfl, rfl, trivial⟩ rfl rfl rfl rfl rfl rfl rfl rfl rfl ?_
        conv => whnf
        exact ⟨t, H, Cover.trans (Cover.list (fr' := [(1, .own 500240), (16, .d (.sl (e.Kids.map eGExpr))), (17, .d (.int .i64 (e.Kids.length : Int))), (18, .d (.int .i64 ((i + 1 : Nat) : Int)))]) (ob' := [(500240, .row 9 1 (t.map eStr)), (1000001, .gone)]) (⟨.inl ⟨rfl, rfl⟩, ⟨.inr rfl, ⟨.inr rfl, ⟨.inr (congrArg (fun n => some (PV.d (D.int .i64 n))) (wrapUp HI1 HL1)), trivial⟩⟩⟩⟩) (⟨rfl, ⟨rfl, trivial⟩⟩)) (Cover.ren [(500240, 14), (1000001, 1000001)] rfl rfl rfl)⟩
      · rintro RES1 HR1 i l HI1 H
        rw [impl_columns_l1] at H
        conv => whnf
        refine BranchG.f (decide_eq_false (by omega)) ?_
        conv => whnf
        exact ⟨l, (Option.some.inj H).symm, Cover.list (fr' := [(1, .own 14)]) (ob' := [(14, .row 9 1 (l.map eStr)), (1000001, .gone)]) (⟨.inl ⟨rfl, rfl⟩, trivial⟩) (⟨rfl, ⟨rfl, trivial⟩⟩)⟩
      · rintro l1 H
        obtain rfl := Option.some.inj H
        conv => whnf
        refine ⟨_, _, Cover.move 4 14 400000 9 1 _ rfl rfl rfl rfl, ?_⟩
        conv => whnf
        exact ⟨(by first | rfl | (simp only [List.map_cons, List.map_nil, eGExpr_eq]; first | done | rfl)), (by first | rfl | (simp only [List.map_cons, List.map_nil, eGExpr_eq]; first | done | rfl))⟩
    · conv => whnf
      refine LenG.intro e.Kids.length (by simp only [List.length_map]) ?_
      conv => whnf
      refine LoopG.len 16 rfl (fun HL2 => ?_)
      rw [List.length_map] at HL2
      refine LoopG.listCut (σ := (List Str)) (ε := (List Str)) e.Kids (fun i1 SS => ([(1, .own 300001), (16, .d (.sl (e.Kids.map eGExpr))), (17, .d (.int .i64 (e.Kids.length : Int))), (18, .d (.int .i64 (i1 : Int)))], [(300001, .row 9 1 (SS.map eStr)), (1000001, .gone)])) (fun i1 SS LL => impl_columns_l2 (impl_columns k) LL SS) 0 (fun EE => ([(1, .own 300001)], [(300001, .row 9 1 (EE.map eStr)), (1000001, .gone)])) (fun e => e) list (Cover.list (fr' := [(1, .own 300001), (16, .d (.sl (e.Kids.map eGExpr))), (17, .d (.int .i64 (e.Kids.length : Int))), (18, .d (.int .i64 ((0 : Nat) : Int)))]) (ob' := [(300001, .row 9 1 (list.map eStr)), (1000001, .gone)]) (⟨.inl ⟨rfl, rfl⟩, ⟨.inr rfl, ⟨.inr rfl, ⟨.inr rfl, trivial⟩⟩⟩⟩) (⟨rfl, ⟨rfl, trivial⟩⟩)) H ?_ ?_ ?_
      · rintro RES2 HR2 i1 l2 x1 HI2 HX2 H
        rw [impl_columns_l2] at H
        conv => whnf
        refine BranchG.t (decide_eq_true (by omega)) ?_
        conv => whnf
        refine IdxG.el eGExpr_eq rfl HX2 ?_
        conv => whnf
        obtain ⟨t1, HTt1, H⟩ := bind_some H
        refine CallG.gen [(1000001, 300001)] [(400000, 500240)] (by rfl) (IH_impl_columns HTt1) rfl rfl ⟨rfl, trivial⟩ ⟨rfl, rfl, trivial⟩ rfl rfl rfl rfl rfl rfl rfl rfl rfl ?_
        conv => whnf
        exact ⟨t1, H, Cover.trans (Cover.list (fr' := [(1, .own 500240), (16, .d (.sl (e.Kids.map eGExpr))), (17, .d (.int .i64 (e.Kids.length : Int))), (18, .d (.int .i64 ((i1 + 1 : Nat) : Int)))]) (ob' := [(500240, .row 9 1 (t1.map eStr)), (1000001, .gone)]) (⟨.inl ⟨rfl, rfl⟩, ⟨.inr rfl, ⟨.inr rfl, ⟨.inr (congrArg (fun n => some (PV.d (D.int .i64 n))) (wrapUp HI2 HL2)), trivial⟩⟩⟩⟩) (⟨rfl, ⟨rfl, trivial⟩⟩)) (Cover.ren [(500240, 300001), (1000001, 1000001)] rfl rfl rfl)⟩
      · rintro RES2 HR2 i1 l2 HI2 H
        rw [impl_columns_l2] at H
        conv => whnf
        refine BranchG.f (decide_eq_false (by omega)) ?_
        conv => whnf
        exact ⟨l2, (Option.some.inj H).symm, Cover.list (fr' := [(1, .own 300001)]) (ob' := [(300001, .row 9 1 (l2.map eStr)), (1000001, .gone)]) (⟨.inl ⟨rfl, rfl⟩, trivial⟩) (⟨rfl, ⟨rfl, trivial⟩⟩)⟩
      · rintro l3 H
        obtain rfl := Option.some.inj H
        conv => whnf
        refine ⟨_, _, Cover.move 4 300001 400000 9 1 _ rfl rfl rfl rfl, ?_⟩
        conv => whnf
        exact ⟨(by first | rfl | (simp only [List.map_cons, List.map_nil, eGExpr_eq]; first | done | rfl)), (by first | rfl | (simp only [List.map_cons, List.map_nil, eGExpr_eq]; first | done | rfl))⟩

theorem impl_columns_ok {k : Nat} {e : GExpr} {list : (List Str)} {r : (List Str)} (H : impl_columns k e list = some r) : FnG Go.Proofs.Try.prog 63 [.agg (eGExpr1 e), .own 1000001] [(1000001, .row 9 1 (list.map eStr))] (.own 400000) [(1000001, .gone), (400000, .row 9 1 (r.map eStr))] := (impl_columns_ring k) H

def impl_columns_nil1_l1 (k : Nat) : List GExpr → (List Str) → Option (List Str)
  | [], l => some l
  | x :: xs, l => (impl_columns k x l).bind fun t => impl_columns_nil1_l1 k xs t

def impl_columns_nil1_l2 (k : Nat) : List GExpr → (List Str) → Option (List Str)
  | [], l2 => some l2
  | x1 :: xs, l2 => (impl_columns k x1 l2).bind fun t1 => impl_columns_nil1_l2 k xs t1

def impl_columns_nil1 : Nat → GExpr → Option (List Str)
  | 0, _ => none
  | k + 1, e => if e.Kind = 0 then (if ([e.Text] : List Str).length * 16 ≤ 140737488355328 then ((impl_columns_nil1_l1 k e.Kids ([e.Text] : List Str)).bind fun l1 => some l1) else none) else ((impl_columns_nil1_l2 k e.Kids ([] : List Str)).bind fun l3 => some l3)

theorem impl_columns_nil1_ring : ∀ (k : Nat), (∀ {e : GExpr} {r : (List Str)}, impl_columns_nil1 k e = some r → FnG Go.Proofs.Try.prog 63 [.agg (eGExpr1 e), .nil] [] (.own 400000) [(400000, .row 9 1 (r.map eStr))]) := by
  intro k
  induction k with
  | zero => exact (by intros; rename_i H; rw [impl_columns_nil1] at H; cases H)
  | succ k IH =>
    have IH_impl_columns_nil1 := @IH
    intro e r H
    rw [impl_columns_nil1] at H
    refine FnG.intro (T := T) (fn := Go.Proofs.Try.f63) (c := (Go.Proofs.Try.f63).body.getD .skip) [.own 400000] (by kernel_rfl) (by kernel_rfl) (by kernel_rfl) hfol hT (by kernel_rfl) rfl rfl rfl rfl rfl ?_
    intro N ok out pl0 W0
    refine PW_top ?_
    conv => whnf
    refine BranchG.ite H (fun HP H => ?_) (fun HP H => ?_)
    · conv => whnf
      refine RowsG.intro (List.map eStr ([e.Text] : List Str)) (by first | rfl | (simp only [List.map_cons, List.map_nil, eGExpr_eq]; first | done | rfl)) ?_
      conv => whnf
      refine NeedG.sync H (fun HP => by simpa only [List.length_map, bytesRows] using HP) (fun HP H => ?_)
      conv => whnf
      refine RowsG.intro (List.map eStr ([e.Text] : List Str)) rfl ?_
      conv => whnf
      refine LenG.intro e.Kids.length (by simp only [List.length_map]) ?_
      conv => whnf
      refine LoopG.len 16 rfl (fun HL1 => ?_)
      rw [List.length_map] at HL1
      refine LoopG.listCut (σ := (List Str)) (ε := (List Str)) e.Kids (fun i SS => ([(1, .own 14), (16, .d (.sl (e.Kids.map eGExpr))), (17, .d (.int .i64 (e.Kids.length : Int))), (18, .d (.int .i64 (i : Int)))], [(14, .row 9 1 (SS.map eStr))])) (fun i SS LL => impl_columns_nil1_l1 k LL SS) 0 (fun EE => ([(1, .own 14)], [(14, .row 9 1 (EE.map eStr))])) (fun e => e) ([e.Text] : List Str) (Cover.list (fr' := [(1, .own 14), (16, .d (.sl (e.Kids.map eGExpr))), (17, .d (.int .i64 (e.Kids.length : Int))), (18, .d (.int .i64 ((0 : Nat) : Int)))]) (ob' := [(14, .row 9 1 (([e.Text] : List Str).map eStr))]) (⟨.inl ⟨rfl, rfl⟩, ⟨.inr rfl, ⟨.inr rfl, ⟨.inr rfl, trivial⟩⟩⟩⟩) (⟨rfl, trivial⟩)) H ?_ ?_ ?_
      · rintro RES1 HR1 i l x HI1 HX1 H
        rw [impl_columns_nil1_l1] at H
        conv => whnf
        refine BranchG.t (decide_eq_true (by omega)) ?_
        conv => whnf
        refine IdxG.el eGExpr_eq rfl HX1 ?_
        conv => whnf
        obtain ⟨t, HTt, H⟩ := bind_some H
        refine CallG.gen [(1000001, 14)] [(400000, 500240)] (by rfl) (impl_columns_ok HTt) rfl rfl ⟨rfl, trivial⟩ ⟨rfl, rfl, trivial⟩ rfl rfl rfl rfl rfl rfl rfl rfl rfl ?_
        conv => whnf
        exact ⟨t, H, Cover.trans (Cover.list (fr' := [(1, .own 500240), (16, .d (.sl (e.Kids.map eGExpr))), (17, .d (.int .i64 (e.Kids.length : Int))), (18, .d (.int .i64 ((i + 1 : Nat) : Int)))]) (ob' := [(500240, .row 9 1 (t.map eStr))]) (⟨.inl ⟨rfl, rfl⟩, ⟨.inr rfl, ⟨.inr rfl, ⟨.inr (congrArg (fun n => some (PV.d (D.int .i64 n))) (wrapUp HI1 HL1)), trivial⟩⟩⟩⟩) (⟨rfl, trivial⟩)) (Cover.ren [(500240, 14)] rfl rfl rfl)⟩
      · rintro RES1 HR1 i l HI1 H
        rw [impl_columns_nil1_l1] at H
        conv => whnf
        refine BranchG.f (decide_eq_false (by omega)) ?_
        conv => whnf
        exact ⟨l, (Option.some.inj H).symm, Cover.list (fr' := [(1, .own 14)]) (ob' := [(14, .row 9 1 (l.map eStr))]) (⟨.inl ⟨rfl, rfl⟩, trivial⟩) (⟨rfl, trivial⟩)⟩
      · rintro l1 H
        obtain rfl := Option.some.inj H
        conv => whnf
        refine ⟨_, _, Cover.move 4 14 400000 9 1 _ rfl rfl rfl rfl, ?_⟩
        conv => whnf
        exact ⟨(by first | rfl | (simp only [List.map_cons, List.map_nil, eGExpr_eq]; first | done | rfl)), (by first | rfl | (simp only [List.map_cons, List.map_nil, eGExpr_eq]; first | done | rfl))⟩
    · conv => whnf
      refine LenG.intro e.Kids.length (by simp only [List.length_map]) ?_
      conv => whnf
      refine LoopG.len 16 rfl (fun HL2 => ?_)
      rw [List.length_map] at HL2
      refine LoopG.listCut (σ := (List Str)) (ε := (List Str)) e.Kids (fun i1 SS => ([(1, .own 900001), (16, .d (.sl (e.Kids.map eGExpr))), (17, .d (.int .i64 (e.Kids.length : Int))), (18, .d (.int .i64 (i1 : Int)))], [(900001, .row 9 1 (SS.map eStr))])) (fun i1 SS LL => impl_columns_nil1_l2 k LL SS) 0 (fun EE => ([(1, .own 900001)], [(900001, .row 9 1 (EE.map eStr))])) (fun e => e) ([] : List Str) (Cover.trans (Cover.nilOwn 1 900001 9 1 rfl rfl rfl) (Cover.list (fr' := [(1, .own 900001), (16, .d (.sl (e.Kids.map eGExpr))), (17, .d (.int .i64 (e.Kids.length : Int))), (18, .d (.int .i64 ((0 : Nat) : Int)))]) (ob' := [(900001, .row 9 1 ([].map eStr))]) (⟨.inl ⟨rfl, rfl⟩, ⟨.inr rfl, ⟨.inr rfl, ⟨.inr rfl, trivial⟩⟩⟩⟩) (⟨rfl, trivial⟩))) H ?_ ?_ ?_
      · rintro RES2 HR2 i1 l2 x1 HI2 HX2 H
        rw [impl_columns_nil1_l2] at H
        conv => whnf
        refine BranchG.t (decide_eq_true (by omega)) ?_
        conv => whnf
        refine IdxG.el eGExpr_eq rfl HX2 ?_
        conv => whnf
        obtain ⟨t1, HTt1, H⟩ := bind_some H
        refine CallG.gen [(1000001, 900001)] [(400000, 500240)] (by rfl) (impl_columns_ok HTt1) rfl rfl ⟨rfl, trivial⟩ ⟨rfl, rfl, trivial⟩ rfl rfl rfl rfl rfl rfl rfl rfl rfl ?_
        conv => whnf
        exact ⟨t1, H, Cover.trans (Cover.list (fr' := [(1, .own 500240), (16, .d (.sl (e.Kids.map eGExpr))), (17, .d (.int .i64 (e.Kids.length : Int))), (18, .d (.int .i64 ((i1 + 1 : Nat) : Int)))]) (ob' := [(500240, .row 9 1 (t1.map eStr))]) (⟨.inl ⟨rfl, rfl⟩, ⟨.inr rfl, ⟨.inr rfl, ⟨.inr (congrArg (fun n => some (PV.d (D.int .i64 n))) (wrapUp HI2 HL2)), trivial⟩⟩⟩⟩) (⟨rfl, trivial⟩)) (Cover.ren [(500240, 900001)] rfl rfl rfl)⟩
      · rintro RES2 HR2 i1 l2 HI2 H
        rw [impl_columns_nil1_l2] at H
        conv => whnf
        refine BranchG.f (decide_eq_false (by omega)) ?_
        conv => whnf
        exact ⟨l2, (Option.some.inj H).symm, Cover.list (fr' := [(1, .own 900001)]) (ob' := [(900001, .row 9 1 (l2.map eStr))]) (⟨.inl ⟨rfl, rfl⟩, trivial⟩) (⟨rfl, trivial⟩)⟩
      · rintro l3 H
        obtain rfl := Option.some.inj H
        conv => whnf
        refine ⟨_, _, Cover.move 4 900001 400000 9 1 _ rfl rfl rfl rfl, ?_⟩
        conv => whnf
        exact ⟨(by first | rfl | (simp only [List.map_cons, List.map_nil, eGExpr_eq]; first | done | rfl)), (by first | rfl | (simp only [List.map_cons, List.map_nil, eGExpr_eq]; first | done | rfl))⟩
end Go.Pv.S
