import Derived.Test.YtondofmlippbcaaWY3
set_option linter.unusedSimpArgs false
set_option linter.unusedVariables false
set_option maxRecDepth 100000
set_option maxHeartbeats 2000000
open Go Go.Pv
namespace Go.Pv.S
theorem impl_columns_nil1_ok {k : Nat} {e : GExpr} {r : (List Str)} (H : impl_columns_nil1 k e = some r) : FnG Go.Proofs.Try.prog 63 [.agg (eGExpr1 e), .nil] [] (.own 400000) [(400000, .row 9 1 (r.map eStr))] := (impl_columns_nil1_ring k) H

def impl_rising (list : (List Str)) : Option (List Str) :=
  (slices_Sort list).bind fun t => (slices_Compact t).bind fun t1 => some t1

theorem impl_rising_ok {list : (List Str)} {r : (List Str)} (H : impl_rising list = some r) : FnG Go.Proofs.Try.prog 62 [.own 1000000] [(1000000, .row 9 1 (list.map eStr))] (.own 400000) [(1000000, .gone), (400000, .row 9 1 (r.map eStr))] := by
  unfold impl_rising at H
  refine FnG.intro (T := T) (fn := Go.Proofs.Try.f62) (c := (Go.Proofs.Try.f62).body.getD .skip) [.own 400000] (by kernel_rfl) (by kernel_rfl) (by kernel_rfl) hfol hT (by kernel_rfl) rfl rfl rfl rfl rfl ?_
  intro N ok out pl0 W0
  refine WpG.cover (Cover.move 0 1000000 300000 9 1 _ rfl rfl rfl rfl) ?_
  refine PW_top ?_
  conv => whnf
  obtain ⟨t, HTt, H⟩ := bind_some H
  refine CallG.gen [(1000000, 300000)] [] (by rfl) (slices_Sort_ok HTt) rfl rfl ⟨rfl, trivial⟩ trivial rfl rfl rfl rfl rfl rfl rfl rfl rfl ?_
  conv => whnf
  obtain ⟨t1, HTt1, H⟩ := bind_some H
  refine CallG.gen [(1000000, 300000)] [(400000, 500060)] (by rfl) (slices_Compact_ok HTt1) rfl rfl ⟨rfl, trivial⟩ ⟨rfl, rfl, trivial⟩ rfl rfl rfl rfl rfl rfl rfl rfl rfl ?_
  obtain rfl := Option.some.inj H
  conv => whnf
  refine ⟨_, _, Cover.move 2 500060 400000 9 1 _ rfl rfl rfl rfl, ?_⟩
  conv => whnf
  exact ⟨(by first | rfl | (simp only [List.map_cons, List.map_nil, eGExpr_eq]; first | done | rfl)), (by first | rfl | (simp only [List.map_cons, List.map_nil, eGExpr_eq]; first | done | rfl))⟩

def impl_Columns (k : Nat) (e : GExpr) : Option (List Str) :=
  (impl_columns_nil1 k e).bind fun t => (impl_rising t).bind fun t1 => some t1

theorem impl_Columns_ok {k : Nat} {e : GExpr} {r : (List Str)} (H : impl_Columns k e = some r) : FnG Go.Proofs.Try.prog 38 [.agg (eGExpr1 e)] [] (.d (.sl (r.map eStr))) [] := by
  unfold impl_Columns at H
  refine FnG.intro (T := T) (fn := Go.Proofs.Try.f38) (c := (Go.Proofs.Try.f38).body.getD .skip) [.d (.sl (r.map eStr))] (by kernel_rfl) (by kernel_rfl) (by kernel_rfl) hfol hT (by kernel_rfl) rfl rfl rfl rfl rfl ?_
  intro N ok out pl0 W0
  refine PW_top ?_
  conv => whnf
  obtain ⟨t, HTt, H⟩ := bind_some H
  refine CallG.genK [false, true] [] [(400000, 500040)] (by rfl) (impl_columns_nil1_ok HTt) rfl rfl trivial ⟨rfl, rfl, trivial⟩ rfl rfl rfl rfl rfl rfl rfl rfl rfl ?_
  conv => whnf
  obtain ⟨t1, HTt1, H⟩ := bind_some H
  refine CallG.gen [(1000000, 500040)] [(400000, 500050)] (by rfl) (impl_rising_ok HTt1) rfl rfl ⟨rfl, trivial⟩ ⟨rfl, rfl, trivial⟩ rfl rfl rfl rfl rfl rfl rfl rfl rfl ?_
  obtain rfl := Option.some.inj H
  conv => whnf
  refine ⟨_, _, Cover.refl _ _, ?_⟩
  conv => whnf
  exact ⟨(by first | rfl | (simp only [List.map_cons, List.map_nil, eGExpr_eq]; first | done | rfl)), (by first | rfl | (simp only [List.map_cons, List.map_nil, eGExpr_eq]; first | done | rfl))⟩

def impl_colOf_1 (x : GCol) (c : Str) : (Bool × Str) :=
  ((decide (x.Name = c)), c)

theorem impl_colOf_1_ok (x : GCol) (c : Str) : FnG Go.Proofs.Try.prog 58 [.agg (eGCol x), .ptr 1000001 0] [(1000001, .box [.d (.str c)])] (.d (.bool (impl_colOf_1 x c).1)) [(1000001, .box [.d (.str (impl_colOf_1 x c).2)])] := by
  generalize H : impl_colOf_1 x c = r
  unfold impl_colOf_1 at H
  refine FnG.intro (T := T) (fn := Go.Proofs.Try.f58) (c := (Go.Proofs.Try.f58).body.getD .skip) [.d (.bool r.1)] (by kernel_rfl) (by kernel_rfl) (by kernel_rfl) hfol hT (by kernel_rfl) rfl rfl rfl rfl rfl ?_
  intro N ok out pl0 W0
  refine PW_top ?_
  subst H
  conv => whnf
  refine ⟨_, _, Cover.refl _ _, ?_⟩
  conv => whnf
  exact ⟨(by first | rfl | (simp only [List.map_cons, List.map_nil, eGExpr_eq]; first | done | rfl)), (by first | rfl | (simp only [List.map_cons, List.map_nil, eGExpr_eq]; first | done | rfl))⟩

def slices_IndexFunc_impl_Col_impl_Col_colOf_1_l1  : List GCol → Nat → Str → Option (Sum Str (Int × Str))
  | [], i, c1 => some (Sum.inl c1)
  | x :: xs, i, c1 => if ((impl_colOf_1 x c1).1) = true then (some (Sum.inr ((i : Int), (impl_colOf_1 x c1).2))) else (slices_IndexFunc_impl_Col_impl_Col_colOf_1_l1 xs (i + 1) ((impl_colOf_1 x c1).2))

def slices_IndexFunc_impl_Col_impl_Col_colOf_1 (s : (List GCol)) (c : Str) : Option (Int × Str) :=
  (slices_IndexFunc_impl_Col_impl_Col_colOf_1_l1 s 0 c).bind fun mt => match mt with | Sum.inl c2 => some ((-1), c2) | Sum.inr r => some r

theorem slices_IndexFunc_impl_Col_impl_Col_colOf_1_ok {s : (List GCol)} {c : Str} {r : (Int × Str)} (H : slices_IndexFunc_impl_Col_impl_Col_colOf_1 s c = some r) : FnG Go.Proofs.Try.prog 57 [.d (.sl (s.map eGCol)), .fn 58 [] [1002000]] [(1002000, .box [.d (.str c)])] (.d (.int .i64 r.1)) [(1002000, .box [.d (.str r.2)])] := by
  unfold slices_IndexFunc_impl_Col_impl_Col_colOf_1 at H
  refine FnG.intro (T := T) (fn := Go.Proofs.Try.f57) (c := (Go.Proofs.Try.f57).body.getD .skip) [.d (.int .i64 r.1)] (by kernel_rfl) (by kernel_rfl) (by kernel_rfl) hfol hT (by kernel_rfl) rfl rfl rfl rfl rfl ?_
  intro N ok out pl0 W0
  refine PW_top ?_
  conv => whnf
  refine LenG.intro s.length (by simp only [List.length_map]) ?_
  conv => whnf
  refine LoopG.len 0 rfl (fun HL1 => ?_)
  rw [List.length_map] at HL1
  refine LoopG.listCut (σ := Str) (ε := Str) s (fun i SS => ([(0, .d (.sl (s.map eGCol))), (1, .fn 58 [] [1002000]), (7, .d (.int .i64 (s.length : Int))), (8, .d (.int .i64 (i : Int)))], [(1002000, .box [.d (.str SS)])])) (fun i SS LL => slices_IndexFunc_impl_Col_impl_Col_colOf_1_l1 LL i SS) 0 (fun EE => ([(1, .fn 58 [] [1002000])], [(1002000, .box [.d (.str EE)])])) (fun e => Sum.inl e) c (Cover.list (fr' := [(0, .d (.sl (s.map eGCol))), (1, .fn 58 [] [1002000]), (7, .d (.int .i64 (s.length : Int))), (8, .d (.int .i64 ((0 : Nat) : Int)))]) (ob' := [(1002000, .box [.d (.str c)])]) (⟨.inr rfl, ⟨.inl ⟨rfl, rfl⟩, ⟨.inr rfl, ⟨.inr rfl, trivial⟩⟩⟩⟩) (⟨⟨⟨.inr rfl, rfl⟩, trivial⟩, trivial⟩)) H ?_ ?_ ?_
  · rintro RES1 HR1 i c1 x HI1 HX1 H
    rw [slices_IndexFunc_impl_Col_impl_Col_colOf_1_l1] at H
    conv => whnf
    refine BranchG.t (decide_eq_true (by omega)) ?_
    conv => whnf
    refine IdxG.el (fun _ => rfl) rfl HX1 ?_
    conv => whnf
    refine CallG.gen [(1000001, 1002000)] [] (by rfl) (impl_colOf_1_ok x c1) rfl rfl ⟨rfl, trivial⟩ trivial rfl rfl rfl rfl rfl rfl rfl rfl rfl ?_
    conv => whnf
    refine BranchG.iteB H (fun HP H => ?_) (fun HP H => ?_)
    · obtain rfl := Option.some.inj H
      obtain rfl := Option.some.inj (HR1 : some _ = some _)
      conv => whnf
      refine ⟨_, _, Cover.refl _ _, ?_⟩
      conv => whnf
      exact ⟨(by first | rfl | (simp only [List.map_cons, List.map_nil, eGExpr_eq]; first | done | rfl)), (by first | rfl | (simp only [List.map_cons, List.map_nil, eGExpr_eq]; first | done | rfl))⟩
    · conv => whnf
      exact ⟨(impl_colOf_1 x c1).2, H, Cover.list (fr' := [(0, .d (.sl (s.map eGCol))), (1, .fn 58 [] [1002000]), (7, .d (.int .i64 (s.length : Int))), (8, .d (.int .i64 ((i + 1 : Nat) : Int)))]) (ob' := [(1002000, .box [.d (.str ((impl_colOf_1 x c1).2))])]) (⟨.inr rfl, ⟨.inl ⟨rfl, rfl⟩, ⟨.inr rfl, ⟨.inr (congrArg (fun n => some (PV.d (D.int .i64 n))) (wrapUp HI1 HL1)), trivial⟩⟩⟩⟩) (⟨⟨⟨.inr rfl, rfl⟩, trivial⟩, trivial⟩)⟩
  · rintro RES1 HR1 i c1 HI1 H
    rw [slices_IndexFunc_impl_Col_impl_Col_colOf_1_l1] at H
    conv => whnf
    refine BranchG.f (decide_eq_false (by omega)) ?_
    conv => whnf
    exact ⟨c1, (Option.some.inj H).symm, Cover.list (fr' := [(1, .fn 58 [] [1002000])]) (ob' := [(1002000, .box [.d (.str c1)])]) (⟨.inl ⟨rfl, rfl⟩, trivial⟩) (⟨⟨⟨.inr rfl, rfl⟩, trivial⟩, trivial⟩)⟩
  · rintro c2 H
    obtain rfl := Option.some.inj H
    conv => whnf
    refine ⟨_, _, Cover.refl _ _, ?_⟩
    conv => whnf
    exact ⟨(by first | rfl | (simp only [List.map_cons, List.map_nil, eGExpr_eq]; first | done | rfl)), (by first | rfl | (simp only [List.map_cons, List.map_nil, eGExpr_eq]; first | done | rfl))⟩

def impl_colOf (cols : (List GCol)) (name : Str) : Option (GCol × Bool) :=
  (slices_IndexFunc_impl_Col_impl_Col_colOf_1 cols name).bind fun t => if t.1 < 0 then (some ((⟨[], (⟨0, 0, []⟩ : GType_), false, []⟩ : GCol), false)) else ((at? cols t.1).bind fun e => some (e, true))

theorem impl_colOf_ok {cols : (List GCol)} {name : Str} {r : (GCol × Bool)} (H : impl_colOf cols name = some r) : FnG Go.Proofs.Try.prog 33 [.d (.sl (cols.map eGCol)), .d (.str name)] [] (.tup [.agg (eGCol r.1), .d (.bool r.2)]) [] := by
  unfold impl_colOf at H
  refine FnG.intro (T := T) (fn := Go.Proofs.Try.f33) (c := (Go.Proofs.Try.f33).body.getD .skip) [.agg (eGCol r.1), .d (.bool r.2)] (by kernel_rfl) (by kernel_rfl) (by kernel_rfl) hfol hT (by kernel_rfl) rfl rfl rfl rfl rfl ?_
  intro N ok out pl0 W0
  refine PW_top ?_
  conv => whnf
  obtain ⟨t, HTt, H⟩ := bind_some H
  refine CallG.gen [(1002000, 3)] [] (by rfl) (slices_IndexFunc_impl_Col_impl_Col_colOf_1_ok HTt) rfl rfl ⟨rfl, trivial⟩ trivial rfl rfl rfl rfl rfl rfl rfl rfl rfl ?_
  conv => whnf
  refine BranchG.ite H (fun HP H => ?_) (fun HP H => ?_)
  · obtain rfl := Option.some.inj H
    conv => whnf
    refine ⟨_, _, Cover.refl _ _, ?_⟩
    conv => whnf
    exact ⟨(by first | rfl | (simp only [List.map_cons, List.map_nil, eGExpr_eq]; first | done | rfl)), (by first | rfl | (simp only [List.map_cons, List.map_nil, eGExpr_eq]; first | done | rfl))⟩
  · conv => whnf
    refine IdxG.at (fun _ => rfl) H (fun e _ H => ?_)
    obtain rfl := Option.some.inj H
    conv => whnf
    refine ⟨_, _, Cover.refl _ _, ?_⟩
    conv => whnf
    exact ⟨(by first | rfl | (simp only [List.map_cons, List.map_nil, eGExpr_eq]; first | done | rfl)), (by first | rfl | (simp only [List.map_cons, List.map_nil, eGExpr_eq]; first | done | rfl))⟩

def impl_Eval_1 (name : Str) (c : (List GCol)) : Option (Bool × (List GCol)) :=
  (impl_colOf c name).bind fun t => some ((!t.2), c)

theorem impl_Eval_1_ok {name : Str} {c : (List GCol)} {r : (Bool × (List GCol))} (H : impl_Eval_1 name c = some r) : FnG Go.Proofs.Try.prog 32 [.d (.str name), .ptr 1000001 0] [(1000001, .box [.d (.sl (c.map eGCol))])] (.d (.bool r.1)) [(1000001, .box [.d (.sl (r.2.map eGCol))])] := by
  unfold impl_Eval_1 at H
  refine FnG.intro (T := T) (fn := Go.Proofs.Try.f32) (c := (Go.Proofs.Try.f32).body.getD .skip) [.d (.bool r.1)] (by kernel_rfl) (by kernel_rfl) (by kernel_rfl) hfol hT (by kernel_rfl) rfl rfl rfl rfl rfl ?_
  intro N ok out pl0 W0
  refine PW_top ?_
  conv => whnf
  obtain ⟨t, HTt, H⟩ := bind_some H
  refine CallG.pure (by first | rfl | (simp only [argsG, argsK, argG, List.map_cons, List.map_nil, eGExpr_eq]; first | done | rfl)) (impl_colOf_ok HTt) ?_
  obtain rfl := Option.some.inj H
  conv => whnf
  refine ⟨_, _, Cover.refl _ _, ?_⟩
  conv => whnf
  exact ⟨(by first | rfl | (simp only [List.map_cons, List.map_nil, eGExpr_eq]; first | done | rfl)), (by first | rfl | (simp only [List.map_cons, List.map_nil, eGExpr_eq]; first | done | rfl))⟩

def slices_IndexFunc_string_string_Eval_1_l1  : List Str → Nat → (List GCol) → Option (Sum (List GCol) (Int × (List GCol)))
  | [], i, c1 => some (Sum.inl c1)
  | x :: xs, i, c1 => (impl_Eval_1 x c1).bind fun t => if t.1 = true then (some (Sum.inr ((i : Int), t.2))) else (slices_IndexFunc_string_string_Eval_1_l1 xs (i + 1) t.2)

def slices_IndexFunc_string_string_Eval_1 (s : (List Str)) (c : (List GCol)) : Option (Int × (List GCol)) :=
  (slices_IndexFunc_string_string_Eval_1_l1 s 0 c).bind fun mt => match mt with | Sum.inl c2 => some ((-1), c2) | Sum.inr r => some r

theorem slices_IndexFunc_string_string_Eval_1_ok {s : (List Str)} {c : (List GCol)} {r : (Int × (List GCol))} (H : slices_IndexFunc_string_string_Eval_1 s c = some r) : FnG Go.Proofs.Try.prog 61 [.d (.sl (s.map eStr)), .fn 32 [] [1002000]] [(1002000, .box [.d (.sl (c.map eGCol))])] (.d (.int .i64 r.1)) [(1002000, .box [.d (.sl (r.2.map eGCol))])] := by
  unfold slices_IndexFunc_string_string_Eval_1 at H
  refine FnG.intro (T := T) (fn := Go.Proofs.Try.f61) (c := (Go.Proofs.Try.f61).body.getD .skip) [.d (.int .i64 r.1)] (by kernel_rfl) (by kernel_rfl) (by kernel_rfl) hfol hT (by kernel_rfl) rfl rfl rfl rfl rfl ?_
  intro N ok out pl0 W0
  refine PW_top ?_
  conv => whnf
  refine LenG.intro s.length (by simp only [List.length_map]) ?_
  conv => whnf
  refine LoopG.len 0 rfl (fun HL1 => ?_)
  rw [List.length_map] at HL1
  refine LoopG.listCut (σ := (List GCol)) (ε := (List GCol)) s (fun i SS => ([(0, .d (.sl (s.map eStr))), (1, .fn 32 [] [1002000]), (7, .d (.int .i64 (s.length : Int))), (8, .d (.int .i64 (i : Int)))], [(1002000, .box [.d (.sl (SS.map eGCol))])])) (fun i SS LL => slices_IndexFunc_string_string_Eval_1_l1 LL i SS) 0 (fun EE => ([(1, .fn 32 [] [1002000])], [(1002000, .box [.d (.sl (EE.map eGCol))])])) (fun e => Sum.inl e) c (Cover.list (fr' := [(0, .d (.sl (s.map eStr))), (1, .fn 32 [] [1002000]), (7, .d (.int .i64 (s.length : Int))), (8, .d (.int .i64 ((0 : Nat) : Int)))]) (ob' := [(1002000, .box [.d (.sl (c.map eGCol))])]) (⟨.inr rfl, ⟨.inl ⟨rfl, rfl⟩, ⟨.inr rfl, ⟨.inr rfl, trivial⟩⟩⟩⟩) (⟨⟨⟨.inr rfl, rfl⟩, trivial⟩, trivial⟩)) H ?_ ?_ ?_
  · rintro RES1 HR1 i c1 x HI1 HX1 H
    rw [slices_IndexFunc_string_string_Eval_1_l1] at H
    conv => whnf
    refine BranchG.t (decide_eq_true (by omega)) ?_
    conv => whnf
    refine IdxG.el (fun _ => rfl) rfl HX1 ?_
    conv => whnf
    obtain ⟨t, HTt, H⟩ := bind_some H
    refine CallG.gen [(1000001, 1002000)] [] (by rfl) (impl_Eval_1_ok HTt) rfl rfl ⟨rfl, trivial⟩ trivial rfl rfl rfl rfl rfl rfl rfl rfl rfl ?_
    conv => whnf
    refine BranchG.iteB H (fun HP H => ?_) (fun HP H => ?_)
    · obtain rfl := Option.some.inj H
      obtain rfl := Option.some.inj (HR1 : some _ = some _)
      conv => whnf
      refine ⟨_, _, Cover.refl _ _, ?_⟩
      conv => whnf
      exact ⟨(by first | rfl | (simp only [List.map_cons, List.map_nil, eGExpr_eq]; first | done | rfl)), (by first | rfl | (simp only [List.map_cons, List.map_nil, eGExpr_eq]; first | done | rfl))⟩
    · conv => whnf
      exact ⟨t.2, H, Cover.list (fr' := [(0, .d (.sl (s.map eStr))), (1, .fn 32 [] [1002000]), (7, .d (.int .i64 (s.length : Int))), (8, .d (.int .i64 ((i + 1 : Nat) : Int)))]) (ob' := [(1002000, .box [.d (.sl (t.2.map eGCol))])]) (⟨.inr rfl, ⟨.inl ⟨rfl, rfl⟩, ⟨.inr rfl, ⟨.inr (congrArg (fun n => some (PV.d (D.int .i64 n))) (wrapUp HI1 HL1)), trivial⟩⟩⟩⟩) (⟨⟨⟨.inr rfl, rfl⟩, trivial⟩, trivial⟩)⟩
  · rintro RES1 HR1 i c1 HI1 H
    rw [slices_IndexFunc_string_string_Eval_1_l1] at H
    conv => whnf
    refine BranchG.f (decide_eq_false (by omega)) ?_
    conv => whnf
    exact ⟨c1, (Option.some.inj H).symm, Cover.list (fr' := [(1, .fn 32 [] [1002000])]) (ob' := [(1002000, .box [.d (.sl (c1.map eGCol))])]) (⟨.inl ⟨rfl, rfl⟩, trivial⟩) (⟨⟨⟨.inr rfl, rfl⟩, trivial⟩, trivial⟩)⟩
  · rintro c2 H
    obtain rfl := Option.some.inj H
    conv => whnf
    refine ⟨_, _, Cover.refl _ _, ?_⟩
    conv => whnf
    exact ⟨(by first | rfl | (simp only [List.map_cons, List.map_nil, eGExpr_eq]; first | done | rfl)), (by first | rfl | (simp only [List.map_cons, List.map_nil, eGExpr_eq]; first | done | rfl))⟩
end Go.Pv.S
