import Derived.Test.YtondofmlippbcaaVPvZc
import Derived.Test.YtondofmlippbcaaVT
set_option linter.unusedSimpArgs false
set_option linter.unusedVariables false
set_option maxRecDepth 100000
open Go Go.Pv
namespace Go.Pv.S
structure GLabels where
  Name : Str
  List : (List Str)

def eGLabels (x : GLabels) : List D := [.str x.Name, .sl (x.List.map eStr)]

structure GSeq where
  Name : Str
  Start : Int

def eGSeq (x : GSeq) : List D := [.str x.Name, .int .i64 x.Start]

structure GType_ where
  Kind : Int
  Len : Int
  Name : Str

def eGType_ (x : GType_) : List D := [.int .i64 x.Kind, .int .i64 x.Len, .str x.Name]

structure GExpr where
  Kind : Int
  Text : Str
  Num : Int
  Kids : (List GExpr)

mutual
def eGExpr : GExpr → List D
  | ⟨Kind, Text, Num, Kids⟩ => [.int .i64  Kind, .str  Text, .int .i64  Num, .sl (kGExpr  Kids)]
def kGExpr : List GExpr → List (List D)
  | [] => []
  | x :: xs => eGExpr x :: kGExpr xs
end
theorem kGExpr_eq : ∀ l : List GExpr, kGExpr l = l.map eGExpr
  | [] => rfl
  | x :: xs => by rw [kGExpr, kGExpr_eq xs]; rfl
def eGExpr1 (x : GExpr) : List D := [.int .i64 x.Kind, .str x.Text, .int .i64 x.Num, .sl (x.Kids.map eGExpr)]
theorem eGExpr_eq (x : GExpr) : eGExpr x = eGExpr1 x := by
  obtain ⟨Kind, Text, Num, Kids⟩ := x
  show ([.int .i64  Kind, .str  Text, .int .i64  Num, .sl (kGExpr  Kids)] : List D) = _
  rw [kGExpr_eq]; rfl

structure GCol where
  Name : Str
  Type_ : GType_
  NotNull : Bool
  Default : (List GExpr)

def eGCol (x : GCol) : List D := [.str x.Name, .int .i64 x.Type_.Kind, .int .i64 x.Type_.Len, .str x.Type_.Name, .bool x.NotNull, .sl (x.Default.map eGExpr)]

structure GRule where
  Name : Str
  Kind : Int
  Cols : (List Str)
  Expr : (List GExpr)
  Table : Str
  To : (List Str)

def eGRule (x : GRule) : List D := [.str x.Name, .int .i64 x.Kind, .sl (x.Cols.map eStr), .sl (x.Expr.map eGExpr), .str x.Table, .sl (x.To.map eStr)]

structure GTable where
  Name : Str
  Cols : (List GCol)
  Rules : (List GRule)
  Token : Int

def eGTable (x : GTable) : List D := [.str x.Name, .sl (x.Cols.map eGCol), .sl (x.Rules.map eGRule), .int .i64 x.Token]

structure GIndex where
  Name : Str
  Table : Str
  Cols : (List Str)
  Unique : Bool

def eGIndex (x : GIndex) : List D := [.str x.Name, .str x.Table, .sl (x.Cols.map eStr), .bool x.Unique]

structure GView where
  Name : Str
  Table : Str
  Cols : (List Str)
  Where : (List GExpr)

def eGView (x : GView) : List D := [.str x.Name, .str x.Table, .sl (x.Cols.map eStr), .sl (x.Where.map eGExpr)]

structure GPlan where
  Enums : (List GLabels)
  Seqs : (List GSeq)
  Tables : (List GTable)
  Indexes : (List GIndex)
  Views : (List GView)
  Next : Int

def eGPlan (x : GPlan) : List D := [.sl (x.Enums.map eGLabels), .sl (x.Seqs.map eGSeq), .sl (x.Tables.map eGTable), .sl (x.Indexes.map eGIndex), .sl (x.Views.map eGView), .int .i64 x.Next]

structure GValue where
  Kind : Int
  Num : Int
  Text : Str

def eGValue (x : GValue) : List D := [.int .i64 x.Kind, .int .i64 x.Num, .str x.Text]

structure GRow where
  Vals : (List GValue)

def eGRow (x : GRow) : List D := [.sl (x.Vals.map eGValue)]

structure GRows where
  Table : Str
  List : (List GRow)

def eGRows (x : GRows) : List D := [.str x.Table, .sl (x.List.map eGRow)]

structure GStore where
  Plan : GPlan
  Data : (List GRows)

def eGStore (x : GStore) : List D := [.sl (x.Plan.Enums.map eGLabels), .sl (x.Plan.Seqs.map eGSeq), .sl (x.Plan.Tables.map eGTable), .sl (x.Plan.Indexes.map eGIndex), .sl (x.Plan.Views.map eGView), .int .i64 x.Plan.Next, .sl (x.Data.map eGRows)]

def laws_szStringS_l1  : List Str → Int → Option (Sum Int Int)
  | [], left1 => some (Sum.inl left1)
  | x :: xs, left1 => if (w64 (left1 - (x.length : Int))) < 0 then (some (Sum.inr (-1))) else (laws_szStringS_l1 xs (w64 (left1 - (x.length : Int))))

def laws_szStringS (a : (List Str)) (left : Int) : Option Int :=
  if (w64 (left - (a.length : Int))) < 0 then (some (-1)) else ((laws_szStringS_l1 a (w64 (left - (a.length : Int)))).bind fun t => match t with | Sum.inl left2 => some left2 | Sum.inr r => some r)

theorem laws_szStringS_ok {a : (List Str)} {left : Int} {r : Int} (H : laws_szStringS a left = some r) : FnG Go.Proofs.Try.prog 46 [.d (.sl (a.map eStr)), .d (.int .i64 left)] [] (.d (.int .i64 r)) [] := by
  unfold laws_szStringS at H
  refine FnG.intro (T := T) (fn := Go.Proofs.Try.f46) (c := (Go.Proofs.Try.f46).body.getD .skip) [.d (.int .i64 r)] (by kernel_rfl) (by kernel_rfl) (by kernel_rfl) hfol hT (by kernel_rfl) rfl rfl rfl rfl rfl ?_
  intro N ok out pl0 W0
  refine PW_top ?_
  conv => whnf
  refine LenG.intro a.length (by simp only [List.length_map]) ?_
  conv => whnf
  refine BranchG.ite H (fun HP H => ?_) (fun HP H => ?_)
  · obtain rfl := Option.some.inj H
    conv => whnf
    exact ⟨(by first | rfl | (simp only [List.map_cons, List.map_nil, eGExpr_eq]; first | done | rfl)), (by first | rfl | (simp only [List.map_cons, List.map_nil, eGExpr_eq]; first | done | rfl))⟩
  · conv => whnf
    refine LoopG.len 0 rfl (fun HL1 => ?_)
    rw [List.length_map] at HL1
    refine LoopG.listCut (σ := Int) (ε := Int) a (fun i SS => ([(0, .d (.sl (a.map eStr))), (1, .d (.int .i64 SS)), (5, .d (.int .i64 (i : Int)))], [])) (fun i SS LL => laws_szStringS_l1 LL SS) 0 (fun EE => ([(1, .d (.int .i64 EE))], [])) (fun e => Sum.inl e) (w64 (left - (a.length : Int))) (Cover.list (fr' := [(0, .d (.sl (a.map eStr))), (1, .d (.int .i64 (w64 (left - (a.length : Int))))), (5, .d (.int .i64 ((0 : Nat) : Int)))]) (ob' := []) (⟨.inr rfl, ⟨.inr rfl, ⟨.inr rfl, trivial⟩⟩⟩) (trivial)) H ?_ ?_ ?_
    · rintro RES1 HR1 i left1 x HI1 HX1 H
      rw [laws_szStringS_l1] at H
      conv => whnf
      refine LenG.intro a.length (by simp only [List.length_map]) ?_
      conv => whnf
      refine BranchG.t (decide_eq_true (by omega)) ?_
      conv => whnf
      refine IdxG.el (fun _ => rfl) rfl HX1 ?_
      conv => whnf
      refine BranchG.ite H (fun HP H => ?_) (fun HP H => ?_)
      · obtain rfl := Option.some.inj H
        obtain rfl := Option.some.inj (HR1 : some _ = some _)
        conv => whnf
        exact ⟨(by first | rfl | (simp only [List.map_cons, List.map_nil, eGExpr_eq]; first | done | rfl)), (by first | rfl | (simp only [List.map_cons, List.map_nil, eGExpr_eq]; first | done | rfl))⟩
      · conv => whnf
        exact ⟨(w64 (left1 - (x.length : Int))), H, Cover.list (fr' := [(0, .d (.sl (a.map eStr))), (1, .d (.int .i64 (w64 (left1 - (x.length : Int))))), (5, .d (.int .i64 ((i + 1 : Nat) : Int)))]) (ob' := []) (⟨.inr rfl, ⟨.inr rfl, ⟨.inr (congrArg (fun n => some (PV.d (D.int .i64 n))) (wrapUp HI1 HL1)), trivial⟩⟩⟩) (trivial)⟩
    · rintro RES1 HR1 i left1 HI1 H
      rw [laws_szStringS_l1] at H
      conv => whnf
      refine LenG.intro a.length (by simp only [List.length_map]) ?_
      conv => whnf
      refine BranchG.f (decide_eq_false (by omega)) ?_
      conv => whnf
      exact ⟨left1, (Option.some.inj H).symm, Cover.list (fr' := [(1, .d (.int .i64 left1))]) (ob' := []) (⟨.inr rfl, trivial⟩) (trivial)⟩
    · rintro left2 H
      obtain rfl := Option.some.inj H
      conv => whnf
      exact ⟨(by first | rfl | (simp only [List.map_cons, List.map_nil, eGExpr_eq]; first | done | rfl)), (by first | rfl | (simp only [List.map_cons, List.map_nil, eGExpr_eq]; first | done | rfl))⟩

def laws_szLabels (a : GLabels) (left : Int) : Option Int :=
  if (w64 (left - (a.Name.length : Int))) < 0 then (some (-1)) else ((laws_szStringS a.List (w64 (left - (a.Name.length : Int)))).bind fun t => if t < 0 then (some (-1)) else (some t))

theorem laws_szLabels_ok {a : GLabels} {left : Int} {r : Int} (H : laws_szLabels a left = some r) : FnG Go.Proofs.Try.prog 23 [.agg (eGLabels a), .d (.int .i64 left)] [] (.d (.int .i64 r)) [] := by
  unfold laws_szLabels at H
  refine FnG.intro (T := T) (fn := Go.Proofs.Try.f23) (c := (Go.Proofs.Try.f23).body.getD .skip) [.d (.int .i64 r)] (by kernel_rfl) (by kernel_rfl) (by kernel_rfl) hfol hT (by kernel_rfl) rfl rfl rfl rfl rfl ?_
  intro N ok out pl0 W0
  refine PW_top ?_
  conv => whnf
  refine BranchG.ite H (fun HP H => ?_) (fun HP H => ?_)
  · obtain rfl := Option.some.inj H
    conv => whnf
    exact ⟨(by first | rfl | (simp only [List.map_cons, List.map_nil, eGExpr_eq]; first | done | rfl)), (by first | rfl | (simp only [List.map_cons, List.map_nil, eGExpr_eq]; first | done | rfl))⟩
  · conv => whnf
    obtain ⟨t, HTt, H⟩ := bind_some H
    refine CallG.pure (by first | rfl | (simp only [argsG, argG, List.map_cons, List.map_nil, eGExpr_eq]; first | done | rfl)) (laws_szStringS_ok HTt) ?_
    conv => whnf
    refine BranchG.ite H (fun HP H => ?_) (fun HP H => ?_)
    · obtain rfl := Option.some.inj H
      conv => whnf
      exact ⟨(by first | rfl | (simp only [List.map_cons, List.map_nil, eGExpr_eq]; first | done | rfl)), (by first | rfl | (simp only [List.map_cons, List.map_nil, eGExpr_eq]; first | done | rfl))⟩
    · obtain rfl := Option.some.inj H
      conv => whnf
      exact ⟨(by first | rfl | (simp only [List.map_cons, List.map_nil, eGExpr_eq]; first | done | rfl)), (by first | rfl | (simp only [List.map_cons, List.map_nil, eGExpr_eq]; first | done | rfl))⟩

def laws_szLabelsS_l1  : List GLabels → Int → Option (Sum Int Int)
  | [], left1 => some (Sum.inl left1)
  | x :: xs, left1 => (laws_szLabels x left1).bind fun t => if t < 0 then (some (Sum.inr (-1))) else (laws_szLabelsS_l1 xs t)

def laws_szLabelsS (a : (List GLabels)) (left : Int) : Option Int :=
  if (w64 (left - (a.length : Int))) < 0 then (some (-1)) else ((laws_szLabelsS_l1 a (w64 (left - (a.length : Int)))).bind fun t => match t with | Sum.inl left2 => some left2 | Sum.inr r => some r)

theorem laws_szLabelsS_ok {a : (List GLabels)} {left : Int} {r : Int} (H : laws_szLabelsS a left = some r) : FnG Go.Proofs.Try.prog 8 [.d (.sl (a.map eGLabels)), .d (.int .i64 left)] [] (.d (.int .i64 r)) [] := by
  unfold laws_szLabelsS at H
  refine FnG.intro (T := T) (fn := Go.Proofs.Try.f8) (c := (Go.Proofs.Try.f8).body.getD .skip) [.d (.int .i64 r)] (by kernel_rfl) (by kernel_rfl) (by kernel_rfl) hfol hT (by kernel_rfl) rfl rfl rfl rfl rfl ?_
  intro N ok out pl0 W0
  refine PW_top ?_
  conv => whnf
  refine LenG.intro a.length (by simp only [List.length_map]) ?_
  conv => whnf
  refine BranchG.ite H (fun HP H => ?_) (fun HP H => ?_)
  · obtain rfl := Option.some.inj H
    conv => whnf
    exact ⟨(by first | rfl | (simp only [List.map_cons, List.map_nil, eGExpr_eq]; first | done | rfl)), (by first | rfl | (simp only [List.map_cons, List.map_nil, eGExpr_eq]; first | done | rfl))⟩
  · conv => whnf
    refine LoopG.len 0 rfl (fun HL1 => ?_)
    rw [List.length_map] at HL1
    refine LoopG.listCut (σ := Int) (ε := Int) a (fun i SS => ([(0, .d (.sl (a.map eGLabels))), (1, .d (.int .i64 SS)), (5, .d (.int .i64 (i : Int)))], [])) (fun i SS LL => laws_szLabelsS_l1 LL SS) 0 (fun EE => ([(1, .d (.int .i64 EE))], [])) (fun e => Sum.inl e) (w64 (left - (a.length : Int))) (Cover.list (fr' := [(0, .d (.sl (a.map eGLabels))), (1, .d (.int .i64 (w64 (left - (a.length : Int))))), (5, .d (.int .i64 ((0 : Nat) : Int)))]) (ob' := []) (⟨.inr rfl, ⟨.inr rfl, ⟨.inr rfl, trivial⟩⟩⟩) (trivial)) H ?_ ?_ ?_
    · rintro RES1 HR1 i left1 x HI1 HX1 H
      rw [laws_szLabelsS_l1] at H
      conv => whnf
      refine LenG.intro a.length (by simp only [List.length_map]) ?_
      conv => whnf
      refine BranchG.t (decide_eq_true (by omega)) ?_
      conv => whnf
      refine IdxG.el (fun _ => rfl) rfl HX1 ?_
      conv => whnf
      obtain ⟨t, HTt, H⟩ := bind_some H
      refine CallG.pure (by first | rfl | (simp only [argsG, argG, List.map_cons, List.map_nil, eGExpr_eq]; first | done | rfl)) (laws_szLabels_ok HTt) ?_
      conv => whnf
      refine BranchG.ite H (fun HP H => ?_) (fun HP H => ?_)
      · obtain rfl := Option.some.inj H
        obtain rfl := Option.some.inj (HR1 : some _ = some _)
        conv => whnf
        exact ⟨(by first | rfl | (simp only [List.map_cons, List.map_nil, eGExpr_eq]; first | done | rfl)), (by first | rfl | (simp only [List.map_cons, List.map_nil, eGExpr_eq]; first | done | rfl))⟩
      · conv => whnf
        exact ⟨t, H, Cover.list (fr' := [(0, .d (.sl (a.map eGLabels))), (1, .d (.int .i64 t)), (5, .d (.int .i64 ((i + 1 : Nat) : Int)))]) (ob' := []) (⟨.inr rfl, ⟨.inr rfl, ⟨.inr (congrArg (fun n => some (PV.d (D.int .i64 n))) (wrapUp HI1 HL1)), trivial⟩⟩⟩) (trivial)⟩
    · rintro RES1 HR1 i left1 HI1 H
      rw [laws_szLabelsS_l1] at H
      conv => whnf
      refine LenG.intro a.length (by simp only [List.length_map]) ?_
      conv => whnf
      refine BranchG.f (decide_eq_false (by omega)) ?_
      conv => whnf
      exact ⟨left1, (Option.some.inj H).symm, Cover.list (fr' := [(1, .d (.int .i64 left1))]) (ob' := []) (⟨.inr rfl, trivial⟩) (trivial)⟩
    · rintro left2 H
      obtain rfl := Option.some.inj H
      conv => whnf
      exact ⟨(by first | rfl | (simp only [List.map_cons, List.map_nil, eGExpr_eq]; first | done | rfl)), (by first | rfl | (simp only [List.map_cons, List.map_nil, eGExpr_eq]; first | done | rfl))⟩
end Go.Pv.S
