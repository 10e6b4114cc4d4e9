import Derived.Test.YtondofmlippbcaaWPvZd
import Derived.Test.YtondofmlippbcaaWT
import Derived.Test.YtondofmlippbcaaWM0
set_option linter.unusedSimpArgs false
set_option linter.unusedVariables false
set_option maxRecDepth 100000
set_option maxHeartbeats 2000000
open Go Go.Pv
namespace Go.Pv.S
def laws_big (code : (List UInt8)) : Bool :=
  (decide ((code.length : Int) > 1048576))

theorem laws_big_ok (code : (List UInt8)) : FnG Go.Proofs.Try.prog 15 [.d (.sl (code.map eByte))] [] (.d (.bool (laws_big code))) [] := by
  generalize H : laws_big code = r
  unfold laws_big at H
  refine FnG.intro (T := T) (fn := Go.Proofs.Try.f15) (c := (Go.Proofs.Try.f15).body.getD .skip) [.d (.bool r)] (by kernel_rfl) (by kernel_rfl) (by kernel_rfl) hfol hT (by kernel_rfl) rfl rfl rfl rfl rfl ?_
  intro N ok out pl0 W0
  refine PW_top ?_
  conv => whnf
  refine LenG.intro code.length (by simp only [List.length_map]) ?_
  subst H
  conv => whnf
  refine ⟨_, _, Cover.refl _ _, ?_⟩
  conv => whnf
  exact ⟨rfl, rfl⟩

def laws_at (code : (List UInt8)) (i : Int) : Option Int :=
  if i < (code.length : Int) then ((at? code i).bind fun e => some (w64 ((e.toNat : Int)))) else (some ((w64 ((w64 (i * 7)) + (code.length : Int))).tmod 256))

theorem laws_at_ok {code : (List UInt8)} {i : Int} {r : Int} (H : laws_at code i = some r) : FnG Go.Proofs.Try.prog 16 [.d (.sl (code.map eByte)), .d (.int .i64 i)] [] (.d (.int .i64 r)) [] := by
  unfold laws_at at H
  refine FnG.intro (T := T) (fn := Go.Proofs.Try.f16) (c := (Go.Proofs.Try.f16).body.getD .skip) [.d (.int .i64 r)] (by kernel_rfl) (by kernel_rfl) (by kernel_rfl) hfol hT (by kernel_rfl) rfl rfl rfl rfl rfl ?_
  intro N ok out pl0 W0
  refine PW_top ?_
  conv => whnf
  refine LenG.intro code.length (by simp only [List.length_map]) ?_
  conv => whnf
  refine BranchG.ite H (fun HP H => ?_) (fun HP H => ?_)
  · conv => whnf
    refine IdxG.at (fun _ => rfl) H (fun e _ H => ?_)
    obtain rfl := Option.some.inj H
    conv => whnf
    refine ⟨_, _, Cover.refl _ _, ?_⟩
    conv => whnf
    exact ⟨rfl, rfl⟩
  · conv => whnf
    refine LenG.intro code.length (by simp only [List.length_map]) ?_
    conv => whnf
    refine ⟨by decide, ?_⟩
    obtain rfl := Option.some.inj H
    conv => whnf
    refine ⟨_, _, Cover.refl _ _, ?_⟩
    conv => whnf
    exact ⟨rfl, rfl⟩

structure GType_ where
  Kind : Int
  Len : Int
  Name : Str

def eGType_ (x : GType_) : List D := [.int .i64 x.Kind, .int .i64 x.Len, .str x.Name]

structure GExpr where
  Kind : Int
  Text : Str
  Num : Int
  Kids : (List GExpr)

mutual
def eGExpr : GExpr → List D
  | ⟨Kind, Text, Num, Kids⟩ => [.int .i64  Kind, .str  Text, .int .i64  Num, .sl (kGExpr  Kids)]
def kGExpr : List GExpr → List (List D)
  | [] => []
  | x :: xs => eGExpr x :: kGExpr xs
end
theorem kGExpr_eq : ∀ l : List GExpr, kGExpr l = l.map eGExpr
  | [] => rfl
  | x :: xs => by rw [kGExpr, kGExpr_eq xs]; rfl
def eGExpr1 (x : GExpr) : List D := [.int .i64 x.Kind, .str x.Text, .int .i64 x.Num, .sl (x.Kids.map eGExpr)]
theorem eGExpr_eq (x : GExpr) : eGExpr x = eGExpr1 x := by
  obtain ⟨Kind, Text, Num, Kids⟩ := x
  show ([.int .i64  Kind, .str  Text, .int .i64  Num, .sl (kGExpr  Kids)] : List D) = _
  rw [kGExpr_eq]; rfl

structure GCol where
  Name : Str
  Type_ : GType_
  NotNull : Bool
  Default : (List GExpr)

def eGCol (x : GCol) : List D := [.str x.Name, .int .i64 x.Type_.Kind, .int .i64 x.Type_.Len, .str x.Type_.Name, .bool x.NotNull, .sl (x.Default.map eGExpr)]

structure GValue where
  Kind : Int
  Num : Int
  Text : Str

def eGValue (x : GValue) : List D := [.int .i64 x.Kind, .int .i64 x.Num, .str x.Text]

structure GRow where
  Vals : (List GValue)

def eGRow (x : GRow) : List D := [.sl (x.Vals.map eGValue)]

def impl_within (n : Int) (low : Int) (high : Int) : Bool :=
  if n ≥ low then ((decide (n ≤ high))) else (false)

theorem impl_within_ok (n : Int) (low : Int) (high : Int) : FnG Go.Proofs.Try.prog 51 [.d (.int .i64 n), .d (.int .i64 low), .d (.int .i64 high)] [] (.d (.bool (impl_within n low high))) [] := by
  generalize H : impl_within n low high = r
  unfold impl_within at H
  refine FnG.intro (T := T) (fn := Go.Proofs.Try.f51) (c := (Go.Proofs.Try.f51).body.getD .skip) [.d (.bool r)] (by kernel_rfl) (by kernel_rfl) (by kernel_rfl) hfol hT (by kernel_rfl) rfl rfl rfl rfl rfl ?_
  intro N ok out pl0 W0
  refine PW_top ?_
  conv => whnf
  refine BranchG.ite H (fun HP H => ?_) (fun HP H => ?_)
  · subst H
    conv => whnf
    refine ⟨_, _, Cover.refl _ _, ?_⟩
    conv => whnf
    exact ⟨(by first | rfl | (simp only [List.map_cons, List.map_nil, eGExpr_eq]; first | done | rfl)), (by first | rfl | (simp only [List.map_cons, List.map_nil, eGExpr_eq]; first | done | rfl))⟩
  · subst H
    conv => whnf
    refine ⟨_, _, Cover.refl _ _, ?_⟩
    conv => whnf
    exact ⟨(by first | rfl | (simp only [List.map_cons, List.map_nil, eGExpr_eq]; first | done | rfl)), (by first | rfl | (simp only [List.map_cons, List.map_nil, eGExpr_eq]; first | done | rfl))⟩

def impl_kidsOf (kind : Int) : Int :=
  if kind ≤ 5 then (0) else (if kind ≤ 7 then (1) else (2))

theorem impl_kidsOf_ok (kind : Int) : FnG Go.Proofs.Try.prog 86 [.d (.int .i64 kind)] [] (.d (.int .i64 (impl_kidsOf kind))) [] := by
  generalize H : impl_kidsOf kind = r
  unfold impl_kidsOf at H
  refine FnG.intro (T := T) (fn := Go.Proofs.Try.f86) (c := (Go.Proofs.Try.f86).body.getD .skip) [.d (.int .i64 r)] (by kernel_rfl) (by kernel_rfl) (by kernel_rfl) hfol hT (by kernel_rfl) rfl rfl rfl rfl rfl ?_
  intro N ok out pl0 W0
  refine PW_top ?_
  conv => whnf
  refine BranchG.ite H (fun HP H => ?_) (fun HP H => ?_)
  · subst H
    conv => whnf
    refine ⟨_, _, Cover.refl _ _, ?_⟩
    conv => whnf
    exact ⟨(by first | rfl | (simp only [List.map_cons, List.map_nil, eGExpr_eq]; first | done | rfl)), (by first | rfl | (simp only [List.map_cons, List.map_nil, eGExpr_eq]; first | done | rfl))⟩
  · conv => whnf
    refine BranchG.ite H (fun HP H => ?_) (fun HP H => ?_)
    · subst H
      conv => whnf
      refine ⟨_, _, Cover.refl _ _, ?_⟩
      conv => whnf
      exact ⟨(by first | rfl | (simp only [List.map_cons, List.map_nil, eGExpr_eq]; first | done | rfl)), (by first | rfl | (simp only [List.map_cons, List.map_nil, eGExpr_eq]; first | done | rfl))⟩
    · subst H
      conv => whnf
      refine ⟨_, _, Cover.refl _ _, ?_⟩
      conv => whnf
      exact ⟨(by first | rfl | (simp only [List.map_cons, List.map_nil, eGExpr_eq]; first | done | rfl)), (by first | rfl | (simp only [List.map_cons, List.map_nil, eGExpr_eq]; first | done | rfl))⟩

def impl_NameOk (s : Str) : Option Bool :=
  if (impl_within (s.length : Int) 1 40) = true then ((strings_Contains s [0]).bind fun t => some (!t)) else (some false)

theorem impl_NameOk_ok {s : Str} {r : Bool} (H : impl_NameOk s = some r) : FnG Go.Proofs.Try.prog 52 [.d (.str s)] [] (.d (.bool r)) [] := by
  unfold impl_NameOk at H
  refine FnG.intro (T := T) (fn := Go.Proofs.Try.f52) (c := (Go.Proofs.Try.f52).body.getD .skip) [.d (.bool r)] (by kernel_rfl) (by kernel_rfl) (by kernel_rfl) hfol hT (by kernel_rfl) rfl rfl rfl rfl rfl ?_
  intro N ok out pl0 W0
  refine PW_top ?_
  conv => whnf
  refine CallG.pure (by first | rfl | (simp only [argsG, argsK, argG, List.map_cons, List.map_nil, eGExpr_eq]; first | done | rfl)) (impl_within_ok (s.length : Int) 1 40) ?_
  conv => whnf
  refine BranchG.iteB H (fun HP H => ?_) (fun HP H => ?_)
  · conv => whnf
    obtain ⟨t, HTt, H⟩ := bind_some H
    refine CallG.pure (by first | rfl | (simp only [argsG, argsK, argG, List.map_cons, List.map_nil, eGExpr_eq]; first | done | rfl)) (strings_Contains_ok HTt) ?_
    obtain rfl := Option.some.inj H
    conv => whnf
    refine ⟨_, _, Cover.refl _ _, ?_⟩
    conv => whnf
    exact ⟨(by first | rfl | (simp only [List.map_cons, List.map_nil, eGExpr_eq]; first | done | rfl)), (by first | rfl | (simp only [List.map_cons, List.map_nil, eGExpr_eq]; first | done | rfl))⟩
  · obtain rfl := Option.some.inj H
    conv => whnf
    refine ⟨_, _, Cover.refl _ _, ?_⟩
    conv => whnf
    exact ⟨(by first | rfl | (simp only [List.map_cons, List.map_nil, eGExpr_eq]; first | done | rfl)), (by first | rfl | (simp only [List.map_cons, List.map_nil, eGExpr_eq]; first | done | rfl))⟩

def slices_IndexFunc_impl_Expr_impl_Expr_isExpr_1_l1 (f_impl_isExpr_1 : (GExpr → Int → Option (Bool × Int))) : List GExpr → Nat → Int → Option (Sum Int (Int × Int))
  | [], i, c1 => some (Sum.inl c1)
  | x :: xs, i, c1 => (f_impl_isExpr_1 x c1).bind fun t => if t.1 = true then (some (Sum.inr ((i : Int), t.2))) else (slices_IndexFunc_impl_Expr_impl_Expr_isExpr_1_l1 f_impl_isExpr_1 xs (i + 1) t.2)

mutual
def impl_isExpr : Nat → GExpr → Int → Option (Bool × Int)
  | 0, _, _ => none
  | k + 1, e, left => if (w64 (left - 1)) < 0 then (some (false, (w64 (left - 1)))) else (if (impl_within e.Kind 0 18) = true then (if (e.Kids.length : Int) = (impl_kidsOf e.Kind) then (if e.Kind = 0 then ((impl_NameOk e.Text).bind fun t => if t = true then (if e.Kind = 2 then (if (e.Text.length : Int) > 100 then (if (e.Text.length : Int) > 100 then (some (false, (w64 (left - 1)))) else (if e.Kind = 1 then (if (impl_within e.Num 0 999999999) = true then (if e.Kind = 1 then (((slices_ContainsFunc_impl_Expr_impl_Expr_isExpr_1 k) e.Kids (w64 (left - 1))).bind fun t8 => some ((!t8.1), t8.2)) else (if e.Num = 0 then (((slices_ContainsFunc_impl_Expr_impl_Expr_isExpr_1 k) e.Kids (w64 (left - 1))).bind fun t7 => some ((!t7.1), t7.2)) else (some (false, (w64 (left - 1)))))) else (if (impl_within e.Num 0 999999999) = true then (((slices_ContainsFunc_impl_Expr_impl_Expr_isExpr_1 k) e.Kids (w64 (left - 1))).bind fun t6 => some ((!t6.1), t6.2)) else (some (false, (w64 (left - 1)))))) else (if e.Kind = 1 then (((slices_ContainsFunc_impl_Expr_impl_Expr_isExpr_1 k) e.Kids (w64 (left - 1))).bind fun t10 => some ((!t10.1), t10.2)) else (if e.Num = 0 then (((slices_ContainsFunc_impl_Expr_impl_Expr_isExpr_1 k) e.Kids (w64 (left - 1))).bind fun t9 => some ((!t9.1), t9.2)) else (some (false, (w64 (left - 1)))))))) else (if e.Kind = 0 then (if e.Kind = 1 then (if (impl_within e.Num 0 999999999) = true then (if e.Kind = 1 then (((slices_ContainsFunc_impl_Expr_impl_Expr_isExpr_1 k) e.Kids (w64 (left - 1))).bind fun t23 => some ((!t23.1), t23.2)) else (if e.Num = 0 then (((slices_ContainsFunc_impl_Expr_impl_Expr_isExpr_1 k) e.Kids (w64 (left - 1))).bind fun t22 => some ((!t22.1), t22.2)) else (some (false, (w64 (left - 1)))))) else (if (impl_within e.Num 0 999999999) = true then (((slices_ContainsFunc_impl_Expr_impl_Expr_isExpr_1 k) e.Kids (w64 (left - 1))).bind fun t21 => some ((!t21.1), t21.2)) else (some (false, (w64 (left - 1)))))) else (if e.Kind = 1 then (((slices_ContainsFunc_impl_Expr_impl_Expr_isExpr_1 k) e.Kids (w64 (left - 1))).bind fun t25 => some ((!t25.1), t25.2)) else (if e.Num = 0 then (((slices_ContainsFunc_impl_Expr_impl_Expr_isExpr_1 k) e.Kids (w64 (left - 1))).bind fun t24 => some ((!t24.1), t24.2)) else (some (false, (w64 (left - 1))))))) else (if e.Kind = 2 then (if e.Kind = 1 then (if (impl_within e.Num 0 999999999) = true then (if e.Kind = 1 then (((slices_ContainsFunc_impl_Expr_impl_Expr_isExpr_1 k) e.Kids (w64 (left - 1))).bind fun t18 => some ((!t18.1), t18.2)) else (if e.Num = 0 then (((slices_ContainsFunc_impl_Expr_impl_Expr_isExpr_1 k) e.Kids (w64 (left - 1))).bind fun t17 => some ((!t17.1), t17.2)) else (some (false, (w64 (left - 1)))))) else (if (impl_within e.Num 0 999999999) = true then (((slices_ContainsFunc_impl_Expr_impl_Expr_isExpr_1 k) e.Kids (w64 (left - 1))).bind fun t16 => some ((!t16.1), t16.2)) else (some (false, (w64 (left - 1)))))) else (if e.Kind = 1 then (((slices_ContainsFunc_impl_Expr_impl_Expr_isExpr_1 k) e.Kids (w64 (left - 1))).bind fun t20 => some ((!t20.1), t20.2)) else (if e.Num = 0 then (((slices_ContainsFunc_impl_Expr_impl_Expr_isExpr_1 k) e.Kids (w64 (left - 1))).bind fun t19 => some ((!t19.1), t19.2)) else (some (false, (w64 (left - 1))))))) else (if e.Text = ([] : Str) then (if e.Kind = 1 then (if (impl_within e.Num 0 999999999) = true then (if e.Kind = 1 then (((slices_ContainsFunc_impl_Expr_impl_Expr_isExpr_1 k) e.Kids (w64 (left - 1))).bind fun t13 => some ((!t13.1), t13.2)) else (if e.Num = 0 then (((slices_ContainsFunc_impl_Expr_impl_Expr_isExpr_1 k) e.Kids (w64 (left - 1))).bind fun t12 => some ((!t12.1), t12.2)) else (some (false, (w64 (left - 1)))))) else (if (impl_within e.Num 0 999999999) = true then (((slices_ContainsFunc_impl_Expr_impl_Expr_isExpr_1 k) e.Kids (w64 (left - 1))).bind fun t11 => some ((!t11.1), t11.2)) else (some (false, (w64 (left - 1)))))) else (if e.Kind = 1 then (((slices_ContainsFunc_impl_Expr_impl_Expr_isExpr_1 k) e.Kids (w64 (left - 1))).bind fun t15 => some ((!t15.1), t15.2)) else (if e.Num = 0 then (((slices_ContainsFunc_impl_Expr_impl_Expr_isExpr_1 k) e.Kids (w64 (left - 1))).bind fun t14 => some ((!t14.1), t14.2)) else (some (false, (w64 (left - 1))))))) else (some (false, (w64 (left - 1)))))))) else (if e.Kind = 0 then (if e.Kind = 1 then (if (impl_within e.Num 0 999999999) = true then (if e.Kind = 1 then (((slices_ContainsFunc_impl_Expr_impl_Expr_isExpr_1 k) e.Kids (w64 (left - 1))).bind fun t38 => some ((!t38.1), t38.2)) else (if e.Num = 0 then (((slices_ContainsFunc_impl_Expr_impl_Expr_isExpr_1 k) e.Kids (w64 (left - 1))).bind fun t37 => some ((!t37.1), t37.2)) else (some (false, (w64 (left - 1)))))) else (if (impl_within e.Num 0 999999999) = true then (((slices_ContainsFunc_impl_Expr_impl_Expr_isExpr_1 k) e.Kids (w64 (left - 1))).bind fun t36 => some ((!t36.1), t36.2)) else (some (false, (w64 (left - 1)))))) else (if e.Kind = 1 then (((slices_ContainsFunc_impl_Expr_impl_Expr_isExpr_1 k) e.Kids (w64 (left - 1))).bind fun t40 => some ((!t40.1), t40.2)) else (if e.Num = 0 then (((slices_ContainsFunc_impl_Expr_impl_Expr_isExpr_1 k) e.Kids (w64 (left - 1))).bind fun t39 => some ((!t39.1), t39.2)) else (some (false, (w64 (left - 1))))))) else (if e.Kind = 2 then (if e.Kind = 1 then (if (impl_within e.Num 0 999999999) = true then (if e.Kind = 1 then (((slices_ContainsFunc_impl_Expr_impl_Expr_isExpr_1 k) e.Kids (w64 (left - 1))).bind fun t33 => some ((!t33.1), t33.2)) else (if e.Num = 0 then (((slices_ContainsFunc_impl_Expr_impl_Expr_isExpr_1 k) e.Kids (w64 (left - 1))).bind fun t32 => some ((!t32.1), t32.2)) else (some (false, (w64 (left - 1)))))) else (if (impl_within e.Num 0 999999999) = true then (((slices_ContainsFunc_impl_Expr_impl_Expr_isExpr_1 k) e.Kids (w64 (left - 1))).bind fun t31 => some ((!t31.1), t31.2)) else (some (false, (w64 (left - 1)))))) else (if e.Kind = 1 then (((slices_ContainsFunc_impl_Expr_impl_Expr_isExpr_1 k) e.Kids (w64 (left - 1))).bind fun t35 => some ((!t35.1), t35.2)) else (if e.Num = 0 then (((slices_ContainsFunc_impl_Expr_impl_Expr_isExpr_1 k) e.Kids (w64 (left - 1))).bind fun t34 => some ((!t34.1), t34.2)) else (some (false, (w64 (left - 1))))))) else (if e.Text = ([] : Str) then (if e.Kind = 1 then (if (impl_within e.Num 0 999999999) = true then (if e.Kind = 1 then (((slices_ContainsFunc_impl_Expr_impl_Expr_isExpr_1 k) e.Kids (w64 (left - 1))).bind fun t28 => some ((!t28.1), t28.2)) else (if e.Num = 0 then (((slices_ContainsFunc_impl_Expr_impl_Expr_isExpr_1 k) e.Kids (w64 (left - 1))).bind fun t27 => some ((!t27.1), t27.2)) else (some (false, (w64 (left - 1)))))) else (if (impl_within e.Num 0 999999999) = true then (((slices_ContainsFunc_impl_Expr_impl_Expr_isExpr_1 k) e.Kids (w64 (left - 1))).bind fun t26 => some ((!t26.1), t26.2)) else (some (false, (w64 (left - 1)))))) else (if e.Kind = 1 then (((slices_ContainsFunc_impl_Expr_impl_Expr_isExpr_1 k) e.Kids (w64 (left - 1))).bind fun t30 => some ((!t30.1), t30.2)) else (if e.Num = 0 then (((slices_ContainsFunc_impl_Expr_impl_Expr_isExpr_1 k) e.Kids (w64 (left - 1))).bind fun t29 => some ((!t29.1), t29.2)) else (some (false, (w64 (left - 1))))))) else (some (false, (w64 (left - 1)))))))) else (if t = true then (if e.Kind = 1 then (if (impl_within e.Num 0 999999999) = true then (if e.Kind = 1 then (((slices_ContainsFunc_impl_Expr_impl_Expr_isExpr_1 k) e.Kids (w64 (left - 1))).bind fun t3 => some ((!t3.1), t3.2)) else (if e.Num = 0 then (((slices_ContainsFunc_impl_Expr_impl_Expr_isExpr_1 k) e.Kids (w64 (left - 1))).bind fun t2 => some ((!t2.1), t2.2)) else (some (false, (w64 (left - 1)))))) else (if (impl_within e.Num 0 999999999) = true then (((slices_ContainsFunc_impl_Expr_impl_Expr_isExpr_1 k) e.Kids (w64 (left - 1))).bind fun t1 => some ((!t1.1), t1.2)) else (some (false, (w64 (left - 1)))))) else (if e.Kind = 1 then (((slices_ContainsFunc_impl_Expr_impl_Expr_isExpr_1 k) e.Kids (w64 (left - 1))).bind fun t5 => some ((!t5.1), t5.2)) else (if e.Num = 0 then (((slices_ContainsFunc_impl_Expr_impl_Expr_isExpr_1 k) e.Kids (w64 (left - 1))).bind fun t4 => some ((!t4.1), t4.2)) else (some (false, (w64 (left - 1))))))) else (some (false, (w64 (left - 1)))))) else (if e.Kind = 2 then (if (e.Text.length : Int) > 100 then (if (e.Text.length : Int) > 100 then (some (false, (w64 (left - 1)))) else (if e.Kind = 1 then (if (impl_within e.Num 0 999999999) = true then (if e.Kind = 1 then (((slices_ContainsFunc_impl_Expr_impl_Expr_isExpr_1 k) e.Kids (w64 (left - 1))).bind fun t43 => some ((!t43.1), t43.2)) else (if e.Num = 0 then (((slices_ContainsFunc_impl_Expr_impl_Expr_isExpr_1 k) e.Kids (w64 (left - 1))).bind fun t42 => some ((!t42.1), t42.2)) else (some (false, (w64 (left - 1)))))) else (if (impl_within e.Num 0 999999999) = true then (((slices_ContainsFunc_impl_Expr_impl_Expr_isExpr_1 k) e.Kids (w64 (left - 1))).bind fun t41 => some ((!t41.1), t41.2)) else (some (false, (w64 (left - 1)))))) else (if e.Kind = 1 then (((slices_ContainsFunc_impl_Expr_impl_Expr_isExpr_1 k) e.Kids (w64 (left - 1))).bind fun t45 => some ((!t45.1), t45.2)) else (if e.Num = 0 then (((slices_ContainsFunc_impl_Expr_impl_Expr_isExpr_1 k) e.Kids (w64 (left - 1))).bind fun t44 => some ((!t44.1), t44.2)) else (some (false, (w64 (left - 1)))))))) else (if e.Kind = 0 then (if e.Kind = 1 then (if (impl_within e.Num 0 999999999) = true then (if e.Kind = 1 then (((slices_ContainsFunc_impl_Expr_impl_Expr_isExpr_1 k) e.Kids (w64 (left - 1))).bind fun t58 => some ((!t58.1), t58.2)) else (if e.Num = 0 then (((slices_ContainsFunc_impl_Expr_impl_Expr_isExpr_1 k) e.Kids (w64 (left - 1))).bind fun t57 => some ((!t57.1), t57.2)) else (some (false, (w64 (left - 1)))))) else (if (impl_within e.Num 0 999999999) = true then (((slices_ContainsFunc_impl_Expr_impl_Expr_isExpr_1 k) e.Kids (w64 (left - 1))).bind fun t56 => some ((!t56.1), t56.2)) else (some (false, (w64 (left - 1)))))) else (if e.Kind = 1 then (((slices_ContainsFunc_impl_Expr_impl_Expr_isExpr_1 k) e.Kids (w64 (left - 1))).bind fun t60 => some ((!t60.1), t60.2)) else (if e.Num = 0 then (((slices_ContainsFunc_impl_Expr_impl_Expr_isExpr_1 k) e.Kids (w64 (left - 1))).bind fun t59 => some ((!t59.1), t59.2)) else (some (false, (w64 (left - 1))))))) else (if e.Kind = 2 then (if e.Kind = 1 then (if (impl_within e.Num 0 999999999) = true then (if e.Kind = 1 then (((slices_ContainsFunc_impl_Expr_impl_Expr_isExpr_1 k) e.Kids (w64 (left - 1))).bind fun t53 => some ((!t53.1), t53.2)) else (if e.Num = 0 then (((slices_ContainsFunc_impl_Expr_impl_Expr_isExpr_1 k) e.Kids (w64 (left - 1))).bind fun t52 => some ((!t52.1), t52.2)) else (some (false, (w64 (left - 1)))))) else (if (impl_within e.Num 0 999999999) = true then (((slices_ContainsFunc_impl_Expr_impl_Expr_isExpr_1 k) e.Kids (w64 (left - 1))).bind fun t51 => some ((!t51.1), t51.2)) else (some (false, (w64 (left - 1)))))) else (if e.Kind = 1 then (((slices_ContainsFunc_impl_Expr_impl_Expr_isExpr_1 k) e.Kids (w64 (left - 1))).bind fun t55 => some ((!t55.1), t55.2)) else (if e.Num = 0 then (((slices_ContainsFunc_impl_Expr_impl_Expr_isExpr_1 k) e.Kids (w64 (left - 1))).bind fun t54 => some ((!t54.1), t54.2)) else (some (false, (w64 (left - 1))))))) else (if e.Text = ([] : Str) then (if e.Kind = 1 then (if (impl_within e.Num 0 999999999) = true then (if e.Kind = 1 then (((slices_ContainsFunc_impl_Expr_impl_Expr_isExpr_1 k) e.Kids (w64 (left - 1))).bind fun t48 => some ((!t48.1), t48.2)) else (if e.Num = 0 then (((slices_ContainsFunc_impl_Expr_impl_Expr_isExpr_1 k) e.Kids (w64 (left - 1))).bind fun t47 => some ((!t47.1), t47.2)) else (some (false, (w64 (left - 1)))))) else (if (impl_within e.Num 0 999999999) = true then (((slices_ContainsFunc_impl_Expr_impl_Expr_isExpr_1 k) e.Kids (w64 (left - 1))).bind fun t46 => some ((!t46.1), t46.2)) else (some (false, (w64 (left - 1)))))) else (if e.Kind = 1 then (((slices_ContainsFunc_impl_Expr_impl_Expr_isExpr_1 k) e.Kids (w64 (left - 1))).bind fun t50 => some ((!t50.1), t50.2)) else (if e.Num = 0 then (((slices_ContainsFunc_impl_Expr_impl_Expr_isExpr_1 k) e.Kids (w64 (left - 1))).bind fun t49 => some ((!t49.1), t49.2)) else (some (false, (w64 (left - 1))))))) else (some (false, (w64 (left - 1)))))))) else (if e.Kind = 0 then (if e.Kind = 1 then (if (impl_within e.Num 0 999999999) = true then (if e.Kind = 1 then (((slices_ContainsFunc_impl_Expr_impl_Expr_isExpr_1 k) e.Kids (w64 (left - 1))).bind fun t73 => some ((!t73.1), t73.2)) else (if e.Num = 0 then (((slices_ContainsFunc_impl_Expr_impl_Expr_isExpr_1 k) e.Kids (w64 (left - 1))).bind fun t72 => some ((!t72.1), t72.2)) else (some (false, (w64 (left - 1)))))) else (if (impl_within e.Num 0 999999999) = true then (((slices_ContainsFunc_impl_Expr_impl_Expr_isExpr_1 k) e.Kids (w64 (left - 1))).bind fun t71 => some ((!t71.1), t71.2)) else (some (false, (w64 (left - 1)))))) else (if e.Kind = 1 then (((slices_ContainsFunc_impl_Expr_impl_Expr_isExpr_1 k) e.Kids (w64 (left - 1))).bind fun t75 => some ((!t75.1), t75.2)) else (if e.Num = 0 then (((slices_ContainsFunc_impl_Expr_impl_Expr_isExpr_1 k) e.Kids (w64 (left - 1))).bind fun t74 => some ((!t74.1), t74.2)) else (some (false, (w64 (left - 1))))))) else (if e.Kind = 2 then (if e.Kind = 1 then (if (impl_within e.Num 0 999999999) = true then (if e.Kind = 1 then (((slices_ContainsFunc_impl_Expr_impl_Expr_isExpr_1 k) e.Kids (w64 (left - 1))).bind fun t68 => some ((!t68.1), t68.2)) else (if e.Num = 0 then (((slices_ContainsFunc_impl_Expr_impl_Expr_isExpr_1 k) e.Kids (w64 (left - 1))).bind fun t67 => some ((!t67.1), t67.2)) else (some (false, (w64 (left - 1)))))) else (if (impl_within e.Num 0 999999999) = true then (((slices_ContainsFunc_impl_Expr_impl_Expr_isExpr_1 k) e.Kids (w64 (left - 1))).bind fun t66 => some ((!t66.1), t66.2)) else (some (false, (w64 (left - 1)))))) else (if e.Kind = 1 then (((slices_ContainsFunc_impl_Expr_impl_Expr_isExpr_1 k) e.Kids (w64 (left - 1))).bind fun t70 => some ((!t70.1), t70.2)) else (if e.Num = 0 then (((slices_ContainsFunc_impl_Expr_impl_Expr_isExpr_1 k) e.Kids (w64 (left - 1))).bind fun t69 => some ((!t69.1), t69.2)) else (some (false, (w64 (left - 1))))))) else (if e.Text = ([] : Str) then (if e.Kind = 1 then (if (impl_within e.Num 0 999999999) = true then (if e.Kind = 1 then (((slices_ContainsFunc_impl_Expr_impl_Expr_isExpr_1 k) e.Kids (w64 (left - 1))).bind fun t63 => some ((!t63.1), t63.2)) else (if e.Num = 0 then (((slices_ContainsFunc_impl_Expr_impl_Expr_isExpr_1 k) e.Kids (w64 (left - 1))).bind fun t62 => some ((!t62.1), t62.2)) else (some (false, (w64 (left - 1)))))) else (if (impl_within e.Num 0 999999999) = true then (((slices_ContainsFunc_impl_Expr_impl_Expr_isExpr_1 k) e.Kids (w64 (left - 1))).bind fun t61 => some ((!t61.1), t61.2)) else (some (false, (w64 (left - 1)))))) else (if e.Kind = 1 then (((slices_ContainsFunc_impl_Expr_impl_Expr_isExpr_1 k) e.Kids (w64 (left - 1))).bind fun t65 => some ((!t65.1), t65.2)) else (if e.Num = 0 then (((slices_ContainsFunc_impl_Expr_impl_Expr_isExpr_1 k) e.Kids (w64 (left - 1))).bind fun t64 => some ((!t64.1), t64.2)) else (some (false, (w64 (left - 1))))))) else (some (false, (w64 (left - 1))))))))) else (some (false, (w64 (left - 1))))) else (some (false, (w64 (left - 1)))))

def slices_ContainsFunc_impl_Expr_impl_Expr_isExpr_1 : Nat → (List GExpr) → Int → Option (Bool × Int)
  | 0, _, _ => none
  | k + 1, s, c => ((slices_IndexFunc_impl_Expr_impl_Expr_isExpr_1 k) s c).bind fun t => some ((decide (t.1 ≥ 0)), t.2)

def slices_IndexFunc_impl_Expr_impl_Expr_isExpr_1 : Nat → (List GExpr) → Int → Option (Int × Int)
  | 0, _, _ => none
  | k + 1, s, c => (slices_IndexFunc_impl_Expr_impl_Expr_isExpr_1_l1 (impl_isExpr_1 k) s 0 c).bind fun mt => match mt with | Sum.inl c2 => some ((-1), c2) | Sum.inr r => some r

def impl_isExpr_1 : Nat → GExpr → Int → Option (Bool × Int)
  | 0, _, _ => none
  | k + 1, kid, c => ((impl_isExpr k) kid c).bind fun t => some ((!t.1), t.2)
end
end Go.Pv.S
