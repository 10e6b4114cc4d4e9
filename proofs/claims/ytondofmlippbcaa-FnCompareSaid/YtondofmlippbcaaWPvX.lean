import Derived.Test.YtondofmlippbcaaWPvW
set_option linter.unusedSimpArgs false
set_option linter.unusedVariables false
namespace Go.Pv
variable {X : Ctx} {fr : Fr} {ob : Ob}

theorem BranchG.intro {b : Bool} {A B : Prop} (hA : b = true → A) (hB : b = false → B) : BranchG b A B := by
  cases b with
  | true => exact hA rfl
  | false => exact hB rfl
theorem BranchG.t {b : Bool} {A B : Prop} (h : b = true) (hA : A) : BranchG b A B := by subst h; exact hA
theorem BranchG.f {b : Bool} {A B : Prop} (h : b = false) (hB : B) : BranchG b A B := by subst h; exact hB

end Go.Pv
