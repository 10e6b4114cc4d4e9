/-
  DERIVED: LAID BY THE SHELF's contract.sh OFF ITS TEMPLATE 'strings.Index' FOR THE PROGRAM 'Try' (the function's number there: 110). THE LIBRARY's OWN TEXT IS WALKED: nothing is assumed of it. ✋ AT A substr OF ONE BYTE ALONE (the everyday 'strings.Index(s, ",")'): of a longer one this contract says nothing. Behind the contract: ONE FALSE NEIGHBOUR, a contract that says a little too much, REFUTED. (The template: an AI agent of the authors' house; Sun.)
-/
import Derived.Test.YtondofmlippbcaaChecked
import Derived.Lib.Strings
import Derived.Lib.Slices
import Derived.Lib.Walk
import Derived.Lib.Bytealg
import Derived.Test.YtondofmlippbcaaWTryinternalstringsliteIndex
namespace Go.Proofs

set_option maxHeartbeats 1000000 in
/-- strings.Index: "Index returns the index of the first instance of substr in s, or -1 if substr is not present in s.": AT A substr OF ONE BYTE c: IT RETURNS 'Lib.indexByte s c'; the world is as it was. -/
theorem Try.strings_Index_one (s : ByteArray) (c : UInt8) (w : World) :
    Calls Try.prog 110 #[.string s, .string ⟨#[c]⟩] w fun e w' => e = .returned (.int .i64 (Lib.indexByte s.data.toList c)) ∧ w' = w := by
  go_enter Try.func110, Try.ntmps110
  go_wp2_with (go_at_call 126; refine (Try.stringslite_Index_one _ _ _).mono ?_; rintro e w' ⟨rfl, rfl⟩)
  go_ret
  exact ⟨rfl, rfl⟩

/-- A LITTLE TOO MUCH: 'the index of the LAST instance': falls at "aa", "a". -/
theorem Try.strings_Index_one_not : ¬ ∀ (s : ByteArray) (c : UInt8) (w : World),
    Calls Try.prog 110 #[.string s, .string ⟨#[c]⟩] w fun e w' => e = .returned (.int .i64 ((s.size : Int) - 1 - Lib.indexByte s.data.toList.reverse c)) ∧ w' = w := by
  intro h
  have e := Lib.agree (by kernel_rfl) (Try.strings_Index_one ⟨#[97, 97]⟩ 97 default) (h ⟨#[97, 97]⟩ 97 default)
  injection e with _ e
  revert e
  decide

#print axioms Try.strings_Index_one
#print axioms Try.strings_Index_one_not
end Go.Proofs
