import Derived.Test.YtondofmlippbcaaWPvZd
import Derived.Test.YtondofmlippbcaaWT
import Derived.Test.YtondofmlippbcaaWTrystringsContains
import Derived.Test.YtondofmlippbcaaWPvCompact
import Derived.Shelf.SortM.SortNone
import Derived.Shelf.SortM.Plain
import Derived.Ground.SlgmProg
import Derived.Shelf.SlicesG.CompactS
import Derived.Ground.SlgnProg
set_option linter.unusedSimpArgs false
set_option linter.unusedVariables false
set_option maxRecDepth 100000
namespace Go.Proofs
open Go.RowKit Go.Sort Go.Shelf
shelf_lay_g SlLaysM.n6 Slgm 6 at Try 89 as Try.sortS
shelf_lay_g SlLaysN.n44 Slgn 44 at Try 90 as Try.compactS
end Go.Proofs
open Go Go.Pv Go.Proofs
namespace Go.Pv.S
/-- strings.Contains, at a substr of one byte -/
def strings_Contains (s sub : Str) : Option Bool :=
  match sub with
  | [c] => some (decide (0 ≤ Lib.indexByte s c))
  | _ => none
theorem strings_Contains_ok {s sub : Str} {r : Bool} (H : strings_Contains s sub = some r) : FnG Go.Proofs.Try.prog 84 [.d (.str s), .d (.str sub)] [] (.d (.bool r)) [] := by
  unfold strings_Contains at H
  split at H
  · rename_i c
    cases H
    refine FnOk.ofCalls (c := (Go.Proofs.Try.f84).body.getD .skip) (vals := [.string ⟨s.toArray⟩, .string ⟨#[c]⟩]) Go.Proofs.Try.func84 (by kernel_rfl) (by kernel_rfl) rfl rfl (fun l h => by cases h) fun w => ?_
    exact Go.Proofs.Try.strings_Contains_one ⟨s.toArray⟩ c w
  · cases H

/-- slices.Sort, of texts -/
def slices_Sort (l : List Str) : Option (List Str) := if l.length < 4611686018427387904 then some (l.mergeSort fun x y => decide (x ≤ y)) else none
theorem slices_Sort_ok {l : List Str} {r : List Str} (H : slices_Sort l = some r) : FnG Go.Proofs.Try.prog 89 [.own 1000000] [(1000000, .row 9 1 (l.map eStr))] .unit [(1000000, .row 9 1 (r.map eStr))] := by
  unfold slices_Sort at H
  split at H
  · rename_i h
    cases H
    exact FnG.sortRow (c := (Go.Proofs.Try.f89).body.getD .skip) Go.Proofs.Try.func89 (by kernel_rfl) (by kernel_rfl) (by simp) (fun s hs => by simpa using hs) (fun p cap w => AnyM.slices_Sort_string_none Go.Proofs.Try.sortS p cap w) (fun g cap w hH hg => AnyM.slices_Sort_string Go.Proofs.Try.sortS g 0 cap l w hH hg h)
  · cases H

/-- slices.Compact, of texts -/
def slices_Compact (l : List Str) : Option (List Str) := if l.length < 4611686018427387904 then some (Lib.compact l) else none
theorem slices_Compact_ok {l : List Str} {r : List Str} (H : slices_Compact l = some r) : FnG Go.Proofs.Try.prog 90 [.own 1000000] [(1000000, .row 9 1 (l.map eStr))] (.own 400000) [(1000000, .gone), (400000, .row 9 1 (r.map eStr))] := by
  unfold slices_Compact at H
  split at H
  · rename_i h
    cases H
    exact FnG.shortRow (c := (Go.Proofs.Try.f90).body.getD .skip) Go.Proofs.Try.func90 (by kernel_rfl) (by kernel_rfl) (compact_len l) (fun s hs => compact_mem l s hs) (fun p cap w => AnyG.slices_Compact_string_empty Go.Proofs.Try.compactS p cap w) (fun g cap w hH hg => AnyG.slices_Compact_string Go.Proofs.Try.compactS g 0 cap l w hH (by omega) hg)
  · cases H
end Go.Pv.S
