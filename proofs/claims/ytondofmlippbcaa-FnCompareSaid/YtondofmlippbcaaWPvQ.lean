import Derived.Test.YtondofmlippbcaaWPvP
import Derived.Orders
set_option linter.unusedVariables false
set_option linter.unusedSimpArgs false
namespace Go.Pv
variable {X : Ctx} {pl : Pl} {fr : Fr} {ob : Ob} {a : Act} {w : World}

/-- Every operation that is told of. -/
theorem core_ok (hT : TOk X) (op : Op) {dst : Option Nat} {ins : List PV} {lk : Nat → Obj} {K : PV → Ob → List Nat → Prop} (hd : ∀ d', dst = some d' → d' < X.E.nt) (h : evCore X.E op dst ins lk K) :
    ∃ v u t, K v u t ∧ CoreOk X op dst ins lk v u t := by
  cases op with
  | move x => exact core_move x hd h
  | assign x => exact core_assign x hd h
  | pick c x y => exact core_pick c x y hd h
  | alloc t => exact core_alloc hT t hd h
  | box t x => exact core_box t x hd h
  | build t ps => exact core_build hT t ps hd h
  | buildSlice t n ps => exact core_buildSlice hT t n ps hd h
  | load t x => exact core_load hT t x hd h
  | store t x y => exact core_store hT t x y hd h
  | nilCheck x => exact core_nilCheck x hd h
  | binOp op t x y yt => exact core_binOp hT op t yt x y hd h
  | unOp op t x => exact core_unOp op t x hd h
  | convert s t x => exact core_convert hT s t x hd h
  | makeFunc f fs cs => exact core_makeFunc f fs cs hd h
  | makeSlice t n c => exact core_makeSlice hT t n c hd h
  | slice t x lo hi mx => exact core_slice hT t x lo hi mx hd h
  | fieldAddr t x f => exact core_fieldAddr hT t x f hd h
  | field t x f => exact core_field hT t x f hd h
  | indexAddr t x i => exact core_indexAddr hT t x i hd h
  | index t x i => exact core_index t x i hT hd h
  | extract x i => exact core_extract x i hd h
  | call c =>
    cases hc : c.callee with
    | builtin b =>
      cases b with
      | len => exact core_len hT c hc hd h
      | append => exact core_append hT c hc hd h
      | max => exact core_max c hc hd h
      | min => exact core_min c hc hd h
      | _ => simp [evCore, hc] at h
    | value f => simp [evCore, hc] at h
    | invoke r m => simp [evCore, hc] at h
  | _ => simp [evCore] at h

end Go.Pv
