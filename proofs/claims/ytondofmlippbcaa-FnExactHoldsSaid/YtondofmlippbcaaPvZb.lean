import Derived.Test.YtondofmlippbcaaPvZa
set_option linter.unusedSimpArgs false
set_option linter.unusedVariables false
namespace Go.Pv

/-- A number, a truth value or a text, as the machine holds it. -/
def plainV : PV → Option Value
  | .d (.int k n) => some (.int k n)
  | .d (.bool b) => some (.bool b)
  | .d (.str s) => some (.string s)
  | _ => none

def plainVs : List PV → Option (List Value)
  | [] => some []
  | x :: l => match plainV x, plainVs l with | some y, some r => some (y :: r) | _, _ => none

theorem plainV_ok {w : World} {ok : Nat → Prop} {pl : Pl} {lk : Nat → Obj} {v v' : Value} {x : PV} (h : plainV x = some v') (hp : PRep w ok pl lk v x) : v = v' := by
  unfold plainV at h
  split at h
  · cases h; cases hp with | d hp => cases hp; rfl
  · cases h; cases hp with | d hp => cases hp; rfl
  · cases h; cases hp with | d hp => cases hp; rfl
  · cases h

theorem plainV_rep {w : World} {ok : Nat → Prop} {pl : Pl} {lk : Nat → Obj} {v : Value} {x : PV} (h : plainV x = some v) : PRep w ok pl lk v x := by
  unfold plainV at h
  split at h
  · cases h; exact .d (.int _ _)
  · cases h; exact .d (.bool _)
  · cases h; exact .d (.str _)
  · cases h

theorem plainVs_ok : ∀ (l : List PV) (vs : List Value), plainVs l = some vs → vs.length = l.length ∧ ∀ (i : Nat) (x : PV), l[i]? = some x → ∃ v, vs[i]? = some v ∧ plainV x = some v
  | [], vs, h => by simp [plainVs] at h; subst h; exact ⟨rfl, fun i x hi => by simp at hi⟩
  | y :: l, vs, h => by
    simp only [plainVs] at h
    split at h
    · rename_i v r h1 h2
      cases h
      obtain ⟨g1, g2⟩ := plainVs_ok l r h2
      refine ⟨by simp [g1], fun i x hi => ?_⟩
      cases i with
      | zero => simp at hi; subst hi; exact ⟨v, rfl, h1⟩
      | succ i => simpa using g2 i x (by simpa using hi)
    · cases h

/-- A contract of the shelf: of numbers and texts. -/
theorem FnOk.ofCalls {P : Program} {f : FuncId} {vs : List PV} {vals : List Value} {v : PV} {val : Value} {fn : Func} {c : Code} (hf : P.funcs[f]? = some fn) (hname : (fn.name == "runtime.NumGoroutine") = false) (hb : fn.body = some c)
    (hvs : plainVs vs = some vals) (hv : plainV v = some val) (h : ∀ w, Calls P f vals.toArray w fun e w' => e = .returned val ∧ w' = w) : FnOk P f vs v := by
  refine ⟨⟨fn, c, hf, hname, hb⟩, fun w ok pl lk xs hok hsz hxs => ?_⟩
  obtain ⟨g1, g2⟩ := plainVs_ok vs vals hvs
  have : xs = vals.toArray := by
    apply Array.ext
    · simp [hsz, g1]
    · intro i h1 h2
      have hi : i < vs.length := by omega
      obtain ⟨y, hy, hp⟩ := g2 i vs[i] (List.getElem?_eq_getElem hi)
      have h3 := plainV_ok hp (hxs i vs[i] (List.getElem?_eq_getElem hi))
      have h4 : xs.getD i undef = xs[i] := by simp [h1]
      have h5 : vals.toArray[i] = y := by
        have := List.getElem?_eq_some_iff.1 hy
        simpa using this.2
      rw [← h4, h3, h5]
  subst this
  refine Calls.mono (h w) ?_
  rintro e w' ⟨rfl, rfl⟩
  exact ⟨val, rfl, fun _ _ => plainV_rep hv, rfl, rfl, rfl, Nat.le_refl _, fun _ _ => rfl⟩

end Go.Pv
