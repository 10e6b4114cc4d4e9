/- Called with any Value, Type and list of Labels that can be read, FnExactHolds returns true, and each argument reads afterwards as it read before. No condition. -/
import Derived.Test.YtondofmlippbcaaA10
import Derived.Test.YtondofmlippbcaaPvRow
import Derived.Test.YtondofmlippbcaaRows
set_option linter.unusedSimpArgs false
set_option linter.unusedVariables false
set_option maxRecDepth 100000
open Go Go.Pv
open Go.ChangeShapes Go.WideShapes Go.ChangeAt Go.RowKit
namespace Go.Proofs.Ytondofmlippbcaa
open Go.Pv.Try

theorem okWide_agg {P : Program} {w : World} {r : Reach} {b : Nat} {t : TypeId} {v : Value} {fs : Array Field} (ht : P.underlying t = some (.struct fs)) (h : Value.okWide P w r b t v) : ∃ cs, v = .agg cs := by
  unfold Value.okWide at h
  rw [ht] at h
  obtain ⟨cs, h, _⟩ := h
  exact ⟨cs, h⟩

section
variable {H : Type} {enc : TypeId × Value → H} {w : World}
abbrev V3 := Int × Int × ByteArray
def eV (x : V3) : List D := [.int .i64 x.1, .int .i64 x.2.1, .str x.2.2]
theorem opens_v23 (n : Nat) : Opens enc Try.prog w 23 eV (fun x => x.2.2.size ≤ reachBytes) n := by
  refine opens_struct (β := Int × Int × ByteArray × Unit) (Ok' := fun y => (Lit.int .i64 y.1).wf = true ∧ (Lit.int .i64 y.2.1).wf = true ∧ y.2.2.1.size ≤ reachBytes ∧ True) Try.underlying23 (sz := 3) (by kernel_rfl) (fun x => rfl) (fun y => (y.1, y.2.1, y.2.2.1)) (fun y => rfl) (fun y h => h.2.2.1) fun m _ => ?_
  exact opensF_cons (n := 1) (by rfl) (by rfl) (by kernel_rfl) (fun _ => rfl) (opens_int (k := .i64) (by kernel_rfl) m) (opensF_cons (n := 1) (by rfl) (by rfl) (by kernel_rfl) (fun _ => rfl) (opens_int (k := .i64) (by kernel_rfl) m) (opensF_cons (n := 1) (by rfl) (by rfl) (by kernel_rfl) (fun _ => rfl) (opens_str (by kernel_rfl) m) (opensF_nil _ m)))
theorem opens_v25 (n : Nat) : Opens enc Try.prog w 25 eV (fun x => x.2.2.size ≤ reachBytes) n := by
  refine opens_struct (β := Int × Int × ByteArray × Unit) (Ok' := fun y => (Lit.int .i64 y.1).wf = true ∧ (Lit.int .i64 y.2.1).wf = true ∧ y.2.2.1.size ≤ reachBytes ∧ True) Try.underlying25 (sz := 3) (by kernel_rfl) (fun x => rfl) (fun y => (y.1, y.2.1, y.2.2.1)) (fun y => rfl) (fun y h => h.2.2.1) fun m _ => ?_
  exact opensF_cons (n := 1) (by rfl) (by rfl) (by kernel_rfl) (fun _ => rfl) (opens_int (k := .i64) (by kernel_rfl) m) (opensF_cons (n := 1) (by rfl) (by rfl) (by kernel_rfl) (fun _ => rfl) (opens_int (k := .i64) (by kernel_rfl) m) (opensF_cons (n := 1) (by rfl) (by rfl) (by kernel_rfl) (fun _ => rfl) (opens_str (by kernel_rfl) m) (opensF_nil _ m)))
theorem opens_labs (n : Nat) : Opens enc Try.prog w 26 (fun l : List Lab => [.sl (l.map eL)]) (fun l => l.length * 40 ≤ reachBytes ∧ ∀ x ∈ l, x.1.size ≤ reachBytes ∧ x.2.length * 16 ≤ reachBytes ∧ ∀ s ∈ x.2, s.size ≤ reachBytes) n := by
  refine opens_slice (sz := 2) (B := 40) Try.underlying26 (by kernel_rfl) (by kernel_rfl) (by omega) (fun x => rfl) n fun m _ => ?_
  refine opens_struct (β := ByteArray × List ByteArray × Unit) (g := fun y => [.str y.1] ++ ([.sl (y.2.1.map sR)] ++ [])) (Ok' := fun y => y.1.size ≤ reachBytes ∧ (y.2.1.length * 16 ≤ reachBytes ∧ ∀ s ∈ y.2.1, s.size ≤ reachBytes) ∧ True) Try.underlying79 (sz := 2) (by kernel_rfl) (fun x => rfl) (fun y => (y.1, y.2.1)) (fun y => rfl) (fun y h => ⟨h.1, h.2.1.1, h.2.1.2⟩) fun m _ => ?_
  have h2 : Opens enc Try.prog w 77 (fun l : List ByteArray => [.sl (l.map sR)]) (fun l => l.length * 16 ≤ reachBytes ∧ ∀ s ∈ l, s.size ≤ reachBytes) m :=
    opens_slice (f := sR) (sz := 1) (B := 16) Try.underlying77 (by kernel_rfl) (by kernel_rfl) (by omega) (fun x => rfl) m fun k _ => opens_str (by kernel_rfl) k
  exact opensF_cons (n := 1) (by rfl) (by rfl) (by kernel_rfl) (fun _ => rfl) (opens_str (by kernel_rfl) m) (opensF_cons (n := 1) (by rfl) (by rfl) (by kernel_rfl) (fun _ => rfl) h2 (opensF_nil _ m))
end

theorem own : ownKnob Try.prog.godebug = none := by kernel_rfl
theorem laidOut : laidOutB Try.prog = true := by kernel_rfl
theorem lifted (os : Os) (started : os.Started) (H : Type) (enc : TypeId × Value → H) :
    ReturnsInHanded {} Try.checked os 3 .any (Rows.fnExactHoldsSpec.pre6 enc Try.prog Try.f3 Rows.fnExactHoldsRow.domain false) (Rows.fnExactHoldsSpec.post enc Try.prog Try.f3 false true false false) := by
  refine returnsInHanded_of_change_sized (C := Try.checked) own started (by kernel_rfl) Try.func3
    (ChangeSpec.witness6 (enc := enc) (C := Try.checked) false ⟨#[], #[.agg #[.int .i64 0, .int .i64 0, .string ByteArray.empty], .agg #[.int .i64 0, .int .i64 0, .string ByteArray.empty], .slice none 0 0], []⟩ 8 (by kernel_rfl) (by kernel_rfl) (by kernel_rfl) (by kernel_rfl)) ?_
  intro W base args ds gs before hval0 hW hcnd hsz0 _
  have hsz : (DataW.weightsEach Try.prog (Try.f3.params.toList ++ Rows.fnExactHoldsSpec.plain.varTypes Try.prog) (ds ++ gs)).all (· ≤ reachBytes) = true := hsz0
  have hval : ∀ (j : Nat) t v, Try.f3.params[j]? = some t → args[j]? = some v → Value.okWide Try.prog W .any base t v := hval0
  have hW' := hW
  obtain ⟨p, q, hA0, hV, rfl, hfz, hnd⟩ := hW
  have hA : DataW.TrodAll enc Try.prog W 0 (fun _ => true) true Try.f3.params.toList args.toList ds p := hA0
  rw [show Try.f3.params = #[23, 25, 26] from rfl] at hA hval hsz
  obtain ⟨v0, vs0, d0, ds0, p0, q0, hargs, rfl, rfl, h0, r0⟩ := trodAll_cons hA
  obtain ⟨v1, vs1, d1, ds1, p1, q1, rfl, rfl, rfl, h1, r1⟩ := trodAll_cons r0
  obtain ⟨v2, vs2, d2, ds2, p2, q2, rfl, rfl, rfl, h2, r2⟩ := trodAll_cons r1
  obtain ⟨rfl, rfl, rfl⟩ := trodAll_nil r2
  obtain rfl : args = #[v0, v1, v2] := by cases args; simp_all
  obtain ⟨rfl, rfl⟩ := trodVars_none hV
  have hwt : ∀ (j : Nat) t d, [23, 25, 26][j]? = some t → [d0, d1, d2][j]? = some d → ∀ n ∈ d.weights Try.prog t, n ≤ reachBytes := fun j t d ht hd n hn => by
    have := List.all_eq_true.1 hsz n (DataW.weights_mem_each (j := j) (t := t) (d := d) (by rw [List.getElem?_append_left (by simpa using (List.getElem?_eq_some_iff.1 ht).1)]; exact ht) (by rw [List.getElem?_append_left (by simpa using (List.getElem?_eq_some_iff.1 hd).1)]; exact hd) n hn)
    simpa using this
  obtain ⟨x0, o0, e0⟩ := Opens.agg (fun n => opens_v23 n) (okWide_agg Try.underlying23 (hval 0 23 v0 rfl rfl)) h0 (hwt 0 _ _ rfl rfl)
  obtain ⟨x1, o1, e1⟩ := Opens.agg (fun n => opens_v25 n) (okWide_agg Try.underlying25 (hval 1 25 v1 rfl rfl)) h1 (hwt 1 _ _ rfl rfl)
  obtain ⟨x2, o2, e2⟩ := Opens.one (fun n => opens_labs n) (by obtain ⟨a, l, c, rfl⟩ := okWide_slice Try.underlying26 (hval 2 26 v2 rfl rfl); rfl) h2 (hwt 2 _ _ rfl rfl)
  have hr : reachBytes = 140737488351232 := rfl
  have hlaw := FnOk.law (vals := #[v0, v1, v2]) (ok3 x0.1 x0.2.1 x0.2.2 x1.1 x1.2.1 x1.2.2 x2 (by have : x0.2.2.size ≤ _ := o0; unfold valSmall; omega) (by have : x1.2.2.size ≤ _ := o1; unfold valSmall; omega)
    ⟨by have := o2.1; omega, fun x hx => ⟨by have := (o2.2 x hx).1; omega, by have := (o2.2 x hx).2.1; omega, fun s hs => by have := (o2.2 x hx).2.2 s hs; omega⟩⟩) rfl (fun i x hi pl lk => by
      match i with
      | 0 => simp at hi; subst hi; exact e0 pl lk
      | 1 => simp at hi; subst hi; exact e1 pl lk
      | 2 => simp at hi; subst hi; exact e2 pl lk
      | i + 3 => simp at hi)
  have k0 := h0
  have k1 := h1
  have k2 := h2
  have lt0 : ∀ x ∈ p0, x.block < W.heap.size := by obtain ⟨m, hm⟩ := k0; exact DataW.trod_lt m _ _ _ hm
  have lt1 : ∀ x ∈ p1, x.block < W.heap.size := by obtain ⟨m, hm⟩ := k1; exact DataW.trod_lt m _ _ _ hm
  have lt2 : ∀ x ∈ p2, x.block < W.heap.size := by obtain ⟨m, hm⟩ := k2; exact DataW.trod_lt m _ _ _ hm
  clear hA0 hval0 hsz0 hsz
  refine hlaw.mono fun e W' ⟨he, bel⟩ => ?_
  subst he
  exact ⟨_, rfl, _, _, _, [], _, [], hW', trodAll_mk1 (shut_bool Try.underlying4 _), trodAll_mk3 (Below.trod laidOut (by kernel_rfl) (of_decide_eq_true (by kernel_rfl)) k0 bel lt0) (Below.trod laidOut (by kernel_rfl) (of_decide_eq_true (by kernel_rfl)) k1 bel lt1) (Below.trod laidOut (by kernel_rfl) (of_decide_eq_true (by kernel_rfl)) k2 bel lt2), rfl, bel.frame _, fun h => by cases h⟩
theorem over : Rows.fnExactHoldsRow.holds Try.pinned (OpenSpec.ofChange Rows.fnExactHoldsSpec) :=
  OpenClaim.holds_of_wide 3 Try.f3 rfl rfl rfl rfl rfl rfl rfl ⟨rfl, rfl, rfl, rfl, rfl⟩ rfl rfl rfl rfl rfl (by kernel_rfl) Try.func3 (by kernel_rfl)
    (of_decide_eq_true (by kernel_rfl)) (by unfold Func.isWrapper; first | (rw [if_pos (by decide +kernel)]; kernel_rfl) | (rw [if_neg (by decide +kernel)]; exact ⟨rfl, rfl⟩))
    (fun os started H enc _ => lifted os started H enc)
theorem fnExactHolds_holds : Rows.FnExactHoldsSaid := over
#print axioms fnExactHolds_holds
end Go.Proofs.Ytondofmlippbcaa
