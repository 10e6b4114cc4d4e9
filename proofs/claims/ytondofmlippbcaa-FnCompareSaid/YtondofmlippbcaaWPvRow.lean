import Derived.Test.YtondofmlippbcaaWPvZc
import Derived.WalkKit
import Derived.ProofKit
import Derived.OpenShut
import Derived.ShutString
import Derived.ChangeOld
import Derived.Below
import Derived.SizedLaws
import Derived.DataElems
import Derived.Carry
set_option linter.unusedVariables false
set_option linter.unusedSimpArgs false
namespace Go.Pv

/-- The cells from an offset on are these data. -/
def RepAt (w : World) (cs : List Value) (o : Nat) (l : List D) : Prop := ∀ i y, l[i]? = some y → DRep w (fun b => b < w.heap.size) (cs.getD (o + i) undef) y

theorem RepAt.app {w : World} {cs : List Value} {o : Nat} {l m : List D} (h : RepAt w cs o l) (h' : RepAt w cs (o + l.length) m) : RepAt w cs o (l ++ m) := by
  intro i y hi
  rw [List.getElem?_append] at hi
  split at hi
  · exact h i y hi
  · have := h' (i - l.length) y hi
    rwa [show o + l.length + (i - l.length) = o + i by omega] at this

theorem RepAt.part {w : World} {cs : List Value} {o n : Nat} {l : List D} (h : RepAt w ((cs.drop o).take n) 0 l) (hl : l.length = n) : RepAt w cs o l := by
  intro i y hi
  have hlt : i < l.length := (List.getElem?_eq_some_iff.1 hi).1
  have := h i y hi
  rw [Nat.zero_add, List.getD_eq_getElem?_getD, List.getElem?_take, if_pos (by omega), List.getElem?_drop, ← List.getD_eq_getElem?_getD] at this
  exact this

section
variable {H : Type} {enc : TypeId × Value → H} {P : Program} {w : World}

/-- What is read at a type is data of this form. -/
def Opens (enc : TypeId × Value → H) (P : Program) (w : World) (t : TypeId) {α : Type} (f : α → List D) (Ok : α → Prop) (fuel : Nat) : Prop :=
  ∀ cs x, DataW.trod enc P w 0 (fun _ => true) true fuel t cs = some x → (∀ n ∈ x.1.weights P t, n ≤ reachBytes) → ∃ y : α, Ok y ∧ cs.length = (f y).length ∧ RepAt w cs 0 (f y)

theorem opens_int {t : TypeId} {k : IntKind} (ht : P.underlying t = some (.int k)) (fuel : Nat) : Opens enc P w t (fun n : Int => [.int k n]) (fun n => (Lit.int k n).wf = true) fuel := by
  intro cs x h _
  obtain ⟨n, rfl, _, hw⟩ := DataW.trod_int ht h
  refine ⟨n, hw, rfl, fun i y hi => ?_⟩
  match i with
  | 0 => simp at hi; subst hi; exact .int k n
  | i + 1 => simp at hi

theorem opens_byte {t : TypeId} (ht : P.underlying t = some (.int .u8)) (fuel : Nat) : Opens enc P w t (fun n : UInt8 => [.int .u8 n.toNat]) (fun _ => True) fuel := by
  intro cs x h hw
  obtain ⟨n, h1, h2, h3⟩ := opens_int (k := .u8) ht fuel cs x h hw
  have hb : 0 ≤ n ∧ n < 256 := by
    have : (Lit.int .u8 n).wf = true := h1
    simp only [Lit.wf, Bool.and_eq_true, decide_eq_true_eq] at this
    have m1 : IntKind.u8.min = 0 := by decide
    have m2 : IntKind.u8.max = 255 := by decide
    omega
  refine ⟨UInt8.ofNat n.toNat, trivial, h2, ?_⟩
  have : ((UInt8.ofNat n.toNat).toNat : Int) = n := by
    rw [UInt8.toNat_ofNat']; omega
  show RepAt w cs 0 [D.int .u8 ((UInt8.ofNat n.toNat).toNat : Int)]
  rw [this]; exact h3

theorem opens_bool {t : TypeId} (ht : P.underlying t = some .bool) (fuel : Nat) : Opens enc P w t (fun n : Bool => [.bool n]) (fun _ => True) fuel := by
  intro cs x h _
  obtain ⟨n, rfl, _⟩ := DataW.trod_bool ht h
  refine ⟨n, trivial, rfl, fun i y hi => ?_⟩
  match i with
  | 0 => simp at hi; subst hi; exact .bool n
  | i + 1 => simp at hi

theorem opens_str {t : TypeId} (ht : P.underlying t = some .string) (fuel : Nat) : Opens enc P w t (fun s : List UInt8 => [.str s]) (fun s => (s.length : Int) ≤ 140737488351232) fuel := by
  intro cs x h hw
  obtain ⟨s, rfl, rfl, hs⟩ := DataW.trod_string ht h
  have hb : s.size ≤ reachBytes := by
    have := hw s.data.toList.length (by simp [DataW.weights])
    simpa using this
  have hr : reachBytes = 140737488351232 := rfl
  refine ⟨s.data.toList, ?_, rfl, fun i y hi => ?_⟩
  · have : s.data.toList.length = s.size := by simp
    omega
  · match i with
    | 0 => simp at hi; subst hi; exact .str s (by unfold maxLen; omega)
    | i + 1 => simp at hi

theorem weightsAll_mem {e : TypeId} {d : DataW H} {n : Nat} (hn : n ∈ d.weights P e) : ∀ (l : List (DataW H)), d ∈ l → n ∈ DataW.weightsAll P e l
  | [], h => by cases h
  | x :: r, h => by
    simp only [DataW.weightsAll, List.mem_append]
    rcases List.mem_cons.1 h with rfl | h
    · exact .inl hn
    · exact .inr (weightsAll_mem hn r h)

theorem opens_slice {t e : TypeId} {α : Type} {f : α → List D} {Ok : α → Prop} {sz B : Nat} (ht : P.underlying t = some (.slice e)) (hsz : P.cellsOf e = sz) (hB : P.bytesOf e = B) (hB1 : 1 ≤ B) (hpos : 0 < sz) (hf : ∀ x, (f x).length = sz) (fuel : Nat) (he : ∀ m, m < fuel → Opens enc P w e f Ok m) :
    Opens enc P w t (fun l : List α => [.sl (l.map f)]) (fun l => (l.length : Int) ≤ 140737488351232 ∧ ∀ x ∈ l, Ok x) fuel := by
  have hr : reachBytes = 140737488351232 := rfl
  intro cs x h hw
  rcases DataW.trod_slice ht h with ⟨rfl, rfl⟩ | ⟨a, len, cap, elems, rest, n, rfl, rfl, rfl, hb, hlc, hcm, hel, hcell, _, _⟩
  · refine ⟨[], ⟨by simp, fun x hx => by cases hx⟩, rfl, fun i y hi => ?_⟩
    match i with
    | 0 => simp at hi; subst hi; exact .nil
    | i + 1 => simp at hi
  · have hone : ∀ i, i < len → ∃ (y : α) (c : List Value), Ok y ∧ c.length = sz ∧ w.cells? 0 (a.add (i * P.cellsOf e)) (P.cellsOf e) = some c ∧ RepAt w c 0 (f y) := fun i hi => by
      have hc := hcell i hi
      have : ∃ z, elems[i]? = some z := ⟨elems[i]'(by omega), List.getElem?_eq_getElem _⟩
      obtain ⟨z, hz⟩ := this
      rw [hz] at hc
      cases hcs : w.cells? 0 (a.add (i * P.cellsOf e)) (P.cellsOf e) with
      | none => rw [hcs] at hc; cases hc
      | some c =>
        rw [hcs] at hc
        obtain ⟨y, h1, h2, h3⟩ := he n (by omega) c z hc fun m hm => hw m (by
          simp only [DataW.weights, ht, List.mem_cons, List.mem_append]
          exact .inr (.inl (weightsAll_mem hm _ (List.mem_map.2 ⟨z, List.mem_of_getElem? hz, rfl⟩))))
        exact ⟨y, c, h1, by rw [h2, hf], rfl, h3⟩
    have hlist : ∀ k, k ≤ len → ∃ l : List α, l.length = k ∧ ∀ i y, l[i]? = some y → Ok y ∧ ∃ c, c.length = sz ∧ w.cells? 0 (a.add (i * P.cellsOf e)) (P.cellsOf e) = some c ∧ RepAt w c 0 (f y) := by
      intro k
      induction k with
      | zero => intro _; exact ⟨[], rfl, fun i y hi => by simp at hi⟩
      | succ k ih =>
        intro hk
        obtain ⟨l, hl, hi⟩ := ih (by omega)
        obtain ⟨y, c, h1, h2, h3, h4⟩ := hone k (by omega)
        refine ⟨l ++ [y], by simp [hl], fun i z hz => ?_⟩
        rw [List.getElem?_append] at hz
        split at hz
        · exact hi i z hz
        · have : i = k := by
            have := (List.getElem?_eq_some_iff.1 hz).1
            simp at this; omega
          subst this
          simp [hl] at hz
          subst hz
          exact ⟨h1, c, h2, h3, h4⟩
    obtain ⟨l, hl, hall⟩ := hlist len (Nat.le_refl _)
    have hcap : elems.length + rest.length ≤ reachBytes := by
      have := hw ((elems.length + rest.length) * P.bytesOf e) (by simp [DataW.weights, ht])
      rw [hB] at this
      exact Nat.le_trans (Nat.le_mul_of_pos_right _ hB1) this
    refine ⟨l, ⟨?_, fun x hx => ?_⟩, rfl, fun i y hi => ?_⟩
    · omega
    · obtain ⟨i, hi, rfl⟩ := List.mem_iff_getElem.1 hx
      exact (hall i _ (List.getElem?_eq_getElem hi)).1
    · match i with
      | i + 1 => simp at hi
      | 0 =>
        simp at hi; subst hi
        have hlen : (l.map f).length = len := by simp [hl]
        have := DRep.sl (w := w) (ok := fun b => b < w.heap.size) a cap sz (l.map f) (fun k => (w.cell? (a.add k)).getD undef) (by omega) (by first | exact hcm | (unfold maxLen; trace_state; omega)) (fun hne => ?_) (fun r hr => ?_) (fun i r hi j x hj => ?_) (fun i r hi j x hj => ?_)
        · rw [hlen] at this; exact this
        · obtain ⟨x0, hx0⟩ : ∃ x0, l[0]? = some x0 := by
            cases l with
            | nil => exact absurd rfl hne
            | cons x0 _ => exact ⟨x0, rfl⟩
          obtain ⟨_, c, q1, q2, q3⟩ := hall 0 x0 hx0
          obtain ⟨_, _, q4⟩ := World.cells?_some q2
          have hb := World.cells?_block q2 (by omega)
          simpa [add_block] using hb
        · obtain ⟨x, _, rfl⟩ := List.mem_map.1 hr; exact hf x
        · rw [List.getElem?_map] at hi
          cases hx : l[i]? with
          | none => rw [hx] at hi; cases hi
          | some z =>
            rw [hx] at hi; cases hi
            obtain ⟨_, c, q1, q2, q3⟩ := hall i z hx
            obtain ⟨_, _, q4⟩ := World.cells?_some q2
            have hjl := (List.getElem?_eq_some_iff.1 hj).1
            rw [hf] at hjl
            have := q4 j (by omega)
            rw [hsz, Addr.add_add] at this
            rw [this, List.getElem?_eq_getElem (by omega : j < c.length)]; rfl
        · rw [List.getElem?_map] at hi
          cases hx : l[i]? with
          | none => rw [hx] at hi; cases hi
          | some z =>
            rw [hx] at hi; cases hi
            obtain ⟨_, c, q1, q2, q3⟩ := hall i z hx
            obtain ⟨_, _, q4⟩ := World.cells?_some q2
            have hjl := (List.getElem?_eq_some_iff.1 hj).1
            rw [hf] at hjl
            have := q4 j (by omega)
            rw [hsz, Addr.add_add] at this
            have q5 := q3 j x hj
            rw [this]
            rw [Nat.zero_add, List.getD_eq_getElem?_getD] at q5
            exact q5

/-- Fields from an offset on. -/
def OpensF (enc : TypeId × Value → H) (P : Program) (w : World) (o : Nat) (fs : List Field) {α : Type} (f : α → List D) (Ok : α → Prop) (fuel : Nat) : Prop :=
  ∀ (cs : List Value) (xs : List (DataW H × List MemPlace)), xs.length = fs.length → (∀ (i : Nat) (fl : Field), fs[i]? = some fl → DataW.trod enc P w 0 (fun _ => true) true fuel fl.type ((cs.drop fl.offset).take (P.cellsOf fl.type)) = xs[i]?) →
    (∀ (i : Nat) (fl : Field) x, fs[i]? = some fl → xs[i]? = some x → ∀ n ∈ x.1.weights P fl.type, n ≤ reachBytes) → ∃ y : α, Ok y ∧ RepAt w cs o (f y)

theorem opensF_nil (o : Nat) (fuel : Nat) : OpensF enc P w o [] (fun _ : Unit => []) (fun _ => True) fuel := fun cs xs _ _ _ => ⟨(), trivial, fun i y hi => by simp at hi⟩

theorem opensF_cons {o n : Nat} {fl : Field} {fs : List Field} {α β : Type} {f : α → List D} {g : β → List D} {Ok : α → Prop} {Ok' : β → Prop} {fuel : Nat} {t : TypeId} (ho : fl.offset = o) (ht : fl.type = t) (hn : P.cellsOf t = n) (hf : ∀ x, (f x).length = n)
    (h : Opens enc P w t f Ok fuel) (h' : OpensF enc P w (o + n) fs g Ok' fuel) : OpensF enc P w o (fl :: fs) (fun p : α × β => f p.1 ++ g p.2) (fun p => Ok p.1 ∧ Ok' p.2) fuel := by
  subst ht
  intro cs xs hl hx hw
  match xs, hl with
  | x :: xs, hl =>
    obtain ⟨y, h1, h2, h3⟩ := h _ x (hx 0 fl rfl) fun m hm => hw 0 fl x rfl rfl m hm
    obtain ⟨z, k1, k2⟩ := h' cs xs (by simpa using hl) (fun i g hg => hx (i + 1) g hg) (fun i g x' hg hx' => hw (i + 1) g x' hg hx')
    refine ⟨(y, z), ⟨h1, k1⟩, RepAt.app ?_ ?_⟩
    · rw [ho] at h3; exact h3.part (by rw [hf, hn])
    · rw [hf]; exact k2

theorem opens_struct {t : TypeId} {fs : Array Field} {α β : Type} {g : β → List D} {f : α → List D} {Ok : α → Prop} {Ok' : β → Prop} {sz fuel : Nat} (ht : P.underlying t = some (.struct fs)) (hsz : P.cellsOf t = sz) (hf : ∀ x, (f x).length = sz)
    (mk : β → α) (hmk : ∀ y, f (mk y) = g y) (hok : ∀ y, Ok' y → Ok (mk y)) (h : ∀ m, m < fuel → OpensF enc P w 0 fs.toList g Ok' m) : Opens enc P w t f Ok fuel := by
  intro cs x hx hw
  obtain ⟨xs, n, rfl, rfl, hl, hxl, hall⟩ := DataW.trod_struct ht hx
  obtain ⟨y, h1, h2⟩ := h n (by omega) cs xs (by simpa using hxl) (fun i fl hi => hall i fl (by simpa using hi)) (fun i fl x hi hx m hm => hw m (by
    simp only [DataW.weights, ht]
    exact DataW.weights_mem_each (j := i) (t := fl.type) (d := x.1) (by simp [hi]) (by simp [hx]) m hm))
  exact ⟨mk y, hok y h1, by rw [hl, hf, hsz], by rw [hmk]; exact h2⟩

/-- An argument. -/
theorem Opens.agg {t : TypeId} {α : Type} {f : α → List D} {Ok : α → Prop} {v : Value} {d : DataW H} {ps : List MemPlace} (h : ∀ n, Opens enc P w t f Ok n) (ha : ∃ cs, v = .agg cs) (hd : DataW.Trod enc P w 0 (fun _ => true) true t v d ps) (hw : ∀ n ∈ d.weights P t, n ≤ reachBytes) :
    ∃ y, Ok y ∧ ∀ pl lk, PRep w (fun b => b < w.heap.size) pl lk v (.agg (f y)) := by
  obtain ⟨cs, rfl⟩ := ha
  obtain ⟨n, hn⟩ := hd
  obtain ⟨y, h1, h2, h3⟩ := h n _ _ hn hw
  refine ⟨y, h1, fun pl lk => .agg (by simpa [Value.cells] using h2) fun i x hi => ?_⟩
  have := h3 i x hi
  rw [Nat.zero_add, List.getD_eq_getElem?_getD] at this
  rw [Array.getD_eq_getD_getElem?]
  simpa [Value.cells] using this

theorem Opens.one {t : TypeId} {α : Type} {f : α → D} {Ok : α → Prop} {v : Value} {d : DataW H} {ps : List MemPlace} (h : ∀ n, Opens enc P w t (fun x => [f x]) Ok n) (ha : v.cells = #[v]) (hd : DataW.Trod enc P w 0 (fun _ => true) true t v d ps) (hw : ∀ n ∈ d.weights P t, n ≤ reachBytes) :
    ∃ y, Ok y ∧ ∀ pl lk, PRep w (fun b => b < w.heap.size) pl lk v (.d (f y)) := by
  obtain ⟨n, hn⟩ := hd
  obtain ⟨y, h1, h2, h3⟩ := h n _ _ hn hw
  refine ⟨y, h1, fun pl lk => .d ?_⟩
  have := h3 0 (f y) rfl
  rw [ha] at this
  exact this
end

/-- A law's function, by its contract. -/
theorem FnOk.law {P : Program} {f : FuncId} {vs : List PV} {vals : Array Value} {W : World} (h : FnOk P f vs (.d (.bool true))) (hs : vals.size = vs.length) (hv : ∀ i x, vs[i]? = some x → ∀ pl lk, PRep W (fun b => b < W.heap.size) pl lk (vals.getD i undef) x) :
    Calls P f vals W fun e W' => e = .returned (.bool true) ∧ RowKit.Below W.heap.size W W' := by
  refine (h.2 W (fun b => b < W.heap.size) ⟨fun _ => 0, fun _ => undef⟩ vals (fun b hb => hb) hs (fun i x hi => hv i x hi _ _) (fun id => trivial) (fun id id' b h => by cases h) (fun id b h => by cases h)).mono fun e W' he => ?_
  obtain ⟨val, pl', rfl, _, ok', _, hp, _, _, _, _, _, hos, htape, hout, hsz, hheap⟩ := he
  cases hp with
  | d h => cases h; exact ⟨rfl, hos, htape, hout, hsz, fun k hk => hheap k hk (fun id h => by cases h)⟩

end Go.Pv
