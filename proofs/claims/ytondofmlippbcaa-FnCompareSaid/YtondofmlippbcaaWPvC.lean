import Derived.Test.YtondofmlippbcaaWPvB
import Derived.Laws.Sem
import Derived.Laws.CopyRow
import Derived.Laws.Rows
import Derived.Deep.MidRow
set_option linter.unusedVariables false
set_option linter.unusedSimpArgs false
namespace Go.Pv

/-- Fields that are numbers, bools and texts, one behind the other. -/
def FlatOk (P : Program) : List TK → Nat → List Field → Prop
  | [], _, [] => True
  | k :: ks, n, f :: fs => (f.name == "_") = false ∧ f.offset = n ∧ (match k with
      | .int _ => ∃ k, P.underlying f.type = some (.int k)
      | .bool => P.underlying f.type = some .bool
      | .string => P.underlying f.type = some .string
      | _ => False) ∧ FlatOk P ks (n + 1) fs
  | _, _, _ => False

/-- Is what is told of a type so? -/
structure TIok (P : Program) (t : TypeId) (ti : TI) : Prop where
  und : match ti.kind with
    | .int k => P.underlying t = some (.int k)
    | .bool => P.underlying t = some .bool
    | .string => P.underlying t = some .string
    | .slice => P.underlying t = some (.slice ti.elem)
    | .struct => ∃ fs, P.underlying t = some (.struct fs) ∧ fs.toList.map (·.offset) = ti.offs ∧ (fs.toList.map fun f => P.cellsOf f.type) = ti.szs ∧ (∀ f ∈ fs.toList, P.cellsOf f.type ≠ 0) ∧ (fs.toList.map fun f => (P.underlying f.type).map TypeDesc.isRow) = ti.fagg.map some
    | .iface => ∃ ms, P.underlying t = some (.interface ms)
    | .other => ∃ d, P.underlying t = some d ∧ d.isRow = false
  info : ∃ i z, P.info? t = some i ∧ i.size = ti.size ∧ i.bytes = ti.bytes ∧ i.zero = some z ∧ z.cells.size = ti.zero.length ∧ ti.zero.length = ti.size ∧
    (∀ (j : Nat) (x : PV), ti.zero[j]? = some x → (∀ w ok pl lk, PRep w ok pl lk (z.cells.getD j undef) x) ∧ (cellB x = true ∨ x = .junk) ∧ ids x = [])
  one : ti.kind ≠ .struct → ti.size = 1
  pos : 0 < ti.size
  bpos : 0 < ti.bytes
  flat : ti.flat ≠ [] → ∃ fs, P.underlying t = some (.struct fs) ∧ P.stoodInHeld t = false ∧ P.eqGuardType P.depth t = false ∧ FlatOk P ti.flat 0 fs.toList

def TOk (X : Ctx) : Prop := ∀ t ti, look none X.E.T t = some ti → TIok X.P t ti

/-- What an operand is worth. -/
def opV (fr : Fr) : Operand → PV
  | .tmp t => look .junk fr t
  | .const v => constPV v
  | .func f => .fn f [] []
  | .global _ => .junk

theorem opnd_eq (fr : Fr) (x : Operand) (K : PV → Prop) : opnd fr x K = K (opV fr x) := by
  cases x <;> simp [opnd, opV, force_eq]

theorem opnds_eq (fr : Fr) (l : List Operand) : ∀ (K : List PV → Prop), opnds fr l K = K (l.map (opV fr)) := by
  induction l with
  | nil => intro K; rfl
  | cons x l ih => intro K; simp only [opnds, opnd_eq, ih, List.map_cons]

variable {X : Ctx} {pl : Pl} {fr : Fr} {ob : Ob} {a : Act} {w : World}

theorem constPV_rep (w : World) (ok : Nat → Prop) (pl : Pl) (lk : Nat → Obj) (v : Value) : PRep w ok pl lk v (constPV v) := by
  unfold constPV
  split
  · exact .d (.int _ _)
  · exact .d (.bool _)
  · rename_i s
    split
    · rename_i h
      refine .d (.str _ ?_)
      have := Nat.le_of_ble_eq_true h
      rw [Array.length_toList] at this
      have h2 : s.size ≤ 1000000 := this
      unfold maxLen; omega
    · exact .junk _
  · exact .errN
  · exact .nil
  · exact .junk _

theorem Rel.op (h : Rel X pl fr ob a w) (x : Operand) : PRep w (Imm X pl (lkOf ob) w) pl (lkOf ob) (a.eval x) (opV fr x) := by
  cases x with
  | tmp t => exact h.sv t
  | const v => exact constPV_rep _ _ _ _ v
  | global g => exact .junk _
  | func f => exact .fn f [] []

theorem Rel.opIds (h : Rel X pl fr ob a w) (x : Operand) : ∀ id ∈ ids (opV fr x), lkOf ob id ≠ .none := by
  cases x with
  | tmp t => exact h.cl t
  | const v =>
    intro id hid
    simp only [opV, constPV] at hid
    split at hid <;> (try split at hid) <;> simp [ids] at hid
  | global g => intro id hid; simp [opV, ids] at hid
  | func f => intro id hid; simp [opV, ids] at hid

/-- An operation does to related worlds what is told: value v for its slot, u for the objects. -/
def OpOk (X : Ctx) (o : Oper) (fr : Fr) (ob : Ob) (v : PV) (u : Ob) : Prop :=
  ∀ pl a w, Rel X pl fr ob a w → ∀ (K : Act → World → Prop) (Q : Exit → Act → World → Prop),
    (∀ pl' a' w', Rel X pl' (putF o.dst v fr) (u ++ ob) a' w' → K a' w') → o.wp X.P a w K Q

/-- What only computes: the world and the objects stand. -/
theorem Rel.same (h : Rel X pl fr ob a w) {d : Option Nat} {v : PV} {val : Value} (hd : ∀ d', d = some d' → d' < X.E.nt)
    (hv : PRep w (Imm X pl (lkOf ob) w) pl (lkOf ob) val v) (hc : ∀ id ∈ ids v, lkOf ob id ≠ .none) : Rel X pl (putF d v fr) ob (a.put d val) w := by
  have := Rel.next (u := []) (pl' := pl) (w' := w) h rfl rfl rfl (Nat.le_refl _) (fun _ _ _ => rfl) (fun _ _ => rfl) (fun id _ hr => ⟨hr, rfl⟩) (fun id b hb => .inl ⟨id, hb⟩) h.inj (fun id hn => hn)
    (fun _ id => .inl ⟨rfl, fun _ _ => rfl⟩) (fun _ => hv) hc hd
  exact this

theorem OpOk.value {o : Oper} {v : PV} (hd : ∀ d', o.dst = some d' → d' < X.E.nt)
    (h : ∀ pl a w, Rel X pl fr ob a w → ∃ val, (execOp a.eval o).run X.P w = .ok (.value val) w ∧ PRep w (Imm X pl (lkOf ob) w) pl (lkOf ob) val v ∧ ∀ id ∈ ids v, lkOf ob id ≠ .none) : OpOk X o fr ob v [] := by
  intro pl a w hr K Q hK
  obtain ⟨val, h1, h2, h3⟩ := h pl a w hr
  unfold Oper.wp
  rw [h1]
  exact hK pl _ w (hr.same hd h2 h3)

/-- The rows that are given up as rows, and may be read from now on. -/
theorem row_slice {w : World} {ok : Nat → Prop} {pl : Pl} {lk : Nat → Obj} {id e sz : Nat} {rows : List (List D)} (h : Hold w ok pl lk id (.row e sz rows)) (ok' : Nat → Prop) (hok : ∀ b, ok b → ok' b)
    (hb : ∀ b, (pl.val id).ownBlock = some b → ok' b) : DRep w ok' (pl.val id) (.sl rows) := by
  obtain ⟨xs, ho, hs, hi⟩ := h
  have hlen := ho.1
  rcases ho.2 with ⟨hv, hn⟩ | ⟨g, cap, cur, hv, hbg, hg, hnc, hcm, hcs, htake⟩
  · rw [hv]
    have : rows = [] := List.eq_nil_of_length_eq_zero hn
    subst this; exact .nil
  · rw [hv]
    refine .sl ⟨g, 0, none⟩ cap sz rows (fun k => xs.getD k undef) hnc hcm (fun _ => hb g (by simp [hv, Value.ownBlock])) hs (fun i r hi' j x hj => ?_) (fun i r hi' j x hj => (hi i r hi' j x hj).mono fun b hb => ⟨hok b hb, rfl⟩)
    have hir : i < rows.length := (List.getElem?_eq_some_iff.1 hi').1
    have hrl : r.length = sz := hs r (List.mem_of_getElem? hi')
    have hjr : j < sz := by rw [← hrl]; exact (List.getElem?_eq_some_iff.1 hj).1
    have hk : i * sz + j < xs.length := by
      rw [hlen]
      calc i * sz + j < i * sz + sz := by omega
        _ = (i + 1) * sz := by rw [Nat.add_mul, Nat.one_mul]
        _ ≤ rows.length * sz := Nat.mul_le_mul_right _ hir
    exact ho.cells (g := g) (by simp [hv, Value.ownBlock]) (i * sz + j) _ (by simp [List.getElem?_eq_getElem hk])

theorem lkOf_nil (ob : Ob) : lkOf ([] ++ ob) = lkOf ob := rfl

end Go.Pv
