import Derived.Test.YtondofmlippbcaaWPvA
import Derived.Laws.AppendOwn
set_option linter.unusedSimpArgs false
set_option linter.unusedVariables false
namespace Go.Pv

theorem look_cons {α : Type} (dv v : α) (m n : Nat) (r : List (Nat × α)) : look dv ((m, v) :: r) n = if m = n then v else look dv r n := by
  simp only [look]
  by_cases h : m = n
  · subst h; simp
  · have : Nat.beq m n = false := by rw [Bool.eq_false_iff]; intro hh; exact h (Nat.eq_of_beq_eq_true hh)
    rw [this, if_neg h]

/-- Where objects lie: a box's block, a row's slice value. -/
structure Pl where
  blk : Nat → Nat
  val : Nat → Value

def ptrV (pl : Pl) (id : Nat) : Value := .pointer (some ⟨pl.blk id, 0, none⟩)

inductive DRep (w : World) (ok : Nat → Prop) : Value → D → Prop
  | int (k : IntKind) (n : Int) : DRep w ok (.int k n) (.int k n)
  | bool (b : Bool) : DRep w ok (.bool b) (.bool b)
  | str (s : ByteArray) (hs : s.size ≤ maxLen) : DRep w ok (.string s) (.str s.data.toList)
  | nil : DRep w ok (.slice none 0 0) (.sl [])
  | sl (a : Addr) (c sz : Nat) (rows : List (List D)) (vs : Nat → Value) (hc : rows.length ≤ c) (hm : c ≤ maxLen) (hok : rows ≠ [] → ok a.block) (hsz : ∀ r ∈ rows, r.length = sz)
      (hcell : ∀ i r, rows[i]? = some r → ∀ j x, r[j]? = some x → w.cell? (a.add (i * sz + j)) = some (vs (i * sz + j)))
      (hrep : ∀ i r, rows[i]? = some r → ∀ j x, r[j]? = some x → DRep w ok (vs (i * sz + j)) x) :
      DRep w ok (.slice (some a) rows.length c) (.sl rows)

inductive PRep (w : World) (ok : Nat → Prop) (pl : Pl) (lk : Nat → Obj) : Value → PV → Prop
  | d {v : Value} {x : D} : DRep w ok v x → PRep w ok pl lk v (.d x)
  | nil : PRep w ok pl lk (.slice none 0 0) .nil
  | agg {cs : Array Value} {ds : List D} : cs.size = ds.length → (∀ i x, ds[i]? = some x → DRep w ok (cs.getD i undef) x) → PRep w ok pl lk (.agg cs) (.agg ds)
  | ptr (id off : Nat) : PRep w ok pl lk (.pointer (some ⟨pl.blk id, off, none⟩)) (.ptr id off)
  | ept {a : Addr} {row : List D} (vs : Nat → Value) : (row ≠ [] → ok a.block) → (∀ j x, row[j]? = some x → w.cell? (a.add j) = some (vs j)) → (∀ j x, row[j]? = some x → DRep w ok (vs j) x) → PRep w ok pl lk (.pointer (some a)) (.ept row)
  | own {id : Nat} {a : Option Addr} {n c : Nat} : ((lk id).isRow = true → .slice a n c = pl.val id) → PRep w ok pl lk (.slice a n c) (.own id)
  | owp {id sz i off : Nat} {a : Option Addr} : ((lk id).isRow = true → ∃ g n c, pl.val id = .slice (some ⟨g, 0, none⟩) n c ∧ a = some ⟨g, i * sz + off, none⟩) → PRep w ok pl lk (.pointer a) (.owp id sz i off)
  | fn (f : FuncId) (first caps : List Nat) : PRep w ok pl lk (.func (.func f) (first.map (ptrV pl)).toArray (caps.map (ptrV pl)).toArray) (.fn f first caps)
  | tup {vs : Array Value} {ps : List PV} : vs.size = ps.length → (∀ i p, ps[i]? = some p → PRep w ok pl lk (vs.getD i undef) p) → PRep w ok pl lk (.tuple vs) (.tup ps)
  | errN : PRep w ok pl lk .nilIface (.err true)
  | errS (t : TypeId) (v : Value) : PRep w ok pl lk (.iface t v) (.err false)
  | unit : PRep w ok pl lk undef .unit
  | junk (v : Value) : PRep w ok pl lk v .junk

theorem DRep.mono {w w' : World} {ok ok' : Nat → Prop} (h : ∀ b, ok b → ok' b ∧ w'.heap[b]? = w.heap[b]?) {v : Value} {x : D} (hr : DRep w ok v x) : DRep w' ok' v x := by
  induction hr with
  | int k n => exact .int k n
  | bool b => exact .bool b
  | str s hs => exact .str s hs
  | nil => exact .nil
  | sl a c sz rows vs hc hm hok hsz hcell hrep ih =>
    refine .sl a c sz rows vs hc hm (fun hne => (h _ (hok hne)).1) hsz (fun i r hi j x hj => ?_) ih
    have hne : rows ≠ [] := by intro h0; subst h0; simp at hi
    have hb := (h _ (hok hne)).2
    have := hcell i r hi j x hj
    rw [← this]
    refine World.cell?_of_block ?_
    have hab : (a.add (i * sz + j)).block = a.block := by unfold Addr.add; split <;> rfl
    rw [hab]; exact hb

theorem add_block (a : Addr) (n : Nat) : (a.add n).block = a.block := by unfold Addr.add; split <;> rfl

/-- A value that is data at one cell is one cell. -/
theorem DRep.one {w : World} {ok : Nat → Prop} {v : Value} {x : D} (h : DRep w ok v x) : v.oneCell' = true := by
  cases h <;> rfl

theorem PRep.mono {w w' : World} {ok ok' : Nat → Prop} {pl pl' : Pl} {lk lk' : Nat → Obj} {v : Value} {p : PV}
    (h : ∀ b, ok b → ok' b ∧ w'.heap[b]? = w.heap[b]?) (hblk : ∀ id ∈ ids p, pl'.blk id = pl.blk id)
    (hval : ∀ id ∈ ids p, (lk' id).isRow = true → (lk id).isRow = true ∧ pl'.val id = pl.val id)
    (hr : PRep w ok pl lk v p) : PRep w' ok' pl' lk' v p := by
  induction hr with
  | d hd => exact .d (hd.mono h)
  | nil => exact .nil
  | agg hs hi => exact .agg hs fun i x hx => (hi i x hx).mono h
  | ptr id off => rw [← hblk id (by simp [ids])]; exact .ptr id off
  | ept vs hok hc hd =>
    rename_i a row
    refine .ept vs (fun hne => (h _ (hok hne)).1) (fun j x hj => ?_) (fun j x hj => (hd j x hj).mono h)
    have hne : row ≠ [] := by intro h0; subst h0; simp at hj
    rw [← hc j x hj]
    exact World.cell?_of_block (by rw [add_block]; exact (h _ (hok hne)).2)
  | own ho =>
    rename_i id a n c
    refine .own fun hr => ?_
    obtain ⟨h1, h2⟩ := hval id (by simp [ids]) hr
    rw [h2]; exact ho h1
  | owp ho =>
    rename_i id sz i off a
    refine .owp fun hr => ?_
    obtain ⟨h1, h2⟩ := hval id (by simp [ids]) hr
    rw [h2]; exact ho h1
  | fn f first caps =>
    have e1 : first.map (ptrV pl) = first.map (ptrV pl') := List.map_congr_left fun id hid => by unfold ptrV; rw [hblk id (by simp [ids, hid])]
    have e2 : caps.map (ptrV pl) = caps.map (ptrV pl') := List.map_congr_left fun id hid => by unfold ptrV; rw [hblk id (by simp [ids, hid])]
    rw [e1, e2]; exact .fn f first caps
  | tup hs hi ih =>
    rename_i vs ps
    refine .tup hs fun i p hp => ih i p hp (fun id hid => hblk id ?_) (fun id hid => hval id ?_)
    all_goals
      have hm : p ∈ ps := List.mem_of_getElem? hp
      have key : ∀ (l : List PV), p ∈ l → id ∈ ids.idsL l := by
        intro l
        induction l with
        | nil => intro h; cases h
        | cons y l ih =>
          intro h
          simp only [ids.idsL, List.mem_append]
          rcases List.mem_cons.1 h with rfl | h
          · exact .inl hid
          · exact .inr (ih h)
      simpa [ids] using key ps hm
  | errN => exact .errN
  | errS t v => exact .errS t v
  | unit => exact .unit
  | junk v => exact .junk v

theorem PRep.one {w : World} {ok : Nat → Prop} {pl : Pl} {lk : Nat → Obj} {v : Value} {p : PV} (h : PRep w ok pl lk v p) (hc : cellB p = true) : v.oneCell' = true := by
  cases h <;> first | rfl | (rename_i h; exact h.one) | cases hc

/-- What of memory an object may write. -/
def mb (pl : Pl) (id : Nat) : Obj → Option Nat
  | .box _ => some (pl.blk id)
  | .row _ _ _ => (pl.val id).ownBlock
  | _ => none

def Hold (w : World) (ok : Nat → Prop) (pl : Pl) (lk : Nat → Obj) (id : Nat) : Obj → Prop
  | .none => True
  | .gone => True
  | .box cs => ∃ c e, w.heap[pl.blk id]? = some (.cells c e (0, 0)) ∧ c.size = cs.length ∧ ∀ i x, cs[i]? = some x → PRep w ok pl lk (c.getD i undef) x ∧ cellB x = true
  | .row e sz rows => ∃ xs, w.ownsRow 0 e sz (pl.val id) rows.length xs ∧ (∀ r ∈ rows, r.length = sz) ∧ ∀ i r, rows[i]? = some r → ∀ j x, r[j]? = some x → DRep w ok (xs.getD (i * sz + j) undef) x
  | .frz sz rows => (∀ r ∈ rows, r.length = sz) ∧ DRep w ok (pl.val id) (.sl rows) ∧ ∀ a n c, pl.val id = .slice (some a) n c → a.off = 0 ∧ a.spot = none

structure Ctx where
  P : Program
  E : Env
  N : Nat
  ok0 : Nat → Prop
  out : Nat → Prop
  pl0 : Pl
  W0 : World

/-- From here on ids are those of what was handed in. -/
def base : Nat := 1000000

def Imm (X : Ctx) (pl : Pl) (lk : Nat → Obj) (w : World) (b : Nat) : Prop :=
  X.ok0 b ∨ ((X.N ≤ b ∨ X.out b) ∧ b < w.heap.size ∧ ∀ id, mb pl id (lk id) ≠ some b)

abbrev lkOf (ob : Ob) : Nat → Obj := look .none ob

structure Keep (X : Ctx) (w : World) : Prop where
  os : w.os = X.W0.os
  tape : w.tape = X.W0.tape
  output : w.output = X.W0.output
  size : X.N ≤ w.heap.size
  blocks : ∀ b, b < X.N → ¬ X.out b → w.heap[b]? = X.W0.heap[b]?

structure Rel (X : Ctx) (pl : Pl) (fr : Fr) (ob : Ob) (a : Act) (w : World) : Prop where
  nt : a.tmps.size = X.E.nt
  df : a.defers = []
  sv : ∀ n, PRep w (Imm X pl (lkOf ob) w) pl (lkOf ob) (a.tmps.getD n undef) (look .junk fr n)
  cl : ∀ n, ∀ id ∈ ids (look .junk fr n), lkOf ob id ≠ .none
  clb : ∀ id cs, lkOf ob id = .box cs → ∀ x ∈ cs, ∀ id' ∈ ids x, lkOf ob id' ≠ .none
  ho : ∀ id, Hold w (Imm X pl (lkOf ob) w) pl (lkOf ob) id (lkOf ob id)
  inj : ∀ id id' b, mb pl id (lkOf ob id) = some b → mb pl id' (lkOf ob id') = some b → id = id'
  mw : ∀ id b, mb pl id (lkOf ob id) = some b → (X.N ≤ b ∨ X.out b) ∧ ¬ X.ok0 b ∧ b < w.heap.size
  keep : Keep X w
  ok0 : ∀ b, X.ok0 b → b < X.N
  ntb : X.E.nt ≤ base
  fixd : ∀ id, base ≤ id → pl.blk id = X.pl0.blk id ∧ pl.val id = X.pl0.val id

def putF (d : Option Nat) (v : PV) (fr : Fr) : Fr := match d with | some d => (d, v) :: fr | none => fr

theorem imm_mono {X : Ctx} {pl pl' : Pl} {lk lk' : Nat → Obj} {w w' : World} (hN : X.N ≤ w.heap.size) (hok : ∀ b, X.ok0 b → b < X.N)
    (hmw : ∀ id b, mb pl id (lk id) = some b → ¬ X.ok0 b) (hsz : w.heap.size ≤ w'.heap.size)
    (hheap : ∀ b, b < w.heap.size → (∀ id, mb pl id (lk id) ≠ some b) → w'.heap[b]? = w.heap[b]?)
    (hmb : ∀ id b, mb pl' id (lk' id) = some b → (∃ id0, mb pl id0 (lk id0) = some b) ∨ (w.heap.size ≤ b ∧ b < w'.heap.size)) :
    ∀ b, Imm X pl lk w b → Imm X pl' lk' w' b ∧ w'.heap[b]? = w.heap[b]? := by
  intro b hb
  rcases hb with hb | ⟨h1, h2, h3⟩
  · have hlt := hok b hb
    refine ⟨.inl hb, hheap b (by omega) fun id hid => hmw id b hid hb⟩
  · refine ⟨.inr ⟨h1, by omega, fun id hid => ?_⟩, hheap b h2 h3⟩
    rcases hmb id b hid with ⟨id0, h0⟩ | ⟨h0, _⟩
    · exact h3 id0 h0
    · omega

theorem Hold.mono {w w' : World} {ok ok' : Nat → Prop} {pl pl' : Pl} {lk lk' : Nat → Obj} {id : Nat} {o : Obj} (ho : Hold w ok pl lk id o)
    (h : ∀ b, ok b → ok' b ∧ w'.heap[b]? = w.heap[b]?) (hb : ∀ b, mb pl id o = some b → w'.heap[b]? = w.heap[b]?) (hblk : pl'.blk id = pl.blk id) (hval : o.isRow = true → pl'.val id = pl.val id)
    (hids : ∀ cs, o = .box cs → ∀ x ∈ cs, ∀ id' ∈ ids x, pl'.blk id' = pl.blk id' ∧ ((lk' id').isRow = true → (lk id').isRow = true ∧ pl'.val id' = pl.val id')) :
    Hold w' ok' pl' lk' id o := by
  cases o with
  | none => trivial
  | gone => trivial
  | box cs =>
    obtain ⟨c, e, hc, hs, hi⟩ := ho
    refine ⟨c, e, ?_, hs, fun i x hx => ⟨(hi i x hx).1.mono h (fun id' hid => ?_) (fun id' hid => ?_), (hi i x hx).2⟩⟩
    · rw [hblk, hb _ rfl]; exact hc
    · exact (hids cs rfl x (List.mem_of_getElem? hx) id' hid).1
    · exact (hids cs rfl x (List.mem_of_getElem? hx) id' hid).2
  | row e sz rows =>
    obtain ⟨xs, ho, hs, hi⟩ := ho
    refine ⟨xs, ?_, hs, fun i r hr j x hx => (hi i r hr j x hx).mono h⟩
    rw [hval rfl]
    refine ⟨ho.1, ?_⟩
    rcases ho.2 with hn | ⟨g, cap, cur, hv, hbg, hg, rest⟩
    · exact .inl hn
    · refine .inr ⟨g, cap, cur, hv, hbg, ?_, rest⟩
      rw [hb g (by simp [mb, hv, Value.ownBlock])]
      exact hg
  | frz sz rows => exact ⟨ho.1, by rw [hval rfl]; exact ho.2.1.mono h, by rw [hval rfl]; exact ho.2.2⟩

theorem Rel.next {X : Ctx} {pl pl' : Pl} {fr : Fr} {ob u : Ob} {a : Act} {w w' : World} {d : Option Nat} {v : PV} {val : Value}
    (h : Rel X pl fr ob a w) (hos : w'.os = w.os) (htape : w'.tape = w.tape) (hout : w'.output = w.output) (hsz : w.heap.size ≤ w'.heap.size)
    (hheap : ∀ b, b < w.heap.size → (∀ id, mb pl id (lkOf ob id) ≠ some b) → w'.heap[b]? = w.heap[b]?)
    (hpl : ∀ id, lkOf ob id ≠ .none ∨ base ≤ id → pl'.blk id = pl.blk id)
    (hval : ∀ id, lkOf ob id ≠ .none → (lkOf (u ++ ob) id).isRow = true → (lkOf ob id).isRow = true ∧ pl'.val id = pl.val id)
    (hmb : ∀ id b, mb pl' id (lkOf (u ++ ob) id) = some b → (∃ id0, mb pl id0 (lkOf ob id0) = some b) ∨ (w.heap.size ≤ b ∧ b < w'.heap.size))
    (hinj : ∀ id id' b, mb pl' id (lkOf (u ++ ob) id) = some b → mb pl' id' (lkOf (u ++ ob) id') = some b → id = id')
    (hgrow : ∀ id, lkOf ob id ≠ .none → lkOf (u ++ ob) id ≠ .none)
    (hold : (∀ b, Imm X pl (lkOf ob) w b → Imm X pl' (lkOf (u ++ ob)) w' b ∧ w'.heap[b]? = w.heap[b]?) → ∀ id, (lkOf (u ++ ob) id = lkOf ob id ∧ ∀ b, mb pl id (lkOf ob id) = some b → w'.heap[b]? = w.heap[b]?) ∨
      (Hold w' (Imm X pl' (lkOf (u ++ ob)) w') pl' (lkOf (u ++ ob)) id (lkOf (u ++ ob) id) ∧ ∀ cs, lkOf (u ++ ob) id = .box cs → ∀ x ∈ cs, ∀ id' ∈ ids x, lkOf (u ++ ob) id' ≠ .none))
    (hv : (∀ b, Imm X pl (lkOf ob) w b → Imm X pl' (lkOf (u ++ ob)) w' b ∧ w'.heap[b]? = w.heap[b]?) → PRep w' (Imm X pl' (lkOf (u ++ ob)) w') pl' (lkOf (u ++ ob)) val v) (hcv : ∀ id ∈ ids v, lkOf (u ++ ob) id ≠ .none)
    (hd : ∀ d', d = some d' → d' < X.E.nt) (hplv : ∀ id, base ≤ id → pl'.val id = pl.val id := by intros; rfl) : Rel X pl' (putF d v fr) (u ++ ob) (a.put d val) w' := by
  have him := imm_mono (pl' := pl') (lk' := lkOf (u ++ ob)) h.keep.size h.ok0 (fun id b hb => (h.mw id b hb).2.1) hsz hheap hmb
  have hv := hv him
  have hold := hold him
  have hmono : ∀ n, PRep w' (Imm X pl' (lkOf (u ++ ob)) w') pl' (lkOf (u ++ ob)) (a.tmps.getD n undef) (look .junk fr n) := fun n =>
    (h.sv n).mono him (fun id hid => hpl id (.inl (h.cl n id hid))) (fun id hid hr => hval id (h.cl n id hid) hr)
  have hsv : ∀ n, PRep w' (Imm X pl' (lkOf (u ++ ob)) w') pl' (lkOf (u ++ ob)) ((a.put d val).tmps.getD n undef) (look .junk (putF d v fr) n) := by
    intro n
    cases d with
    | none => exact hmono n
    | some d =>
      have hlt := hd d rfl
      simp only [putF, look_cons]
      by_cases hn : d = n
      · subst hn
        have : (a.put (some d) val).tmps.getD d undef = val := by simp [Act.put, h.nt, hlt]
        rw [this, if_pos rfl]; exact hv
      · have : (a.put (some d) val).tmps.getD n undef = a.tmps.getD n undef := by simp [Act.put, Array.getElem?_setIfInBounds, hn]
        rw [this, if_neg hn]; exact hmono n
  have hcl : ∀ n, ∀ id ∈ ids (look .junk (putF d v fr) n), lkOf (u ++ ob) id ≠ .none := by
    intro n id hid
    cases d with
    | none => exact hgrow id (h.cl n id hid)
    | some d =>
      simp only [putF, look_cons] at hid
      by_cases hn : d = n
      · rw [if_pos hn] at hid; exact hcv id hid
      · rw [if_neg hn] at hid; exact hgrow id (h.cl n id hid)
  refine ⟨?_, ?_, hsv, hcl, ?_, ?_, hinj, ?_, ?_, h.ok0, h.ntb, fun id hb => ?_⟩
  · cases d <;> simp [Act.put, h.nt]
  · cases d <;> simp [Act.put, h.df]
  · intro id cs hcs x hx id' hid'
    rcases hold id with ⟨h1, _⟩ | ⟨_, h2⟩
    · rw [h1] at hcs; exact hgrow id' (h.clb id cs hcs x hx id' hid')
    · exact h2 cs hcs x hx id' hid'
  · intro id
    rcases hold id with ⟨h1, h2⟩ | ⟨h2, _⟩
    · have h0 := h.ho id
      by_cases hnn : lkOf ob id = .none
      · rw [h1, hnn]; trivial
      · rw [h1]
        refine h0.mono him h2 (hpl id (.inl hnn)) (fun hr => (hval id hnn (by rw [h1]; exact hr)).2) (fun cs hcs x hx id' hid' => ?_)
        have hn' := h.clb id cs hcs x hx id' hid'
        exact ⟨hpl id' (.inl hn'), hval id' hn'⟩
    · exact h2
  · intro id b hb
    rcases hmb id b hb with ⟨id0, h0⟩ | ⟨h0, h1⟩
    · obtain ⟨m1, m2, m3⟩ := h.mw id0 b h0; exact ⟨m1, m2, by omega⟩
    · have := h.keep.size
      exact ⟨.inl (by omega), fun hk => by have := h.ok0 b hk; omega, h1⟩
  · have hk := h.keep
    refine ⟨hos.trans hk.os, htape.trans hk.tape, hout.trans hk.output, Nat.le_trans hk.size hsz, fun b hb hob => ?_⟩
    have hN := hk.size
    rw [hheap b (by omega) fun id hid => ?_]
    · exact hk.blocks b hb hob
    · rcases (h.mw id b hid).1 with h1 | h1
      · omega
      · exact hob h1
  · rw [hpl id (.inr hb), hplv id hb]; exact h.fixd id hb

end Go.Pv
