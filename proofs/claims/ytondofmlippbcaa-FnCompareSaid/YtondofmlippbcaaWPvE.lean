import Derived.Test.YtondofmlippbcaaWPvD
import Derived.Laws.StructEq
set_option linter.unusedVariables false
set_option linter.unusedSimpArgs false
namespace Go.Pv
variable {X : Ctx} {pl : Pl} {fr : Fr} {ob : Ob} {a : Act} {w : World}

def CoreOk (X : Ctx) (op : Op) (dst : Option Nat) (ins : List PV) (lk : Nat → Obj) (v : PV) (u : Ob) (t : List Nat) : Prop :=
  ∀ (o : Oper) (fr : Fr) (ob : Ob), o.op = op → o.dst = dst → op.operands.toList.map (opV fr) = ins → (∀ id ∈ t, lkOf ob id = lk id) → OpOk X o fr ob v u

/-- What is computed out of operands alone. -/
theorem CoreOk.value {op : Op} {dst : Option Nat} {ins : List PV} {lk : Nat → Obj} {v : PV} {t : List Nat} (hd : ∀ d', dst = some d' → d' < X.E.nt)
    (h : ∀ (o : Oper) (fr : Fr) (ob : Ob), o.op = op → op.operands.toList.map (opV fr) = ins → (∀ id ∈ t, lkOf ob id = lk id) → ∀ pl a w, Rel X pl fr ob a w →
      ∃ val, (execOp a.eval o).run X.P w = .ok (.value val) w ∧ PRep w (Imm X pl (lkOf ob) w) pl (lkOf ob) val v ∧ ∀ id ∈ ids v, lkOf ob id ≠ .none) : CoreOk X op dst ins lk v [] t :=
  fun o fr ob ho hdst hins ht => OpOk.value (by rw [hdst]; exact hd) fun pl a w hr => h o fr ob ho hins ht pl a w hr

theorem core_move (x : Operand) {dst : Option Nat} {ins : List PV} {lk : Nat → Obj} {K : PV → Ob → List Nat → Prop} (hd : ∀ d', dst = some d' → d' < X.E.nt) (h : evCore X.E (.move x) dst ins lk K) :
    ∃ v u t, K v u t ∧ CoreOk X (.move x) dst ins lk v u t := by
  simp only [evCore] at h
  split at h
  · rename_i v
    refine ⟨v, [], [], h, .value hd fun o fr ob ho hins _ pl a w hr => ⟨a.eval x, ?_, ?_, ?_⟩⟩
    · unfold execOp; rw [ho]; rfl
    · simp [Op.operands] at hins; rw [← hins]; exact hr.op x
    · simp [Op.operands] at hins; rw [← hins]; exact hr.opIds x
  · exact h.elim

theorem core_assign (x : Operand) {dst : Option Nat} {ins : List PV} {lk : Nat → Obj} {K : PV → Ob → List Nat → Prop} (hd : ∀ d', dst = some d' → d' < X.E.nt) (h : evCore X.E (.assign x) dst ins lk K) :
    ∃ v u t, K v u t ∧ CoreOk X (.assign x) dst ins lk v u t := by
  simp only [evCore] at h
  split at h
  · rename_i v
    refine ⟨v, [], [], h, .value hd fun o fr ob ho hins _ pl a w hr => ⟨a.eval x, ?_, ?_, ?_⟩⟩
    · unfold execOp; rw [ho]; rfl
    · simp [Op.operands] at hins; rw [← hins]; exact hr.op x
    · simp [Op.operands] at hins; rw [← hins]; exact hr.opIds x
  · exact h.elim

/-- Operands read: what stands for each. -/
theorem op1 {x : Operand} {p : PV} (hr : Rel X pl fr ob a w) (h : [x].map (opV fr) = [p]) : PRep w (Imm X pl (lkOf ob) w) pl (lkOf ob) (a.eval x) p ∧ ∀ id ∈ ids p, lkOf ob id ≠ .none := by
  simp at h; rw [← h]; exact ⟨hr.op x, hr.opIds x⟩

theorem core_pick (c x y : Operand) {dst : Option Nat} {ins : List PV} {lk : Nat → Obj} {K : PV → Ob → List Nat → Prop} (hd : ∀ d', dst = some d' → d' < X.E.nt) (h : evCore X.E (.pick c x y) dst ins lk K) :
    ∃ v u t, K v u t ∧ CoreOk X (.pick c x y) dst ins lk v u t := by
  simp only [evCore] at h
  split at h
  · rename_i t p q
    cases t with
    | true =>
      refine ⟨p, [], [], h, .value hd fun o fr ob ho hins _ pl a w hr => ?_⟩
      simp [Op.operands] at hins
      have hc := hr.op c
      rw [hins.1] at hc
      generalize hcv : a.eval c = cv at hc
      cases hc with
      | d hc =>
        cases hc
        refine ⟨a.eval x, ?_, ?_, ?_⟩
        · unfold execOp; rw [ho]; simp [hcv, asBool]
        · rw [← hins.2.1]; exact hr.op x
        · rw [← hins.2.1]; exact hr.opIds x
    | false =>
      refine ⟨q, [], [], h, .value hd fun o fr ob ho hins _ pl a w hr => ?_⟩
      simp [Op.operands] at hins
      have hc := hr.op c
      rw [hins.1] at hc
      generalize hcv : a.eval c = cv at hc
      cases hc with
      | d hc =>
        cases hc
        refine ⟨a.eval y, ?_, ?_, ?_⟩
        · unfold execOp; rw [ho]; simp [hcv, asBool]
        · rw [← hins.2.2]; exact hr.op y
        · rw [← hins.2.2]; exact hr.opIds y
  · exact h.elim

theorem core_unOp (op : UnOp) (ty : TypeId) (x : Operand) {dst : Option Nat} {ins : List PV} {lk : Nat → Obj} {K : PV → Ob → List Nat → Prop} (hd : ∀ d', dst = some d' → d' < X.E.nt) (h : evCore X.E (.unOp op ty x) dst ins lk K) :
    ∃ v u t, K v u t ∧ CoreOk X (.unOp op ty x) dst ins lk v u t := by
  simp only [evCore] at h
  split at h
  · rename_i b
    refine ⟨_, [], [], h, .value hd fun o fr ob ho hins _ pl a w hr => ?_⟩
    obtain ⟨hc, _⟩ := op1 hr hins
    generalize hcv : a.eval x = cv at hc
    cases hc with
    | d hc =>
      cases hc
      exact ⟨.bool !b, by unfold execOp; rw [ho]; simp [hcv, Op.unary], .d (.bool _), fun id hid => by simp [ids] at hid⟩
  · rename_i k n
    refine ⟨_, [], [], h, .value hd fun o fr ob ho hins _ pl a w hr => ?_⟩
    obtain ⟨hc, _⟩ := op1 hr hins
    generalize hcv : a.eval x = cv at hc
    cases hc with
    | d hc =>
      cases hc
      exact ⟨.int k (k.wrap (0 - n)), by unfold execOp; rw [ho]; simp [hcv, Op.unary, Op.intArith], .d (.int _ _), fun id hid => by simp [ids] at hid⟩
  · rename_i k n
    refine ⟨_, [], [], h, .value hd fun o fr ob ho hins _ pl a w hr => ?_⟩
    obtain ⟨hc, _⟩ := op1 hr hins
    generalize hcv : a.eval x = cv at hc
    cases hc with
    | d hc =>
      cases hc
      exact ⟨_, by unfold execOp; rw [ho]; simp only [hcv, Op.unary, Op.intBits]; rfl, .d (.int _ _), fun id hid => by simp [ids] at hid⟩
  · exact h.elim

theorem binI_ok {op : BinOp} {k : IntKind} {x y : Int} {K : PV → Prop} (h : binI op k x y K) : ∃ v, K (.d v) ∧ (∃ val, ∀ w, (binOp op 0 (.int k x) (.int k y)).run X.P w = .ok val w ∧ ∀ ok, DRep w ok val v) := by
  cases op <;> simp only [binI] at h <;>
    first
    | exact h.elim
    | (refine ⟨_, h, _, fun w => ⟨by simp only [binOp, ne_eq, not_true_eq_false, if_false, Op.intArith, Op.intCmp, Op.intBits]; rfl, fun ok => ?_⟩⟩; constructor)
    | (refine ⟨_, h.2, _, fun w => ⟨by simp only [binOp, ne_eq, not_true_eq_false, if_false, Op.intDiv, h.1]; rfl, fun ok => ?_⟩⟩; constructor)

theorem toList_data (s : ByteArray) : s.toList = s.data.toList := by
  have := ByteArray.toList_loop_eq s s.size 0 [] (by omega) (Nat.zero_le _)
  simpa [ByteArray.toList] using this
theorem beq_dec (a b : List UInt8) : (a == b) = decide (a = b) := by
  rw [Bool.eq_iff_iff]; simp
theorem DRep.str_inv {w : World} {ok : Nat → Prop} {v : Value} {l : List UInt8} (h : DRep w ok v (.str l)) : ∃ s : ByteArray, v = .string s ∧ l = s.data.toList ∧ s.size ≤ maxLen := by
  cases h with | str s hs => exact ⟨s, rfl, rfl, hs⟩
theorem size_data (s : ByteArray) : s.data.toList.length = s.size := by rw [Array.length_toList]; rfl
theorem binS_ok' {op : BinOp} {m n : List UInt8} {K : PV → Prop} (h : binS op m n K) : ∃ v, K (.d v) ∧ ∀ x y : ByteArray, m = x.data.toList → n = y.data.toList → (∃ val, ∀ w, (binOp op 0 (.string x) (.string y)).run X.P w = .ok val w ∧ ∀ ok, DRep w ok val v) := by
  cases op
  case add =>
    obtain ⟨h1, h2⟩ := h
    refine ⟨_, h2, fun x y e1 e2 => ⟨.string (x ++ y), fun w => ⟨?_, fun ok => ?_⟩⟩⟩
    all_goals
      subst e1; subst e2
      rw [size_data, size_data] at h1
    · have hle : ¬ (((x.size + y.size : Nat) : Int) > IntKind.i64.max) := by
        simp [IntKind.max, IntKind.signed, IntKind.bits]; omega
      simp only [binOp, Op.stringOp, hle, if_false]; rfl
    · have hs : (x ++ y).size = x.size + y.size := ByteArray.size_append ..
      have hd : (x ++ y).data.toList = x.data.toList ++ y.data.toList := by rw [ByteArray.data_append, Array.toList_append]
      rw [← hd]
      exact .str _ (by rw [hs]; unfold maxLen; omega)
  all_goals first
    | exact False.elim h
    | (refine ⟨_, h, fun x y e1 e2 => ⟨_, fun w => ⟨by subst e1; subst e2; simp only [binOp, Op.stringOp, ByteArray.toList_eq, beq_dec]; rfl, fun ok => .bool _⟩⟩⟩)

theorem ops2 {x y : Operand} {p q : PV} (hr : Rel X pl fr ob a w) (h : [x, y].map (opV fr) = [p, q]) :
    (PRep w (Imm X pl (lkOf ob) w) pl (lkOf ob) (a.eval x) p ∧ ∀ id ∈ ids p, lkOf ob id ≠ .none) ∧ (PRep w (Imm X pl (lkOf ob) w) pl (lkOf ob) (a.eval y) q ∧ ∀ id ∈ ids q, lkOf ob id ≠ .none) := by
  simp at h; rw [← h.1, ← h.2]; exact ⟨⟨hr.op x, hr.opIds x⟩, ⟨hr.op y, hr.opIds y⟩⟩

theorem binOp_ty (op : BinOp) (t : TypeId) (k k' : IntKind) (x y : Int) : binOp op t (.int k x) (.int k' y) = binOp op 0 (.int k x) (.int k' y) := by
  cases op <;> rfl
theorem binOp_tyS (op : BinOp) (t : TypeId) (x y : ByteArray) : binOp op t (.string x) (.string y) = binOp op 0 (.string x) (.string y) := by
  cases op <;> rfl

theorem eqGuard_bool (P : Program) (op : BinOp) (t : TypeId) (x y : Operand) (p : Bool) (vb : Value) (w : World) : (eqGuard op t x y (.bool p) vb).run P w = .ok () w := by
  unfold eqGuard; cases op <;> simp
theorem eqGuard_int (P : Program) (op : BinOp) (t : TypeId) (x y : Operand) (k : IntKind) (p : Int) (vb : Value) (w : World) : (eqGuard op t x y (.int k p) vb).run P w = .ok () w := by
  unfold eqGuard; cases op <;> simp
theorem eqGuard_str (P : Program) (op : BinOp) (t : TypeId) (x y : Operand) (p : ByteArray) (vb : Value) (w : World) : (eqGuard op t x y (.string p) vb).run P w = .ok () w := by
  unfold eqGuard; cases op <;> simp

theorem eqGuard_nn {P : Program} {op : BinOp} {t : TypeId} {x y : Operand} {w : World} (hc : (isC x || isC y) = true) : (eqGuard op t x y .nilIface .nilIface).run P w = .ok () w := by
  unfold eqGuard; cases op <;> cases x <;> cases y <;> first | rfl | (simp [isC] at hc)

theorem run_part_plain {P : Program} {t : TypeId} {d : TypeDesc} (h : P.underlying t = some d) (hd : d.isRow = false) (cs : Array Value) (off : Nat) (ho : off < cs.size) (w : World) :
    (part t cs off).run P w = .ok (cs.getD off undef) w := by
  have hagg : (isAgg t).run P w = .ok false w := by
    unfold isAgg; rw [Sem.run_bind, run_underlying h w]; cases d <;> simp_all [TypeDesc.isRow]
  unfold part
  rw [Sem.run_bind, hagg]
  simp [ho]

theorem eqFields_ok {P : Program} {w : World} {ok : Nat → Prop} {xs ys : Array Value} : ∀ (ks : List TK) (n : Nat) (fs : List Field) (x y : List D) (r : Bool), FlatOk P ks n fs → eqCells ks x y = some r →
    (∀ i z, x[i]? = some z → n + i < xs.size ∧ DRep w ok (xs.getD (n + i) undef) z) → (∀ i z, y[i]? = some z → n + i < ys.size ∧ DRep w ok (ys.getD (n + i) undef) z) →
    ∀ d, (Op.eqFields (d + 1) xs ys fs).run P w = .ok r w
  | [], n, fs, x, y, r, hf, he, hx, hy, d => by
    cases fs with
    | nil =>
      cases x <;> cases y <;> simp [eqCells] at he
      subst he; rfl
    | cons f fs => exact hf.elim
  | k :: ks, n, [], x, y, r, hf, he, hx, hy, d => hf.elim
  | k :: ks, n, f :: fs, x, y, r, hf, he, hx, hy, d => by
    obtain ⟨hn, ho, hk, hrest⟩ := hf
    have hn' : f.name ≠ "_" := by simpa using hn
    cases x with
    | nil => cases k <;> simp [eqCells] at he
    | cons a x =>
      cases y with
      | nil => cases k <;> (cases a <;> simp [eqCells] at he)
      | cons b y =>
        have ha := hx 0 a rfl
        have hb := hy 0 b rfl
        simp only [Nat.add_zero] at ha hb
        have hx' : ∀ i z, x[i]? = some z → n + 1 + i < xs.size ∧ DRep w ok (xs.getD (n + 1 + i) undef) z := fun i z hz => by
          have := hx (i + 1) z (by simpa using hz); rwa [show n + (i + 1) = n + 1 + i by omega] at this
        have hy' : ∀ i z, y[i]? = some z → n + 1 + i < ys.size ∧ DRep w ok (ys.getD (n + 1 + i) undef) z := fun i z hz => by
          have := hy (i + 1) z (by simpa using hz); rwa [show n + (i + 1) = n + 1 + i by omega] at this
        have key : ∀ (q s : Bool), (Op.equalIn (d + 1) f.type (xs.getD n undef) (ys.getD n undef)).run P w = .ok q w → (∃ de, P.underlying f.type = some de ∧ de.isRow = false) →
            (Op.eqFields (d + 1) xs ys fs).run P w = .ok s w → (Op.eqFields (d + 1) xs ys (f :: fs)).run P w = .ok (q && s) w := by
          intro q s h1 ⟨de, h2, h3⟩ h4
          rw [Op.eqFields]
          simp only [if_pos hn', Sem.run_bind, ho, run_part_plain h2 h3 xs n ha.1, run_part_plain h2 h3 ys n hb.1, h1, Result.andThen_ok]
          cases q
          · simp
          · simpa using h4
        cases k with
        | int k0 =>
          cases a <;> cases b <;> simp only [eqCells] at he <;> try (exact absurd he (by simp))
          rename_i k a k' b
          split at he
          · rename_i r' hkk hr'
            simp at hkk he; subst hkk; subst he
            obtain ⟨k2, hk2⟩ := hk
            have h1 := ha.2; have h2 := hb.2
            generalize hva : xs.getD n undef = va at *; generalize hvb : ys.getD n undef = vb at *
            cases h1; cases h2
            exact key _ _ (run_equalIn_int w d f.type _ _ a b hk2) ⟨_, hk2, rfl⟩ (eqFields_ok ks (n + 1) fs x y r' hrest hr' hx' hy' d)
          · cases he
        | bool =>
          cases a <;> cases b <;> simp only [eqCells] at he <;> try (exact absurd he (by simp))
          rename_i a b
          split at he
          · rename_i r' hr'
            simp at he; subst he
            have h1 := ha.2; have h2 := hb.2
            generalize hva : xs.getD n undef = va at *; generalize hvb : ys.getD n undef = vb at *
            cases h1; cases h2
            exact key _ _ (run_equalIn_bool' w d f.type a b hk) ⟨_, hk, rfl⟩ (eqFields_ok ks (n + 1) fs x y r' hrest hr' hx' hy' d)
          · cases he
        | string =>
          cases a <;> cases b <;> simp only [eqCells] at he <;> try (exact absurd he (by simp))
          rename_i a b
          split at he
          · rename_i r' hr'
            simp at he; subst he
            have h1 := ha.2; have h2 := hb.2
            obtain ⟨s1, q1, rfl, _⟩ := h1.str_inv
            obtain ⟨s2, q2, rfl, _⟩ := h2.str_inv
            have h3 := run_equalIn_string (P := P) w d f.type s1 s2 hk
            simp only [ByteArray.toList_eq, beq_dec] at h3
            rw [← q1, ← q2] at h3
            exact key _ _ h3 ⟨_, hk, rfl⟩ (eqFields_ok ks (n + 1) fs x y r' hrest hr' hx' hy' d)
          · cases he
        | _ => exact hk.elim

theorem equalIn_iface {P : Program} {t : TypeId} {ms : Array (String × TypeId)} (h : P.underlying t = some (.interface ms)) (d : Nat) (w : World) (ty : TypeId) (v : Value) :
    (Op.equalIn (d + 1) t .nilIface .nilIface).run P w = .ok true w ∧ (Op.equalIn (d + 1) t .nilIface (.iface ty v)).run P w = .ok false w ∧ (Op.equalIn (d + 1) t (.iface ty v) .nilIface).run P w = .ok false w := by
  refine ⟨?_, ?_, ?_⟩ <;> simp [Op.equalIn, run_underlying h]

theorem binOp_of_equal {P : Program} {t : TypeId} {va vb : Value} {w : World} {r : Bool} (h : (Op.equalIn 10000 t va vb).run P w = .ok r w) (hn : va = .nilIface ∨ ∃ ty v, va = .iface ty v) :
    (binOp .eql t va vb).run P w = .ok (.bool r) w ∧ (binOp .neq t va vb).run P w = .ok (.bool !r) w := by
  rcases hn with rfl | ⟨ty, v, rfl⟩
  · constructor <;> (simp only [binOp, Op.equal, Op.maxDepth, Sem.run_bind, h, Result.andThen_ok, Sem.run_pure])
  · constructor <;> (simp only [binOp, Op.equal, Op.maxDepth, Sem.run_bind, h, Result.andThen_ok, Sem.run_pure])

theorem err_ok {op : BinOp} {ty : TypeId} {x y : Operand} {p q : Bool} {ms : Array (String × TypeId)} (hr : Rel X pl fr ob a w) (h : [x, y].map (opV fr) = [.err p, .err q]) (hc : (isC x || isC y) = true) (hpq : p = true ∨ q = true)
    (hms : X.P.underlying ty = some (.interface ms)) :
    (eqGuard op ty x y (a.eval x) (a.eval y)).run X.P w = .ok () w ∧ (binOp .eql ty (a.eval x) (a.eval y)).run X.P w = .ok (.bool (p && q)) w ∧ (binOp .neq ty (a.eval x) (a.eval y)).run X.P w = .ok (.bool !(p && q)) w := by
  obtain ⟨⟨h1, _⟩, ⟨h2, _⟩⟩ := ops2 hr h
  generalize a.eval x = va at *
  generalize a.eval y = vb at *
  cases h1 with
  | errN => cases h2 with
    | errN => exact ⟨eqGuard_nn hc, binOp_of_equal (equalIn_iface hms 9999 w 0 undef).1 (.inl rfl)⟩
    | errS t v => exact ⟨by unfold eqGuard; cases op <;> simp, binOp_of_equal (equalIn_iface hms 9999 w t v).2.1 (.inl rfl)⟩
  | errS t v => cases h2 with
    | errN => exact ⟨by unfold eqGuard; cases op <;> simp, binOp_of_equal (equalIn_iface hms 9999 w t v).2.2 (.inr ⟨_, _, rfl⟩)⟩
    | errS t' v' => simp at hpq

theorem core_binOp (hT : TOk X) (op : BinOp) (ty yty : TypeId) (x y : Operand) {dst : Option Nat} {ins : List PV} {lk : Nat → Obj} {K : PV → Ob → List Nat → Prop} (hd : ∀ d', dst = some d' → d' < X.E.nt)
    (h : evCore X.E (.binOp op ty x y yty) dst ins lk K) : ∃ v u t, K v u t ∧ CoreOk X (.binOp op ty x y yty) dst ins lk v u t := by
  simp only [evCore] at h
  split at h
  · -- structs
    rename_i p q
    split at h
    · rename_i ti hti
      split at h
      · exact h.elim
      · rename_i ks hks
        obtain ⟨fs, hu, hsi, hg, hfl⟩ := (hT ty ti hti).flat (by intro h0; exact hks h0)
        have key : ∀ (o : Oper) (fr : Fr) (ob : Ob) (r : Bool), o.op = .binOp op ty x y yty → [x, y].map (opV fr) = [.agg p, .agg q] → eqCells ti.flat p q = some r → ∀ pl a w, Rel X pl fr ob a w →
            ∃ xs ys, a.eval x = .agg xs ∧ a.eval y = .agg ys ∧ (eqGuard op ty x y (.agg xs) (.agg ys)).run X.P w = .ok () w ∧ (Op.equalIn 10000 ty (.agg xs) (.agg ys)).run X.P w = .ok r w := by
          intro o fr ob r ho hins hr pl a w hrel
          obtain ⟨⟨h1, _⟩, ⟨h2, _⟩⟩ := ops2 hrel hins
          generalize a.eval x = va at *; generalize a.eval y = vb at *
          cases h1 with
          | agg hs1 hi1 =>
            cases h2 with
            | agg hs2 hi2 =>
              rename_i xs ys
              refine ⟨xs, ys, rfl, rfl, run_eqGuard_agg w op ty x y xs ys hg, ?_⟩
              have hf : X.P.fieldsOf ty = fs := by simp [Program.fieldsOf, hu]
              rw [run_equalIn_struct (P := X.P) w 9999 ty xs ys (by rw [hf]; exact hu) hsi, hf]
              exact eqFields_ok ti.flat 0 fs.toList p q r hfl hr (fun i z hz => ⟨by rw [Nat.zero_add, hs1]; exact (List.getElem?_eq_some_iff.1 hz).1, by rw [Nat.zero_add]; exact hi1 i z hz⟩)
                (fun i z hz => ⟨by rw [Nat.zero_add, hs2]; exact (List.getElem?_eq_some_iff.1 hz).1, by rw [Nat.zero_add]; exact hi2 i z hz⟩) 9998
        split at h
        · rename_i r hr
          refine ⟨_, [], [], h, .value hd fun o fr ob ho hins _ pl a w hrel => ?_⟩
          obtain ⟨xs, ys, e1, e2, e3, e4⟩ := key o fr ob r ho hins hr pl a w hrel
          refine ⟨.bool r, ?_, .d (.bool _), fun id hid => by simp [ids] at hid⟩
          unfold execOp; rw [ho]; simp only [e1, e2, Sem.run_bind, e3, Result.andThen_ok, run_eql_struct, e4, Sem.run_pure]
        · rename_i r hr
          refine ⟨_, [], [], h, .value hd fun o fr ob ho hins _ pl a w hrel => ?_⟩
          obtain ⟨xs, ys, e1, e2, e3, e4⟩ := key o fr ob r ho hins hr pl a w hrel
          refine ⟨.bool !r, ?_, .d (.bool _), fun id hid => by simp [ids] at hid⟩
          unfold execOp; rw [ho]; simp only [e1, e2, Sem.run_bind, e3, Result.andThen_ok, run_neq_struct, e4, Sem.run_pure]
        · exact h.elim
    · exact h.elim
  · -- bools
    rename_i p q
    split at h
    · rename_i ti hti
      have hk := (hT ty ti hti).und
      have key : ∀ (o : Oper) (fr : Fr) (ob : Ob), [x, y].map (opV fr) = [.d (.bool p), .d (.bool q)] → ∀ pl a w, Rel X pl fr ob a w → a.eval x = .bool p ∧ a.eval y = .bool q := by
        intro o fr ob hins pl a w hrel
        obtain ⟨⟨h1, _⟩, ⟨h2, _⟩⟩ := ops2 hrel hins
        generalize a.eval x = va at *; generalize a.eval y = vb at *
        cases h1 with
        | d h1 => cases h1; cases h2 with
          | d h2 => cases h2; exact ⟨rfl, rfl⟩
      split at h
      · rename_i hkk
        rw [hkk] at hk
        refine ⟨_, [], [], h, .value hd fun o fr ob ho hins _ pl a w hrel => ?_⟩
        obtain ⟨e1, e2⟩ := key o fr ob hins pl a w hrel
        refine ⟨.bool (p == q), ?_, .d (.bool _), fun id hid => by simp [ids] at hid⟩
        unfold execOp; rw [ho]; simp only [e1, e2, Sem.run_bind, eqGuard_bool, Result.andThen_ok, binOp, Op.equal, Op.maxDepth, run_equalIn_bool' w 9999 ty p q hk, Sem.run_pure]
      · rename_i hkk
        rw [hkk] at hk
        refine ⟨_, [], [], h, .value hd fun o fr ob ho hins _ pl a w hrel => ?_⟩
        obtain ⟨e1, e2⟩ := key o fr ob hins pl a w hrel
        refine ⟨.bool (!(p == q)), ?_, .d (.bool _), fun id hid => by simp [ids] at hid⟩
        unfold execOp; rw [ho]; simp only [e1, e2, Sem.run_bind, eqGuard_bool, Result.andThen_ok, binOp, Op.equal, Op.maxDepth, run_equalIn_bool' w 9999 ty p q hk, Sem.run_pure]
      · exact h.elim
    · exact h.elim
  · -- errors
    rename_i p q
    split at h
    · rename_i ti hti
      have hk := (hT ty ti hti).und
      split at h
      · rename_i hkk hcc
        rw [hkk] at hk
        obtain ⟨ms, hms⟩ := hk
        refine ⟨_, [], [], h.2, .value hd fun o fr ob ho hins _ pl a w hrel => ?_⟩
        obtain ⟨e1, e2, _⟩ := err_ok (op := .eql) hrel hins hcc h.1 hms
        refine ⟨.bool (p && q), ?_, .d (.bool _), fun id hid => by simp [ids] at hid⟩
        unfold execOp; rw [ho]
        simp only [Sem.run_bind, e1, Result.andThen_ok, e2, Sem.run_pure]
      · rename_i hkk hcc
        rw [hkk] at hk
        obtain ⟨ms, hms⟩ := hk
        refine ⟨_, [], [], h.2, .value hd fun o fr ob ho hins _ pl a w hrel => ?_⟩
        obtain ⟨e1, _, e2⟩ := err_ok (op := .neq) hrel hins hcc h.1 hms
        refine ⟨.bool (!(p && q)), ?_, .d (.bool _), fun id hid => by simp [ids] at hid⟩
        unfold execOp; rw [ho]
        simp only [Sem.run_bind, e1, Result.andThen_ok, e2, Sem.run_pure]
      · exact h.elim
    · exact h.elim
  · -- numbers, texts
    rename_i p q
    unfold evBin at h
    split at h
    · rename_i k m k' n _
      have key : ∀ (fr : Fr) (ob : Ob), [x, y].map (opV fr) = [.d (.int k m), .d (.int k' n)] → ∀ pl a w, Rel X pl fr ob a w → a.eval x = .int k m ∧ a.eval y = .int k' n := by
        intro fr ob hins pl a w hrel
        obtain ⟨⟨h1, _⟩, ⟨h2, _⟩⟩ := ops2 hrel hins
        generalize a.eval x = va at *; generalize a.eval y = vb at *
        cases h1 with
        | d h1 => cases h1; cases h2 with
          | d h2 => cases h2; exact ⟨rfl, rfl⟩
      split at h
      · refine ⟨_, [], [], h.2, .value hd fun o fr ob ho hins _ pl a w hrel => ?_⟩
        obtain ⟨e1, e2⟩ := key fr ob hins pl a w hrel
        have hn : ¬ n < 0 := by have := h.1; omega
        refine ⟨_, ?_, .d (.int _ _), fun id hid => by simp [ids] at hid⟩
        unfold execOp; rw [ho]; simp only [e1, e2, Sem.run_bind, eqGuard_int, Result.andThen_ok, binOp, Op.shift, hn, if_false]; rfl
      · refine ⟨_, [], [], h.2, .value hd fun o fr ob ho hins _ pl a w hrel => ?_⟩
        obtain ⟨e1, e2⟩ := key fr ob hins pl a w hrel
        have hn : ¬ n < 0 := by have := h.1; omega
        refine ⟨_, ?_, .d (.int _ _), fun id hid => by simp [ids] at hid⟩
        unfold execOp; rw [ho]; simp only [e1, e2, Sem.run_bind, eqGuard_int, Result.andThen_ok, binOp, Op.shift, hn, if_false]; rfl
      · split at h
        · rename_i hkk
          have hkk : k = k' := of_decide_eq_true hkk
          subst hkk
          obtain ⟨v, hv, val, hval⟩ := binI_ok (X := X) h
          refine ⟨_, [], [], hv, .value hd fun o fr ob ho hins _ pl a w hrel => ?_⟩
          obtain ⟨e1, e2⟩ := key fr ob hins pl a w hrel
          refine ⟨val, ?_, .d ((hval w).2 _), fun id hid => by simp [ids] at hid⟩
          unfold execOp; rw [ho]; simp only [e1, e2, Sem.run_bind, eqGuard_int, Result.andThen_ok, binOp_ty op ty, (hval w).1, Sem.run_pure]
        · exact h.elim
    · rename_i m n _
      obtain ⟨v, hv, hval⟩ := binS_ok' (X := X) h
      refine ⟨_, [], [], hv, .value hd fun o fr ob ho hins _ pl a w hrel => ?_⟩
      have key : ∃ s1 s2, a.eval x = .string s1 ∧ a.eval y = .string s2 ∧ m = s1.data.toList ∧ n = s2.data.toList := by
        obtain ⟨⟨h1, _⟩, ⟨h2, _⟩⟩ := ops2 hrel hins
        generalize a.eval x = va at *; generalize a.eval y = vb at *
        cases h1 with
        | d h1 => cases h2 with
          | d h2 =>
            obtain ⟨s1, q1, q2, _⟩ := h1.str_inv
            obtain ⟨s2, q3, q4, _⟩ := h2.str_inv
            exact ⟨s1, s2, q1, q3, q2, q4⟩
      obtain ⟨s1, s2, e1, e2, e3, e4⟩ := key
      obtain ⟨val, hval⟩ := hval s1 s2 e3 e4
      refine ⟨val, ?_, .d ((hval w).2 _), fun id hid => by simp [ids] at hid⟩
      unfold execOp; rw [ho]; simp only [e1, e2, Sem.run_bind, eqGuard_str, Result.andThen_ok, binOp_tyS op ty, (hval w).1, Sem.run_pure]
    · exact h.elim
  · exact h.elim

end Go.Pv
