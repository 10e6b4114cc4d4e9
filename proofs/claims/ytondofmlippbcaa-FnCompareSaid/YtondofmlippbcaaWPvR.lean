import Derived.Test.YtondofmlippbcaaWPvQ
set_option linter.unusedVariables false
set_option linter.unusedSimpArgs false
namespace Go.Pv

def opIns : Op → List Operand
  | .move x | .assign x | .box _ x | .load _ x | .nilCheck x | .unOp _ _ x | .convert _ _ x | .fieldAddr _ x _ | .field _ x _ | .extract x _ => [x]
  | .pick c a b => [c, a, b]
  | .build _ ps | .buildSlice _ _ ps => ps.toList.map (·.2)
  | .store _ a v | .binOp _ _ a v _ | .makeSlice _ a v | .indexAddr _ a v | .index _ a v => [a, v]
  | .makeFunc _ f c => f.toList ++ c.toList
  | .slice _ x l h m => x :: (l.toList ++ (h.toList ++ m.toList))
  | .call c => c.args.toList
  | _ => []

theorem opIns_ok {E : Env} {op : Op} {dst : Option Nat} {ins : List PV} {lk : Nat → Obj} {K : PV → Ob → List Nat → Prop} (h : evCore E op dst ins lk K) : op.operands.toList = opIns op := by
  cases op <;> try rfl
  case makeFunc => simp [Op.operands, opIns]
  case slice _ x l hh m => cases l <;> cases hh <;> cases m <;> simp [Op.operands, opIns]
  case call c =>
    cases hc : c.callee with
    | builtin b => simp [Op.operands, Call.operands, hc, opIns]
    | value f => simp [evCore, hc] at h
    | invoke r m => simp [evCore, hc] at h
  all_goals simp [evCore] at h

def has (x : Nat) : List Nat → Bool
  | [] => false
  | y :: ys => match Nat.beq x y with | true => true | false => has x ys

def meets : List Nat → List Nat → Bool
  | [], _ => false
  | x :: xs, ys => match has x ys with | true => true | false => meets xs ys

theorem has_iff (x : Nat) (l : List Nat) : has x l = true ↔ x ∈ l := by
  induction l with
  | nil => simp [has]
  | cons y l ih =>
    simp only [has]
    split
    · rename_i h; have := Nat.eq_of_beq_eq_true h; subst this; simp
    · rename_i h
      rw [ih]
      have hne : x ≠ y := fun e => by subst e; simp at h
      simp [hne]

theorem meets_iff (l m : List Nat) : meets l m = true ↔ ∃ x, x ∈ l ∧ x ∈ m := by
  induction l with
  | nil => simp [meets]
  | cons y l ih =>
    simp only [meets]
    split
    · rename_i h; exact ⟨fun _ => ⟨y, by simp, (has_iff y m).1 h⟩, fun _ => rfl⟩
    · rename_i h
      rw [ih]
      have hn : y ∉ m := fun hy => by rw [(has_iff y m).2 hy] at h; cases h
      constructor
      · rintro ⟨x, h1, h2⟩; exact ⟨x, by simp [h1], h2⟩
      · rintro ⟨x, h1, h2⟩
        rcases List.mem_cons.1 h1 with rfl | h1
        · exact absurd h2 hn
        · exact ⟨x, h1, h2⟩

def keys {α : Type} : List (Nat × α) → List Nat
  | [] => []
  | (n, _) :: r => n :: keys r

/-- Who has to come before, as bits. -/
def ancE (prev : List Nat) : List Edge → Nat
  | [] => 0
  | e :: r => match Region.binds .any e with
    | true => Nat.lor (Nat.lor (Nat.shiftLeft 1 e.on) (prev.getD e.on 0)) (ancE prev r)
    | false => ancE prev r

def ancs : List Nat → List Oper → List Nat
  | prev, [] => prev
  | prev, o :: r => ancs (prev ++ [ancE prev o.after.toList]) r

def clash (t u t' u' : List Nat) : Bool :=
  match u, u' with
  | [], [] => false
  | u, u' => match meets u t', meets u u', meets u' t with | false, false, false => false | _, _, _ => true

abbrev Log := List (Nat × List Nat × List Nat)

def logOk (as : List Nat) (j : Nat) (t u : List Nat) : Log → Bool
  | [] => true
  | (i, t', u') :: r => match clash t u t' u' with
    | false => logOk as j t u r
    | true => match Nat.testBit (as.getD j 0) i with
      | true => logOk as j t u r
      | false => false

/-- The context is one to be reckoned in. -/
structure Fine (X : Ctx) : Prop where
  tok : TOk X
  fol : X.P.follows .mixedOrders = true

def slotClash (ops : Array Oper) (x y : Oper) : Bool :=
  (match x.dst with | some d => (y.looksAt ops).contains d || y.dst == some d | none => false) || (match y.dst with | some d => (x.looksAt ops).contains d | none => false)

def slotsOk (ops : Array Oper) : Bool :=
  let as := ancs [] ops.toList
  (List.range ops.size).all fun j => match ops[j]? with
    | none => true
    | some y => y.after.toList.all (fun e => !Region.binds .any e || decide (e.on < j)) && (List.range j).all fun i => match ops[i]? with
      | none => true
      | some x => !slotClash ops x y || Nat.testBit (as.getD j 0) i

def codeOk (nt : Nat) : Code → Bool
  | .region _ ops draw => ops.toList.all (fun o => match o.dst with | some d => decide (d < nt) | none => true) && (!draw || slotsOk ops)
  | .seq a b => codeOk nt a && codeOk nt b
  | .cond _ a b => codeOk nt a && codeOk nt b
  | .block _ c => codeOk nt c
  | .loop c => codeOk nt c
  | _ => true

abbrev QP := Exit → Fr → Ob → Prop

def Post (X : Ctx) (Q : QP) : Exit → Act → World → Prop := fun e a w => ∃ pl fr ob, Rel X pl fr ob a w ∧ Q e fr ob

/-- The code, run from there, does what is wanted. -/
def WpG (X : Ctx) (c : Code) (fr : Fr) (ob : Ob) (Q : QP) : Prop :=
  Fine X → codeOk X.E.nt c = true → ∀ pl a w, Rel X pl fr ob a w → c.wp X.P (Post X Q) a w

/-- A loop. -/
def nq (N : Fr → Ob → Prop) (Q : QP) : QP := fun e fr ob => match e with | .normal => N fr ob | e => Q e fr ob

structure LoopG (X : Ctx) (c : Code) (fr : Fr) (ob : Ob) (N : Fr → Ob → Prop) (Q : QP) : Prop where
  mk ::
  out : WpG X (.loop c) fr ob (nq N Q)

/-- What a call of a function does. -/
def CallOk (X : Ctx) (f : FuncId) (vs : List PV) (dst : Option Nat) (lk : Nat → Obj) (v : PV) (u : Ob) (t : List Nat) : Prop :=
  ∀ fr ob pl a w vals, Rel X pl fr ob a w → (∀ id ∈ t, lkOf ob id = lk id) → vals.size = vs.length → (∀ i x, vs[i]? = some x → PRep w (Imm X pl (lkOf ob) w) pl (lkOf ob) (vals.getD i undef) x) → (∀ x ∈ vs, ∀ id ∈ ids x, lkOf ob id ≠ .none) →
    (∃ fn c, X.P.funcs[f]? = some fn ∧ (fn.name == "runtime.NumGoroutine") = false ∧ fn.body = some c) ∧
    Calls X.P f vals w (fun e w' => ∃ val pl', e = .returned val ∧ Rel X pl' (putF dst v fr) (u ++ ob) (a.put dst val) w')

structure CallG (X : Ctx) (f : FuncId) (vs : List PV) (dst : Option Nat) (lk : Nat → Obj) (K : PV → Ob → List Nat → Prop) : Prop where
  mk ::
  out : Fine X → (∀ d, dst = some d → d < X.E.nt) → ∃ v u t, K v u t ∧ CallOk X f vs dst lk v u t

def ptrPs : List Nat → List PV → List PV
  | [], l => l
  | id :: r, l => .ptr id 0 :: ptrPs r l

def appP : List PV → List PV → List PV
  | [], l => l
  | x :: r, l => x :: appP r l

def PWop (X : Ctx) (o : Oper) (fr : Fr) (ob : Ob) (K : PV → Ob → List Nat → Prop) : Prop :=
  match o.op with
  | .call c => match c.callee with
    | .value f => opnd fr f fun fv => match fv with
      | .fn f first caps => opnds fr c.args.toList fun vs => CallG X f (ptrPs first (appP vs (ptrPs caps []))) o.dst (lkOf ob) K
      | _ => False
    | _ => opnds fr c.args.toList fun ins => evCore X.E (.call c) o.dst ins (lkOf ob) K
  | op => opnds fr (opIns op) fun ins => evCore X.E op o.dst ins (lkOf ob) K

def guarded (all : Array Oper) (o : Oper) (fr : Fr) (A B : Fr → Prop) : Prop :=
  match o.guard with
  | none => A fr
  | some (j, want) => match (all[j]?).bind (·.dst) with
    | some d => match look .junk fr d with
      | .d (.bool b) => BranchG b (match want with | true => A ((d, .d (.bool true)) :: fr) | false => B ((d, .d (.bool true)) :: fr))
          (match want with | true => B ((d, .d (.bool false)) :: fr) | false => A ((d, .d (.bool false)) :: fr))
      | .unit => B fr
      | _ => False
    | none => False

/-- Told by the recursors themselves: the kernel and the elaborator unfold it alike. -/
def PWops (X : Ctx) (all : Array Oper) (draw : Bool) (l : List Oper) : Nat → Log → Fr → Ob → (Fr → Ob → Prop) → Prop :=
  @List.rec Oper (fun _ => Nat → Log → Fr → Ob → (Fr → Ob → Prop) → Prop)
    (fun i L fr ob K => K fr ob)
    (fun o _ ih i L fr ob K => guarded all o fr
      (fun fr => PWop X o fr ob fun v u t => match draw with
        | false => ih (i + 1) L (putF o.dst v fr) (u ++ ob) K
        | true => match logOk (ancs [] all.toList) i t (keys u) L with
          | true => ih (i + 1) ((i, t, keys u) :: L) (putF o.dst v fr) (u ++ ob) K
          | false => False)
      (fun fr => ih (i + 1) L (putF o.dst .unit fr) ob K)) l

/-- N: what is wanted behind the code; Q: what is wanted at its exits. -/
def PW (X : Ctx) (c : Code) : Fr → Ob → (Fr → Ob → Prop) → QP → Prop :=
  @Code.rec (fun _ => Fr → Ob → (Fr → Ob → Prop) → QP → Prop)
    (fun fr ob N Q => N fr ob)
    (fun _ ops draw fr ob N Q => PWops X ops draw ops.toList 0 [] fr ob N)
    (fun _ _ a b fr ob N Q => a fr ob (fun fr ob => b fr ob N Q) Q)
    (fun c _ _ a b fr ob N Q => opnd fr c fun v => match v with
      | .d (.bool t) => BranchG t (a fr ob N Q) (b fr ob N Q)
      | _ => False)
    (fun id _ c fr ob N Q => c fr ob N fun e fr ob => match e with | .exit i => (match Nat.beq i id with | true => N fr ob | false => Q (.exit i) fr ob) | e => Q e fr ob)
    (fun c _ fr ob N Q => LoopG X c fr ob N Q)
    (fun _ _ _ _ _ _ _ _ _ _ => False)
    (fun id fr ob N Q => Q (.exit id) fr ob)
    (fun _ _ _ _ _ _ => False)
    (fun _ _ _ _ _ => False)
    (fun _ _ _ _ _ => False)
    (fun fr ob N Q => Q .ret fr ob)
    (fun _ _ _ _ _ => False) c

end Go.Pv
