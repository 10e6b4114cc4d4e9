import Derived.Test.YtondofmlippbcaaVPure0
import Derived.Test.YtondofmlippbcaaVX17
set_option linter.unusedVariables false
set_option linter.unusedSimpArgs false
open Go Go.Pv
namespace Go.Pv.S
theorem laws_szStringS_l1_eq : ∀ (l : List Str) (left : Int), laws_szStringS_l1 l left = szL (fun x l => some (w64 (l - (x.length : Int)))) l left
  | [], _ => rfl
  | x :: xs, left => by
    rw [laws_szStringS_l1, szL]; simp only [Option.bind_some, laws_szStringS_l1_eq xs]
theorem laws_szStringS_eq (l : List Str) (left : Int) : laws_szStringS l left = szS (fun x l => some (w64 (l - (x.length : Int)))) l left := by
  unfold laws_szStringS szS; rw [laws_szStringS_l1_eq]; rfl
theorem sz_String {x : Str} (h : (x.length : Int) ≤ 140737488351232) : Meas (fun k x l => some (w64 (l - (x.length : Int)))) (fun x => (x.length : Int) ≤ 1048576) x := by
  intro left h0 h1
  have w1 := w64_sub h0 h1 (n := x.length) (by omega)
  exact ⟨left - x.length, .of fun k => (congrArg some w1 : _), by omega⟩
theorem sz_StringS {l : List Str} (h : (l.length : Int) ≤ 140737488351232 ∧ ∀ x ∈ l, (x.length : Int) ≤ 140737488351232) : Meas (fun k l left => laws_szStringS l left) (fun l => (l.length : Int) ≤ 1048576 ∧ ∀ x ∈ l, (x.length : Int) ≤ 1048576) l := by
  intro left h0 h1
  obtain ⟨v, e, d⟩ := szS_good l (by omega) (fun x hx => sz_String (h.2 x hx)) left h0 h1
  exact ⟨v, e.mono fun k hk => (laws_szStringS_eq l left).trans hk, d.imp id fun d => ⟨d.1, d.2.1, by omega, d.2.2.2⟩⟩
theorem laws_toStringS_l1_eq : ∀ (l : List Str) (i : Nat) (m : List Str), laws_toStringS_l1 l i m = toL (fun x => some x) l i m
  | [], _, _ => rfl
  | x :: xs, i, m => by
    rw [laws_toStringS_l1, toL]; simp only [Option.bind_some, laws_toStringS_l1_eq xs]
theorem laws_toStringS_eq (l : List Str) : laws_toStringS l = toS (fun x => some x) 16 [] l := by
  unfold laws_toStringS toS; rw [laws_toStringS_l1_eq]
theorem to_String (x : Str) (h : (x.length : Int) ≤ 1048576) : Ev fun k => some x = some x := .of fun _ => rfl
theorem to_StringS {l : List Str} (h : (l.length : Int) ≤ 1048576 ∧ ∀ x ∈ l, (x.length : Int) ≤ 1048576) : Ev fun k => laws_toStringS l = some l :=
  (Ev.all (p := fun x k => some x = some x) fun x hx => to_String x (h.2 x hx)).mono fun k hk => by rw [laws_toStringS_eq]; exact toS_good hk (by omega) h.1
theorem laws_eqStringS_l1_eq (b : List Str) : ∀ (l : List Str) (i : Nat), laws_eqStringS_l1 b l i = eqL (fun x y => some (decide (x = y))) b l i
  | [], _ => rfl
  | x :: xs, i => by
    rw [laws_eqStringS_l1, eqL]; simp only [Option.bind_some, decide_eq_true_eq, laws_eqStringS_l1_eq b xs]
theorem laws_eqStringS_eq (l m : List Str) : laws_eqStringS l m = eqS (fun x y => some (decide (x = y))) l m := by
  unfold laws_eqStringS eqS; rw [laws_eqStringS_l1_eq]; rfl
theorem eq_String (x : Str) : Ev fun k => some (decide (x = x)) = some true := .of fun _ => by simp
theorem eq_StringS (l : List Str) : Ev fun k => laws_eqStringS l l = some true :=
  (Ev.all (p := fun x k => (some (decide (x = x))) = some true) fun x hx => eq_String x).mono fun k hk => by rw [laws_eqStringS_eq]; exact eqS_good hk
def OK_GLabels (B : Int) (y : GLabels) : Prop := (y.Name.length : Int) ≤ B ∧ ((y.List.length : Int) ≤ B ∧ ∀ x ∈ y.List, (x.length : Int) ≤ B) ∧ True
theorem sz_Labels {y : GLabels} (h : OK_GLabels 140737488351232 y) : Meas (fun k y left => laws_szLabels y left) (OK_GLabels 1048576) y := by
  intro left h0 h1
  obtain ⟨c0, c1, _⟩ := h
  have w0 := w64_sub h0 h1 (n := y.Name.length) (by omega)
  by_cases d0 : left - (y.Name.length : Int) < 0
  · exact ⟨-1, (Ev.of (p := fun _ => True) fun _ => trivial).mono fun k hk => by
        obtain _ := hk
        unfold laws_szLabels
        simp only [w0, Option.bind_some]
        rw [if_pos d0], .inl (by omega)⟩
  have a0 : 0 ≤ (left - (y.Name.length : Int)) := by omega
  have b0 : (left - (y.Name.length : Int)) ≤ 1048576 := by omega
  obtain ⟨v1, e1, d1⟩ := sz_StringS c1 (left - (y.Name.length : Int)) a0 b0
  rcases d1 with d1 | ⟨a1, b1, o1⟩
  · exact ⟨-1, ((Ev.of (p := fun _ => True) fun _ => trivial).and e1).mono fun k hk => by
        obtain ⟨_, q0⟩ := hk
        unfold laws_szLabels
        simp only [w0, q0, Option.bind_some]
        rw [if_neg d0, if_pos d1], .inl (by omega)⟩
  have b1' : v1 ≤ 1048576 := by omega
  exact ⟨v1, ((Ev.of (p := fun _ => True) fun _ => trivial).and e1).mono fun k hk => by
      obtain ⟨_, q0⟩ := hk
      unfold laws_szLabels
      simp only [w0, q0, Option.bind_some]
      rw [if_neg d0, if_neg (show ¬ v1 < 0 by omega)], .inr ⟨by omega, by omega, by omega, o1, trivial⟩⟩
theorem to_Labels (y : GLabels) (h : OK_GLabels 1048576 y) : Ev fun k => laws_toLabels y = some y := by
  obtain ⟨h0, h1, _⟩ := h
  exact ((Ev.of (p := fun _ => True) fun _ => trivial).and (to_StringS h1)).mono fun k hk => by
    obtain ⟨_, q0⟩ := hk
    unfold laws_toLabels
    simp only [q0, Option.bind_some]
theorem eq_Labels (y : GLabels) : Ev fun k => laws_eqLabels y y = some true := by
  exact ((Ev.of (p := fun _ => True) fun _ => trivial).and (eq_StringS y.List)).mono fun k hk => by
    obtain ⟨_, q0⟩ := hk
    unfold laws_eqLabels
    simp only [q0, Option.bind_some, if_true, beq_self_eq_true]
theorem laws_szLabelsS_l1_eq : ∀ (l : List GLabels) (left : Int), laws_szLabelsS_l1 l left = szL (fun x l => laws_szLabels x l) l left
  | [], _ => rfl
  | x :: xs, left => by
    rw [laws_szLabelsS_l1, szL]; simp only [Option.bind_some, laws_szLabelsS_l1_eq xs]
theorem laws_szLabelsS_eq (l : List GLabels) (left : Int) : laws_szLabelsS l left = szS (fun x l => laws_szLabels x l) l left := by
  unfold laws_szLabelsS szS; rw [laws_szLabelsS_l1_eq]; rfl
theorem sz_LabelsS {l : List GLabels} (h : (l.length : Int) ≤ 140737488351232 ∧ ∀ x ∈ l, OK_GLabels 140737488351232 x) : Meas (fun k l left => laws_szLabelsS l left) (fun l => (l.length : Int) ≤ 1048576 ∧ ∀ x ∈ l, OK_GLabels 1048576 x) l := by
  intro left h0 h1
  obtain ⟨v, e, d⟩ := szS_good l (by omega) (fun x hx => sz_Labels (h.2 x hx)) left h0 h1
  exact ⟨v, e.mono fun k hk => (laws_szLabelsS_eq l left).trans hk, d.imp id fun d => ⟨d.1, d.2.1, by omega, d.2.2.2⟩⟩
theorem laws_toLabelsS_l1_eq : ∀ (l : List GLabels) (i : Nat) (m : List GLabels), laws_toLabelsS_l1 l i m = toL (fun x => laws_toLabels x) l i m
  | [], _, _ => rfl
  | x :: xs, i, m => by
    rw [laws_toLabelsS_l1, toL]; simp only [Option.bind_some, laws_toLabelsS_l1_eq xs]
theorem laws_toLabelsS_eq (l : List GLabels) : laws_toLabelsS l = toS (fun x => laws_toLabels x) 40 (⟨[], []⟩ : GLabels) l := by
  unfold laws_toLabelsS toS; rw [laws_toLabelsS_l1_eq]
theorem to_LabelsS {l : List GLabels} (h : (l.length : Int) ≤ 1048576 ∧ ∀ x ∈ l, OK_GLabels 1048576 x) : Ev fun k => laws_toLabelsS l = some l :=
  (Ev.all (p := fun x k => laws_toLabels x = some x) fun x hx => to_Labels x (h.2 x hx)).mono fun k hk => by rw [laws_toLabelsS_eq]; exact toS_good hk (by omega) h.1
theorem laws_eqLabelsS_l1_eq (b : List GLabels) : ∀ (l : List GLabels) (i : Nat), laws_eqLabelsS_l1 b l i = eqL (fun x y => laws_eqLabels x y) b l i
  | [], _ => rfl
  | x :: xs, i => by
    rw [laws_eqLabelsS_l1, eqL]; simp only [Option.bind_some, decide_eq_true_eq, laws_eqLabelsS_l1_eq b xs]
theorem laws_eqLabelsS_eq (l m : List GLabels) : laws_eqLabelsS l m = eqS (fun x y => laws_eqLabels x y) l m := by
  unfold laws_eqLabelsS eqS; rw [laws_eqLabelsS_l1_eq]; rfl
theorem eq_LabelsS (l : List GLabels) : Ev fun k => laws_eqLabelsS l l = some true :=
  (Ev.all (p := fun x k => (laws_eqLabels x x) = some true) fun x hx => eq_Labels x).mono fun k hk => by rw [laws_eqLabelsS_eq]; exact eqS_good hk
def OK_GSeq (B : Int) (y : GSeq) : Prop := (y.Name.length : Int) ≤ B ∧ True
theorem sz_Seq {y : GSeq} (h : OK_GSeq 140737488351232 y) : Meas (fun k y left => some (laws_szSeq y left)) (OK_GSeq 1048576) y := by
  intro left h0 h1
  obtain ⟨c0, _⟩ := h
  have w0 := w64_sub h0 h1 (n := y.Name.length) (by omega)
  by_cases d0 : left - (y.Name.length : Int) < 0
  · exact ⟨-1, (Ev.of (p := fun _ => True) fun _ => trivial).mono fun k hk => by
        obtain _ := hk
        unfold laws_szSeq
        simp only [w0, Option.bind_some]
        rw [if_pos d0], .inl (by omega)⟩
  have a0 : 0 ≤ (left - (y.Name.length : Int)) := by omega
  have b0 : (left - (y.Name.length : Int)) ≤ 1048576 := by omega
  exact ⟨(left - (y.Name.length : Int)), (Ev.of (p := fun _ => True) fun _ => trivial).mono fun k hk => by
      obtain _ := hk
      unfold laws_szSeq
      simp only [w0, Option.bind_some]
      rw [if_neg d0], .inr ⟨by omega, by omega, by omega, trivial⟩⟩
theorem to_Seq (y : GSeq) (h : OK_GSeq 1048576 y) : Ev fun k => some (laws_toSeq y) = some y := by
  obtain ⟨h0, _⟩ := h
  exact (Ev.of (p := fun _ => True) fun _ => trivial).mono fun k hk => by
    obtain _ := hk
    unfold laws_toSeq
    rfl
theorem eq_Seq (y : GSeq) : Ev fun k => some (laws_eqSeq y y) = some true := by
  exact (Ev.of (p := fun _ => True) fun _ => trivial).mono fun k hk => by
    obtain _ := hk
    unfold laws_eqSeq
    simp only [Option.bind_some, if_true, beq_self_eq_true]
theorem laws_szSeqS_l1_eq : ∀ (l : List GSeq) (left : Int), laws_szSeqS_l1 l left = szL (fun x l => some (laws_szSeq x l)) l left
  | [], _ => rfl
  | x :: xs, left => by
    rw [laws_szSeqS_l1, szL]; simp only [Option.bind_some, laws_szSeqS_l1_eq xs]
theorem laws_szSeqS_eq (l : List GSeq) (left : Int) : laws_szSeqS l left = szS (fun x l => some (laws_szSeq x l)) l left := by
  unfold laws_szSeqS szS; rw [laws_szSeqS_l1_eq]; rfl
theorem sz_SeqS {l : List GSeq} (h : (l.length : Int) ≤ 140737488351232 ∧ ∀ x ∈ l, OK_GSeq 140737488351232 x) : Meas (fun k l left => laws_szSeqS l left) (fun l => (l.length : Int) ≤ 1048576 ∧ ∀ x ∈ l, OK_GSeq 1048576 x) l := by
  intro left h0 h1
  obtain ⟨v, e, d⟩ := szS_good l (by omega) (fun x hx => sz_Seq (h.2 x hx)) left h0 h1
  exact ⟨v, e.mono fun k hk => (laws_szSeqS_eq l left).trans hk, d.imp id fun d => ⟨d.1, d.2.1, by omega, d.2.2.2⟩⟩
theorem laws_toSeqS_l1_eq : ∀ (l : List GSeq) (i : Nat) (m : List GSeq), laws_toSeqS_l1 l i m = toL (fun x => some (laws_toSeq x)) l i m
  | [], _, _ => rfl
  | x :: xs, i, m => by
    rw [laws_toSeqS_l1, toL]; simp only [Option.bind_some, laws_toSeqS_l1_eq xs]
theorem laws_toSeqS_eq (l : List GSeq) : laws_toSeqS l = toS (fun x => some (laws_toSeq x)) 24 (⟨[], 0⟩ : GSeq) l := by
  unfold laws_toSeqS toS; rw [laws_toSeqS_l1_eq]
theorem to_SeqS {l : List GSeq} (h : (l.length : Int) ≤ 1048576 ∧ ∀ x ∈ l, OK_GSeq 1048576 x) : Ev fun k => laws_toSeqS l = some l :=
  (Ev.all (p := fun x k => some (laws_toSeq x) = some x) fun x hx => to_Seq x (h.2 x hx)).mono fun k hk => by rw [laws_toSeqS_eq]; exact toS_good hk (by omega) h.1
theorem laws_eqSeqS_l1_eq (b : List GSeq) : ∀ (l : List GSeq) (i : Nat), laws_eqSeqS_l1 b l i = eqL (fun x y => some (laws_eqSeq x y)) b l i
  | [], _ => rfl
  | x :: xs, i => by
    rw [laws_eqSeqS_l1, eqL]; simp only [Option.bind_some, decide_eq_true_eq, laws_eqSeqS_l1_eq b xs]
theorem laws_eqSeqS_eq (l m : List GSeq) : laws_eqSeqS l m = eqS (fun x y => some (laws_eqSeq x y)) l m := by
  unfold laws_eqSeqS eqS; rw [laws_eqSeqS_l1_eq]; rfl
theorem eq_SeqS (l : List GSeq) : Ev fun k => laws_eqSeqS l l = some true :=
  (Ev.all (p := fun x k => (some (laws_eqSeq x x)) = some true) fun x hx => eq_Seq x).mono fun k hk => by rw [laws_eqSeqS_eq]; exact eqS_good hk
def OK_GType_ (B : Int) (y : GType_) : Prop := (y.Name.length : Int) ≤ B ∧ True
theorem sz_Type {y : GType_} (h : OK_GType_ 140737488351232 y) : Meas (fun k y left => some (laws_szType y left)) (OK_GType_ 1048576) y := by
  intro left h0 h1
  obtain ⟨c0, _⟩ := h
  have w0 := w64_sub h0 h1 (n := y.Name.length) (by omega)
  by_cases d0 : left - (y.Name.length : Int) < 0
  · exact ⟨-1, (Ev.of (p := fun _ => True) fun _ => trivial).mono fun k hk => by
        obtain _ := hk
        unfold laws_szType
        simp only [w0, Option.bind_some]
        rw [if_pos d0], .inl (by omega)⟩
  have a0 : 0 ≤ (left - (y.Name.length : Int)) := by omega
  have b0 : (left - (y.Name.length : Int)) ≤ 1048576 := by omega
  exact ⟨(left - (y.Name.length : Int)), (Ev.of (p := fun _ => True) fun _ => trivial).mono fun k hk => by
      obtain _ := hk
      unfold laws_szType
      simp only [w0, Option.bind_some]
      rw [if_neg d0], .inr ⟨by omega, by omega, by omega, trivial⟩⟩
theorem to_Type (y : GType_) (h : OK_GType_ 1048576 y) : Ev fun k => some (laws_toType y) = some y := by
  obtain ⟨h0, _⟩ := h
  exact (Ev.of (p := fun _ => True) fun _ => trivial).mono fun k hk => by
    obtain _ := hk
    unfold laws_toType
    rfl
theorem eq_Type (y : GType_) : Ev fun k => some (laws_eqType y y) = some true := by
  exact (Ev.of (p := fun _ => True) fun _ => trivial).mono fun k hk => by
    obtain _ := hk
    unfold laws_eqType
    simp only [Option.bind_some, if_true, beq_self_eq_true]
inductive OK_GExpr (B : Int) : GExpr → Prop
  | mk (y : GExpr) (hText : (y.Text.length : Int) ≤ B) (h0 : (y.Kids.length : Int) ≤ B) (hk : ∀ x ∈ y.Kids, OK_GExpr B x) : OK_GExpr B y
theorem laws_szExprS_l1_eq (f : GExpr → Int → Option Int) : ∀ (l : List GExpr) (left : Int), laws_szExprS_l1 f l left = szL f l left
  | [], _ => rfl
  | x :: xs, left => by
    rw [laws_szExprS_l1, szL]; simp only [laws_szExprS_l1_eq f xs]
theorem laws_toExprS_l1_eq (f : GExpr → Option GExpr) : ∀ (l : List GExpr) (i : Nat) (m : List GExpr), laws_toExprS_l1 f l i m = toL f l i m
  | [], _, _ => rfl
  | x :: xs, i, m => by
    rw [laws_toExprS_l1, toL]; simp only [laws_toExprS_l1_eq f xs]
theorem laws_eqExprS_l1_eq (b : List GExpr) (f : GExpr → GExpr → Option Bool) : ∀ (l : List GExpr) (i : Nat), laws_eqExprS_l1 b f l i = eqL f b l i
  | [], _ => rfl
  | x :: xs, i => by
    rw [laws_eqExprS_l1, eqL]; simp only [laws_eqExprS_l1_eq b f xs]
theorem sz_Expr' : ∀ (n : Nat) (y : GExpr), SizeOf.sizeOf y ≤ n → OK_GExpr 140737488351232 y → Meas (fun k y left => laws_szExpr k y left) (OK_GExpr 1048576) y ∧ True := by
  intro n
  induction n with
  | zero => intro y hy; obtain ⟨a, b, c, d⟩ := y; simp at hy
  | succ n ih =>
    intro y hy hok
    refine ⟨?_, trivial⟩
    obtain ⟨_, ht, hk0, hk⟩ := hok
    have hkid : ∀ x ∈ y.Kids, Meas (fun k y left => laws_szExpr k y left) (OK_GExpr 1048576) x := fun x hx => (ih x (by
      have := List.sizeOf_lt_of_mem hx
      obtain ⟨a, b, c, d⟩ := y
      simp at hy this ⊢; omega) (hk x hx)).1
    intro left h0 h1
    have w1 := w64_sub h0 h1 (n := y.Text.length) (by omega)
    by_cases d1 : left - (y.Text.length : Int) < 0
    · exact ⟨-1, Ev.succ (.of fun k => by show laws_szExpr (k+1) y left = _; rw [laws_szExpr, w1, if_pos d1]), .inl (by omega)⟩
    obtain ⟨v, e, d⟩ := szS_good y.Kids (by omega) hkid (left - y.Text.length) (by omega) (by omega)
    have e' : Ev fun k => laws_szExprS k y.Kids (left - y.Text.length) = some v := Ev.succ (e.mono fun k h => by rw [laws_szExprS, ← h, szS, laws_szExprS_l1_eq]; rfl)
    rcases d with d | ⟨a2, b2, o2⟩
    · exact ⟨-1, Ev.succ (e'.mono fun k h => by show laws_szExpr (k+1) y left = _; rw [laws_szExpr, w1, if_neg d1, h]; simp only [Option.bind_some]; rw [if_pos d]), .inl (by omega)⟩
    · exact ⟨v, Ev.succ (e'.mono fun k h => by show laws_szExpr (k+1) y left = _; rw [laws_szExpr, w1, if_neg d1, h]; simp only [Option.bind_some]; rw [if_neg (by omega)]), .inr ⟨a2, by omega, .mk y (by omega) (by omega) o2.2⟩⟩
theorem sz_Expr {y : GExpr} (h : OK_GExpr 140737488351232 y) : Meas (fun k y left => laws_szExpr k y left) (OK_GExpr 1048576) y := (sz_Expr' _ y (Nat.le_refl _) h).1
theorem sz_ExprS {l : List GExpr} (h : (l.length : Int) ≤ 140737488351232 ∧ ∀ x ∈ l, OK_GExpr 140737488351232 x) : Meas (fun k l left => laws_szExprS k l left) (fun l => (l.length : Int) ≤ 1048576 ∧ ∀ x ∈ l, OK_GExpr 1048576 x) l := by
  intro left h0 h1
  obtain ⟨v, e, d⟩ := szS_good l (by omega) (fun x hx => sz_Expr (h.2 x hx)) left h0 h1
  exact ⟨v, Ev.succ (e.mono fun k h => by show laws_szExprS (k+1) l left = _; rw [laws_szExprS, ← h, szS, laws_szExprS_l1_eq]; rfl), d.imp id fun d => ⟨d.1, d.2.1, by omega, d.2.2.2⟩⟩
theorem to_Expr' : ∀ (n : Nat) (y : GExpr), SizeOf.sizeOf y ≤ n → OK_GExpr 1048576 y → Ev fun k => laws_toExpr k y = some y := by
  intro n
  induction n with
  | zero => intro y hy; obtain ⟨a, b, c, d⟩ := y; simp at hy
  | succ n ih =>
    intro y hy hok
    obtain ⟨_, ht, hk0, hk⟩ := hok
    have hkid : Ev fun k => ∀ x ∈ y.Kids, laws_toExpr k x = some x := Ev.all fun x hx => ih x (by
      have := List.sizeOf_lt_of_mem hx
      obtain ⟨a, b, c, d⟩ := y
      simp at hy this ⊢; omega) (hk x hx)
    refine Ev.succ (Ev.mono (Ev.succ (p := fun k => laws_toExprS k y.Kids = some y.Kids) (hkid.mono fun k h => ?_)) fun k h => ?_)
    · rw [laws_toExprS, laws_toExprS_l1_eq]; exact toS_good (B := 56) h (by omega) hk0
    · rw [laws_toExpr, h]; cases y; rfl
theorem to_Expr (y : GExpr) (h : OK_GExpr 1048576 y) : Ev fun k => laws_toExpr k y = some y := to_Expr' _ y (Nat.le_refl _) h
theorem to_ExprS {l : List GExpr} (h : (l.length : Int) ≤ 1048576 ∧ ∀ x ∈ l, OK_GExpr 1048576 x) : Ev fun k => laws_toExprS k l = some l :=
  Ev.succ ((Ev.all (p := fun x k => laws_toExpr k x = some x) fun x hx => to_Expr x (h.2 x hx)).mono fun k hk => by rw [laws_toExprS, laws_toExprS_l1_eq]; exact toS_good (B := 56) hk (by omega) h.1)
theorem eq_Expr' : ∀ (n : Nat) (y : GExpr), SizeOf.sizeOf y ≤ n → Ev fun k => laws_eqExpr k y y = some true := by
  intro n
  induction n with
  | zero => intro y hy; obtain ⟨a, b, c, d⟩ := y; simp at hy
  | succ n ih =>
    intro y hy
    have hkid : Ev fun k => ∀ x ∈ y.Kids, laws_eqExpr k x x = some true := Ev.all fun x hx => ih x (by
      have := List.sizeOf_lt_of_mem hx
      obtain ⟨a, b, c, d⟩ := y
      simp at hy this ⊢; omega)
    refine Ev.succ (Ev.mono (Ev.succ (p := fun k => laws_eqExprS k y.Kids y.Kids = some true) (hkid.mono fun k h => ?_)) fun k h => ?_)
    · rw [laws_eqExprS, laws_eqExprS_l1_eq]; exact eqS_good h
    · rw [laws_eqExpr, h]; simp only [Option.bind_some, if_true]
theorem eq_Expr (y : GExpr) : Ev fun k => laws_eqExpr k y y = some true := eq_Expr' _ y (Nat.le_refl _)
theorem eq_ExprS (l : List GExpr) : Ev fun k => laws_eqExprS k l l = some true :=
  Ev.succ ((Ev.all (p := fun x k => laws_eqExpr k x x = some true) fun x hx => eq_Expr x).mono fun k hk => by rw [laws_eqExprS, laws_eqExprS_l1_eq]; exact eqS_good hk)

def OK_GCol (B : Int) (y : GCol) : Prop := (y.Name.length : Int) ≤ B ∧ OK_GType_ B y.Type_ ∧ ((y.Default.length : Int) ≤ B ∧ ∀ x ∈ y.Default, OK_GExpr B x) ∧ True
theorem sz_Col {y : GCol} (h : OK_GCol 140737488351232 y) : Meas (fun k y left => laws_szCol k y left) (OK_GCol 1048576) y := by
  intro left h0 h1
  obtain ⟨c0, c1, c2, _⟩ := h
  have w0 := w64_sub h0 h1 (n := y.Name.length) (by omega)
  by_cases d0 : left - (y.Name.length : Int) < 0
  · exact ⟨-1, (Ev.of (p := fun _ => True) fun _ => trivial).mono fun k hk => by
        obtain _ := hk
        unfold laws_szCol
        simp only [w0, Option.bind_some]
        rw [if_pos d0], .inl (by omega)⟩
  have a0 : 0 ≤ (left - (y.Name.length : Int)) := by omega
  have b0 : (left - (y.Name.length : Int)) ≤ 1048576 := by omega
  obtain ⟨v1, e1, d1⟩ := sz_Type c1 (left - (y.Name.length : Int)) a0 b0
  have t1 := Option.some.inj e1.ex.choose_spec
  rcases d1 with d1 | ⟨a1, b1, o1⟩
  · exact ⟨-1, (Ev.of (p := fun _ => True) fun _ => trivial).mono fun k hk => by
        obtain _ := hk
        unfold laws_szCol
        simp only [w0, t1, Option.bind_some]
        rw [if_neg d0, if_pos d1], .inl (by omega)⟩
  have b1' : v1 ≤ 1048576 := by omega
  obtain ⟨v2, e2, d2⟩ := sz_ExprS c2 v1 a1 b1'
  rcases d2 with d2 | ⟨a2, b2, o2⟩
  · exact ⟨-1, ((Ev.of (p := fun _ => True) fun _ => trivial).and e2).mono fun k hk => by
        obtain ⟨_, q0⟩ := hk
        unfold laws_szCol
        simp only [w0, t1, q0, Option.bind_some]
        rw [if_neg d0, if_neg (show ¬ v1 < 0 by omega), if_pos d2], .inl (by omega)⟩
  have b2' : v2 ≤ 1048576 := by omega
  exact ⟨v2, ((Ev.of (p := fun _ => True) fun _ => trivial).and e2).mono fun k hk => by
      obtain ⟨_, q0⟩ := hk
      unfold laws_szCol
      simp only [w0, t1, q0, Option.bind_some]
      rw [if_neg d0, if_neg (show ¬ v1 < 0 by omega), if_neg (show ¬ v2 < 0 by omega)], .inr ⟨by omega, by omega, by omega, o1, o2, trivial⟩⟩
theorem to_Col (y : GCol) (h : OK_GCol 1048576 y) : Ev fun k => laws_toCol k y = some y := by
  obtain ⟨h0, h1, h2, _⟩ := h
  exact ((Ev.of (p := fun _ => True) fun _ => trivial).and (to_ExprS h2)).mono fun k hk => by
    obtain ⟨_, q0⟩ := hk
    unfold laws_toCol
    simp only [q0, Option.bind_some, laws_toType]
theorem eq_Col (y : GCol) : Ev fun k => laws_eqCol k y y = some true := by
  exact (((Ev.of (p := fun _ => True) fun _ => trivial).and (eq_Type y.Type_)).and (eq_ExprS y.Default)).mono fun k hk => by
    obtain ⟨⟨_, q0⟩, q1⟩ := hk
    have t0 := Option.some.inj q0
    unfold laws_eqCol
    simp only [t0, q1, Option.bind_some, if_true, beq_self_eq_true]
theorem laws_szColS_l1_eq (k : Nat) : ∀ (l : List GCol) (left : Int), laws_szColS_l1 k l left = szL (fun x l => laws_szCol k x l) l left
  | [], _ => rfl
  | x :: xs, left => by
    rw [laws_szColS_l1, szL]; simp only [Option.bind_some, laws_szColS_l1_eq k xs]
theorem laws_szColS_eq (k : Nat) (l : List GCol) (left : Int) : laws_szColS k l left = szS (fun x l => laws_szCol k x l) l left := by
  unfold laws_szColS szS; rw [laws_szColS_l1_eq]; rfl
theorem sz_ColS {l : List GCol} (h : (l.length : Int) ≤ 140737488351232 ∧ ∀ x ∈ l, OK_GCol 140737488351232 x) : Meas (fun k l left => laws_szColS k l left) (fun l => (l.length : Int) ≤ 1048576 ∧ ∀ x ∈ l, OK_GCol 1048576 x) l := by
  intro left h0 h1
  obtain ⟨v, e, d⟩ := szS_good l (by omega) (fun x hx => sz_Col (h.2 x hx)) left h0 h1
  exact ⟨v, e.mono fun k hk => (laws_szColS_eq k l left).trans hk, d.imp id fun d => ⟨d.1, d.2.1, by omega, d.2.2.2⟩⟩
theorem laws_toColS_l1_eq (k : Nat) : ∀ (l : List GCol) (i : Nat) (m : List GCol), laws_toColS_l1 k l i m = toL (fun x => laws_toCol k x) l i m
  | [], _, _ => rfl
  | x :: xs, i, m => by
    rw [laws_toColS_l1, toL]; simp only [Option.bind_some, laws_toColS_l1_eq k xs]
theorem laws_toColS_eq (k : Nat) (l : List GCol) : laws_toColS k l = toS (fun x => laws_toCol k x) 80 (⟨[], (⟨0, 0, []⟩ : GType_), false, []⟩ : GCol) l := by
  unfold laws_toColS toS; rw [laws_toColS_l1_eq]
theorem to_ColS {l : List GCol} (h : (l.length : Int) ≤ 1048576 ∧ ∀ x ∈ l, OK_GCol 1048576 x) : Ev fun k => laws_toColS k l = some l :=
  (Ev.all (p := fun x k => laws_toCol k x = some x) fun x hx => to_Col x (h.2 x hx)).mono fun k hk => by rw [laws_toColS_eq]; exact toS_good hk (by omega) h.1
theorem laws_eqColS_l1_eq (k : Nat) (b : List GCol) : ∀ (l : List GCol) (i : Nat), laws_eqColS_l1 k b l i = eqL (fun x y => laws_eqCol k x y) b l i
  | [], _ => rfl
  | x :: xs, i => by
    rw [laws_eqColS_l1, eqL]; simp only [Option.bind_some, decide_eq_true_eq, laws_eqColS_l1_eq k b xs]
theorem laws_eqColS_eq (k : Nat) (l m : List GCol) : laws_eqColS k l m = eqS (fun x y => laws_eqCol k x y) l m := by
  unfold laws_eqColS eqS; rw [laws_eqColS_l1_eq]; rfl
theorem eq_ColS (l : List GCol) : Ev fun k => laws_eqColS k l l = some true :=
  (Ev.all (p := fun x k => (laws_eqCol k x x) = some true) fun x hx => eq_Col x).mono fun k hk => by rw [laws_eqColS_eq]; exact eqS_good hk
def OK_GRule (B : Int) (y : GRule) : Prop := (y.Name.length : Int) ≤ B ∧ ((y.Cols.length : Int) ≤ B ∧ ∀ x ∈ y.Cols, (x.length : Int) ≤ B) ∧ ((y.Expr.length : Int) ≤ B ∧ ∀ x ∈ y.Expr, OK_GExpr B x) ∧ (y.Table.length : Int) ≤ B ∧ ((y.To.length : Int) ≤ B ∧ ∀ x ∈ y.To, (x.length : Int) ≤ B) ∧ True
theorem sz_Rule {y : GRule} (h : OK_GRule 140737488351232 y) : Meas (fun k y left => laws_szRule k y left) (OK_GRule 1048576) y := by
  intro left h0 h1
  obtain ⟨c0, c1, c2, c3, c4, _⟩ := h
  have w0 := w64_sub h0 h1 (n := y.Name.length) (by omega)
  by_cases d0 : left - (y.Name.length : Int) < 0
  · exact ⟨-1, (Ev.of (p := fun _ => True) fun _ => trivial).mono fun k hk => by
        obtain _ := hk
        unfold laws_szRule
        simp only [w0, Option.bind_some]
        rw [if_pos d0], .inl (by omega)⟩
  have a0 : 0 ≤ (left - (y.Name.length : Int)) := by omega
  have b0 : (left - (y.Name.length : Int)) ≤ 1048576 := by omega
  obtain ⟨v1, e1, d1⟩ := sz_StringS c1 (left - (y.Name.length : Int)) a0 b0
  rcases d1 with d1 | ⟨a1, b1, o1⟩
  · exact ⟨-1, ((Ev.of (p := fun _ => True) fun _ => trivial).and e1).mono fun k hk => by
        obtain ⟨_, q0⟩ := hk
        unfold laws_szRule
        simp only [w0, q0, Option.bind_some]
        rw [if_neg d0, if_pos d1], .inl (by omega)⟩
  have b1' : v1 ≤ 1048576 := by omega
  obtain ⟨v2, e2, d2⟩ := sz_ExprS c2 v1 a1 b1'
  rcases d2 with d2 | ⟨a2, b2, o2⟩
  · exact ⟨-1, (((Ev.of (p := fun _ => True) fun _ => trivial).and e1).and e2).mono fun k hk => by
        obtain ⟨⟨_, q0⟩, q1⟩ := hk
        unfold laws_szRule
        simp only [w0, q0, q1, Option.bind_some]
        rw [if_neg d0, if_neg (show ¬ v1 < 0 by omega), if_pos d2], .inl (by omega)⟩
  have b2' : v2 ≤ 1048576 := by omega
  have w3 := w64_sub a2 b2' (n := y.Table.length) (by omega)
  by_cases d3 : v2 - (y.Table.length : Int) < 0
  · exact ⟨-1, (((Ev.of (p := fun _ => True) fun _ => trivial).and e1).and e2).mono fun k hk => by
        obtain ⟨⟨_, q0⟩, q1⟩ := hk
        unfold laws_szRule
        simp only [w0, w3, q0, q1, Option.bind_some]
        rw [if_neg d0, if_neg (show ¬ v1 < 0 by omega), if_neg (show ¬ v2 < 0 by omega), if_pos d3], .inl (by omega)⟩
  have a3 : 0 ≤ (v2 - (y.Table.length : Int)) := by omega
  have b3 : (v2 - (y.Table.length : Int)) ≤ 1048576 := by omega
  obtain ⟨v4, e4, d4⟩ := sz_StringS c4 (v2 - (y.Table.length : Int)) a3 b3
  rcases d4 with d4 | ⟨a4, b4, o4⟩
  · exact ⟨-1, ((((Ev.of (p := fun _ => True) fun _ => trivial).and e1).and e2).and e4).mono fun k hk => by
        obtain ⟨⟨⟨_, q0⟩, q1⟩, q2⟩ := hk
        unfold laws_szRule
        simp only [w0, w3, q0, q1, q2, Option.bind_some]
        rw [if_neg d0, if_neg (show ¬ v1 < 0 by omega), if_neg (show ¬ v2 < 0 by omega), if_neg d3, if_pos d4], .inl (by omega)⟩
  have b4' : v4 ≤ 1048576 := by omega
  exact ⟨v4, ((((Ev.of (p := fun _ => True) fun _ => trivial).and e1).and e2).and e4).mono fun k hk => by
      obtain ⟨⟨⟨_, q0⟩, q1⟩, q2⟩ := hk
      unfold laws_szRule
      simp only [w0, w3, q0, q1, q2, Option.bind_some]
      rw [if_neg d0, if_neg (show ¬ v1 < 0 by omega), if_neg (show ¬ v2 < 0 by omega), if_neg d3, if_neg (show ¬ v4 < 0 by omega)], .inr ⟨by omega, by omega, by omega, o1, o2, by omega, o4, trivial⟩⟩
theorem to_Rule (y : GRule) (h : OK_GRule 1048576 y) : Ev fun k => laws_toRule k y = some y := by
  obtain ⟨h0, h1, h2, h3, h4, _⟩ := h
  exact ((((Ev.of (p := fun _ => True) fun _ => trivial).and (to_StringS h1)).and (to_ExprS h2)).and (to_StringS h4)).mono fun k hk => by
    obtain ⟨⟨⟨_, q0⟩, q1⟩, q2⟩ := hk
    unfold laws_toRule
    simp only [q0, q1, q2, Option.bind_some]
theorem eq_Rule (y : GRule) : Ev fun k => laws_eqRule k y y = some true := by
  exact ((((Ev.of (p := fun _ => True) fun _ => trivial).and (eq_StringS y.Cols)).and (eq_ExprS y.Expr)).and (eq_StringS y.To)).mono fun k hk => by
    obtain ⟨⟨⟨_, q0⟩, q1⟩, q2⟩ := hk
    unfold laws_eqRule
    simp only [q0, q1, q2, Option.bind_some, if_true, beq_self_eq_true]
theorem laws_szRuleS_l1_eq (k : Nat) : ∀ (l : List GRule) (left : Int), laws_szRuleS_l1 k l left = szL (fun x l => laws_szRule k x l) l left
  | [], _ => rfl
  | x :: xs, left => by
    rw [laws_szRuleS_l1, szL]; simp only [Option.bind_some, laws_szRuleS_l1_eq k xs]
theorem laws_szRuleS_eq (k : Nat) (l : List GRule) (left : Int) : laws_szRuleS k l left = szS (fun x l => laws_szRule k x l) l left := by
  unfold laws_szRuleS szS; rw [laws_szRuleS_l1_eq]; rfl
theorem sz_RuleS {l : List GRule} (h : (l.length : Int) ≤ 140737488351232 ∧ ∀ x ∈ l, OK_GRule 140737488351232 x) : Meas (fun k l left => laws_szRuleS k l left) (fun l => (l.length : Int) ≤ 1048576 ∧ ∀ x ∈ l, OK_GRule 1048576 x) l := by
  intro left h0 h1
  obtain ⟨v, e, d⟩ := szS_good l (by omega) (fun x hx => sz_Rule (h.2 x hx)) left h0 h1
  exact ⟨v, e.mono fun k hk => (laws_szRuleS_eq k l left).trans hk, d.imp id fun d => ⟨d.1, d.2.1, by omega, d.2.2.2⟩⟩
theorem laws_toRuleS_l1_eq (k : Nat) : ∀ (l : List GRule) (i : Nat) (m : List GRule), laws_toRuleS_l1 k l i m = toL (fun x => laws_toRule k x) l i m
  | [], _, _ => rfl
  | x :: xs, i, m => by
    rw [laws_toRuleS_l1, toL]; simp only [Option.bind_some, laws_toRuleS_l1_eq k xs]
theorem laws_toRuleS_eq (k : Nat) (l : List GRule) : laws_toRuleS k l = toS (fun x => laws_toRule k x) 112 (⟨[], 0, [], [], [], []⟩ : GRule) l := by
  unfold laws_toRuleS toS; rw [laws_toRuleS_l1_eq]
theorem to_RuleS {l : List GRule} (h : (l.length : Int) ≤ 1048576 ∧ ∀ x ∈ l, OK_GRule 1048576 x) : Ev fun k => laws_toRuleS k l = some l :=
  (Ev.all (p := fun x k => laws_toRule k x = some x) fun x hx => to_Rule x (h.2 x hx)).mono fun k hk => by rw [laws_toRuleS_eq]; exact toS_good hk (by omega) h.1
theorem laws_eqRuleS_l1_eq (k : Nat) (b : List GRule) : ∀ (l : List GRule) (i : Nat), laws_eqRuleS_l1 k b l i = eqL (fun x y => laws_eqRule k x y) b l i
  | [], _ => rfl
  | x :: xs, i => by
    rw [laws_eqRuleS_l1, eqL]; simp only [Option.bind_some, decide_eq_true_eq, laws_eqRuleS_l1_eq k b xs]
theorem laws_eqRuleS_eq (k : Nat) (l m : List GRule) : laws_eqRuleS k l m = eqS (fun x y => laws_eqRule k x y) l m := by
  unfold laws_eqRuleS eqS; rw [laws_eqRuleS_l1_eq]; rfl
theorem eq_RuleS (l : List GRule) : Ev fun k => laws_eqRuleS k l l = some true :=
  (Ev.all (p := fun x k => (laws_eqRule k x x) = some true) fun x hx => eq_Rule x).mono fun k hk => by rw [laws_eqRuleS_eq]; exact eqS_good hk
def OK_GTable (B : Int) (y : GTable) : Prop := (y.Name.length : Int) ≤ B ∧ ((y.Cols.length : Int) ≤ B ∧ ∀ x ∈ y.Cols, OK_GCol B x) ∧ ((y.Rules.length : Int) ≤ B ∧ ∀ x ∈ y.Rules, OK_GRule B x) ∧ True
theorem sz_Table {y : GTable} (h : OK_GTable 140737488351232 y) : Meas (fun k y left => laws_szTable k y left) (OK_GTable 1048576) y := by
  intro left h0 h1
  obtain ⟨c0, c1, c2, _⟩ := h
  have w0 := w64_sub h0 h1 (n := y.Name.length) (by omega)
  by_cases d0 : left - (y.Name.length : Int) < 0
  · exact ⟨-1, (Ev.of (p := fun _ => True) fun _ => trivial).mono fun k hk => by
        obtain _ := hk
        unfold laws_szTable
        simp only [w0, Option.bind_some]
        rw [if_pos d0], .inl (by omega)⟩
  have a0 : 0 ≤ (left - (y.Name.length : Int)) := by omega
  have b0 : (left - (y.Name.length : Int)) ≤ 1048576 := by omega
  obtain ⟨v1, e1, d1⟩ := sz_ColS c1 (left - (y.Name.length : Int)) a0 b0
  rcases d1 with d1 | ⟨a1, b1, o1⟩
  · exact ⟨-1, ((Ev.of (p := fun _ => True) fun _ => trivial).and e1).mono fun k hk => by
        obtain ⟨_, q0⟩ := hk
        unfold laws_szTable
        simp only [w0, q0, Option.bind_some]
        rw [if_neg d0, if_pos d1], .inl (by omega)⟩
  have b1' : v1 ≤ 1048576 := by omega
  obtain ⟨v2, e2, d2⟩ := sz_RuleS c2 v1 a1 b1'
  rcases d2 with d2 | ⟨a2, b2, o2⟩
  · exact ⟨-1, (((Ev.of (p := fun _ => True) fun _ => trivial).and e1).and e2).mono fun k hk => by
        obtain ⟨⟨_, q0⟩, q1⟩ := hk
        unfold laws_szTable
        simp only [w0, q0, q1, Option.bind_some]
        rw [if_neg d0, if_neg (show ¬ v1 < 0 by omega), if_pos d2], .inl (by omega)⟩
  have b2' : v2 ≤ 1048576 := by omega
  exact ⟨v2, (((Ev.of (p := fun _ => True) fun _ => trivial).and e1).and e2).mono fun k hk => by
      obtain ⟨⟨_, q0⟩, q1⟩ := hk
      unfold laws_szTable
      simp only [w0, q0, q1, Option.bind_some]
      rw [if_neg d0, if_neg (show ¬ v1 < 0 by omega), if_neg (show ¬ v2 < 0 by omega)], .inr ⟨by omega, by omega, by omega, o1, o2, trivial⟩⟩
theorem to_Table (y : GTable) (h : OK_GTable 1048576 y) : Ev fun k => laws_toTable k y = some y := by
  obtain ⟨h0, h1, h2, _⟩ := h
  exact (((Ev.of (p := fun _ => True) fun _ => trivial).and (to_ColS h1)).and (to_RuleS h2)).mono fun k hk => by
    obtain ⟨⟨_, q0⟩, q1⟩ := hk
    unfold laws_toTable
    simp only [q0, q1, Option.bind_some]
theorem eq_Table (y : GTable) : Ev fun k => laws_eqTable k y y = some true := by
  exact (((Ev.of (p := fun _ => True) fun _ => trivial).and (eq_ColS y.Cols)).and (eq_RuleS y.Rules)).mono fun k hk => by
    obtain ⟨⟨_, q0⟩, q1⟩ := hk
    unfold laws_eqTable
    simp only [q0, q1, Option.bind_some, if_true, beq_self_eq_true]
theorem laws_szTableS_l1_eq (k : Nat) : ∀ (l : List GTable) (left : Int), laws_szTableS_l1 k l left = szL (fun x l => laws_szTable k x l) l left
  | [], _ => rfl
  | x :: xs, left => by
    rw [laws_szTableS_l1, szL]; simp only [Option.bind_some, laws_szTableS_l1_eq k xs]
theorem laws_szTableS_eq (k : Nat) (l : List GTable) (left : Int) : laws_szTableS k l left = szS (fun x l => laws_szTable k x l) l left := by
  unfold laws_szTableS szS; rw [laws_szTableS_l1_eq]; rfl
theorem sz_TableS {l : List GTable} (h : (l.length : Int) ≤ 140737488351232 ∧ ∀ x ∈ l, OK_GTable 140737488351232 x) : Meas (fun k l left => laws_szTableS k l left) (fun l => (l.length : Int) ≤ 1048576 ∧ ∀ x ∈ l, OK_GTable 1048576 x) l := by
  intro left h0 h1
  obtain ⟨v, e, d⟩ := szS_good l (by omega) (fun x hx => sz_Table (h.2 x hx)) left h0 h1
  exact ⟨v, e.mono fun k hk => (laws_szTableS_eq k l left).trans hk, d.imp id fun d => ⟨d.1, d.2.1, by omega, d.2.2.2⟩⟩
theorem laws_toTableS_l1_eq (k : Nat) : ∀ (l : List GTable) (i : Nat) (m : List GTable), laws_toTableS_l1 k l i m = toL (fun x => laws_toTable k x) l i m
  | [], _, _ => rfl
  | x :: xs, i, m => by
    rw [laws_toTableS_l1, toL]; simp only [Option.bind_some, laws_toTableS_l1_eq k xs]
theorem laws_toTableS_eq (k : Nat) (l : List GTable) : laws_toTableS k l = toS (fun x => laws_toTable k x) 72 (⟨[], [], [], 0⟩ : GTable) l := by
  unfold laws_toTableS toS; rw [laws_toTableS_l1_eq]
theorem to_TableS {l : List GTable} (h : (l.length : Int) ≤ 1048576 ∧ ∀ x ∈ l, OK_GTable 1048576 x) : Ev fun k => laws_toTableS k l = some l :=
  (Ev.all (p := fun x k => laws_toTable k x = some x) fun x hx => to_Table x (h.2 x hx)).mono fun k hk => by rw [laws_toTableS_eq]; exact toS_good hk (by omega) h.1
theorem laws_eqTableS_l1_eq (k : Nat) (b : List GTable) : ∀ (l : List GTable) (i : Nat), laws_eqTableS_l1 k b l i = eqL (fun x y => laws_eqTable k x y) b l i
  | [], _ => rfl
  | x :: xs, i => by
    rw [laws_eqTableS_l1, eqL]; simp only [Option.bind_some, decide_eq_true_eq, laws_eqTableS_l1_eq k b xs]
theorem laws_eqTableS_eq (k : Nat) (l m : List GTable) : laws_eqTableS k l m = eqS (fun x y => laws_eqTable k x y) l m := by
  unfold laws_eqTableS eqS; rw [laws_eqTableS_l1_eq]; rfl
theorem eq_TableS (l : List GTable) : Ev fun k => laws_eqTableS k l l = some true :=
  (Ev.all (p := fun x k => (laws_eqTable k x x) = some true) fun x hx => eq_Table x).mono fun k hk => by rw [laws_eqTableS_eq]; exact eqS_good hk
def OK_GIndex (B : Int) (y : GIndex) : Prop := (y.Name.length : Int) ≤ B ∧ (y.Table.length : Int) ≤ B ∧ ((y.Cols.length : Int) ≤ B ∧ ∀ x ∈ y.Cols, (x.length : Int) ≤ B) ∧ True
theorem sz_Index {y : GIndex} (h : OK_GIndex 140737488351232 y) : Meas (fun k y left => laws_szIndex y left) (OK_GIndex 1048576) y := by
  intro left h0 h1
  obtain ⟨c0, c1, c2, _⟩ := h
  have w0 := w64_sub h0 h1 (n := y.Name.length) (by omega)
  by_cases d0 : left - (y.Name.length : Int) < 0
  · exact ⟨-1, (Ev.of (p := fun _ => True) fun _ => trivial).mono fun k hk => by
        obtain _ := hk
        unfold laws_szIndex
        simp only [w0, Option.bind_some]
        rw [if_pos d0], .inl (by omega)⟩
  have a0 : 0 ≤ (left - (y.Name.length : Int)) := by omega
  have b0 : (left - (y.Name.length : Int)) ≤ 1048576 := by omega
  have w1 := w64_sub a0 b0 (n := y.Table.length) (by omega)
  by_cases d1 : (left - (y.Name.length : Int)) - (y.Table.length : Int) < 0
  · exact ⟨-1, (Ev.of (p := fun _ => True) fun _ => trivial).mono fun k hk => by
        obtain _ := hk
        unfold laws_szIndex
        simp only [w0, w1, Option.bind_some]
        rw [if_neg d0, if_pos d1], .inl (by omega)⟩
  have a1 : 0 ≤ ((left - (y.Name.length : Int)) - (y.Table.length : Int)) := by omega
  have b1 : ((left - (y.Name.length : Int)) - (y.Table.length : Int)) ≤ 1048576 := by omega
  obtain ⟨v2, e2, d2⟩ := sz_StringS c2 ((left - (y.Name.length : Int)) - (y.Table.length : Int)) a1 b1
  rcases d2 with d2 | ⟨a2, b2, o2⟩
  · exact ⟨-1, ((Ev.of (p := fun _ => True) fun _ => trivial).and e2).mono fun k hk => by
        obtain ⟨_, q0⟩ := hk
        unfold laws_szIndex
        simp only [w0, w1, q0, Option.bind_some]
        rw [if_neg d0, if_neg d1, if_pos d2], .inl (by omega)⟩
  have b2' : v2 ≤ 1048576 := by omega
  exact ⟨v2, ((Ev.of (p := fun _ => True) fun _ => trivial).and e2).mono fun k hk => by
      obtain ⟨_, q0⟩ := hk
      unfold laws_szIndex
      simp only [w0, w1, q0, Option.bind_some]
      rw [if_neg d0, if_neg d1, if_neg (show ¬ v2 < 0 by omega)], .inr ⟨by omega, by omega, by omega, by omega, o2, trivial⟩⟩
theorem to_Index (y : GIndex) (h : OK_GIndex 1048576 y) : Ev fun k => laws_toIndex y = some y := by
  obtain ⟨h0, h1, h2, _⟩ := h
  exact ((Ev.of (p := fun _ => True) fun _ => trivial).and (to_StringS h2)).mono fun k hk => by
    obtain ⟨_, q0⟩ := hk
    unfold laws_toIndex
    simp only [q0, Option.bind_some]
theorem eq_Index (y : GIndex) : Ev fun k => laws_eqIndex y y = some true := by
  exact ((Ev.of (p := fun _ => True) fun _ => trivial).and (eq_StringS y.Cols)).mono fun k hk => by
    obtain ⟨_, q0⟩ := hk
    unfold laws_eqIndex
    simp only [q0, Option.bind_some, if_true, beq_self_eq_true]
theorem laws_szIndexS_l1_eq : ∀ (l : List GIndex) (left : Int), laws_szIndexS_l1 l left = szL (fun x l => laws_szIndex x l) l left
  | [], _ => rfl
  | x :: xs, left => by
    rw [laws_szIndexS_l1, szL]; simp only [Option.bind_some, laws_szIndexS_l1_eq xs]
theorem laws_szIndexS_eq (l : List GIndex) (left : Int) : laws_szIndexS l left = szS (fun x l => laws_szIndex x l) l left := by
  unfold laws_szIndexS szS; rw [laws_szIndexS_l1_eq]; rfl
theorem sz_IndexS {l : List GIndex} (h : (l.length : Int) ≤ 140737488351232 ∧ ∀ x ∈ l, OK_GIndex 140737488351232 x) : Meas (fun k l left => laws_szIndexS l left) (fun l => (l.length : Int) ≤ 1048576 ∧ ∀ x ∈ l, OK_GIndex 1048576 x) l := by
  intro left h0 h1
  obtain ⟨v, e, d⟩ := szS_good l (by omega) (fun x hx => sz_Index (h.2 x hx)) left h0 h1
  exact ⟨v, e.mono fun k hk => (laws_szIndexS_eq l left).trans hk, d.imp id fun d => ⟨d.1, d.2.1, by omega, d.2.2.2⟩⟩
theorem laws_toIndexS_l1_eq : ∀ (l : List GIndex) (i : Nat) (m : List GIndex), laws_toIndexS_l1 l i m = toL (fun x => laws_toIndex x) l i m
  | [], _, _ => rfl
  | x :: xs, i, m => by
    rw [laws_toIndexS_l1, toL]; simp only [Option.bind_some, laws_toIndexS_l1_eq xs]
theorem laws_toIndexS_eq (l : List GIndex) : laws_toIndexS l = toS (fun x => laws_toIndex x) 64 (⟨[], [], [], false⟩ : GIndex) l := by
  unfold laws_toIndexS toS; rw [laws_toIndexS_l1_eq]
theorem to_IndexS {l : List GIndex} (h : (l.length : Int) ≤ 1048576 ∧ ∀ x ∈ l, OK_GIndex 1048576 x) : Ev fun k => laws_toIndexS l = some l :=
  (Ev.all (p := fun x k => laws_toIndex x = some x) fun x hx => to_Index x (h.2 x hx)).mono fun k hk => by rw [laws_toIndexS_eq]; exact toS_good hk (by omega) h.1
theorem laws_eqIndexS_l1_eq (b : List GIndex) : ∀ (l : List GIndex) (i : Nat), laws_eqIndexS_l1 b l i = eqL (fun x y => laws_eqIndex x y) b l i
  | [], _ => rfl
  | x :: xs, i => by
    rw [laws_eqIndexS_l1, eqL]; simp only [Option.bind_some, decide_eq_true_eq, laws_eqIndexS_l1_eq b xs]
theorem laws_eqIndexS_eq (l m : List GIndex) : laws_eqIndexS l m = eqS (fun x y => laws_eqIndex x y) l m := by
  unfold laws_eqIndexS eqS; rw [laws_eqIndexS_l1_eq]; rfl
theorem eq_IndexS (l : List GIndex) : Ev fun k => laws_eqIndexS l l = some true :=
  (Ev.all (p := fun x k => (laws_eqIndex x x) = some true) fun x hx => eq_Index x).mono fun k hk => by rw [laws_eqIndexS_eq]; exact eqS_good hk
def OK_GView (B : Int) (y : GView) : Prop := (y.Name.length : Int) ≤ B ∧ (y.Table.length : Int) ≤ B ∧ ((y.Cols.length : Int) ≤ B ∧ ∀ x ∈ y.Cols, (x.length : Int) ≤ B) ∧ ((y.Where.length : Int) ≤ B ∧ ∀ x ∈ y.Where, OK_GExpr B x) ∧ True
theorem sz_View {y : GView} (h : OK_GView 140737488351232 y) : Meas (fun k y left => laws_szView k y left) (OK_GView 1048576) y := by
  intro left h0 h1
  obtain ⟨c0, c1, c2, c3, _⟩ := h
  have w0 := w64_sub h0 h1 (n := y.Name.length) (by omega)
  by_cases d0 : left - (y.Name.length : Int) < 0
  · exact ⟨-1, (Ev.of (p := fun _ => True) fun _ => trivial).mono fun k hk => by
        obtain _ := hk
        unfold laws_szView
        simp only [w0, Option.bind_some]
        rw [if_pos d0], .inl (by omega)⟩
  have a0 : 0 ≤ (left - (y.Name.length : Int)) := by omega
  have b0 : (left - (y.Name.length : Int)) ≤ 1048576 := by omega
  have w1 := w64_sub a0 b0 (n := y.Table.length) (by omega)
  by_cases d1 : (left - (y.Name.length : Int)) - (y.Table.length : Int) < 0
  · exact ⟨-1, (Ev.of (p := fun _ => True) fun _ => trivial).mono fun k hk => by
        obtain _ := hk
        unfold laws_szView
        simp only [w0, w1, Option.bind_some]
        rw [if_neg d0, if_pos d1], .inl (by omega)⟩
  have a1 : 0 ≤ ((left - (y.Name.length : Int)) - (y.Table.length : Int)) := by omega
  have b1 : ((left - (y.Name.length : Int)) - (y.Table.length : Int)) ≤ 1048576 := by omega
  obtain ⟨v2, e2, d2⟩ := sz_StringS c2 ((left - (y.Name.length : Int)) - (y.Table.length : Int)) a1 b1
  rcases d2 with d2 | ⟨a2, b2, o2⟩
  · exact ⟨-1, ((Ev.of (p := fun _ => True) fun _ => trivial).and e2).mono fun k hk => by
        obtain ⟨_, q0⟩ := hk
        unfold laws_szView
        simp only [w0, w1, q0, Option.bind_some]
        rw [if_neg d0, if_neg d1, if_pos d2], .inl (by omega)⟩
  have b2' : v2 ≤ 1048576 := by omega
  obtain ⟨v3, e3, d3⟩ := sz_ExprS c3 v2 a2 b2'
  rcases d3 with d3 | ⟨a3, b3, o3⟩
  · exact ⟨-1, (((Ev.of (p := fun _ => True) fun _ => trivial).and e2).and e3).mono fun k hk => by
        obtain ⟨⟨_, q0⟩, q1⟩ := hk
        unfold laws_szView
        simp only [w0, w1, q0, q1, Option.bind_some]
        rw [if_neg d0, if_neg d1, if_neg (show ¬ v2 < 0 by omega), if_pos d3], .inl (by omega)⟩
  have b3' : v3 ≤ 1048576 := by omega
  exact ⟨v3, (((Ev.of (p := fun _ => True) fun _ => trivial).and e2).and e3).mono fun k hk => by
      obtain ⟨⟨_, q0⟩, q1⟩ := hk
      unfold laws_szView
      simp only [w0, w1, q0, q1, Option.bind_some]
      rw [if_neg d0, if_neg d1, if_neg (show ¬ v2 < 0 by omega), if_neg (show ¬ v3 < 0 by omega)], .inr ⟨by omega, by omega, by omega, by omega, o2, o3, trivial⟩⟩
theorem to_View (y : GView) (h : OK_GView 1048576 y) : Ev fun k => laws_toView k y = some y := by
  obtain ⟨h0, h1, h2, h3, _⟩ := h
  exact (((Ev.of (p := fun _ => True) fun _ => trivial).and (to_StringS h2)).and (to_ExprS h3)).mono fun k hk => by
    obtain ⟨⟨_, q0⟩, q1⟩ := hk
    unfold laws_toView
    simp only [q0, q1, Option.bind_some]
theorem eq_View (y : GView) : Ev fun k => laws_eqView k y y = some true := by
  exact (((Ev.of (p := fun _ => True) fun _ => trivial).and (eq_StringS y.Cols)).and (eq_ExprS y.Where)).mono fun k hk => by
    obtain ⟨⟨_, q0⟩, q1⟩ := hk
    unfold laws_eqView
    simp only [q0, q1, Option.bind_some, if_true, beq_self_eq_true]
theorem laws_szViewS_l1_eq (k : Nat) : ∀ (l : List GView) (left : Int), laws_szViewS_l1 k l left = szL (fun x l => laws_szView k x l) l left
  | [], _ => rfl
  | x :: xs, left => by
    rw [laws_szViewS_l1, szL]; simp only [Option.bind_some, laws_szViewS_l1_eq k xs]
theorem laws_szViewS_eq (k : Nat) (l : List GView) (left : Int) : laws_szViewS k l left = szS (fun x l => laws_szView k x l) l left := by
  unfold laws_szViewS szS; rw [laws_szViewS_l1_eq]; rfl
theorem sz_ViewS {l : List GView} (h : (l.length : Int) ≤ 140737488351232 ∧ ∀ x ∈ l, OK_GView 140737488351232 x) : Meas (fun k l left => laws_szViewS k l left) (fun l => (l.length : Int) ≤ 1048576 ∧ ∀ x ∈ l, OK_GView 1048576 x) l := by
  intro left h0 h1
  obtain ⟨v, e, d⟩ := szS_good l (by omega) (fun x hx => sz_View (h.2 x hx)) left h0 h1
  exact ⟨v, e.mono fun k hk => (laws_szViewS_eq k l left).trans hk, d.imp id fun d => ⟨d.1, d.2.1, by omega, d.2.2.2⟩⟩
theorem laws_toViewS_l1_eq (k : Nat) : ∀ (l : List GView) (i : Nat) (m : List GView), laws_toViewS_l1 k l i m = toL (fun x => laws_toView k x) l i m
  | [], _, _ => rfl
  | x :: xs, i, m => by
    rw [laws_toViewS_l1, toL]; simp only [Option.bind_some, laws_toViewS_l1_eq k xs]
theorem laws_toViewS_eq (k : Nat) (l : List GView) : laws_toViewS k l = toS (fun x => laws_toView k x) 80 (⟨[], [], [], []⟩ : GView) l := by
  unfold laws_toViewS toS; rw [laws_toViewS_l1_eq]
theorem to_ViewS {l : List GView} (h : (l.length : Int) ≤ 1048576 ∧ ∀ x ∈ l, OK_GView 1048576 x) : Ev fun k => laws_toViewS k l = some l :=
  (Ev.all (p := fun x k => laws_toView k x = some x) fun x hx => to_View x (h.2 x hx)).mono fun k hk => by rw [laws_toViewS_eq]; exact toS_good hk (by omega) h.1
theorem laws_eqViewS_l1_eq (k : Nat) (b : List GView) : ∀ (l : List GView) (i : Nat), laws_eqViewS_l1 k b l i = eqL (fun x y => laws_eqView k x y) b l i
  | [], _ => rfl
  | x :: xs, i => by
    rw [laws_eqViewS_l1, eqL]; simp only [Option.bind_some, decide_eq_true_eq, laws_eqViewS_l1_eq k b xs]
theorem laws_eqViewS_eq (k : Nat) (l m : List GView) : laws_eqViewS k l m = eqS (fun x y => laws_eqView k x y) l m := by
  unfold laws_eqViewS eqS; rw [laws_eqViewS_l1_eq]; rfl
theorem eq_ViewS (l : List GView) : Ev fun k => laws_eqViewS k l l = some true :=
  (Ev.all (p := fun x k => (laws_eqView k x x) = some true) fun x hx => eq_View x).mono fun k hk => by rw [laws_eqViewS_eq]; exact eqS_good hk
def OK_GPlan (B : Int) (y : GPlan) : Prop := ((y.Enums.length : Int) ≤ B ∧ ∀ x ∈ y.Enums, OK_GLabels B x) ∧ ((y.Seqs.length : Int) ≤ B ∧ ∀ x ∈ y.Seqs, OK_GSeq B x) ∧ ((y.Tables.length : Int) ≤ B ∧ ∀ x ∈ y.Tables, OK_GTable B x) ∧ ((y.Indexes.length : Int) ≤ B ∧ ∀ x ∈ y.Indexes, OK_GIndex B x) ∧ ((y.Views.length : Int) ≤ B ∧ ∀ x ∈ y.Views, OK_GView B x) ∧ True
theorem sz_Plan {y : GPlan} (h : OK_GPlan 140737488351232 y) : Meas (fun k y left => laws_szPlan k y left) (OK_GPlan 1048576) y := by
  intro left h0 h1
  obtain ⟨c0, c1, c2, c3, c4, _⟩ := h
  obtain ⟨v0, e0, d0⟩ := sz_LabelsS c0 left h0 h1
  rcases d0 with d0 | ⟨a0, b0, o0⟩
  · exact ⟨-1, ((Ev.of (p := fun _ => True) fun _ => trivial).and e0).mono fun k hk => by
        obtain ⟨_, q0⟩ := hk
        unfold laws_szPlan
        simp only [q0, Option.bind_some]
        rw [if_pos d0], .inl (by omega)⟩
  have b0' : v0 ≤ 1048576 := by omega
  obtain ⟨v1, e1, d1⟩ := sz_SeqS c1 v0 a0 b0'
  rcases d1 with d1 | ⟨a1, b1, o1⟩
  · exact ⟨-1, (((Ev.of (p := fun _ => True) fun _ => trivial).and e0).and e1).mono fun k hk => by
        obtain ⟨⟨_, q0⟩, q1⟩ := hk
        unfold laws_szPlan
        simp only [q0, q1, Option.bind_some]
        rw [if_neg (show ¬ v0 < 0 by omega), if_pos d1], .inl (by omega)⟩
  have b1' : v1 ≤ 1048576 := by omega
  obtain ⟨v2, e2, d2⟩ := sz_TableS c2 v1 a1 b1'
  rcases d2 with d2 | ⟨a2, b2, o2⟩
  · exact ⟨-1, ((((Ev.of (p := fun _ => True) fun _ => trivial).and e0).and e1).and e2).mono fun k hk => by
        obtain ⟨⟨⟨_, q0⟩, q1⟩, q2⟩ := hk
        unfold laws_szPlan
        simp only [q0, q1, q2, Option.bind_some]
        rw [if_neg (show ¬ v0 < 0 by omega), if_neg (show ¬ v1 < 0 by omega), if_pos d2], .inl (by omega)⟩
  have b2' : v2 ≤ 1048576 := by omega
  obtain ⟨v3, e3, d3⟩ := sz_IndexS c3 v2 a2 b2'
  rcases d3 with d3 | ⟨a3, b3, o3⟩
  · exact ⟨-1, (((((Ev.of (p := fun _ => True) fun _ => trivial).and e0).and e1).and e2).and e3).mono fun k hk => by
        obtain ⟨⟨⟨⟨_, q0⟩, q1⟩, q2⟩, q3⟩ := hk
        unfold laws_szPlan
        simp only [q0, q1, q2, q3, Option.bind_some]
        rw [if_neg (show ¬ v0 < 0 by omega), if_neg (show ¬ v1 < 0 by omega), if_neg (show ¬ v2 < 0 by omega), if_pos d3], .inl (by omega)⟩
  have b3' : v3 ≤ 1048576 := by omega
  obtain ⟨v4, e4, d4⟩ := sz_ViewS c4 v3 a3 b3'
  rcases d4 with d4 | ⟨a4, b4, o4⟩
  · exact ⟨-1, ((((((Ev.of (p := fun _ => True) fun _ => trivial).and e0).and e1).and e2).and e3).and e4).mono fun k hk => by
        obtain ⟨⟨⟨⟨⟨_, q0⟩, q1⟩, q2⟩, q3⟩, q4⟩ := hk
        unfold laws_szPlan
        simp only [q0, q1, q2, q3, q4, Option.bind_some]
        rw [if_neg (show ¬ v0 < 0 by omega), if_neg (show ¬ v1 < 0 by omega), if_neg (show ¬ v2 < 0 by omega), if_neg (show ¬ v3 < 0 by omega), if_pos d4], .inl (by omega)⟩
  have b4' : v4 ≤ 1048576 := by omega
  exact ⟨v4, ((((((Ev.of (p := fun _ => True) fun _ => trivial).and e0).and e1).and e2).and e3).and e4).mono fun k hk => by
      obtain ⟨⟨⟨⟨⟨_, q0⟩, q1⟩, q2⟩, q3⟩, q4⟩ := hk
      unfold laws_szPlan
      simp only [q0, q1, q2, q3, q4, Option.bind_some]
      rw [if_neg (show ¬ v0 < 0 by omega), if_neg (show ¬ v1 < 0 by omega), if_neg (show ¬ v2 < 0 by omega), if_neg (show ¬ v3 < 0 by omega), if_neg (show ¬ v4 < 0 by omega)], .inr ⟨by omega, by omega, o0, o1, o2, o3, o4, trivial⟩⟩
theorem to_Plan (y : GPlan) (h : OK_GPlan 1048576 y) : Ev fun k => laws_toPlan k y = some y := by
  obtain ⟨h0, h1, h2, h3, h4, _⟩ := h
  exact ((((((Ev.of (p := fun _ => True) fun _ => trivial).and (to_LabelsS h0)).and (to_SeqS h1)).and (to_TableS h2)).and (to_IndexS h3)).and (to_ViewS h4)).mono fun k hk => by
    obtain ⟨⟨⟨⟨⟨_, q0⟩, q1⟩, q2⟩, q3⟩, q4⟩ := hk
    unfold laws_toPlan
    simp only [q0, q1, q2, q3, q4, Option.bind_some]
theorem eq_Plan (y : GPlan) : Ev fun k => laws_eqPlan k y y = some true := by
  exact ((((((Ev.of (p := fun _ => True) fun _ => trivial).and (eq_LabelsS y.Enums)).and (eq_SeqS y.Seqs)).and (eq_TableS y.Tables)).and (eq_IndexS y.Indexes)).and (eq_ViewS y.Views)).mono fun k hk => by
    obtain ⟨⟨⟨⟨⟨_, q0⟩, q1⟩, q2⟩, q3⟩, q4⟩ := hk
    unfold laws_eqPlan
    simp only [q0, q1, q2, q3, q4, Option.bind_some, if_true, beq_self_eq_true]
def OK_GValue (B : Int) (y : GValue) : Prop := (y.Text.length : Int) ≤ B ∧ True
theorem sz_Value {y : GValue} (h : OK_GValue 140737488351232 y) : Meas (fun k y left => some (laws_szValue y left)) (OK_GValue 1048576) y := by
  intro left h0 h1
  obtain ⟨c0, _⟩ := h
  have w0 := w64_sub h0 h1 (n := y.Text.length) (by omega)
  by_cases d0 : left - (y.Text.length : Int) < 0
  · exact ⟨-1, (Ev.of (p := fun _ => True) fun _ => trivial).mono fun k hk => by
        obtain _ := hk
        unfold laws_szValue
        simp only [w0, Option.bind_some]
        rw [if_pos d0], .inl (by omega)⟩
  have a0 : 0 ≤ (left - (y.Text.length : Int)) := by omega
  have b0 : (left - (y.Text.length : Int)) ≤ 1048576 := by omega
  exact ⟨(left - (y.Text.length : Int)), (Ev.of (p := fun _ => True) fun _ => trivial).mono fun k hk => by
      obtain _ := hk
      unfold laws_szValue
      simp only [w0, Option.bind_some]
      rw [if_neg d0], .inr ⟨by omega, by omega, by omega, trivial⟩⟩
theorem to_Value (y : GValue) (h : OK_GValue 1048576 y) : Ev fun k => some (laws_toValue y) = some y := by
  obtain ⟨h0, _⟩ := h
  exact (Ev.of (p := fun _ => True) fun _ => trivial).mono fun k hk => by
    obtain _ := hk
    unfold laws_toValue
    rfl
theorem eq_Value (y : GValue) : Ev fun k => some (laws_eqValue y y) = some true := by
  exact (Ev.of (p := fun _ => True) fun _ => trivial).mono fun k hk => by
    obtain _ := hk
    unfold laws_eqValue
    simp only [Option.bind_some, if_true, beq_self_eq_true]
theorem laws_szValueS_l1_eq : ∀ (l : List GValue) (left : Int), laws_szValueS_l1 l left = szL (fun x l => some (laws_szValue x l)) l left
  | [], _ => rfl
  | x :: xs, left => by
    rw [laws_szValueS_l1, szL]; simp only [Option.bind_some, laws_szValueS_l1_eq xs]
theorem laws_szValueS_eq (l : List GValue) (left : Int) : laws_szValueS l left = szS (fun x l => some (laws_szValue x l)) l left := by
  unfold laws_szValueS szS; rw [laws_szValueS_l1_eq]; rfl
theorem sz_ValueS {l : List GValue} (h : (l.length : Int) ≤ 140737488351232 ∧ ∀ x ∈ l, OK_GValue 140737488351232 x) : Meas (fun k l left => laws_szValueS l left) (fun l => (l.length : Int) ≤ 1048576 ∧ ∀ x ∈ l, OK_GValue 1048576 x) l := by
  intro left h0 h1
  obtain ⟨v, e, d⟩ := szS_good l (by omega) (fun x hx => sz_Value (h.2 x hx)) left h0 h1
  exact ⟨v, e.mono fun k hk => (laws_szValueS_eq l left).trans hk, d.imp id fun d => ⟨d.1, d.2.1, by omega, d.2.2.2⟩⟩
theorem laws_toValueS_l1_eq : ∀ (l : List GValue) (i : Nat) (m : List GValue), laws_toValueS_l1 l i m = toL (fun x => some (laws_toValue x)) l i m
  | [], _, _ => rfl
  | x :: xs, i, m => by
    rw [laws_toValueS_l1, toL]; simp only [Option.bind_some, laws_toValueS_l1_eq xs]
theorem laws_toValueS_eq (l : List GValue) : laws_toValueS l = toS (fun x => some (laws_toValue x)) 32 (⟨0, 0, []⟩ : GValue) l := by
  unfold laws_toValueS toS; rw [laws_toValueS_l1_eq]
theorem to_ValueS {l : List GValue} (h : (l.length : Int) ≤ 1048576 ∧ ∀ x ∈ l, OK_GValue 1048576 x) : Ev fun k => laws_toValueS l = some l :=
  (Ev.all (p := fun x k => some (laws_toValue x) = some x) fun x hx => to_Value x (h.2 x hx)).mono fun k hk => by rw [laws_toValueS_eq]; exact toS_good hk (by omega) h.1
theorem laws_eqValueS_l1_eq (b : List GValue) : ∀ (l : List GValue) (i : Nat), laws_eqValueS_l1 b l i = eqL (fun x y => some (laws_eqValue x y)) b l i
  | [], _ => rfl
  | x :: xs, i => by
    rw [laws_eqValueS_l1, eqL]; simp only [Option.bind_some, decide_eq_true_eq, laws_eqValueS_l1_eq b xs]
theorem laws_eqValueS_eq (l m : List GValue) : laws_eqValueS l m = eqS (fun x y => some (laws_eqValue x y)) l m := by
  unfold laws_eqValueS eqS; rw [laws_eqValueS_l1_eq]; rfl
theorem eq_ValueS (l : List GValue) : Ev fun k => laws_eqValueS l l = some true :=
  (Ev.all (p := fun x k => (some (laws_eqValue x x)) = some true) fun x hx => eq_Value x).mono fun k hk => by rw [laws_eqValueS_eq]; exact eqS_good hk
def OK_GRow (B : Int) (y : GRow) : Prop := ((y.Vals.length : Int) ≤ B ∧ ∀ x ∈ y.Vals, OK_GValue B x) ∧ True
theorem sz_Row {y : GRow} (h : OK_GRow 140737488351232 y) : Meas (fun k y left => laws_szRow y left) (OK_GRow 1048576) y := by
  intro left h0 h1
  obtain ⟨c0, _⟩ := h
  obtain ⟨v0, e0, d0⟩ := sz_ValueS c0 left h0 h1
  rcases d0 with d0 | ⟨a0, b0, o0⟩
  · exact ⟨-1, ((Ev.of (p := fun _ => True) fun _ => trivial).and e0).mono fun k hk => by
        obtain ⟨_, q0⟩ := hk
        unfold laws_szRow
        simp only [q0, Option.bind_some]
        rw [if_pos d0], .inl (by omega)⟩
  have b0' : v0 ≤ 1048576 := by omega
  exact ⟨v0, ((Ev.of (p := fun _ => True) fun _ => trivial).and e0).mono fun k hk => by
      obtain ⟨_, q0⟩ := hk
      unfold laws_szRow
      simp only [q0, Option.bind_some]
      rw [if_neg (show ¬ v0 < 0 by omega)], .inr ⟨by omega, by omega, o0, trivial⟩⟩
theorem to_Row (y : GRow) (h : OK_GRow 1048576 y) : Ev fun k => laws_toRow y = some y := by
  obtain ⟨h0, _⟩ := h
  exact ((Ev.of (p := fun _ => True) fun _ => trivial).and (to_ValueS h0)).mono fun k hk => by
    obtain ⟨_, q0⟩ := hk
    unfold laws_toRow
    simp only [q0, Option.bind_some]
theorem eq_Row (y : GRow) : Ev fun k => laws_eqRow y y = some true := by
  exact ((Ev.of (p := fun _ => True) fun _ => trivial).and (eq_ValueS y.Vals)).mono fun k hk => by
    obtain ⟨_, q0⟩ := hk
    unfold laws_eqRow
    simp only [q0, Option.bind_some, if_true, beq_self_eq_true]
theorem laws_szRowS_l1_eq : ∀ (l : List GRow) (left : Int), laws_szRowS_l1 l left = szL (fun x l => laws_szRow x l) l left
  | [], _ => rfl
  | x :: xs, left => by
    rw [laws_szRowS_l1, szL]; simp only [Option.bind_some, laws_szRowS_l1_eq xs]
theorem laws_szRowS_eq (l : List GRow) (left : Int) : laws_szRowS l left = szS (fun x l => laws_szRow x l) l left := by
  unfold laws_szRowS szS; rw [laws_szRowS_l1_eq]; rfl
theorem sz_RowS {l : List GRow} (h : (l.length : Int) ≤ 140737488351232 ∧ ∀ x ∈ l, OK_GRow 140737488351232 x) : Meas (fun k l left => laws_szRowS l left) (fun l => (l.length : Int) ≤ 1048576 ∧ ∀ x ∈ l, OK_GRow 1048576 x) l := by
  intro left h0 h1
  obtain ⟨v, e, d⟩ := szS_good l (by omega) (fun x hx => sz_Row (h.2 x hx)) left h0 h1
  exact ⟨v, e.mono fun k hk => (laws_szRowS_eq l left).trans hk, d.imp id fun d => ⟨d.1, d.2.1, by omega, d.2.2.2⟩⟩
theorem laws_toRowS_l1_eq : ∀ (l : List GRow) (i : Nat) (m : List GRow), laws_toRowS_l1 l i m = toL (fun x => laws_toRow x) l i m
  | [], _, _ => rfl
  | x :: xs, i, m => by
    rw [laws_toRowS_l1, toL]; simp only [Option.bind_some, laws_toRowS_l1_eq xs]
theorem laws_toRowS_eq (l : List GRow) : laws_toRowS l = toS (fun x => laws_toRow x) 24 (⟨[]⟩ : GRow) l := by
  unfold laws_toRowS toS; rw [laws_toRowS_l1_eq]
theorem to_RowS {l : List GRow} (h : (l.length : Int) ≤ 1048576 ∧ ∀ x ∈ l, OK_GRow 1048576 x) : Ev fun k => laws_toRowS l = some l :=
  (Ev.all (p := fun x k => laws_toRow x = some x) fun x hx => to_Row x (h.2 x hx)).mono fun k hk => by rw [laws_toRowS_eq]; exact toS_good hk (by omega) h.1
theorem laws_eqRowS_l1_eq (b : List GRow) : ∀ (l : List GRow) (i : Nat), laws_eqRowS_l1 b l i = eqL (fun x y => laws_eqRow x y) b l i
  | [], _ => rfl
  | x :: xs, i => by
    rw [laws_eqRowS_l1, eqL]; simp only [Option.bind_some, decide_eq_true_eq, laws_eqRowS_l1_eq b xs]
theorem laws_eqRowS_eq (l m : List GRow) : laws_eqRowS l m = eqS (fun x y => laws_eqRow x y) l m := by
  unfold laws_eqRowS eqS; rw [laws_eqRowS_l1_eq]; rfl
theorem eq_RowS (l : List GRow) : Ev fun k => laws_eqRowS l l = some true :=
  (Ev.all (p := fun x k => (laws_eqRow x x) = some true) fun x hx => eq_Row x).mono fun k hk => by rw [laws_eqRowS_eq]; exact eqS_good hk
def OK_GRows (B : Int) (y : GRows) : Prop := (y.Table.length : Int) ≤ B ∧ ((y.List.length : Int) ≤ B ∧ ∀ x ∈ y.List, OK_GRow B x) ∧ True
theorem sz_Rows {y : GRows} (h : OK_GRows 140737488351232 y) : Meas (fun k y left => laws_szRows y left) (OK_GRows 1048576) y := by
  intro left h0 h1
  obtain ⟨c0, c1, _⟩ := h
  have w0 := w64_sub h0 h1 (n := y.Table.length) (by omega)
  by_cases d0 : left - (y.Table.length : Int) < 0
  · exact ⟨-1, (Ev.of (p := fun _ => True) fun _ => trivial).mono fun k hk => by
        obtain _ := hk
        unfold laws_szRows
        simp only [w0, Option.bind_some]
        rw [if_pos d0], .inl (by omega)⟩
  have a0 : 0 ≤ (left - (y.Table.length : Int)) := by omega
  have b0 : (left - (y.Table.length : Int)) ≤ 1048576 := by omega
  obtain ⟨v1, e1, d1⟩ := sz_RowS c1 (left - (y.Table.length : Int)) a0 b0
  rcases d1 with d1 | ⟨a1, b1, o1⟩
  · exact ⟨-1, ((Ev.of (p := fun _ => True) fun _ => trivial).and e1).mono fun k hk => by
        obtain ⟨_, q0⟩ := hk
        unfold laws_szRows
        simp only [w0, q0, Option.bind_some]
        rw [if_neg d0, if_pos d1], .inl (by omega)⟩
  have b1' : v1 ≤ 1048576 := by omega
  exact ⟨v1, ((Ev.of (p := fun _ => True) fun _ => trivial).and e1).mono fun k hk => by
      obtain ⟨_, q0⟩ := hk
      unfold laws_szRows
      simp only [w0, q0, Option.bind_some]
      rw [if_neg d0, if_neg (show ¬ v1 < 0 by omega)], .inr ⟨by omega, by omega, by omega, o1, trivial⟩⟩
theorem to_Rows (y : GRows) (h : OK_GRows 1048576 y) : Ev fun k => laws_toRows y = some y := by
  obtain ⟨h0, h1, _⟩ := h
  exact ((Ev.of (p := fun _ => True) fun _ => trivial).and (to_RowS h1)).mono fun k hk => by
    obtain ⟨_, q0⟩ := hk
    unfold laws_toRows
    simp only [q0, Option.bind_some]
theorem eq_Rows (y : GRows) : Ev fun k => laws_eqRows y y = some true := by
  exact ((Ev.of (p := fun _ => True) fun _ => trivial).and (eq_RowS y.List)).mono fun k hk => by
    obtain ⟨_, q0⟩ := hk
    unfold laws_eqRows
    simp only [q0, Option.bind_some, if_true, beq_self_eq_true]
theorem laws_szRowsS_l1_eq : ∀ (l : List GRows) (left : Int), laws_szRowsS_l1 l left = szL (fun x l => laws_szRows x l) l left
  | [], _ => rfl
  | x :: xs, left => by
    rw [laws_szRowsS_l1, szL]; simp only [Option.bind_some, laws_szRowsS_l1_eq xs]
theorem laws_szRowsS_eq (l : List GRows) (left : Int) : laws_szRowsS l left = szS (fun x l => laws_szRows x l) l left := by
  unfold laws_szRowsS szS; rw [laws_szRowsS_l1_eq]; rfl
theorem sz_RowsS {l : List GRows} (h : (l.length : Int) ≤ 140737488351232 ∧ ∀ x ∈ l, OK_GRows 140737488351232 x) : Meas (fun k l left => laws_szRowsS l left) (fun l => (l.length : Int) ≤ 1048576 ∧ ∀ x ∈ l, OK_GRows 1048576 x) l := by
  intro left h0 h1
  obtain ⟨v, e, d⟩ := szS_good l (by omega) (fun x hx => sz_Rows (h.2 x hx)) left h0 h1
  exact ⟨v, e.mono fun k hk => (laws_szRowsS_eq l left).trans hk, d.imp id fun d => ⟨d.1, d.2.1, by omega, d.2.2.2⟩⟩
theorem laws_toRowsS_l1_eq : ∀ (l : List GRows) (i : Nat) (m : List GRows), laws_toRowsS_l1 l i m = toL (fun x => laws_toRows x) l i m
  | [], _, _ => rfl
  | x :: xs, i, m => by
    rw [laws_toRowsS_l1, toL]; simp only [Option.bind_some, laws_toRowsS_l1_eq xs]
theorem laws_toRowsS_eq (l : List GRows) : laws_toRowsS l = toS (fun x => laws_toRows x) 40 (⟨[], []⟩ : GRows) l := by
  unfold laws_toRowsS toS; rw [laws_toRowsS_l1_eq]
theorem to_RowsS {l : List GRows} (h : (l.length : Int) ≤ 1048576 ∧ ∀ x ∈ l, OK_GRows 1048576 x) : Ev fun k => laws_toRowsS l = some l :=
  (Ev.all (p := fun x k => laws_toRows x = some x) fun x hx => to_Rows x (h.2 x hx)).mono fun k hk => by rw [laws_toRowsS_eq]; exact toS_good hk (by omega) h.1
theorem laws_eqRowsS_l1_eq (b : List GRows) : ∀ (l : List GRows) (i : Nat), laws_eqRowsS_l1 b l i = eqL (fun x y => laws_eqRows x y) b l i
  | [], _ => rfl
  | x :: xs, i => by
    rw [laws_eqRowsS_l1, eqL]; simp only [Option.bind_some, decide_eq_true_eq, laws_eqRowsS_l1_eq b xs]
theorem laws_eqRowsS_eq (l m : List GRows) : laws_eqRowsS l m = eqS (fun x y => laws_eqRows x y) l m := by
  unfold laws_eqRowsS eqS; rw [laws_eqRowsS_l1_eq]; rfl
theorem eq_RowsS (l : List GRows) : Ev fun k => laws_eqRowsS l l = some true :=
  (Ev.all (p := fun x k => (laws_eqRows x x) = some true) fun x hx => eq_Rows x).mono fun k hk => by rw [laws_eqRowsS_eq]; exact eqS_good hk
def OK_GStore (B : Int) (y : GStore) : Prop := OK_GPlan B y.Plan ∧ ((y.Data.length : Int) ≤ B ∧ ∀ x ∈ y.Data, OK_GRows B x) ∧ True
theorem sz_Store {y : GStore} (h : OK_GStore 140737488351232 y) : Meas (fun k y left => laws_szStore k y left) (OK_GStore 1048576) y := by
  intro left h0 h1
  obtain ⟨c0, c1, _⟩ := h
  obtain ⟨v0, e0, d0⟩ := sz_Plan c0 left h0 h1
  rcases d0 with d0 | ⟨a0, b0, o0⟩
  · exact ⟨-1, ((Ev.of (p := fun _ => True) fun _ => trivial).and e0).mono fun k hk => by
        obtain ⟨_, q0⟩ := hk
        unfold laws_szStore
        simp only [q0, Option.bind_some]
        rw [if_pos d0], .inl (by omega)⟩
  have b0' : v0 ≤ 1048576 := by omega
  obtain ⟨v1, e1, d1⟩ := sz_RowsS c1 v0 a0 b0'
  rcases d1 with d1 | ⟨a1, b1, o1⟩
  · exact ⟨-1, (((Ev.of (p := fun _ => True) fun _ => trivial).and e0).and e1).mono fun k hk => by
        obtain ⟨⟨_, q0⟩, q1⟩ := hk
        unfold laws_szStore
        simp only [q0, q1, Option.bind_some]
        rw [if_neg (show ¬ v0 < 0 by omega), if_pos d1], .inl (by omega)⟩
  have b1' : v1 ≤ 1048576 := by omega
  exact ⟨v1, (((Ev.of (p := fun _ => True) fun _ => trivial).and e0).and e1).mono fun k hk => by
      obtain ⟨⟨_, q0⟩, q1⟩ := hk
      unfold laws_szStore
      simp only [q0, q1, Option.bind_some]
      rw [if_neg (show ¬ v0 < 0 by omega), if_neg (show ¬ v1 < 0 by omega)], .inr ⟨by omega, by omega, o0, o1, trivial⟩⟩
theorem to_Store (y : GStore) (h : OK_GStore 1048576 y) : Ev fun k => laws_toStore k y = some y := by
  obtain ⟨h0, h1, _⟩ := h
  exact (((Ev.of (p := fun _ => True) fun _ => trivial).and (to_Plan _ h0)).and (to_RowsS h1)).mono fun k hk => by
    obtain ⟨⟨_, q0⟩, q1⟩ := hk
    unfold laws_toStore
    simp only [q0, q1, Option.bind_some]
theorem eq_Store (y : GStore) : Ev fun k => laws_eqStore k y y = some true := by
  exact (((Ev.of (p := fun _ => True) fun _ => trivial).and (eq_Plan y.Plan)).and (eq_RowsS y.Data)).mono fun k hk => by
    obtain ⟨⟨_, q0⟩, q1⟩ := hk
    unfold laws_eqStore
    simp only [q0, q1, Option.bind_some, if_true, beq_self_eq_true]
end Go.Pv.S
