import Derived.Test.YtondofmlippbcaaWPvZd
import Derived.Sort.Grow
import Derived.Sort.EncStr
set_option linter.unusedSimpArgs false
set_option linter.unusedVariables false
namespace Go.Pv
open Go.Sort Go.Proofs

/-- What is behind a function that writes a row of texts in its place. -/
theorem sorted_world {w : World} {g q : Nat} {cur : Array Value} {e : TypeId} {os : Array Go.Obj} {d : List (List UInt8)} {cap : Nat} (hg : w.heap[g]? = some (.cells cur e (0, 0))) (hc : cur.size = cap * 1) (hd : d.length ≤ cap) :
    ∃ (w' : World) (cur' : Array Value), w' = grow (putRow encStr (Sort.ahead w q) g 0 d.toArray) os ∧ w'.os = w.os ∧ w'.tape = w.tape ∧ w'.output = w.output ∧ w.heap.size ≤ w'.heap.size ∧ (∀ b, b < w.heap.size → b ≠ g → w'.heap[b]? = w.heap[b]?) ∧
      w'.heap[g]? = some (.cells cur' e (0, 0)) ∧ cur'.size = cap * 1 ∧ ∀ (i : Nat) (s : List UInt8), d[i]? = some s → cur'[i]? = some (encStr s) := by
  have hlt : g < w.heap.size := (Array.getElem?_eq_some_iff.1 hg).1
  refine ⟨_, putCells encStr 0 d.toArray cur, rfl, rfl, rfl, rfl, by simp [putRow, mapBlock, Sort.ahead, grow], fun b hb hne => ?_, ?_, by simp [putCells, hc], fun i s hi => ?_⟩
  · rw [heap_grow_old _ _ (by simpa [Sort.ahead] using hb)]
    simp only [putRow, mapBlock, Sort.ahead, Array.getElem?_modify]
    rw [if_neg (fun h => hne h.symm)]
  · rw [heap_grow_old _ _ (by simpa [Sort.ahead] using hlt)]
    simp only [putRow, mapBlock, Sort.ahead, Array.getElem?_modify, if_true, hg, Option.map_some, onCells]
  · have hl := (List.getElem?_eq_some_iff.1 hi).1
    have hs := (List.getElem?_eq_some_iff.1 hi).2
    simp only [putCells, Array.getElem?_mapIdx]
    rw [Array.getElem?_eq_getElem (by omega)]
    simp only [Option.map_some, Nat.zero_le, true_and, Nat.zero_add, List.size_toArray, Nat.sub_zero, if_pos hl]
    rw [getElem!_pos _ i (by simpa using hl)]
    simp [hs]

theorem holds_row {w : World} {ok : Nat → Prop} {g cap : Nat} {cur : Array Value} {e : TypeId} {l : List (List UInt8)} {xs : List Value} (hg : w.heap[g]? = some (.cells cur e (0, 0))) (hc : cur.size = cap * 1) (hl : l.length ≤ cap) (hxs : cur.toList.take (l.length * 1) = xs)
    (hrep : ∀ (i : Nat) (s : List UInt8), l[i]? = some s → DRep w ok (xs.getD i undef) (.str s)) : Holds encStr w g 0 l.toArray ∧ ∀ s ∈ l, s.length ≤ maxLen := by
  have key : ∀ (i : Nat) (s : List UInt8), l[i]? = some s → cur[i]? = some (encStr s) ∧ s.length ≤ maxLen := fun i s hi => by
    have hlt := (List.getElem?_eq_some_iff.1 hi).1
    have h := hrep i s hi
    obtain ⟨bs, h1, h2, h3⟩ := h.str_inv
    have : xs.getD i undef = cur[i] := by
      rw [← hxs, List.getD_eq_getElem?_getD, List.getElem?_take, if_pos (by omega)]
      simp [show i < cur.size by omega]
    rw [this] at h1
    refine ⟨?_, by rw [h2]; simpa using h3⟩
    rw [Array.getElem?_eq_getElem (by omega), h1, h2]
  refine ⟨fun j hj => ?_, fun s hs => ?_⟩
  · have hj' : j < l.length := by simpa using hj
    obtain ⟨k1, _⟩ := key j _ (List.getElem?_eq_getElem hj')
    refine ⟨?_, ?_⟩
    · simp only [World.cell?, hg, Nat.zero_add]
      rw [getElem!_pos _ j hj]
      simpa using k1
    · simp [World.frozen?, hg]
  · obtain ⟨i, hi⟩ := List.mem_iff_getElem?.1 hs
    exact (key i s hi).2

abbrev strRows (l : List (List UInt8)) : List (List D) := l.map fun s => [D.str s]

theorem lk_one {k : Nat} {o : Obj} {id : Nat} (h : id ≠ k) : lkOf [(k, o)] id = .none := by rw [lk_cons, if_neg (fun e => h e.symm)]; rfl
theorem lk_one' {k : Nat} {o : Obj} : lkOf [(k, o)] k = o := by rw [lk_cons, if_pos rfl]

theorem strRows_rep {w : World} {ok : Nat → Prop} {l : List (List UInt8)} {xs : List Value} (h : ∀ i r, (strRows l)[i]? = some r → ∀ j x, r[j]? = some x → DRep w ok (xs.getD (i * 1 + j) undef) x) (i : Nat) (s : List UInt8) (hi : l[i]? = some s) : DRep w ok (xs.getD i undef) (.str s) := by
  have := h i [.str s] (by rw [List.getElem?_map, hi]; rfl) 0 _ rfl
  simpa using this

theorem strRows_hold {w : World} {ok : Nat → Prop} {pl : Pl} {lk : Nat → Obj} {id g cap : Nat} {e : TypeId} {cur : Array Value} {l : List (List UInt8)} (hv : pl.val id = .slice (some ⟨g, 0, none⟩) l.length cap) (hg : w.heap[g]? = some (.cells cur e (0, 0))) (hc : cur.size = cap * 1) (hl : l.length ≤ cap) (hm : cap ≤ maxLen)
    (hcur : ∀ (i : Nat) (s : List UInt8), l[i]? = some s → cur[i]? = some (encStr s)) (hs : ∀ s ∈ l, s.length ≤ maxLen) : Hold w ok pl lk id (.row e 1 (strRows l)) := by
  refine ⟨cur.toList.take (l.length * 1), ⟨by simp; omega, .inr ⟨g, cap, cur, by rw [hv]; simp, Nat.zero_le _, hg, by simpa using hl, hm, hc, by simp⟩⟩, fun r hr => ?_, fun i r hi j x hj => ?_⟩
  · obtain ⟨s, _, rfl⟩ := List.mem_map.1 hr; rfl
  · rw [List.getElem?_map] at hi
    cases hs' : l[i]? with
    | none => rw [hs'] at hi; cases hi
    | some s =>
      rw [hs'] at hi; cases hi
      match j with
      | j + 1 => simp at hj
      | 0 =>
        simp at hj; subst hj
        have hlt := (List.getElem?_eq_some_iff.1 hs').1
        have h1 := hcur i s hs'
        have : (cur.toList.take (l.length * 1)).getD (i * 1 + 0) undef = encStr s := by
          rw [List.getD_eq_getElem?_getD, List.getElem?_take, if_pos (by omega)]
          simp [h1]
        rw [this]
        exact .mkStr s (hs s (List.mem_of_getElem? hs'))

/-- A function that sorts a row of texts in its place. -/
theorem FnG.sortRow {P : Program} {f : FuncId} {e : TypeId} {l l' : List (List UInt8)} {fn : Func} {c : Code} (hf : P.funcs[f]? = some fn) (hname : (fn.name == "runtime.NumGoroutine") = false) (hb : fn.body = some c)
    (hlen : l'.length = l.length) (hsub : ∀ s ∈ l', s ∈ l) (hnone : ∀ p cap w, Calls P f #[.slice p 0 cap] w fun x w' => x = .returned (.tuple #[]) ∧ w' = w)
    (hsome : ∀ g cap w, Holds encStr w g 0 l.toArray → g < w.heap.size → Calls P f #[.slice (some ⟨g, 0, none⟩) l.length cap] w fun x w' => x = .returned (.tuple #[]) ∧ ∃ n os, w' = grow (putRow encStr (Sort.ahead w n) g 0 l'.toArray) os) :
    FnG P f [.own 1000000] [(1000000, .row e 1 (strRows l))] .unit [(1000000, .row e 1 (strRows l'))] := by
  refine ⟨⟨fn, c, hf, hname, hb⟩, fun w ok pl vals hok hsz hvals hhold hinj hmw => ?_⟩
  have hv := hvals 0 _ rfl
  obtain ⟨v, rfl⟩ : ∃ v, vals = #[v] := by
    refine ⟨vals[0]'(by rw [hsz]; decide), ?_⟩
    apply Array.ext
    · simpa using hsz
    · intro i h1 h2
      simp at h2; subst h2; rfl
  have hv : PRep w ok pl (lkOf [(1000000, Obj.row e 1 (strRows l))]) v (.own 1000000) := hv
  have hho := hhold 1000000
  rw [lk_one'] at hho
  obtain ⟨xs, ⟨hxl, hcase⟩, _, hrep⟩ := hho
  have hval : v = pl.val 1000000 := by
    cases hv with
    | own h => exact h (by rw [lk_one']; rfl)
  subst hval
  have hl0 : (strRows l).length = l.length := by simp
  rw [hl0] at hxl hcase
  have mbE : ∀ id, mb pl id (lkOf [(1000000, Obj.row e 1 (strRows l'))] id) = mb pl id (lkOf [(1000000, Obj.row e 1 (strRows l))] id) := fun id => by
    by_cases h : id = 1000000
    · subst h; rw [lk_one', lk_one']; rfl
    · rw [lk_one h, lk_one h]
  have fin : ∀ w' : World, w'.os = w.os → w'.tape = w.tape → w'.output = w.output → w.heap.size ≤ w'.heap.size → (∀ b, b < w.heap.size → (pl.val 1000000).ownBlock ≠ some b → w'.heap[b]? = w.heap[b]?) →
      (∀ ok', Hold w' ok' pl (lkOf [(1000000, Obj.row e 1 (strRows l'))]) 1000000 (.row e 1 (strRows l'))) → ∃ val pl', Ending.returned (.tuple #[]) = .returned val ∧ (∀ id, base ≤ id → pl'.blk id = pl.blk id ∧ pl'.val id = pl.val id) ∧
      ∃ ok' : Nat → Prop, (∀ b, ok' b ↔ ok b ∨ ((w.heap.size ≤ b ∨ ∃ id, mb pl id (lkOf [(1000000, Obj.row e 1 (strRows l))] id) = some b) ∧ b < w'.heap.size ∧ ∀ id, mb pl' id (lkOf [(1000000, Obj.row e 1 (strRows l'))] id) ≠ some b)) ∧
      PRep w' ok' pl' (lkOf [(1000000, Obj.row e 1 (strRows l'))]) val .unit ∧ (∀ id, Hold w' ok' pl' (lkOf [(1000000, Obj.row e 1 (strRows l'))]) id (lkOf [(1000000, Obj.row e 1 (strRows l'))] id)) ∧
      (∀ id id' b, mb pl' id (lkOf [(1000000, Obj.row e 1 (strRows l'))] id) = some b → mb pl' id' (lkOf [(1000000, Obj.row e 1 (strRows l'))] id') = some b → id = id') ∧
      (∀ id b, mb pl' id (lkOf [(1000000, Obj.row e 1 (strRows l'))] id) = some b → ¬ ok b ∧ b < w'.heap.size ∧ (w.heap.size ≤ b ∨ ∃ id0, mb pl id0 (lkOf [(1000000, Obj.row e 1 (strRows l))] id0) = some b)) ∧
      (∀ id ∈ ids .unit, lkOf [(1000000, Obj.row e 1 (strRows l'))] id ≠ .none) ∧ (∀ id cs, lkOf [(1000000, Obj.row e 1 (strRows l'))] id = .box cs → ∀ x ∈ cs, ∀ id' ∈ ids x, lkOf [(1000000, Obj.row e 1 (strRows l'))] id' ≠ .none) ∧
      w'.os = w.os ∧ w'.tape = w.tape ∧ w'.output = w.output ∧ w.heap.size ≤ w'.heap.size ∧
      ∀ b, b < w.heap.size → (∀ id, mb pl id (lkOf [(1000000, Obj.row e 1 (strRows l))] id) ≠ some b) → w'.heap[b]? = w.heap[b]? := by
    intro w' h1 h2 h3 h4 h5 h6
    refine ⟨.tuple #[], pl, rfl, fun _ _ => ⟨rfl, rfl⟩, _, fun b => Iff.rfl, .unit, fun id => ?_, fun id id' b g1 g2 => ?_, fun id b g => ?_, fun id hid => by simp [ids] at hid, fun id cs hcs => ?_, h1, h2, h3, h4, fun b hb hno => ?_⟩
    · by_cases h : id = 1000000
      · subst h; rw [lk_one']; exact h6 _
      · rw [lk_one h]; trivial
    · rw [mbE] at g1 g2; exact hinj id id' b g1 g2
    · rw [mbE] at g
      obtain ⟨m1, m2⟩ := hmw id b g
      exact ⟨m1, by omega, .inr ⟨id, g⟩⟩
    · by_cases h : id = 1000000
      · subst h; rw [lk_one'] at hcs; cases hcs
      · rw [lk_one h] at hcs; cases hcs
    · refine h5 b hb fun h => hno 1000000 ?_
      rw [lk_one']; exact h
  rcases hcase with ⟨hnil, hn0⟩ | ⟨g, cap, cur, hsl, _, hg, hcl, hcm, hcs, htk⟩
  · have hl : l = [] := List.eq_nil_of_length_eq_zero hn0
    have hl' : l' = [] := List.eq_nil_of_length_eq_zero (by omega)
    have hc := hnone none 0 w
    rw [hnil]
    refine hc.mono fun x w' hx => ?_
    obtain ⟨rfl, rfl⟩ := hx
    refine fin _ rfl rfl rfl (Nat.le_refl _) (fun _ _ _ => rfl) fun ok' => ?_
    rw [hl']
    exact ⟨[], ⟨by simp, .inl ⟨hnil, rfl⟩⟩, (fun r hr => by cases hr), (fun i r hi => by simp at hi)⟩
  · obtain ⟨hH, hsl'⟩ := holds_row hg hcs hcl htk (strRows_rep hrep)
    have hlt : g < w.heap.size := (Array.getElem?_eq_some_iff.1 hg).1
    rw [hsl]
    refine (hsome g cap w hH hlt).mono fun x w' hx => ?_
    obtain ⟨rfl, q, os, hw⟩ := hx
    obtain ⟨w2, cur2, hw2, k1, k2, k3, k4, k5, k6, k7, k8⟩ := sorted_world (os := os) (q := q) (d := l') hg hcs (by omega)
    rw [← hw2] at hw
    subst hw
    refine fin _ k1 k2 k3 k4 (fun b hb hne => k5 b hb fun h => hne (by rw [hsl, h]; rfl)) fun ok' => ?_
    exact strRows_hold (by rw [hsl, hlen]) k6 k7 (by omega) hcm k8 fun s hs => hsl' s (hsub s hs)
