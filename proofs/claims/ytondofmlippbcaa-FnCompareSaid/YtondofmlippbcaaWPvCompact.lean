import Derived.Test.YtondofmlippbcaaWPvSort
import Derived.Lib.SlicesCompact
set_option linter.unusedSimpArgs false
set_option linter.unusedVariables false
namespace Go.Pv
open Go.Sort Go.Proofs

/-- A function that takes a row of texts and gives it back, shorter. -/
theorem FnG.shortRow {P : Program} {f : FuncId} {e : TypeId} {l l' : List (List UInt8)} {fn : Func} {c : Code} (hf : P.funcs[f]? = some fn) (hname : (fn.name == "runtime.NumGoroutine") = false) (hb : fn.body = some c)
    (hlen : l'.length ≤ l.length) (hsub : ∀ s ∈ l', s ∈ l) (hnone : ∀ p cap w, Calls P f #[.slice p 0 cap] w fun x w' => x = .returned (.slice p 0 cap) ∧ w' = w)
    (hsome : ∀ g cap w, Holds encStr w g 0 l.toArray → l.length ≤ cap → Calls P f #[.slice (some ⟨g, 0, none⟩) l.length cap] w fun x w' => x = .returned (.slice (some ⟨g, 0, none⟩) l'.length cap) ∧ ∃ q, w' = putRow encStr (Sort.ahead w q) g 0 (l' ++ List.replicate (l.length - l'.length) []).toArray) :
    FnG P f [.own 1000000] [(1000000, .row e 1 (strRows l))] (.own 400000) [(1000000, .gone), (400000, .row e 1 (strRows l'))] := by
  refine ⟨⟨fn, c, hf, hname, hb⟩, fun w ok pl vals hok hsz hvals hhold hinj hmw => ?_⟩
  have hv := hvals 0 _ rfl
  obtain ⟨v, rfl⟩ : ∃ v, vals = #[v] := by
    refine ⟨vals[0]'(by rw [hsz]; decide), ?_⟩
    apply Array.ext
    · simpa using hsz
    · intro i h1 h2
      simp at h2; subst h2; rfl
  have hv : PRep w ok pl (lkOf [(1000000, Obj.row e 1 (strRows l))]) v (.own 1000000) := hv
  have hho := hhold 1000000
  rw [lk_one'] at hho
  obtain ⟨xs, ⟨hxl, hcase⟩, _, hrep⟩ := hho
  have hval : v = pl.val 1000000 := by
    cases hv with
    | own h => exact h (by rw [lk_one']; rfl)
  subst hval
  have hl0 : (strRows l).length = l.length := by simp
  rw [hl0] at hxl hcase
  generalize hO : ([(1000000, .gone), (400000, .row e 1 (strRows l'))] : Ob) = O'
  have lk0 : lkOf O' 1000000 = .gone := by rw [← hO]; rfl
  have lk1 : lkOf O' 400000 = .row e 1 (strRows l') := by rw [← hO]; rfl
  have lk2 : ∀ id, id ≠ 1000000 → id ≠ 400000 → lkOf O' id = .none := fun id h h' => by rw [← hO, lk_cons, if_neg (fun e => h e.symm), lk_cons, if_neg (fun e => h' e.symm)]; rfl
  have fin : ∀ (a : Option Addr) (n cp : Nat) (w' : World), (Value.slice a n cp).ownBlock = (pl.val 1000000).ownBlock → w'.os = w.os → w'.tape = w.tape → w'.output = w.output → w.heap.size ≤ w'.heap.size → (∀ b, b < w.heap.size → (pl.val 1000000).ownBlock ≠ some b → w'.heap[b]? = w.heap[b]?) →
      (∀ ok', Hold w' ok' (pl.setV 400000 (.slice a n cp)) (lkOf O') 400000 (.row e 1 (strRows l'))) → ∃ val pl', Ending.returned (.slice a n cp) = .returned val ∧ (∀ id, base ≤ id → pl'.blk id = pl.blk id ∧ pl'.val id = pl.val id) ∧
      ∃ ok' : Nat → Prop, (∀ b, ok' b ↔ ok b ∨ ((w.heap.size ≤ b ∨ ∃ id, mb pl id (lkOf [(1000000, Obj.row e 1 (strRows l))] id) = some b) ∧ b < w'.heap.size ∧ ∀ id, mb pl' id (lkOf O' id) ≠ some b)) ∧
      PRep w' ok' pl' (lkOf O') val (.own 400000) ∧ (∀ id, Hold w' ok' pl' (lkOf O') id (lkOf O' id)) ∧
      (∀ id id' b, mb pl' id (lkOf O' id) = some b → mb pl' id' (lkOf O' id') = some b → id = id') ∧
      (∀ id b, mb pl' id (lkOf O' id) = some b → ¬ ok b ∧ b < w'.heap.size ∧ (w.heap.size ≤ b ∨ ∃ id0, mb pl id0 (lkOf [(1000000, Obj.row e 1 (strRows l))] id0) = some b)) ∧
      (∀ id ∈ ids (.own 400000), lkOf O' id ≠ .none) ∧ (∀ id cs, lkOf O' id = .box cs → ∀ x ∈ cs, ∀ id' ∈ ids x, lkOf O' id' ≠ .none) ∧
      w'.os = w.os ∧ w'.tape = w.tape ∧ w'.output = w.output ∧ w.heap.size ≤ w'.heap.size ∧
      ∀ b, b < w.heap.size → (∀ id, mb pl id (lkOf [(1000000, Obj.row e 1 (strRows l))] id) ≠ some b) → w'.heap[b]? = w.heap[b]? := by
    intro a n cp w' h0 h1 h2 h3 h4 h5 h6
    have hvd : (pl.setV 400000 (.slice a n cp)).val 400000 = .slice a n cp := by simp [Pl.setV]
    have mbE : ∀ id b, mb (pl.setV 400000 (.slice a n cp)) id (lkOf O' id) = some b → id = 400000 ∧ mb pl 1000000 (lkOf [(1000000, Obj.row e 1 (strRows l))] 1000000) = some b := fun id b hb => by
      by_cases h : id = 400000
      · subst h
        rw [lk1] at hb
        simp only [mb, hvd] at hb
        refine ⟨rfl, ?_⟩
        rw [lk_one']; simp only [mb]; rw [← h0]; exact hb
      · by_cases h' : id = 1000000
        · subst h'; rw [lk0] at hb; cases hb
        · rw [lk2 id h' h] at hb; cases hb
    refine ⟨.slice a n cp, pl.setV 400000 (.slice a n cp), rfl, fun id hid => ?_, _, fun b => Iff.rfl, .own fun _ => hvd.symm, fun id => ?_, fun id id' b g1 g2 => ?_, fun id b g => ?_, fun id hid => ?_, fun id cs hcs => ?_, h1, h2, h3, h4, fun b hb hno => ?_⟩
    · have : id ≠ 400000 := by unfold base at hid; omega
      simp [Pl.setV, this]
    · by_cases h : id = 400000
      · subst h; rw [lk1]; exact h6 _
      · by_cases h' : id = 1000000
        · subst h'; rw [lk0]; trivial
        · rw [lk2 id h' h]; trivial
    · rw [(mbE id b g1).1, (mbE id' b g2).1]
    · obtain ⟨_, g⟩ := mbE id b g
      obtain ⟨m1, m2⟩ := hmw _ b g
      exact ⟨m1, by omega, .inr ⟨_, g⟩⟩
    · simp [ids] at hid; subst hid; rw [lk1]; intro h; cases h
    · by_cases h : id = 400000
      · subst h; rw [lk1] at hcs; cases hcs
      · by_cases h' : id = 1000000
        · subst h'; rw [lk0] at hcs; cases hcs
        · rw [lk2 id h' h] at hcs; cases hcs
    · refine h5 b hb fun h => hno 1000000 ?_
      rw [lk_one']; exact h
  rcases hcase with ⟨hnil, hn0⟩ | ⟨g, cap, cur, hsl, _, hg, hcl, hcm, hcs, htk⟩
  · have hl : l = [] := List.eq_nil_of_length_eq_zero hn0
    have hl' : l' = [] := List.eq_nil_of_length_eq_zero (by omega)
    have hc := hnone none 0 w
    rw [hnil]
    refine hc.mono fun x w' hx => ?_
    obtain ⟨rfl, rfl⟩ := hx
    refine fin none 0 0 _ (by rw [hnil]) rfl rfl rfl (Nat.le_refl _) (fun _ _ _ => rfl) fun ok' => ?_
    rw [hl']
    exact ⟨[], ⟨by simp, .inl ⟨by simp [Pl.setV], rfl⟩⟩, (fun r hr => by cases hr), (fun i r hi => by simp at hi)⟩
  · obtain ⟨hH, hsl'⟩ := holds_row hg hcs hcl htk (strRows_rep hrep)
    rw [hsl]
    refine (hsome g cap w hH hcl).mono fun x w' hx => ?_
    obtain ⟨rfl, q, hw⟩ := hx
    obtain ⟨w2, cur2, hw2, k1, k2, k3, k4, k5, k6, k7, k8⟩ := sorted_world (os := #[]) (q := q) (d := l' ++ List.replicate (l.length - l'.length) []) hg hcs (by simp; omega)
    rw [grow_empty] at hw2
    rw [← hw2] at hw
    subst hw
    refine fin _ _ _ _ (by rw [hsl]; rfl) k1 k2 k3 k4 (fun b hb hne => k5 b hb fun h => hne (by rw [hsl, h]; rfl)) fun ok' => ?_
    refine strRows_hold (by simp [Pl.setV]) k6 k7 (by omega) hcm (fun i s hi => k8 i s ?_) fun s hs => hsl' s (hsub s hs)
    rw [List.getElem?_append_left (List.getElem?_eq_some_iff.1 hi).1]; exact hi

theorem compact_len (zs : List (List UInt8)) : (Lib.compact zs).length ≤ zs.length := by
  unfold Lib.compact Lib.compactUpTo
  rw [List.length_map]
  exact Nat.le_trans (List.length_filter_le _ _) (by simp)
theorem compact_mem (zs : List (List UInt8)) (x : List UInt8) (h : x ∈ Lib.compact zs) : x ∈ zs := by
  unfold Lib.compact Lib.compactUpTo at h
  obtain ⟨i, hi, rfl⟩ := List.mem_map.1 h
  have hlt : i < zs.length := by simpa using (List.mem_filter.1 hi).1
  rw [getElem!_pos zs.toArray i (by simpa using hlt)]
  simp
end Go.Pv
