import Derived.Test.YtondofmlippbcaaWPvH
set_option linter.unusedVariables false
set_option linter.unusedSimpArgs false
namespace Go.Pv
variable {X : Ctx} {pl : Pl} {fr : Fr} {ob : Ob} {a : Act} {w : World}

theorem AllFrz.look_out {u : Ob} (h : AllFrz u) (ob : Ob) {id : Nat} (hn : Pv.look Obj.none u id = .none) : lkOf (u ++ ob) id = lkOf ob id := by
  induction u with
  | nil => rfl
  | cons q u ih =>
    obtain ⟨m, o⟩ := q
    rw [look_cons] at hn
    simp only [List.cons_append, lkOf, look_cons]
    by_cases hm : m = id
    · rw [if_pos hm] at hn
      obtain ⟨sz, rows, h0⟩ := h (m, o) (by simp)
      rw [hn] at h0; cases h0
    · rw [if_neg hm] at hn ⊢
      exact ih (fun q hq => h q (by simp [hq])) hn

theorem PRep.cells_one {w : World} {ok : Nat → Prop} {pl : Pl} {lk : Nat → Obj} {v : Value} {p : PV} (h : PRep w ok pl lk v p) (hc : cellB p = true) : v.cells = #[v] := by
  cases h <;> first | rfl | (rename_i hdr; cases hdr <;> rfl) | (simp [cellB] at hc)

theorem core_store (hT : TOk X) (ty : TypeId) (x y : Operand) {dst : Option Nat} {ins : List PV} {lk : Nat → Obj} {K : PV → Ob → List Nat → Prop} (hd : ∀ d', dst = some d' → d' < X.E.nt) (h : evCore X.E (.store ty x y) dst ins lk K) :
    ∃ v u t, K v u t ∧ CoreOk X (.store ty x y) dst ins lk v u t := by
  simp only [evCore] at h
  split at h
  · rename_i ti hti
    have hok := hT ty ti hti
    split at h
    · -- a box
      rename_i id off v
      split at h
      · rename_i cs hl
        split at h
        · -- a struct
          split at h
          · rename_i ds
            split at h
            · rename_i cs' hlen hput
              have hlen := Nat.eq_of_beq_eq_true hlen
              refine ⟨_, _, _, h, fun o fr ob ho hdst hins ht pl a w hr K' Q hK => ?_⟩
              have hlo : lkOf ob id = .box cs := (ht id (by simp)).trans hl
              obtain ⟨⟨hx, _⟩, ⟨hy, _⟩⟩ := ops2 hr hins
              have h0 := hr.ho id
              rw [hlo] at h0
              obtain ⟨c, e, hc, hcs, hci⟩ := h0
              generalize hxv : a.eval x = va at hx
              generalize hyv : a.eval y = vb at hy
              cases hx
              cases hy with
              | agg hvs hvi =>
                rename_i vs
                obtain ⟨p1, p2, p3⟩ := putL_ok off (ds.map PV.d) cs hput
                have hds : ds ≠ [] := by
                  intro h0; subst h0; have := hok.pos; simp at hlen; omega
                have hfit : off + ds.length ≤ cs.length := by have := p2 (by simpa using hds); simpa using this
                have hvl : vs.toList.length = ds.length := by simpa using hvs
                have hrun := exec_store hT hti ho hxv hyv hc (by simp [Value.cells, hvs, hlen]) (by omega) (fun u hu => by
                  simp only [Value.cells] at hu
                  obtain ⟨j, hj⟩ := List.mem_iff_getElem?.1 hu
                  have hjl : j < ds.length := by rw [← hvl]; exact (List.getElem?_eq_some_iff.1 hj).1
                  have h2 := hvi j ds[j] (List.getElem?_eq_getElem hjl)
                  have h3 : vs.getD j undef = u := by simp at hj; simp [hj]
                  rw [h3] at h2; exact h2.one)
                unfold Oper.wp
                rw [hrun]
                refine hK pl _ _ ?_
                rw [hdst]
                refine hr.storeBox hlo hc ?_ (fun i z hz => ?_) hd
                · rw [putA_size _ _ _ (by simp [Value.cells]; omega), p1, hcs]
                · rw [putA_get _ _ _ (by simp [Value.cells]; omega)]
                  rw [p3 i] at hz
                  simp only [List.length_map] at hz
                  by_cases hii : off ≤ i ∧ i < off + ds.length
                  · rw [if_pos hii] at hz
                    rw [if_pos (by simp only [Value.cells]; omega)]
                    rw [List.getElem?_map] at hz
                    cases hdi : ds[i - off]? with
                    | none => rw [hdi] at hz; cases hz
                    | some q =>
                      rw [hdi] at hz; cases hz
                      refine ⟨.d ?_, rfl, fun id hid => by simp [ids] at hid⟩
                      have := hvi (i - off) q hdi
                      simpa [Value.cells] using this
                  · rw [if_neg hii] at hz
                    rw [if_neg (by simp only [Value.cells]; omega)]
                    have := hci i z hz
                    exact ⟨this.1, this.2, hr.clb id cs hlo z (List.mem_of_getElem? hz)⟩
            · exact h.elim
          · exact h.elim
        · -- one cell
          rename_i hg
          split at h
          · rename_i cs' hcb hput
            refine ⟨_, _, _, h, fun o fr ob ho hdst hins ht pl a w hr K' Q hK => ?_⟩
            have hlo : lkOf ob id = .box cs := (ht id (by simp)).trans hl
            obtain ⟨⟨hx, _⟩, ⟨hy, hyi⟩⟩ := ops2 hr hins
            have h0 := hr.ho id
            rw [hlo] at h0
            obtain ⟨c, e, hc, hcs, hci⟩ := h0
            generalize hxv : a.eval x = va at hx
            generalize hyv : a.eval y = vb at hy
            cases hx
            obtain ⟨p1, p2, p3⟩ := putL_ok off [v] cs hput
            have hfit : off + 1 ≤ cs.length := p2 (by simp)
            have hone := hok.agg_one hg
            have hcells := hy.cells_one hcb
            have hrun := exec_store hT hti ho hxv hyv hc (by simp [hcells, hone]) (by omega) (fun u hu => by
              rw [hcells] at hu; simp at hu; subst hu; exact hy.one hcb)
            unfold Oper.wp
            rw [hrun]
            refine hK pl _ _ ?_
            rw [hdst, hcells]
            refine hr.storeBox hlo hc ?_ (fun i z hz => ?_) hd
            · rw [putA_size _ _ _ (by simp; omega), p1, hcs]
            · rw [putA_get _ _ _ (by simp; omega)]
              rw [p3 i] at hz
              simp only [List.length_cons, List.length_nil, Nat.zero_add] at hz ⊢
              by_cases hii : off ≤ i ∧ i < off + 1
              · rw [if_pos hii] at hz ⊢
                have : i - off = 0 := by omega
                rw [this] at hz ⊢
                simp at hz; subst hz
                exact ⟨hy, hcb, hyi⟩
              · rw [if_neg hii] at hz ⊢
                have := hci i z hz
                exact ⟨this.1, this.2, hr.clb id cs hlo z (List.mem_of_getElem? hz)⟩
          · exact h.elim
      · exact h.elim
    · -- an element of a row
      rename_i id sz i off v
      split at h
      · rename_i e sz' rows hl
        split at h
        · rename_i ds u tc hp
          split at h
          · rename_i hlen hun
            simp only [Bool.and_eq_true] at hlen
            obtain ⟨hlen, hsz⟩ := hlen
            have hlen := Nat.eq_of_beq_eq_true hlen
            obtain rfl : sz' = sz := Nat.eq_of_beq_eq_true hsz
            obtain ⟨row, _, hi, h⟩ := h
            simp only [Int.toNat_natCast] at hi
            split at h
            · rename_i row' hput
              obtain ⟨rowsN, hrowsN, h⟩ := h
              subst hrowsN
              refine ⟨_, _, _, h, fun o fr ob ho hdst hins ht pl a w hr K' Q hK => ?_⟩
              have hlo : lkOf ob id = .row e sz' rows := (ht id (by simp)).trans hl
              obtain ⟨⟨hx, _⟩, ⟨hy, hyi⟩⟩ := ops2 hr hins
              generalize hxv : a.eval x = va at hx
              generalize hyv : a.eval y = vb at hy
              cases hx with
              | owp hpp =>
                rename_i ad
                obtain ⟨g, n, c, hv, rfl⟩ := hpp (by rw [hlo]; rfl)
                obtain ⟨f1, g1, p1⟩ := partD_ok (X := X) (ob := ob) hp (fun j hj => ht j (by simp [hj]))
                have hr' := hr.freeze f1
                obtain ⟨⟨q1, q2⟩, _⟩ := p1 u f1 (fun p hp => g1.look ob hp) pl w fr a hr hr' vb hy
                have hne : ds ≠ [] := by
                  intro h0; subst h0; have := hok.pos; simp at hlen; omega
                have hlo' : lkOf (u ++ ob) id = .row e sz' rows := (g1.look_out ob hun).trans hlo     -- the row that is written is none of those that become still
                · have h0 := hr'.ho id
                  rw [hlo'] at h0
                  obtain ⟨xs, hown, _, _⟩ := h0
                  rcases hown.2 with ⟨hn, _⟩ | ⟨g', cap, cur, hv', _, hg, _⟩
                  · rw [hv] at hn; cases hn
                  · rw [hv] at hv'
                    cases hv'
                    obtain ⟨hst, hfit⟩ := hr'.storeRow (d := dst) (vs := vb.cells.toList) hlo' hv hi hput hne hg (by simpa using q1) (fun j z hz => by simpa using q2 j z hz) hd
                    have hrun := exec_store hT hti ho hxv hyv hg (by rw [q1, hlen]) (by simp at hfit; omega) (fun w' hw' => by
                      obtain ⟨j, hj⟩ := List.mem_iff_getElem?.1 hw'
                      have hjl : j < ds.length := by rw [← q1]; simpa using (List.getElem?_eq_some_iff.1 hj).1
                      have h2 := q2 j ds[j] (List.getElem?_eq_getElem hjl)
                      have h3 : vb.cells.getD j undef = w' := by simp at hj; simp [hj]
                      rw [h3] at h2; exact h2.one)
                    unfold Oper.wp
                    rw [hrun]
                    refine hK pl _ _ ?_
                    rw [hdst]; exact hst
            · exact h.elim
          · exact h.elim
        · exact h.elim
      · exact h.elim
    · exact h.elim
  · exact h.elim

end Go.Pv
