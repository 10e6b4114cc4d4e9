import Derived.Test.YtondofmlippbcaaWPvM
import Derived.Deep.AppendSrc
set_option linter.unusedVariables false
set_option linter.unusedSimpArgs false
namespace Go.Pv
variable {X : Ctx} {pl : Pl} {fr : Fr} {ob : Ob} {a : Act} {w : World}

/-- The one element behind a row. -/
theorem idx_lt {i j n sz : Nat} (hi : i < n) (hj : j < sz) : i * sz + j < n * sz :=
  calc i * sz + j < i * sz + sz := by omega
    _ = (i + 1) * sz := by rw [Nat.add_mul, Nat.one_mul]
    _ ≤ n * sz := Nat.mul_le_mul_right _ hi

theorem idx_div {i j sz : Nat} (hj : j < sz) : (i * sz + j) / sz = i ∧ (i * sz + j) % sz = j := by
  have hp : 0 < sz := by omega
  exact ⟨by rw [Nat.mul_comm, Nat.mul_add_div hp, Nat.div_eq_of_lt hj, Nat.add_zero], by rw [Nat.mul_comm, Nat.mul_add_mod, Nat.mod_eq_of_lt hj]⟩

/-- append onto a row of one's own, of whatever is appended. -/
theorem append_own_src {P : Program} (w : World) (t tx ty e : TypeId) (i : TypeInfo) (z : Value) (ht : P.underlying t = some (.slice e)) (hi : P.info? e = some i) (hz : i.zero = some z)
    (hzs : z.cells.size = i.size) (hsz : 0 < i.size) (hb0 : 0 < i.bytes) (v : Value) (n : Nat) (xs : List Value) (hown : w.ownsRow 0 e i.size v n xs) (x : Value) (m : Nat) (news : List Value)
    (hs : Src P i.size tx x m news w) (hbytes : (n + m) * i.bytes ≤ 140737488355328) :
    ∃ v' w', (Builtin.append_ #[t, tx] ty #[v, x]).run P w = .ok v' w' ∧ w'.ownsRow 0 e i.size v' (n + m) (xs ++ news) ∧ w.grownBy w' v.ownBlock ∧
      (v'.ownBlock = v.ownBlock ∨ v'.ownBlock = some w.heap.size) := by
  have hle : n + m ≤ 140737488355328 := Nat.le_trans (Nat.le_mul_of_pos_right _ hb0) hbytes
  have h63 : n + m ≤ maxLen := by simp only [maxLen]; omega
  have hl := hs.newsLen
  have hlen : (xs ++ news).length = (n + m) * i.size := by rw [List.length_append, hown.1, hl, Nat.add_mul]
  have grown : ∀ (old : Nat), old < n + m → ∀ (row : Option Nat),
      (w.drew.alloc (.cells ((xs ++ news).toArray ++ Builtin.zeroCells z.cells (grownCap w (n + m) old e - (n + m))) e)).ownsRow 0 e i.size
        (.slice (some ⟨w.heap.size, 0, none⟩) (n + m) (grownCap w (n + m) old e)) (n + m) (xs ++ news) ∧
      w.grownBy (w.drew.alloc (.cells ((xs ++ news).toArray ++ Builtin.zeroCells z.cells (grownCap w (n + m) old e - (n + m))) e)) row := by
    intro old ho row
    have hge := grownCap_ge w (n + m) old e
    have hcm : grownCap w (n + m) old e ≤ maxLen := grownCap_le_maxLen w (n + m) old e h63
    refine ⟨⟨hlen, .inr ⟨w.heap.size, _, _, rfl, Nat.zero_le _, heap_alloc_new w.drew _, hge, hcm, ?_, ?_⟩⟩, ⟨rfl, rfl, rfl, by simp, fun k hk _ => heap_alloc_old w.drew _ k hk⟩⟩
    · simp only [Array.size_append, List.size_toArray, size_zeroCells, hzs, hlen, ← Nat.add_mul]
      congr 1
      omega
    · simp only [Array.toList_append]
      rw [← hlen]
      exact List.take_left
  have h63' : ((n + m : Nat) : Int) ≤ 9223372036854775807 := by omega
  rcases hown.2 with ⟨rfl, rfl⟩ | ⟨g, cap, cur, rfl, hbg, hg, hnc, hcm, hcs, htake⟩
  · have hx : xs = [] := List.eq_nil_of_length_eq_zero (by simpa using hown.1)
    subst hx
    by_cases hm : m = 0
    · subst hm
      have hn : news = [] := List.eq_nil_of_length_eq_zero (by simpa using hl)
      subst hn
      refine ⟨.slice none 0 0, w, ?_, World.ownsRow_nil w 0 e i.size, ⟨rfl, rfl, rfl, Nat.le_refl _, fun _ _ _ => rfl⟩, .inl rfl⟩
      have hc := hs.cells
      rcases hs.kind with ⟨e', hk⟩ | hk <;> simp [Builtin.append_, run_underlying ht, run_underlying hk, sizeOf, typeInfo, hi, hs.len, hc]
    · have hgr := grown 0 (by omega) (Value.ownBlock (.slice none 0 0))
      have hr := run_append_grow_src (P := P) w t tx ty e i z ht hi hz none 0 0 [] (run_firstCells_none w.drew i.size 0 0 0) x m news hs (by omega) h63' (growslice_fits (by omega) hbytes)
      exact ⟨_, _, hr, hgr.1, hgr.2, .inr rfl⟩
  · by_cases hroom : n + m ≤ cap
    · have hfit : n * i.size + news.length ≤ cur.size := by rw [hl, hcs, ← Nat.add_mul]; exact Nat.mul_le_mul_right _ hroom
      have hst := run_storeCells_at P g (n * i.size) e news 0 cur w hg (by simpa using hfit) hs.one
      simp only [Nat.add_zero] at hst
      refine ⟨.slice (some ⟨g, 0, none⟩) (n + m) cap, w.setRow g (cur.toList.take (n * i.size) ++ news ++ cur.toList.drop (n * i.size + news.length)).toArray, ?_, ⟨hlen, .inr ⟨g, cap, _, rfl, hbg, setRow_heap w g cur _ e _ hg, hroom, hcm, ?_, ?_⟩⟩, ⟨rfl, rfl, rfl, by simp, fun k _ hk => setRow_other w g k _ (fun e => hk (by simp [Value.ownBlock, e]))⟩, .inl rfl⟩
      · have hc := hs.cells
        rcases hs.kind with ⟨e', hk⟩ | hk <;> simp [Builtin.append_, run_underlying ht, run_underlying hk, sizeOf, typeInfo, hi, hs.len, hroom, hc, Addr.add_lit, hst]
      · simp only [List.size_toArray, List.length_append, List.length_take, List.length_drop, Array.length_toList]
        omega
      · rw [htake, ← hlen]
        exact List.take_left
    · have holds : ∀ j u, xs[j]? = some u → w.drew.cell? ((⟨g, 0, none⟩ : Addr).add j) = some u := hown.cells (g := g) rfl
      have hr := run_append_grow_src (P := P) w t tx ty e i z ht hi hz (some ⟨g, 0, none⟩) n cap xs (run_firstCells_some w.drew i.size n ⟨g, 0, none⟩ n cap xs hown.1 holds) x m news hs (by omega) h63' (growslice_fits (by omega) hbytes)
      have hgr := grown cap (by omega) (Value.ownBlock (.slice (some ⟨g, 0, none⟩) n cap))
      exact ⟨_, _, hr, hgr.1, hgr.2, .inr rfl⟩

theorem Src.ofD {P : Program} {w : World} {ok : Nat → Prop} {v : Value} {rows : List (List D)} {sz : Nat} {tx : TypeId} (hsz : 0 < sz) (h : DRep w ok v (.sl rows)) (hr : ∀ r ∈ rows, r.length = sz)
    (hk : (∃ e', P.underlying tx = some (.slice e')) ∨ P.underlying tx = some .string) :
    ∃ news, Src P sz tx v rows.length news w ∧ ∀ (i : Nat) (r : List D), rows[i]? = some r → ∀ (j : Nat) (x : D), r[j]? = some x → DRep w ok (news.getD (i * sz + j) undef) x := by
  cases h with
  | nil => exact ⟨[], ⟨hk, fun _ => rfl, run_firstCells_none w sz 0 0 0, run_firstCells_none w.drew sz 0 0 0, by simp, fun _ h => by cases h⟩, fun i r h => by simp at h⟩
  | sl ad c s _ vs hc hm hok hs hcell hrep =>
    have hss : ∀ i r, rows[i]? = some r → s = sz := fun i r h => by have := List.mem_of_getElem? h; rw [← hr r this, hs r this]
    have hgo : ∀ k, k < rows.length * sz → ∃ x, w.cell? (ad.add k) = some (vs k) ∧ DRep w ok (vs k) x := fun k hk => by
      have hi : k / sz < rows.length := Nat.div_lt_of_lt_mul (by rw [Nat.mul_comm]; exact hk)
      have hj : k % sz < sz := Nat.mod_lt _ hsz
      have hrl : (rows[k / sz]).length = sz := hr _ (List.getElem_mem hi)
      have he : k / sz * sz + k % sz = k := by rw [Nat.mul_comm]; exact Nat.div_add_mod k sz
      obtain rfl := hss _ _ (List.getElem?_eq_getElem hi)
      have h1 := hcell (k / s) _ (List.getElem?_eq_getElem hi) (k % s) _ (List.getElem?_eq_getElem (by rw [hrl]; exact hj))
      have h2 := hrep (k / s) _ (List.getElem?_eq_getElem hi) (k % s) _ (List.getElem?_eq_getElem (by rw [hrl]; exact hj))
      rw [he] at h1 h2
      exact ⟨_, h1, h2⟩
    have hget : ∀ k u, ((List.range (rows.length * sz)).map vs)[k]? = some u → k < rows.length * sz ∧ u = vs k := fun k u h => by
      rw [List.getElem?_map] at h
      cases hh : (List.range (rows.length * sz))[k]? with
      | none => rw [hh] at h; cases h
      | some q =>
        obtain ⟨h1, h2⟩ := List.getElem?_eq_some_iff.1 hh
        rw [hh] at h; simp at h h1 h2; subst h2; exact ⟨h1, h.symm⟩
    refine ⟨(List.range (rows.length * sz)).map vs, ?_, fun i r h j x hj => ?_⟩
    · have hcells : ∀ w' : World, (∀ k, w'.cell? (ad.add k) = w.cell? (ad.add k)) → (Builtin.firstCells sz rows.length (.slice (some ad) rows.length c)).run P w' = .ok ((List.range (rows.length * sz)).map vs).toArray w' := fun w' hw =>
        run_firstCells_some w' sz rows.length ad rows.length c _ (by simp) fun k u h => by
          obtain ⟨h1, rfl⟩ := hget k u h
          obtain ⟨x, hx, _⟩ := hgo k h1
          rw [hw]; exact hx
      exact ⟨hk, fun _ => rfl, hcells w fun _ => rfl, hcells w.drew fun _ => rfl, by simp, fun u hu => by
        obtain ⟨k, hk⟩ := List.mem_iff_getElem?.1 hu
        obtain ⟨h1, rfl⟩ := hget k u hk
        obtain ⟨x, _, hx⟩ := hgo k h1
        exact hx.one⟩
    · have hi : i < rows.length := (List.getElem?_eq_some_iff.1 h).1
      have hjl : j < sz := by rw [← hr r (List.mem_of_getElem? h)]; exact (List.getElem?_eq_some_iff.1 hj).1
      have : ((List.range (rows.length * sz)).map vs).getD (i * sz + j) undef = vs (i * sz + j) := by
        simp [List.getD_eq_getElem?_getD, idx_lt hi hjl]
      rw [this]
      obtain rfl := hss _ _ h
      exact hrep i r h j x hj

theorem moreG_ok {sz : Nat} {isStr : Bool} {x : PV} {lk : Nat → Obj} {K : List (List D) → Ob → List Nat → Prop} (hpos : 0 < sz) (H : moreG sz isStr x lk K) :
    ∃ rows u t, K rows u t ∧ ∀ ob : Ob, (∀ id ∈ t, lkOf ob id = lk id) → Frz ob u ∧ ∀ pl w fr a, Rel X pl fr ob a w → Rel X pl fr (u ++ ob) a w → ∀ val, PRep w (Imm X pl (lkOf ob) w) pl (lkOf ob) val x →
      ∀ tx, ((∃ e', X.P.underlying tx = some (.slice e')) ∨ (X.P.underlying tx = some .string)) → (isStr = true → sz = 1) →
      ∃ news, Src X.P sz tx val rows.length news w ∧ (∀ r ∈ rows, r.length = sz) ∧ ∀ (i : Nat) (r : List D), rows[i]? = some r → ∀ (j : Nat) (y : D), r[j]? = some y → DRep w (Imm X pl (lkOf (u ++ ob)) w) (news.getD (i * sz + j) undef) y := by
  unfold moreG at H
  split at H
  · rename_i rows
    obtain ⟨hr, H⟩ := H
    refine ⟨_, _, _, H, fun ob _ => ⟨.nil _, fun pl w fr a hrel _ val hp tx hk _ => ?_⟩⟩
    cases hp with
    | d hp =>
      obtain ⟨news, h1, h2⟩ := Src.ofD hpos hp hr hk
      exact ⟨news, h1, hr, h2⟩
  · refine ⟨_, _, _, H, fun ob _ => ⟨.nil _, fun pl w fr a hrel _ val hp tx hk _ => ?_⟩⟩
    cases hp with
    | nil =>
      obtain ⟨news, h1, h2⟩ := Src.ofD (rows := []) (w := w) (ok := Imm X pl (lkOf ob) w) hpos .nil (fun _ h => by cases h) hk
      exact ⟨news, h1, fun _ h => by (cases h), h2⟩
  · rename_i id
    split at H
    · rename_i e sz' rows hl
      split at H
      · rename_i hsz
        obtain rfl := Nat.eq_of_beq_eq_true hsz
        refine ⟨_, _, _, H, fun ob ht => ?_⟩
        have hlo : lkOf ob id = .row e sz' rows := (ht id (by simp)).trans hl
        refine ⟨Frz.cons (.nil _) hlo, fun pl w fr a hrel hrel' val hp tx hk _ => ?_⟩
        cases hp with
        | own hvv =>
          have hvv := hvv (by rw [hlo]; rfl)
          have h5 := hrel'.ho id
          have h6 : lkOf ([(id, Obj.frz sz' rows)] ++ ob) id = .frz sz' rows := by simp [lkOf, look_cons]
          rw [h6] at h5
          obtain ⟨h7, h8, _⟩ := h5
          rw [← hvv] at h8
          obtain ⟨news, g1, g2⟩ := Src.ofD hpos h8 h7 hk
          exact ⟨news, g1, h7, g2⟩
      · exact H.elim
    · rename_i sz' rows hl
      split at H
      · rename_i hsz
        obtain rfl := Nat.eq_of_beq_eq_true hsz
        refine ⟨_, _, _, H, fun ob ht => ?_⟩
        have hlo : lkOf ob id = .frz sz' rows := (ht id (by simp)).trans hl
        refine ⟨.nil _, fun pl w fr a hrel hrel' val hp tx hk _ => ?_⟩
        cases hp with
        | own hvv =>
          have hvv := hvv (by rw [hlo]; rfl)
          have h5 := hrel.ho id
          rw [hlo] at h5
          obtain ⟨h7, h8, _⟩ := h5
          rw [← hvv] at h8
          obtain ⟨news, g1, g2⟩ := Src.ofD hpos h8 h7 hk
          exact ⟨news, g1, h7, g2⟩
      · exact H.elim
    · exact H.elim
  · rename_i s
    split at H
    · refine ⟨_, _, _, H, fun ob _ => ⟨.nil _, fun pl w fr a hrel _ val hp tx hk h1 => ?_⟩⟩
      obtain rfl := h1 rfl
      cases hp with
      | d hp =>
        obtain ⟨s, rfl, rfl, _⟩ := hp.str_inv
        · have hl : (bytesRows s.data.toList).length = s.size := by unfold bytesRows; rw [List.length_map, Array.length_toList]; rfl
          refine ⟨byteCells s, ?_, fun r hr => ?_, fun i r hi j y hj => ?_⟩
          · rw [hl]
            exact ⟨hk, fun _ => rfl, firstCells_string s w, firstCells_string s w.drew, by rw [byteCells_length, Nat.mul_one], fun u hu => by
              obtain ⟨_, _, rfl⟩ := List.mem_map.1 hu
              rfl⟩
          · unfold bytesRows at hr; obtain ⟨_, _, rfl⟩ := List.mem_map.1 hr; rfl
          · unfold bytesRows at hi
            rw [List.getElem?_map] at hi
            cases hb : s.data.toList[i]? with
            | none => rw [hb] at hi; cases hi
            | some b =>
              rw [hb] at hi; simp at hi; subst hi
              cases j with
              | succ j => simp at hj
              | zero =>
                simp at hj; subst hj
                have : (byteCells s).getD (i * 1 + 0) undef = .int .u8 b.toNat := by
                  unfold byteCells
                  rw [List.getD_eq_getElem?_getD, List.getElem?_map, Nat.mul_one, Nat.add_zero, hb]; rfl
                rw [this]; exact .int _ _
    · exact H.elim
  · exact H.elim

end Go.Pv
