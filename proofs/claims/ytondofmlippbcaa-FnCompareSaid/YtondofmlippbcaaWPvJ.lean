import Derived.Test.YtondofmlippbcaaWPvI
import Derived.Laws.BytesString
set_option linter.unusedVariables false
set_option linter.unusedSimpArgs false
namespace Go.Pv
variable {X : Ctx} {pl : Pl} {fr : Fr} {ob : Ob} {a : Act} {w : World}

theorem core_nilCheck (x : Operand) {dst : Option Nat} {ins : List PV} {lk : Nat → Obj} {K : PV → Ob → List Nat → Prop} (hd : ∀ d', dst = some d' → d' < X.E.nt) (h : evCore X.E (.nilCheck x) dst ins lk K) :
    ∃ v u t, K v u t ∧ CoreOk X (.nilCheck x) dst ins lk v u t := by
  simp only [evCore] at h
  split at h
  · refine ⟨_, [], [], h, .value hd fun o fr ob ho hins _ pl a w hr => ?_⟩
    obtain ⟨hx, hi⟩ := op1 hr hins
    generalize hxv : a.eval x = va at hx
    cases hx
    exact ⟨_, by unfold execOp; rw [ho]; simp [hxv], .ptr _ _, hi⟩
  · refine ⟨_, [], [], h, .value hd fun o fr ob ho hins _ pl a w hr => ?_⟩
    obtain ⟨hx, hi⟩ := op1 hr hins
    generalize hxv : a.eval x = va at hx
    have hx' := hx
    cases hx
    exact ⟨_, by unfold execOp; rw [ho]; simp [hxv], hx', hi⟩
  · refine ⟨_, [], [], h, .value hd fun o fr ob ho hins _ pl a w hr => ?_⟩
    obtain ⟨hx, hi⟩ := op1 hr hins
    generalize hxv : a.eval x = va at hx
    have hx' := hx
    cases hx
    exact ⟨_, by unfold execOp; rw [ho]; simp [hxv], hx', hi⟩
  · exact h.elim

theorem run_fieldAt (hT : TOk X) {ty : TypeId} {ti : TI} (hti : look none X.E.T ty = some ti) {f o : Nat} (hf : ti.offs[f]? = some o) (ad : Addr) (w : World) (hk : ti.kind = .struct) :
    (Instr.fieldAt ty (.pointer (some ad)) f).run X.P w = .ok (.pointer (some (ad.add o))) w := by
  have hu := (hT ty ti hti).und
  rw [hk] at hu
  obtain ⟨fs, hu, ho, hs, hn, hg⟩ := hu
  rw [← ho, List.getElem?_map] at hf
  cases hfs : fs.toList[f]? with
  | none => rw [hfs] at hf; cases hf
  | some fl =>
    rw [hfs] at hf; simp at hf
    have hfa : fs[f]? = some fl := by simpa using hfs
    have hne := hn fl (List.mem_of_getElem? hfs)
    have hinfo : ∃ i, X.P.info? fl.type = some i ∧ i.size = X.P.cellsOf fl.type := by
      unfold Program.cellsOf at hne ⊢
      cases h : X.P.info? fl.type with
      | none => rw [h] at hne; simp at hne
      | some i => exact ⟨i, rfl, rfl⟩
    obtain ⟨i, hi, hisz⟩ := hinfo
    have hne' : i.size ≠ 0 := by omega
    simp [Instr.fieldAt, run_underlying hu, hfa, Instr.sureAddr, fieldPlace, sizeOf, typeInfo, hi, hne', hf]

theorem core_fieldAddr (hT : TOk X) (ty : TypeId) (x : Operand) (f : Nat) {dst : Option Nat} {ins : List PV} {lk : Nat → Obj} {K : PV → Ob → List Nat → Prop} (hd : ∀ d', dst = some d' → d' < X.E.nt) (h : evCore X.E (.fieldAddr ty x f) dst ins lk K) :
    ∃ v u t, K v u t ∧ CoreOk X (.fieldAddr ty x f) dst ins lk v u t := by
  simp only [evCore] at h
  split at h
  · rename_i ti hti
    split at h
    · rename_i off hk hoff
      have hrun : ∀ (o : Oper) (a : Act) (w : World) (ad : Addr), o.op = .fieldAddr ty x f → a.eval x = .pointer (some ad) → (execOp a.eval o).run X.P w = .ok (.value (.pointer (some (ad.add off)))) w := by
        intro o a w ad ho hx
        unfold execOp; rw [ho]
        simp only [hx, Sem.run_bind, run_fieldAt hT hti hoff ad w hk, Result.andThen_ok, Sem.run_pure]
      split at h
      · refine ⟨_, [], [], h, .value hd fun o fr ob ho hins _ pl a w hr => ?_⟩
        obtain ⟨hx, hi⟩ := op1 hr hins
        generalize hxv : a.eval x = va at hx
        cases hx
        refine ⟨_, hrun o a w _ ho hxv, ?_, hi⟩
        rw [add_off]; exact .ptr _ _
      · rename_i row
        refine ⟨_, [], [], h, .value hd fun o fr ob ho hins _ pl a w hr => ?_⟩
        obtain ⟨hx, hi⟩ := op1 hr hins
        generalize hxv : a.eval x = va at hx
        cases hx with
        | ept vs hok hc hdd =>
          rename_i ad
          have hadd : ∀ j, (ad.add off).add j = ad.add (off + j) := fun j => by
            unfold Addr.add; split <;> split <;> (try split) <;> simp_all <;> omega
          refine ⟨_, hrun o a w _ ho hxv, .ept (fun j => vs (off + j)) (fun hne => ?_) (fun j z hz => ?_) (fun j z hz => ?_), fun id hid => by simp [ids] at hid⟩
          · rw [add_block]; refine hok fun h0 => hne ?_
            subst h0; cases off <;> rfl
          · rw [dropL_get] at hz; rw [hadd]; exact hc _ z hz
          · rw [dropL_get] at hz; exact hdd _ z hz
      · rename_i id sz i o'
        split at h
        · rename_i hrow
          refine ⟨_, [], [id], h, .value hd fun o fr ob ho hins ht pl a w hr => ?_⟩
          obtain ⟨hx, hi⟩ := op1 hr hins
          generalize hxv : a.eval x = va at hx
          cases hx with
          | owp hp =>
            obtain ⟨g, n, c, hv, rfl⟩ := hp (by rw [ht id (by simp)]; exact hrow)
            refine ⟨_, hrun o a w _ ho hxv, .owp fun _ => ⟨g, n, c, hv, ?_⟩, hi⟩
            rw [add_off, Nat.add_assoc]
        · exact h.elim
      · exact h.elim
    · exact h.elim
  · exact h.elim

theorem field_info (hT : TOk X) {ty : TypeId} {ti : TI} (hti : look none X.E.T ty = some ti) (hk : ti.kind = .struct) {f o n : Nat} {g : Bool} (hf : ti.offs[f]? = some o) (hs : ti.szs[f]? = some n) (hg : ti.fagg[f]? = some g) :
    ∃ fs fl, X.P.underlying ty = some (.struct fs) ∧ fs[f]? = some fl ∧ fl.offset = o ∧ (∃ i, X.P.info? fl.type = some i ∧ i.size = n ∧ n ≠ 0) ∧ ∃ d, X.P.underlying fl.type = some d ∧ d.isRow = g := by
  have hu := (hT ty ti hti).und
  rw [hk] at hu
  obtain ⟨fs, hu, ho, hss, hn, hgg⟩ := hu
  rw [← ho, List.getElem?_map] at hf
  cases hfs : fs.toList[f]? with
  | none => rw [hfs] at hf; cases hf
  | some fl =>
    rw [hfs] at hf; simp at hf
    rw [← hss, List.getElem?_map, hfs] at hs
    simp at hs
    have h1 : (ti.fagg.map some)[f]? = some (some g) := by rw [List.getElem?_map, hg]; rfl
    rw [← hgg, List.getElem?_map, hfs] at h1
    simp at h1
    obtain ⟨d, hd, hdr⟩ := h1
    refine ⟨fs, fl, hu, by simpa using hfs, hf, ?_, d, hd, hdr⟩
    have hne := hn fl (List.mem_of_getElem? hfs)
    unfold Program.cellsOf at hne hs
    cases h : X.P.info? fl.type with
    | none => rw [h] at hne; simp at hne
    | some i => rw [h] at hs hne; simp at hs hne; exact ⟨i, rfl, hs, by omega⟩

theorem core_field (hT : TOk X) (ty : TypeId) (x : Operand) (f : Nat) {dst : Option Nat} {ins : List PV} {lk : Nat → Obj} {K : PV → Ob → List Nat → Prop} (hd : ∀ d', dst = some d' → d' < X.E.nt) (h : evCore X.E (.field ty x f) dst ins lk K) :
    ∃ v u t, K v u t ∧ CoreOk X (.field ty x f) dst ins lk v u t := by
  simp only [evCore] at h
  split at h
  · rename_i ti cs hti
    split at h
    · -- a struct
      rename_i off n hk hoff hsz hag
      split at h
      · rename_i cs' htake
        obtain ⟨t1, t2⟩ := takeL_ok _ _ htake
        refine ⟨_, [], [], h, .value hd fun o fr ob ho hins _ pl a w hr => ?_⟩
        obtain ⟨hx, _⟩ := op1 hr hins
        generalize hxv : a.eval x = va at hx
        obtain ⟨fs, fl, hu, hfa, hfo, ⟨i, hi, his, hn0⟩, d, hd', hdr⟩ := field_info hT hti hk hoff hsz hag
        cases hx with
        | agg hs hi' =>
          rename_i vs
          refine ⟨.agg (vs.extract off (off + n)), ?_, .agg ?_ (fun j z hz => ?_), fun id hid => by simp [ids] at hid⟩
          · have hagg : (isAgg fl.type).run X.P w = .ok true w := by unfold isAgg; rw [Sem.run_bind, run_underlying hd' w]; cases d <;> simp_all [TypeDesc.isRow]
            unfold execOp; rw [ho]
            simp [hxv, Instr.field, run_underlying hu, hfa, asAgg, part, hagg, sizeOf, typeInfo, hi, his, hfo]
          · have hle : off + n ≤ vs.size := by
              rw [hs]
              cases n with
              | zero => exact absurd rfl hn0
              | succ n =>
                have h1 : n < cs'.length := by omega
                have h2 := t2 n cs'[n] (List.getElem?_eq_getElem h1)
                rw [dropL_get] at h2
                have := (List.getElem?_eq_some_iff.1 h2).1
                omega
            simp; omega
          · have hj : j < n := by rw [← t1]; exact (List.getElem?_eq_some_iff.1 hz).1
            have h2 := t2 j z hz
            rw [dropL_get] at h2
            have h3 := hi' (off + j) z h2
            have h4 : off + j < vs.size := by rw [hs]; exact (List.getElem?_eq_some_iff.1 h2).1
            have : (vs.extract off (off + n)).getD j undef = vs.getD (off + j) undef := by
              have h5 : j < min (off + n) vs.size - off := by omega
              simp only [Array.getD_eq_getD_getElem?, Array.getElem?_extract, if_pos h5]
            rw [this]; exact h3
      · exact h.elim
    · rename_i off n hk hoff hsz hag
      split at h
      · rename_i z r hdr'
        rw [force_eq] at h
        refine ⟨_, [], [], h, .value hd fun o fr ob ho hins _ pl a w hr => ?_⟩
        obtain ⟨hx, _⟩ := op1 hr hins
        generalize hxv : a.eval x = va at hx
        obtain ⟨fs, fl, hu, hfa, hfo, ⟨i, hi, his, hn0⟩, d, hd', hdr⟩ := field_info hT hti hk hoff hsz hag
        cases hx with
        | agg hs hi' =>
          rename_i vs
          have h2 := dropL_get off cs 0
          rw [hdr'] at h2
          simp at h2
          have h4 : off < vs.size := by rw [hs]; exact (List.getElem?_eq_some_iff.1 h2.symm).1
          refine ⟨vs.getD off undef, ?_, .d (hi' off z h2.symm), fun id hid => by simp [ids] at hid⟩
          unfold execOp; rw [ho]
          have := run_part_plain (P := X.P) hd' hdr vs off h4 w
          simp only [hxv, Instr.field, Sem.run_bind, run_underlying hu, Result.andThen_ok, hfa, asAgg, Sem.run_pure, hfo, this]
      · exact h.elim
    · exact h.elim
  · exact h.elim

theorem add_add (a : Addr) (m n : Nat) : (a.add m).add n = a.add (m + n) := by
  unfold Addr.add; split <;> split <;> (try split) <;> simp_all <;> omega

theorem run_indexAt (hT : TOk X) {ty : TypeId} {ti te : TI} (hti : look none X.E.T ty = some ti) (hk : ti.kind = .slice) (hte : look none X.E.T ti.elem = some te) {k : IntKind} {i : Int} (h0 : 0 ≤ i) {len c : Nat} (h1 : i.toNat < len) (ad : Addr) (w : World) :
    (Instr.indexAt ty (.slice (some ad) len c) (.int k i)).run X.P w = .ok (.pointer (some (ad.add (i.toNat * te.size)))) w := by
  have hu := (hT ty ti hti).und
  rw [hk] at hu
  obtain ⟨ie, z, hi, hsz, _⟩ := (hT ti.elem te hte).info
  have hlt : 0 ≤ i ∧ i < (len : Int) := ⟨h0, by omega⟩
  simp [Instr.indexAt, asIntOf, run_underlying (show X.P.underlying ty = some _ from hu), sizeOf, typeInfo, hi, hsz, hlt]

theorem core_indexAddr (hT : TOk X) (ty : TypeId) (x y : Operand) {dst : Option Nat} {ins : List PV} {lk : Nat → Obj} {K : PV → Ob → List Nat → Prop} (hd : ∀ d', dst = some d' → d' < X.E.nt) (h : evCore X.E (.indexAddr ty x y) dst ins lk K) :
    ∃ v u t, K v u t ∧ CoreOk X (.indexAddr ty x y) dst ins lk v u t := by
  simp only [evCore] at h
  split at h
  · rename_i ti hti
    split at h
    · rename_i te hk hte
      have hrun : ∀ (o : Oper) (a : Act) (w : World) (ad : Addr) (len c : Nat) (k : IntKind) (i : Int), o.op = .indexAddr ty x y → a.eval x = .slice (some ad) len c → a.eval y = .int k i → 0 ≤ i → i.toNat < len →
          (execOp a.eval o).run X.P w = .ok (.value (.pointer (some (ad.add (i.toNat * te.size))))) w := by
        intro o a w ad len c k i ho hx hy h0 h1
        unfold execOp; rw [ho]
        simp only [hx, hy, Sem.run_bind, run_indexAt hT hti hk hte h0 h1 ad w, Result.andThen_ok, Sem.run_pure]
      split at h
      · rename_i rows k i
        obtain ⟨row, h0, hi, h⟩ := h
        split at h
        · rename_i hlen
          have hlen := Nat.eq_of_beq_eq_true hlen
          refine ⟨_, [], [], h, .value hd fun o fr ob ho hins _ pl a w hr => ?_⟩
          obtain ⟨⟨hx, _⟩, ⟨hy, _⟩⟩ := ops2 hr hins
          generalize hxv : a.eval x = va at hx
          generalize hyv : a.eval y = vb at hy
          have hil : i.toNat < rows.length := (List.getElem?_eq_some_iff.1 hi).1
          cases hy with
          | d hy =>
            cases hy
            cases hx with
            | d hx =>
              cases hx with
              | nil => simp at hil
              | sl ad c sz _ vs hc hm hok hsz hcell hrep =>
                have hs : sz = te.size := by rw [← hlen, hsz row (List.mem_of_getElem? hi)]
                subst hs
                refine ⟨_, hrun o a w ad _ c k i ho hxv hyv h0 hil, .ept (fun j => vs (i.toNat * te.size + j)) (fun _ => ?_) (fun j z hz => ?_) (fun j z hz => hrep _ row hi j z hz), fun id hid => by simp [ids] at hid⟩
                · rw [add_block]; exact hok (by intro h0; subst h0; simp at hil)
                · rw [add_add]; exact hcell _ row hi j z hz
        · exact h.elim
      · rename_i id k i
        have key : ∀ (rows : List (List D)), i.toNat < rows.length → 0 ≤ i → ∀ (o : Oper) (fr : Fr) (ob : Ob), o.op = .indexAddr ty x y → [x, y].map (opV fr) = [.own id, .d (.int k i)] →
            ((∃ e, lkOf ob id = .row e te.size rows) ∨ lkOf ob id = .frz te.size rows) → ∀ pl a w, Rel X pl fr ob a w →
            ∃ val, (execOp a.eval o).run X.P w = .ok (.value val) w ∧ PRep w (Imm X pl (lkOf ob) w) pl (lkOf ob) val (.owp id te.size i.toNat 0) ∧ ∀ id' ∈ ids (.owp id te.size i.toNat 0), lkOf ob id' ≠ .none := by
          intro rows hil h0 o fr ob ho hins hob pl a w hr
          obtain ⟨⟨hx, hxi⟩, ⟨hy, _⟩⟩ := ops2 hr hins
          generalize hxv : a.eval x = va at hx
          generalize hyv : a.eval y = vb at hy
          cases hy with
          | d hy =>
            cases hy
            cases hx with
            | own hv =>
              rename_i ao n c
              have hrow : (lkOf ob id).isRow = true := by rcases hob with ⟨e, h⟩ | h <;> rw [h] <;> rfl
              have hv := hv hrow
              have h1 := hr.ho id
              have : ∃ g, pl.val id = .slice (some ⟨g, 0, none⟩) rows.length c := by
                rcases hob with ⟨e, h⟩ | h
                · rw [h] at h1
                  obtain ⟨xs, hown, _, _⟩ := h1
                  rcases hown.2 with ⟨_, hn⟩ | ⟨g, cap, cur, hv', _⟩
                  · omega
                  · rw [← hv] at hv' ⊢; cases hv'; exact ⟨g, rfl⟩
                · rw [h] at h1
                  obtain ⟨_, hd', ha⟩ := h1
                  rw [← hv] at hd' ha ⊢
                  cases hd' with
                  | nil => simp at hil
                  | sl ad c sz _ vs hc hm hok hsz hcell hrep =>
                    obtain ⟨h1, h2⟩ := ha ad _ _ rfl
                    obtain ⟨b, o', s⟩ := ad
                    simp at h1 h2; subst h1; subst h2
                    exact ⟨b, rfl⟩
              obtain ⟨g, hg⟩ := this
              rw [← hv] at hg
              injection hg with hg1 hg2 hg3
              subst hg1; subst hg2
              refine ⟨_, hrun o a w ⟨g, 0, none⟩ _ c k i ho hxv hyv h0 hil, .owp fun _ => ⟨g, rows.length, c, hv.symm, ?_⟩, fun id' hid' => hxi id' (by simpa [ids] using hid')⟩
              rw [add_off]; simp
        split at h
        · rename_i e sz rows hl
          split at h
          · rename_i hsz
            obtain rfl : sz = te.size := Nat.eq_of_beq_eq_true hsz
            obtain ⟨row, h0, hi, h⟩ := h
            exact ⟨_, [], _, h, .value hd fun o fr ob ho hins ht pl a w hr => key rows (List.getElem?_eq_some_iff.1 hi).1 h0 o fr ob ho hins (.inl ⟨e, by rw [ht id (by simp), hl]⟩) pl a w hr⟩
          · exact h.elim
        · rename_i sz rows hl
          split at h
          · rename_i hsz
            obtain rfl : sz = te.size := Nat.eq_of_beq_eq_true hsz
            obtain ⟨row, h0, hi, h⟩ := h
            exact ⟨_, [], _, h, .value hd fun o fr ob ho hins ht pl a w hr => key rows (List.getElem?_eq_some_iff.1 hi).1 h0 o fr ob ho hins (.inr (by rw [ht id (by simp), hl])) pl a w hr⟩
          · exact h.elim
        · exact h.elim
      · exact h.elim
    · exact h.elim
  · exact h.elim

theorem core_index (ty : TypeId) (x y : Operand) (hT : TOk X) {dst : Option Nat} {ins : List PV} {lk : Nat → Obj} {K : PV → Ob → List Nat → Prop} (hd : ∀ d', dst = some d' → d' < X.E.nt) (h : evCore X.E (.index ty x y) dst ins lk K) :
    ∃ v u t, K v u t ∧ CoreOk X (.index ty x y) dst ins lk v u t := by
  simp only [evCore] at h
  split at h
  · rename_i ti hti
    split at h
    · rename_i s0 k i hk
      obtain ⟨bb, h0, hbb, h⟩ := h
      refine ⟨_, [], [], h, .value hd fun o fr ob ho hins _ pl a w hr => ?_⟩
      obtain ⟨⟨hx, _⟩, ⟨hy, _⟩⟩ := ops2 hr hins
      generalize hxv : a.eval x = va at hx
      generalize hyv : a.eval y = vb at hy
      cases hx with
      | d hx => obtain ⟨s, rfl, rfl, hsz⟩ := hx.str_inv; cases hy with
        | d hy =>
          cases hy
          have hu := (hT ty ti hti).und
          rw [hk] at hu
          have hlt : i.toNat < s.size := by have := (List.getElem?_eq_some_iff.1 hbb).1; rwa [size_data] at this
          have hget : s[i.toNat]? = some s[i.toNat] := by simp [hlt]
          have hbe : bb = s[i.toNat] := by
            have hlt' : i.toNat < s.data.size := hlt
            rw [Array.getElem?_toList, Array.getElem?_eq_getElem hlt'] at hbb
            exact (Option.some.inj hbb).symm
          refine ⟨.int .u8 s[i.toNat].toNat, ?_, ?_, fun id hid => by simp [ids] at hid⟩
          · unfold execOp; rw [ho]
            simp [hxv, hyv, Instr.index, asIntOf, run_underlying (show X.P.underlying ty = some _ from hu), h0, hget]
          · rw [hbe]; exact .d (.int _ _)
    · exact h.elim
  · exact h.elim

theorem core_extract (x : Operand) (i : Nat) {dst : Option Nat} {ins : List PV} {lk : Nat → Obj} {K : PV → Ob → List Nat → Prop} (hd : ∀ d', dst = some d' → d' < X.E.nt) (h : evCore X.E (.extract x i) dst ins lk K) :
    ∃ v u t, K v u t ∧ CoreOk X (.extract x i) dst ins lk v u t := by
  simp only [evCore] at h
  split at h
  · rename_i vs
    split at h
    · rename_i v hv
      rw [force_eq] at h
      refine ⟨v, [], [], h, .value hd fun o fr ob ho hins _ pl a w hr => ?_⟩
      obtain ⟨hx, hxi⟩ := op1 hr hins
      generalize hxv : a.eval x = va at hx
      cases hx with
      | tup hs hi =>
        rename_i ws
        have hil : i < ws.size := by rw [hs]; exact (List.getElem?_eq_some_iff.1 hv).1
        have hgi : ws[i]? = some ws[i] := by simp [hil]
        have h1 := hi i v hv
        have h2 : ws.getD i undef = ws[i] := by simp [hil]
        rw [h2] at h1
        refine ⟨ws[i], ?_, h1, fun id hid => hxi id ?_⟩
        · unfold execOp; rw [ho]; simp [hxv, Instr.extract, hgi]
        · have hm : v ∈ vs := List.mem_of_getElem? hv
          have key : ∀ (l : List PV), v ∈ l → id ∈ ids.idsL l := by
            intro l
            induction l with
            | nil => intro h; cases h
            | cons y l ih =>
              intro h
              simp only [ids.idsL, List.mem_append]
              rcases List.mem_cons.1 h with rfl | h
              · exact .inl hid
              · exact .inr (ih h)
          simpa [ids] using key vs hm
    · exact h.elim
  · exact h.elim

theorem ptrs_ok : ∀ (l : List PV) {r : List Nat}, ptrs l = some r → l = r.map fun id => .ptr id 0
  | [], r, h => by simp [ptrs] at h; subst h; rfl
  | x :: l, r, h => by
    cases x with
    | ptr id off =>
      cases off with
      | zero =>
        simp only [ptrs] at h
        cases hp : ptrs l with
        | none => rw [hp] at h; cases h
        | some r' => rw [hp] at h; simp at h; subst h; rw [ptrs_ok l hp]; rfl
      | succ n => simp [ptrs] at h
    | _ => simp [ptrs] at h

theorem core_makeFunc (f : Fn) (first captured : Array Operand) {dst : Option Nat} {ins : List PV} {lk : Nat → Obj} {K : PV → Ob → List Nat → Prop} (hd : ∀ d', dst = some d' → d' < X.E.nt) (h : evCore X.E (.makeFunc f first captured) dst ins lk K) :
    ∃ v u t, K v u t ∧ CoreOk X (.makeFunc f first captured) dst ins lk v u t := by
  cases f with
  | func f =>
    simp only [evCore] at h
    split at h
    · rename_i is hp
      have hp := ptrs_ok _ hp
      refine ⟨_, [], [], h, .value hd fun o fr ob ho hins _ pl a w hr => ?_⟩
      simp only [Op.operands, Array.toList_append, List.map_append] at hins
      rw [hp] at hins
      have hlen : (first.toList.map (opV fr)).length = first.size := by simp
      have e1 : first.toList.map (opV fr) = (is.take first.size).map fun id => PV.ptr id 0 := by
        have := congrArg (List.take first.size) hins
        rw [List.take_left' hlen, ← List.map_take] at this
        exact this
      have e2 : captured.toList.map (opV fr) = (is.drop first.size).map fun id => PV.ptr id 0 := by
        have := congrArg (List.drop first.size) hins
        rw [List.drop_left' hlen, ← List.map_drop] at this
        exact this
      have key : ∀ (l : List Operand) (r : List Nat), l.map (opV fr) = r.map (fun id => PV.ptr id 0) → l.map a.eval = r.map (ptrV pl) ∧ ∀ id ∈ r, lkOf ob id ≠ .none := by
        intro l
        induction l with
        | nil => intro r h; cases r <;> simp at h; simp
        | cons x l ih =>
          intro r h
          cases r with
          | nil => simp at h
          | cons id r =>
            simp only [List.map_cons, List.cons.injEq] at h
            obtain ⟨i1, i2⟩ := ih r h.2
            have hx := hr.op x
            have hxi := hr.opIds x
            rw [h.1] at hx hxi
            generalize hxv : a.eval x = va at hx
            cases hx
            refine ⟨by rw [List.map_cons, List.map_cons, i1, hxv]; rfl, fun id' hid' => ?_⟩
            rcases List.mem_cons.1 hid' with rfl | h
            · exact hxi _ (by simp [ids])
            · exact i2 id' h
      obtain ⟨k1, k2⟩ := key _ _ e1
      obtain ⟨k3, k4⟩ := key _ _ e2
      refine ⟨.func (.func f) (first.map a.eval) (captured.map a.eval), ?_, ?_, fun id hid => ?_⟩
      · unfold execOp; rw [ho]; simp [Instr.makeFunc]
      · have q1 : first.map a.eval = ((is.take first.size).map (ptrV pl)).toArray := by rw [← k1, ← Array.toList_map]
        have q2 : captured.map a.eval = ((is.drop first.size).map (ptrV pl)).toArray := by rw [← k3, ← Array.toList_map]
        rw [q1, q2]; exact .fn f _ _
      · simp only [ids, List.mem_append] at hid
        rcases hid with h | h
        · exact k2 id h
        · exact k4 id h
    · exact h.elim
  | _ => simp [evCore] at h

end Go.Pv
