import Derived.Test.YtjfggmkfnofldaaS2
import Derived.Deep.CutRange
namespace Go.Proofs.Ytjfggmkfnofldaa
open Go.RowKit
set_option linter.unusedVariables false
set_option linter.unusedSimpArgs false

def turnIf {α : Type} (nw : Bool) (l : List α) : List α := if nw then l.reverse else l
theorem turnIf_length {α : Type} (nw : Bool) (l : List α) : (turnIf nw l).length = l.length := by cases nw <;> simp [turnIf]
/-- The rows, dealt. -/
def DealPost (w : World) (xss : List (List AEnt)) (e : Ending) (w' : World) : Prop :=
  ∃ A c rs, e = .returned (.slice A rs.length c) ∧ RowsA w' A rs xss ∧ (A = none → c = 0) ∧ Below w.heap.size w w'
theorem mk4 (w : World) : (Instr.makeSlice 22 (.int .i64 4) (.int .i64 4)).run Try.prog w = .ok (.slice (some ⟨w.heap.size, 0, none⟩) 4 4) (w.alloc (.cells #[.slice none 0 0, .slice none 0 0, .slice none 0 0, .slice none 0 0] 24)) := by kernel_rfl
def noRows : List Raw := [⟨none, 0, []⟩, ⟨none, 0, []⟩, ⟨none, 0, []⟩, ⟨none, 0, []⟩]
theorem deal_start {w W2 : World} (hb : Below (w.heap.size + 1) (w.alloc (.cells #[.slice none 0 0, .slice none 0 0, .slice none 0 0, .slice none 0 0] 24)) W2) : DealIs W2 W2 w.heap.size noRows := by
  have h0 : Blk W2 w.heap.size #[.slice none 0 0, .slice none 0 0, .slice none 0 0, .slice none 0 0] 24 := (Blk.new w _ 24 _ rfl).below hb (Nat.lt_succ_self _)
  have hm : ∀ r ∈ noRows, r = ⟨none, 0, []⟩ := by
    intro r hr
    simp [noRows] at hr
    exact hr
  refine ⟨h0, fun i h => ?_, fun i j hi hj _ g hg => ?_, KeepF.refl _ _⟩
  · rw [hm _ (List.getElem_mem h)]
    exact World.ownsRow_nil _ _ _ _
  · rw [hm _ (List.getElem_mem hi)] at hg
    simp [Raw.val, Value.ownBlock] at hg
theorem rel2_at {α β : Type} {R : α → β → Prop} {l : List α} {m : List β} (h : Rel2 R l m) (i : Nat) (h1 : i < l.length) : ∃ h2 : i < m.length, R l[i] m[i] := ⟨by rw [← h.len]; exact h1, h.at_ i h1 (by rw [← h.len]; exact h1)⟩
/-- What the rows are at the end. -/
theorem deal_end {W2 wr : World} {q : Nat} {rs : List Raw} {ts : List Int} {nw : Bool} {ss : List Ent} {xs : List AEnt} {w0 : World} (h : DealIs W2 wr q rs) (hl : rs.length = 4) (hrel : Rel2 (EntA w0) ss (turnIf nw (sortA xs))) (hb : Below w0.heap.size w0 wr) (he : rs.map Raw.es = dealt ts ss) :
    RowsA wr (some ⟨q, 0, none⟩) rs (dealt ts (turnIf nw (sortA xs))) := by
  have hr := dealt_rel (R := EntA w0) ts hrel
  rw [← he] at hr
  refine ⟨fun _ => ⟨q, 0, rfl, fun j u hu => ?_⟩, by rw [← hr.len]; simp, fun i h1 h2 => ?_, fun r hrr => ?_⟩
  · have := h.blk.cell j u (by simpa using hu)
    rwa [Nat.zero_add]
  · have hi := hr.at_ i (by simpa using h1) h2
    rw [List.getElem_map] at hi
    refine ⟨own_rowCells (h.own i h1), hi.len, fun j g1 g2 => (hi.at_ j g1 g2).below hb⟩
  · obtain ⟨i, hi, rfl⟩ := List.getElem_of_mem hrr
    have ho := h.own i hi
    exact ⟨own_nilcap ho, own_cap ho⟩

def DealRel (W2 : World) (q : Nat) (ts : List Int) (ss : List Ent) (v9 : Value) (wr : World) : Prop :=
  ∃ (k : Nat) (rs : List Raw), v9 = .int .i64 k ∧ k ≤ ss.length ∧ rs.length = 4 ∧ DealIs W2 wr q rs ∧ (∀ r ∈ rs, r.es.length ≤ 2 * k) ∧ dealL ts k (ss.drop k) (rs.map Raw.es) = dealt ts ss

theorem wf_bd {t : Int} (h : (Lit.int .i64 t).wf = true) : -9223372036854775808 ≤ t ∧ t ≤ 9223372036854775807 := by
  unfold Lit.wf at h
  simp at h
  exact h
theorem tmod4_bd (x : Int) : -4 < x.tmod 4 ∧ x.tmod 4 < 4 := by
  have h1 := Int.tmod_lt_of_pos x (b := 4) (by omega)
  refine ⟨?_, h1⟩
  rcases Int.le_total 0 x with h | h
  · have := Int.tmod_nonneg 4 h; omega
  · have e : x = -(-x) := by omega
    rw [e, Int.neg_tmod]
    have := Int.tmod_lt_of_pos (-x) (b := 4) (by omega)
    omega
theorem deal_a (k : Int) : (wrap64 (k.tmod 4 + 4)).tmod 4 = (dealA4 k : Int) := by
  have := tmod4_bd k
  rw [wrap64_in _ (by omega) (by omega)]
  have := tmod4 k
  unfold dealA4; omega
theorem deal_b (k : Int) (h0 : -9223372036854775808 ≤ k) (h1 : k ≤ 9223372036854775807) : (wrap64 ((wrap64 (k.tdiv 4)).tmod 4 + 4)).tmod 4 = (dealB4 k : Int) := by
  have h2 : wrap64 (k.tdiv 4) = k.tdiv 4 := by
    rcases Int.le_total 0 k with h | h
    · rw [Int.tdiv_eq_ediv_of_nonneg h, wrap64_in _ (by omega) (by omega)]
    · have e : k = -(-k) := by omega
      rw [e, Int.neg_tdiv, Int.tdiv_eq_ediv_of_nonneg (by omega), wrap64_in _ (by omega) (by omega)]
  rw [h2]
  have := tmod4_bd (k.tdiv 4)
  rw [wrap64_in _ (by omega) (by omega)]
  have := tmod4 (k.tdiv 4)
  unfold dealB4; omega
theorem deal_a2 (k : Int) (h : 0 ≤ k) : (k % 4 + 4) % 4 = (dealA4 k : Int) := by
  rw [← deal_a, Int.tmod_eq_emod_of_nonneg h, wrap64_in _ (by omega) (by omega), Int.tmod_eq_emod_of_nonneg (by omega)]
theorem deal_b2 (k : Int) (h : 0 ≤ k) : (k / 4 % 4 + 4) % 4 = (dealB4 k : Int) := by
  unfold dealB4
  rw [Int.tdiv_eq_ediv_of_nonneg h, Int.tmod_eq_emod_of_nonneg (a := k / 4) (b := 4) (by omega), Int.tmod_eq_emod_of_nonneg (by omega)]
  omega
theorem deal_far {W2 wr w8 w9 : World} {q a : Nat} {rs : List Raw} (h : DealIs W2 wr q rs) (ha : a < rs.length) (hk : Below wr.heap.size wr w8) (hg : w8.grownBy w9 rs[a].val.ownBlock) :
    w9.cell? ⟨q, a, none⟩ = some (.slice rs[a].A rs[a].es.length rs[a].c) ∧ w9.frozen? ⟨q, a, none⟩ = false := by
  have kA : KeepF wr w9 (fun k => some k = rs[a].val.ownBlock) := (KeepF.of_below hk _).trans (KeepF.of_grown hg) (fun q h => .inl h)
  have hq9 : Blk w9 q (rs.map Raw.val).toArray 24 := ⟨(kA.block q h.blk.lt (fun e => own_ne_blk (h.own a ha) h.blk (by decide) e.symm)).trans h.blk.out⟩
  exact ⟨hq9.cell a _ (by simp [ha]), hq9.frozen a⟩
/-- One append on dealt rows, as the rows say it. -/
theorem dealAt_es {rs : List Raw} {a g cap : Nat} {x : Ent} (h : a < rs.length) : (rs.set a ⟨some ⟨g, 0, none⟩, cap, rs[a].es ++ [x]⟩).map Raw.es = dealAt (rs.map Raw.es) a x := by
  rw [List.map_set]
  simp [dealAt, h]
theorem set_le {rs : List Raw} {a k n : Nat} {r : Raw} (h : ∀ r ∈ rs, r.es.length ≤ k) (hk : k ≤ n) (hr : r.es.length ≤ n) : ∀ r' ∈ rs.set a r, r'.es.length ≤ n := fun r' hr' => by
  rcases List.mem_or_eq_of_mem_set hr' with h1 | rfl
  · exact Nat.le_trans (h _ h1) hk
  · exact hr
theorem dealN_bd {ts : List Int} {k : Nat} (h : ∀ t ∈ ts, (Lit.int .i64 t).wf = true) (hk : k ≤ 1000000) : -9223372036854775808 ≤ dealN ts k ∧ dealN ts k ≤ 9223372036854775807 := by
  unfold dealN
  split
  · exact wf_bd (h _ (List.getElem_mem _))
  · omega
/-- The rows behind an append. -/
def DealCut (W2 : World) (q : Nat) (rs : List Raw) (a n : Nat) (x : Ent) (wc : World) : Prop :=
  ∃ rs1 : List Raw, DealIs W2 wc q rs1 ∧ rs1.length = 4 ∧ (∀ r ∈ rs1, r.es.length ≤ n) ∧ rs1.map Raw.es = dealAt (rs.map Raw.es) a x
theorem deal_cut {W2 wr w8 w9 : World} {q a g cap H n : Nat} {rs : List Raw} {x : Ent} (h : DealIs W2 wr q rs) (ha : a < rs.length) (hl : rs.length = 4) (hle : ∀ r ∈ rs, r.es.length ≤ n) (hk : Below wr.heap.size wr w8)
    (ho : w9.ownsRow W2.heap.size 34 4 (.slice (some ⟨g, 0, none⟩) (rs[a].es.length + 1) cap) (rs[a].es.length + 1) (ecells rs[a].es ++ x.cells.toList))
    (hg : w8.grownBy w9 rs[a].val.ownBlock) (hat : rs[a].val.ownBlock = some g ∨ g = H) (hH : wr.heap.size ≤ H) :
    DealCut W2 q rs a (n + 1) x (w9.setCell ⟨q, a, none⟩ (.slice (some ⟨g, 0, none⟩) (rs[a].es.length + 1) cap)) :=
  ⟨_, deal_step h ha hk ho hg hat hH, by rw [List.length_set]; exact hl, set_le hle (Nat.le_succ _) (by have := hle _ (List.getElem_mem ha); simp; omega), dealAt_es ha⟩

set_option maxHeartbeats 2000000 in
theorem deal23 (A : Option Addr) (c : Nat) (es : List Ent) (xs : List AEnt) (B : Option Addr) (d : Nat) (ts : List Int) (nw : Bool) (w : World) (hr : RowA w A es xs) (hto : RowCells w B (ts.map (Value.int .i64))) (htw : ∀ t ∈ ts, (Lit.int .i64 t).wf = true) (hs : es.length ≤ 1000000) (htl : ts.length ≤ 9223372036854775807) :
    Calls Try.prog 23 #[.slice A es.length c, .slice B ts.length d, .bool nw] w (DealPost w (dealt ts (turnIf nw (sortA xs)))) := by
  obtain ⟨i0, hi0, hz0, hz1, hz2⟩ := info_parts info34
  have HR := Lib.hid hr
  have HTO := Lib.hid hto
  clear hr hto
  have hmk := mk4
  have hb0 : Below w.heap.size w (w.alloc (.cells #[.slice none 0 0, .slice none 0 0, .slice none 0 0, .slice none 0 0] 24)) := (Below.refl _ _).alloc (Nat.le_refl _) _
  have H1 := Lib.hid (sort21 A c es _ (HR.out.cells.below hb0) hs)
  go_enter Try.func23, Try.ntmps23
  go_wp2_with fail
  refine (H1.out).mono ?_
  rintro r w1 ⟨v1, rfl, ho1, hb1⟩
  obtain ⟨A1, c1, rfl⟩ := own_sl ho1
  have hb01 : Below w.heap.size w w1 := thenB hb0 hb1
  have hrel1 := ((sort_rel (EntA.key w) HR.out.rel).imp (fun e a h => EntA.below h hb01))
  have hq1 : Below (w.heap.size + 1) (w.alloc (.cells #[.slice none 0 0, .slice none 0 0, .slice none 0 0, .slice none 0 0] 24)) w1 := by simpa using hb1
  have HO1 := Lib.hid ho1
  have HSE : Hid ((sortE es).length = es.length) := Lib.hid (sortE_length es)
  clear ho1 H1 hmk
  have hcases : nw = false ∨ nw = true := by cases nw <;> simp
  rcases hcases with rfl | rfl
  · obtain ⟨W2, hW2⟩ : ∃ W2, W2 = w1 := ⟨_, rfl⟩
    obtain ⟨ss, hss⟩ : ∃ ss, ss = sortE es := ⟨_, rfl⟩
    have HS : Hid (∃ base, W2.ownsRow base 34 4 (.slice A1 es.length c1) es.length (ecells ss)) := Lib.hid (by rw [hW2, hss]; exact ⟨_, HO1.out⟩)
    have HSL : Hid (ss.length = es.length) := Lib.hid (by rw [hss]; exact HSE.out)
    have HREL : Hid (Rel2 (EntA w) ss (turnIf false (sortA xs))) := Lib.hid (by rw [hss]; exact sort_rel (EntA.key w) HR.out.rel)
    have hbW : Below w.heap.size w W2 := by rw [hW2]; exact hb01
    have HQ : Hid (DealIs W2 W2 w.heap.size noRows) := Lib.hid (by rw [hW2]; exact deal_start hq1)
    clear HO1 hq1 hss HSE hb01 hb1
    rw [← hW2]
    clear hW2
    go_wp2_with fail
    go_loopw [9] (fun v9 wr => DealRel W2 w.heap.size ts ss v9 wr) (fun v9 _ => es.length - (intOf v9).toNat)
    case atStart => exact ⟨0, noRows, rfl, Nat.zero_le _, rfl, HQ.out, fun r hr => (by have : r = ⟨none, 0, []⟩ := by { simp [noRows] at hr; exact hr }; rw [this]; exact Nat.le_refl _), rfl⟩
    case round =>
      obtain ⟨k, rs, rfl, hk, hl4, hd, hle, heq⟩ := hrel
      have HEQ := Lib.hid heq
      have HLE := Lib.hid hle
      have HL4 := Lib.hid hl4
      have HD := Lib.hid hd
      have hk' : k ≤ es.length := by have := HSL.out; omega
      have hbr : Below w.heap.size w wr := hd.keep.toBelow hbW (fun q h => h ▸ Nat.le_refl _)
      clear hl4 hd hle heq hk
      by_cases hlt : k < es.length
      · have hls : k < ss.length := by have := HSL.out; omega
        have hi1 : (k : Int) < (es.length : Int) := by omega
        have hk0 : (0 : Int) ≤ (k : Int) := by omega
        obtain ⟨bS, hS⟩ := HS.out
        obtain ⟨g, rfl, _, hgc⟩ := own_at hS (by omega)
        have HSR := Lib.hid hS
        have HNE : Hid (g ≠ w.heap.size) := Lib.hid (fun e => by
          obtain ⟨cur, hc⟩ := hgc
          rw [e, HQ.out.blk.out] at hc
          injection hc with hc; injection hc with _ hc; exact absurd hc (by decide))
        have HC : Hid (∀ wx, KeepF W2 wx (fun q => q = w.heap.size) → EntCells wx g (k * 4) ss[k]) := Lib.hid (fun wx hkx => own_ecells (ownsRow_keepF HSR.out hkx (fun q hq e => by simp [Value.ownBlock] at hq; exact HNE.out (hq.trans e))) k hls)
        have hNX : dealL ts (k + 1) (ss.drop (k + 1)) (deal2 (rs.map Raw.es) (dealA4 (dealN ts k)) (dealB4 (dealN ts k)) ss[k]) = dealt ts ss := by
          rw [← HEQ.out, List.drop_eq_getElem_cons hls]; rfl
        have ha4 := dealA4_lt (dealN ts k)
        have hb4 := dealB4_lt (dealN ts k)
        have ha4' : dealA4 (dealN ts k) < rs.length := by rw [HL4.out]; exact ha4
        have HNX := Lib.hid hNX
        clear hgc hS hNX
        generalize ss[k] = x at *
        have HKB := Lib.hid (dealN_bd htw (show k ≤ 1000000 by omega))
        go_upto_if 29 with fail
        go_cut [10] from 19 to 71 (fun v10 wc => v10 = .int .i64 (dealN ts k) ∧ wc = wr)
        case first =>
          by_cases hkt : k < ts.length
          · obtain ⟨bT, oT, rfl, hcT⟩ := HTO.out (by simpa using (by omega : 0 < ts.length))
            have pT : wr.cell? ⟨bT, oT + k, none⟩ = some (.int .i64 (dealN ts k)) := keepc hbr (hcT k _ (by rw [List.getElem?_map, List.getElem?_eq_getElem hkt]; simp [dealN, hkt]))
            have hkt' : (k : Int) < (ts.length : Int) := by omega
            clear hcT
            generalize dealN ts k = kv at *
            go_wp2_with fail
            go_meet
            exact ⟨rfl, rfl⟩
          · have hkt' : (ts.length : Int) ≤ (k : Int) := by omega
            have HKV2 : Hid ((k : Int) = dealN ts k) := Lib.hid (by simp [dealN, hkt])
            go_wp2_with fail
            go_meet
            exact ⟨by rw [HKV2.out], rfl⟩
        case rest =>
          obtain ⟨rfl, rfl⟩ := hcut
          obtain ⟨kv, hkv⟩ : ∃ kv, kv = dealN ts k := ⟨_, rfl⟩
          rw [← hkv] at HNX HKB ha4 hb4 ha4' ⊢
          clear hkv
          have HA := Lib.hid (deal_a kv)
          have HB := Lib.hid (deal_b kv HKB.out.1 HKB.out.2)
          go_upto_region 13 with fail
          rw [HA.out, HB.out]
          generalize dealA4 kv = a at *
          generalize dealB4 kv = b at *
          clear HA HB HKB
          have pa : wc.cell? ⟨w.heap.size, a, none⟩ = some (.slice rs[a].A rs[a].es.length rs[a].c) := HD.out.blk.cell a _ (by simp [ha4'])
          have pa2 : (wc.alloc (.cells #[.int .i64 x.s, .int .i64 x.t, .slice x.A x.n x.c, .string x.x] 34)).cell? ⟨w.heap.size, a, none⟩ = some (.slice rs[a].A rs[a].es.length rs[a].c) := keepc ((Below.refl _ _).alloc (Nat.le_refl _) _) pa
          have hla : rs[a].es.length ≤ 2 * k := HLE.out _ (List.getElem_mem ha4')
          obtain ⟨x0, x1, x2, x3⟩ := HC.out wc HD.out.keep
          have HOW := Lib.hid (HD.out.own a ha4')
          have HST := Lib.hid (fun w8 w9 g cap H h1 h2 h3 h4 h5 => deal_cut (w8 := w8) (w9 := w9) (g := g) (cap := cap) (H := H) (x := x) HD.out ha4' HL4.out HLE.out h1 h2 h3 h4 h5)
          have HFAR := Lib.hid (fun w8 w9 h1 h2 => deal_far (w8 := w8) (w9 := w9) HD.out ha4' h1 h2)
          have ha0 : (0 : Int) ≤ (a : Int) := by omega
          have ha5 : (a : Int) < 4 := by omega
          have hW2r : W2.heap.size ≤ wc.heap.size := HD.out.keep.size
          go_cut [] from 19 to 71 (fun wd => DealCut W2 w.heap.size rs a (2 * k + 1) x wd)
          case first =>
            go_region_law
              (first
                | (refine step_append_lies _ (by rfl) (.tmp 48) (.tmp 53) 24 (by rfl) W2.heap.size 34 i0 _ 4 56 Try.underlying24 hi0 hz0 hz1 hz2 rfl (by decide) _ rs[a].es.length (ecells rs[a].es) (by rfl)
                    (by first | exact HOW.out.alloc _ | exact (HOW.out.alloc _).drew2) ⟨wc.heap.size, 0, none⟩ 1 1 [.int .i64 x.s, .int .i64 x.t, .slice x.A x.n x.c, .string x.x] (by rfl) rfl
                    (news_at _ #[.int .i64 x.s, .int .i64 x.t, .slice x.A x.n x.c, .string x.x] 34 _ rfl) (by simp [Value.oneCell']) (by omega) (by unfold maxLen; omega) (by omega) (by simp; omega) (wc.heap.size + 1) (by simp) ?_
                   intro g9 cap9 w9 hown9 hgrow9 hat9 hlt9
                   obtain ⟨hc9, hf9⟩ := HFAR.out _ _ ((Below.refl _ _).alloc (Nat.le_refl _) _).drew hgrow9))
            all_goals
              have hd2 := HST.out _ w9 g9 cap9 (wc.heap.size + 1) ((Below.refl _ _).alloc (Nat.le_refl _) _).drew hown9 hgrow9 hat9 (Nat.le_succ _)
              go_wp2_with fail
              go_meet
              exact hd2
          case rest =>
            clear HST HFAR HOW pa pa2 x0 x1 x2 x3
            obtain ⟨wo, hwo⟩ : ∃ W, W = wc := ⟨_, rfl⟩
            rw [← hwo] at hcut ⊢
            clear hwo
            obtain ⟨rs1, hd1, hl1, hle1, hes1⟩ := hcut
            have HL1 := Lib.hid hl1
            have HLE1 := Lib.hid hle1
            have HES := Lib.hid hes1
            have HD1 := Lib.hid hd1
            clear hl1 hle1 hes1 hd1
            by_cases hab : b = a
            · have hne : ((b : Int) != (a : Int)) = false := by subst hab; simp
              have hne2 : (b != a) = false := by subst hab; simp
              have HFIN : Hid (dealL ts (k + 1) (ss.drop (k + 1)) (rs1.map Raw.es) = dealt ts ss) := Lib.hid (by rw [← HNX.out, HES.out, deal2, if_pos hab])
              have HLE2 : Hid (∀ r ∈ rs1, r.es.length ≤ 2 * (k + 1)) := Lib.hid (fun r hr => Nat.le_trans (HLE1.out r hr) (by omega))
              clear hab
              go_wp2_with fail
              go_roundw
              case rel => first | exact ⟨k + 1, rs1, by go_num, by omega, HL1.out, HD1.out, HLE2.out, HFIN.out⟩ | ((repeat apply Exists.intro); exact ⟨⟨k + 1, rs1, by go_num, by omega, HL1.out, HD1.out, HLE2.out, HFIN.out⟩, rfl⟩)
              case measure => simp [intOf]; omega
            · have hne : ((b : Int) != (a : Int)) = true := by simpa using (by omega : ¬ (b : Int) = (a : Int))
              have hne2 : (b != a) = true := by simpa using hab
              have hbl : b < rs1.length := by rw [HL1.out]; exact hb4
              have HFIN : Hid (∀ wx, DealCut W2 w.heap.size rs1 b (2 * k + 1 + 1) x wx → ∃ rs2 : List Raw, rs2.length = 4 ∧ DealIs W2 wx w.heap.size rs2 ∧ (∀ r ∈ rs2, r.es.length ≤ 2 * (k + 1)) ∧ dealL ts (k + 1) (ss.drop (k + 1)) (rs2.map Raw.es) = dealt ts ss) :=
                Lib.hid (fun wx h => by
                  obtain ⟨rs2, q1, q2, q3, q4⟩ := h
                  exact ⟨rs2, q2, q1, fun r hr => Nat.le_trans (q3 r hr) (by omega), by rw [← HNX.out, q4, HES.out, deal2, if_neg hab]⟩)
              clear hab
              have pb : wo.cell? ⟨w.heap.size, b, none⟩ = some (.slice rs1[b].A rs1[b].es.length rs1[b].c) := HD1.out.blk.cell b _ (by simp [hbl])
              have pb2 : (wo.alloc (.cells #[.int .i64 x.s, .int .i64 x.t, .slice x.A x.n x.c, .string x.x] 34)).cell? ⟨w.heap.size, b, none⟩ = some (.slice rs1[b].A rs1[b].es.length rs1[b].c) := keepc ((Below.refl _ _).alloc (Nat.le_refl _) _) pb
              have hlb : rs1[b].es.length ≤ 2 * k + 1 := HLE1.out _ (List.getElem_mem hbl)
              obtain ⟨x0, x1, x2, x3⟩ := HC.out wo HD1.out.keep
              have HOW := Lib.hid (HD1.out.own b hbl)
              have HST := Lib.hid (fun w8 w9 g cap H h1 h2 h3 h4 h5 => deal_cut (w8 := w8) (w9 := w9) (g := g) (cap := cap) (H := H) (x := x) HD1.out hbl HL1.out HLE1.out h1 h2 h3 h4 h5)
              have HFAR := Lib.hid (fun w8 w9 h1 h2 => deal_far (w8 := w8) (w9 := w9) HD1.out hbl h1 h2)
              have hb0i : (0 : Int) ≤ (b : Int) := by omega
              have hb5 : (b : Int) < 4 := by omega
              have hW2b : W2.heap.size ≤ wo.heap.size := HD1.out.keep.size
              go_wp2_with fail
              go_region_law
                (first
                  | (refine step_append_lies _ (by rfl) (.tmp 64) (.tmp 69) 24 (by rfl) W2.heap.size 34 i0 _ 4 56 Try.underlying24 hi0 hz0 hz1 hz2 rfl (by decide) _ rs1[b].es.length (ecells rs1[b].es) (by rfl)
                      (by first | exact HOW.out.alloc _ | exact (HOW.out.alloc _).drew2) ⟨wo.heap.size, 0, none⟩ 1 1 [.int .i64 x.s, .int .i64 x.t, .slice x.A x.n x.c, .string x.x] (by rfl) rfl
                      (news_at _ #[.int .i64 x.s, .int .i64 x.t, .slice x.A x.n x.c, .string x.x] 34 _ rfl) (by simp [Value.oneCell']) (by omega) (by unfold maxLen; omega) (by omega) (by simp; omega) (wo.heap.size + 1) (by simp) ?_
                     intro g9 cap9 w9 hown9 hgrow9 hat9 hlt9
                     obtain ⟨hc9, hf9⟩ := HFAR.out _ _ ((Below.refl _ _).alloc (Nat.le_refl _) _).drew hgrow9))
              all_goals
                have hd2 := HST.out _ w9 g9 cap9 (wo.heap.size + 1) ((Below.refl _ _).alloc (Nat.le_refl _) _).drew hown9 hgrow9 hat9 (Nat.le_succ _)
                have HD2 := Lib.hid (HFIN.out _ hd2)
                clear hd2 hown9 hgrow9 hat9 hlt9 hc9 hf9 HST HFAR HOW pb pb2 x0 x1 x2 x3 HFIN
                go_wp2_with fail
                go_roundw
                case rel =>
                  obtain ⟨rs2, q1, q2, q3, q4⟩ := HD2.out
                  first | exact ⟨k + 1, rs2, by go_num, by omega, q1, q2, q3, q4⟩ | ((repeat apply Exists.intro); exact ⟨⟨k + 1, rs2, by go_num, by omega, q1, q2, q3, q4⟩, rfl⟩)
                case measure => simp [intOf]; omega
      · have HKE : Hid (ss.drop k = []) := Lib.hid (List.drop_eq_nil_of_le (by have := HSL.out; omega))
        have HF : Hid (rs.map Raw.es = dealt ts ss) := Lib.hid (by rw [← HEQ.out, HKE.out, dealL])
        go_wp2
        go_ret
        exact ⟨some ⟨w.heap.size, 0, none⟩, 4, rs, by rw [HL4.out]; rfl, deal_end HD.out HL4.out HREL.out hbr HF.out, (fun e => by cases e), hbr⟩
  · have H2 := Lib.hid (rturn22 A1 c1 (sortE es) w1 (by have := own_rowCells (c := c1) (n := es.length) HO1.out; exact this) (by rw [HSE.out]; omega))
    rw [HSE.out] at H2
    go_wp2_with fail
    refine (H2.out).mono ?_
    rintro r W2 ⟨v2, rfl, ho2, hb2⟩
    obtain ⟨A2, c2, rfl⟩ := own_sl ho2
    rw [HSE.out]
    obtain ⟨ss, hss⟩ : ∃ ss, ss = (sortE es).reverse := ⟨_, rfl⟩
    have HSL : Hid (ss.length = es.length) := Lib.hid (by rw [hss, List.length_reverse]; exact HSE.out)
    rw [HSE.out, ← hss] at ho2
    have HS : Hid (∃ base, W2.ownsRow base 34 4 (.slice A2 es.length c2) es.length (ecells ss)) := Lib.hid ⟨_, ho2⟩
    have HREL : Hid (Rel2 (EntA w) ss (turnIf true (sortA xs))) := Lib.hid (by rw [hss]; exact (sort_rel (EntA.key w) HR.out.rel).reverse)
    have hbW : Below w.heap.size w W2 := thenB hb01 hb2
    have HQ : Hid (DealIs W2 W2 w.heap.size noRows) := Lib.hid (deal_start (hq1.trans (hb2.mono (by have := hq1.size; simpa using this))))
    clear HO1 hq1 hss HSE hb01 hb1 hb2 ho2 H2
    go_wp2_with fail
    go_loopw [9] (fun v9 wr => DealRel W2 w.heap.size ts ss v9 wr) (fun v9 _ => es.length - (intOf v9).toNat)
    case atStart => exact ⟨0, noRows, rfl, Nat.zero_le _, rfl, HQ.out, fun r hr => (by have : r = ⟨none, 0, []⟩ := by { simp [noRows] at hr; exact hr }; rw [this]; exact Nat.le_refl _), rfl⟩
    case round =>
      obtain ⟨k, rs, rfl, hk, hl4, hd, hle, heq⟩ := hrel
      have HEQ := Lib.hid heq
      have HLE := Lib.hid hle
      have HL4 := Lib.hid hl4
      have HD := Lib.hid hd
      have hk' : k ≤ es.length := by have := HSL.out; omega
      have hbr : Below w.heap.size w wr := hd.keep.toBelow hbW (fun q h => h ▸ Nat.le_refl _)
      clear hl4 hd hle heq hk
      by_cases hlt : k < es.length
      · have hls : k < ss.length := by have := HSL.out; omega
        have hi1 : (k : Int) < (es.length : Int) := by omega
        have hk0 : (0 : Int) ≤ (k : Int) := by omega
        obtain ⟨bS, hS⟩ := HS.out
        obtain ⟨g, rfl, _, hgc⟩ := own_at hS (by omega)
        have HSR := Lib.hid hS
        have HNE : Hid (g ≠ w.heap.size) := Lib.hid (fun e => by
          obtain ⟨cur, hc⟩ := hgc
          rw [e, HQ.out.blk.out] at hc
          injection hc with hc; injection hc with _ hc; exact absurd hc (by decide))
        have HC : Hid (∀ wx, KeepF W2 wx (fun q => q = w.heap.size) → EntCells wx g (k * 4) ss[k]) := Lib.hid (fun wx hkx => own_ecells (ownsRow_keepF HSR.out hkx (fun q hq e => by simp [Value.ownBlock] at hq; exact HNE.out (hq.trans e))) k hls)
        have hNX : dealL ts (k + 1) (ss.drop (k + 1)) (deal2 (rs.map Raw.es) (dealA4 (dealN ts k)) (dealB4 (dealN ts k)) ss[k]) = dealt ts ss := by
          rw [← HEQ.out, List.drop_eq_getElem_cons hls]; rfl
        have ha4 := dealA4_lt (dealN ts k)
        have hb4 := dealB4_lt (dealN ts k)
        have ha4' : dealA4 (dealN ts k) < rs.length := by rw [HL4.out]; exact ha4
        have HNX := Lib.hid hNX
        clear hgc hS hNX
        generalize ss[k] = x at *
        have HKB := Lib.hid (dealN_bd htw (show k ≤ 1000000 by omega))
        go_upto_if 29 with fail
        go_cut [10] from 19 to 71 (fun v10 wc => v10 = .int .i64 (dealN ts k) ∧ wc = wr)
        case first =>
          by_cases hkt : k < ts.length
          · obtain ⟨bT, oT, rfl, hcT⟩ := HTO.out (by simpa using (by omega : 0 < ts.length))
            have pT : wr.cell? ⟨bT, oT + k, none⟩ = some (.int .i64 (dealN ts k)) := keepc hbr (hcT k _ (by rw [List.getElem?_map, List.getElem?_eq_getElem hkt]; simp [dealN, hkt]))
            have hkt' : (k : Int) < (ts.length : Int) := by omega
            clear hcT
            generalize dealN ts k = kv at *
            go_wp2_with fail
            go_meet
            exact ⟨rfl, rfl⟩
          · have hkt' : (ts.length : Int) ≤ (k : Int) := by omega
            have HKV2 : Hid ((k : Int) = dealN ts k) := Lib.hid (by simp [dealN, hkt])
            go_wp2_with fail
            go_meet
            exact ⟨by rw [HKV2.out], rfl⟩
        case rest =>
          obtain ⟨rfl, rfl⟩ := hcut
          obtain ⟨kv, hkv⟩ : ∃ kv, kv = dealN ts k := ⟨_, rfl⟩
          rw [← hkv] at HNX HKB ha4 hb4 ha4' ⊢
          clear hkv
          have HA := Lib.hid (deal_a kv)
          have HB := Lib.hid (deal_b kv HKB.out.1 HKB.out.2)
          go_upto_region 13 with fail
          rw [HA.out, HB.out]
          generalize dealA4 kv = a at *
          generalize dealB4 kv = b at *
          clear HA HB HKB
          have pa : wc.cell? ⟨w.heap.size, a, none⟩ = some (.slice rs[a].A rs[a].es.length rs[a].c) := HD.out.blk.cell a _ (by simp [ha4'])
          have pa2 : (wc.alloc (.cells #[.int .i64 x.s, .int .i64 x.t, .slice x.A x.n x.c, .string x.x] 34)).cell? ⟨w.heap.size, a, none⟩ = some (.slice rs[a].A rs[a].es.length rs[a].c) := keepc ((Below.refl _ _).alloc (Nat.le_refl _) _) pa
          have hla : rs[a].es.length ≤ 2 * k := HLE.out _ (List.getElem_mem ha4')
          obtain ⟨x0, x1, x2, x3⟩ := HC.out wc HD.out.keep
          have HOW := Lib.hid (HD.out.own a ha4')
          have HST := Lib.hid (fun w8 w9 g cap H h1 h2 h3 h4 h5 => deal_cut (w8 := w8) (w9 := w9) (g := g) (cap := cap) (H := H) (x := x) HD.out ha4' HL4.out HLE.out h1 h2 h3 h4 h5)
          have HFAR := Lib.hid (fun w8 w9 h1 h2 => deal_far (w8 := w8) (w9 := w9) HD.out ha4' h1 h2)
          have ha0 : (0 : Int) ≤ (a : Int) := by omega
          have ha5 : (a : Int) < 4 := by omega
          have hW2r : W2.heap.size ≤ wc.heap.size := HD.out.keep.size
          go_cut [] from 19 to 71 (fun wd => DealCut W2 w.heap.size rs a (2 * k + 1) x wd)
          case first =>
            go_region_law
              (first
                | (refine step_append_lies _ (by rfl) (.tmp 48) (.tmp 53) 24 (by rfl) W2.heap.size 34 i0 _ 4 56 Try.underlying24 hi0 hz0 hz1 hz2 rfl (by decide) _ rs[a].es.length (ecells rs[a].es) (by rfl)
                    (by first | exact HOW.out.alloc _ | exact (HOW.out.alloc _).drew2) ⟨wc.heap.size, 0, none⟩ 1 1 [.int .i64 x.s, .int .i64 x.t, .slice x.A x.n x.c, .string x.x] (by rfl) rfl
                    (news_at _ #[.int .i64 x.s, .int .i64 x.t, .slice x.A x.n x.c, .string x.x] 34 _ rfl) (by simp [Value.oneCell']) (by omega) (by unfold maxLen; omega) (by omega) (by simp; omega) (wc.heap.size + 1) (by simp) ?_
                   intro g9 cap9 w9 hown9 hgrow9 hat9 hlt9
                   obtain ⟨hc9, hf9⟩ := HFAR.out _ _ ((Below.refl _ _).alloc (Nat.le_refl _) _).drew hgrow9))
            all_goals
              have hd2 := HST.out _ w9 g9 cap9 (wc.heap.size + 1) ((Below.refl _ _).alloc (Nat.le_refl _) _).drew hown9 hgrow9 hat9 (Nat.le_succ _)
              go_wp2_with fail
              go_meet
              exact hd2
          case rest =>
            clear HST HFAR HOW pa pa2 x0 x1 x2 x3
            obtain ⟨wo, hwo⟩ : ∃ W, W = wc := ⟨_, rfl⟩
            rw [← hwo] at hcut ⊢
            clear hwo
            obtain ⟨rs1, hd1, hl1, hle1, hes1⟩ := hcut
            have HL1 := Lib.hid hl1
            have HLE1 := Lib.hid hle1
            have HES := Lib.hid hes1
            have HD1 := Lib.hid hd1
            clear hl1 hle1 hes1 hd1
            by_cases hab : b = a
            · have hne : ((b : Int) != (a : Int)) = false := by subst hab; simp
              have hne2 : (b != a) = false := by subst hab; simp
              have HFIN : Hid (dealL ts (k + 1) (ss.drop (k + 1)) (rs1.map Raw.es) = dealt ts ss) := Lib.hid (by rw [← HNX.out, HES.out, deal2, if_pos hab])
              have HLE2 : Hid (∀ r ∈ rs1, r.es.length ≤ 2 * (k + 1)) := Lib.hid (fun r hr => Nat.le_trans (HLE1.out r hr) (by omega))
              clear hab
              go_wp2_with fail
              go_roundw
              case rel => first | exact ⟨k + 1, rs1, by go_num, by omega, HL1.out, HD1.out, HLE2.out, HFIN.out⟩ | ((repeat apply Exists.intro); exact ⟨⟨k + 1, rs1, by go_num, by omega, HL1.out, HD1.out, HLE2.out, HFIN.out⟩, rfl⟩)
              case measure => simp [intOf]; omega
            · have hne : ((b : Int) != (a : Int)) = true := by simpa using (by omega : ¬ (b : Int) = (a : Int))
              have hne2 : (b != a) = true := by simpa using hab
              have hbl : b < rs1.length := by rw [HL1.out]; exact hb4
              have HFIN : Hid (∀ wx, DealCut W2 w.heap.size rs1 b (2 * k + 1 + 1) x wx → ∃ rs2 : List Raw, rs2.length = 4 ∧ DealIs W2 wx w.heap.size rs2 ∧ (∀ r ∈ rs2, r.es.length ≤ 2 * (k + 1)) ∧ dealL ts (k + 1) (ss.drop (k + 1)) (rs2.map Raw.es) = dealt ts ss) :=
                Lib.hid (fun wx h => by
                  obtain ⟨rs2, q1, q2, q3, q4⟩ := h
                  exact ⟨rs2, q2, q1, fun r hr => Nat.le_trans (q3 r hr) (by omega), by rw [← HNX.out, q4, HES.out, deal2, if_neg hab]⟩)
              clear hab
              have pb : wo.cell? ⟨w.heap.size, b, none⟩ = some (.slice rs1[b].A rs1[b].es.length rs1[b].c) := HD1.out.blk.cell b _ (by simp [hbl])
              have pb2 : (wo.alloc (.cells #[.int .i64 x.s, .int .i64 x.t, .slice x.A x.n x.c, .string x.x] 34)).cell? ⟨w.heap.size, b, none⟩ = some (.slice rs1[b].A rs1[b].es.length rs1[b].c) := keepc ((Below.refl _ _).alloc (Nat.le_refl _) _) pb
              have hlb : rs1[b].es.length ≤ 2 * k + 1 := HLE1.out _ (List.getElem_mem hbl)
              obtain ⟨x0, x1, x2, x3⟩ := HC.out wo HD1.out.keep
              have HOW := Lib.hid (HD1.out.own b hbl)
              have HST := Lib.hid (fun w8 w9 g cap H h1 h2 h3 h4 h5 => deal_cut (w8 := w8) (w9 := w9) (g := g) (cap := cap) (H := H) (x := x) HD1.out hbl HL1.out HLE1.out h1 h2 h3 h4 h5)
              have HFAR := Lib.hid (fun w8 w9 h1 h2 => deal_far (w8 := w8) (w9 := w9) HD1.out hbl h1 h2)
              have hb0i : (0 : Int) ≤ (b : Int) := by omega
              have hb5 : (b : Int) < 4 := by omega
              have hW2b : W2.heap.size ≤ wo.heap.size := HD1.out.keep.size
              go_wp2_with fail
              go_region_law
                (first
                  | (refine step_append_lies _ (by rfl) (.tmp 64) (.tmp 69) 24 (by rfl) W2.heap.size 34 i0 _ 4 56 Try.underlying24 hi0 hz0 hz1 hz2 rfl (by decide) _ rs1[b].es.length (ecells rs1[b].es) (by rfl)
                      (by first | exact HOW.out.alloc _ | exact (HOW.out.alloc _).drew2) ⟨wo.heap.size, 0, none⟩ 1 1 [.int .i64 x.s, .int .i64 x.t, .slice x.A x.n x.c, .string x.x] (by rfl) rfl
                      (news_at _ #[.int .i64 x.s, .int .i64 x.t, .slice x.A x.n x.c, .string x.x] 34 _ rfl) (by simp [Value.oneCell']) (by omega) (by unfold maxLen; omega) (by omega) (by simp; omega) (wo.heap.size + 1) (by simp) ?_
                     intro g9 cap9 w9 hown9 hgrow9 hat9 hlt9
                     obtain ⟨hc9, hf9⟩ := HFAR.out _ _ ((Below.refl _ _).alloc (Nat.le_refl _) _).drew hgrow9))
              all_goals
                have hd2 := HST.out _ w9 g9 cap9 (wo.heap.size + 1) ((Below.refl _ _).alloc (Nat.le_refl _) _).drew hown9 hgrow9 hat9 (Nat.le_succ _)
                have HD2 := Lib.hid (HFIN.out _ hd2)
                clear hd2 hown9 hgrow9 hat9 hlt9 hc9 hf9 HST HFAR HOW pb pb2 x0 x1 x2 x3 HFIN
                go_wp2_with fail
                go_roundw
                case rel =>
                  obtain ⟨rs2, q1, q2, q3, q4⟩ := HD2.out
                  first | exact ⟨k + 1, rs2, by go_num, by omega, q1, q2, q3, q4⟩ | ((repeat apply Exists.intro); exact ⟨⟨k + 1, rs2, by go_num, by omega, q1, q2, q3, q4⟩, rfl⟩)
                case measure => simp [intOf]; omega
      · have HKE : Hid (ss.drop k = []) := Lib.hid (List.drop_eq_nil_of_le (by have := HSL.out; omega))
        have HF : Hid (rs.map Raw.es = dealt ts ss) := Lib.hid (by rw [← HEQ.out, HKE.out, dealL])
        go_wp2
        go_ret
        exact ⟨some ⟨w.heap.size, 0, none⟩, 4, rs, by rw [HL4.out]; rfl, deal_end HD.out HL4.out HREL.out hbr HF.out, (fun e => by cases e), hbr⟩
end Go.Proofs.Ytjfggmkfnofldaa
