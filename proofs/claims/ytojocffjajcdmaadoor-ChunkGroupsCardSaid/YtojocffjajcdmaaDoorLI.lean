/- chunk.Group: walked. (Printed by mkZ8.py.) -/
import Derived.Test.YtojocffjajcdmaaDoorLF
import Derived.Test.YtojocffjajcdmaaDoorLW
import Derived.Test.YtojocffjajcdmaaDoorLT
import Derived.Deep.RegionHeldLaw
namespace Go.Proofs.YtojocffjajcdmaaDoor.RF
open Go Go.RowKit Go.Shelf Go.Sort Go.Proofs.YtojocffjajcdmaaDoor Go.Proofs.YtojocffjajcdmaaDoor.RS Go.Proofs.YtojocffjajcdmaaDoorW.PrintWords Go.Proofs.YtojocffjajcdmaaDoorW.PrintLast Go.Proofs.YtojocffjajcdmaaDoorW.PrintMore PChunkAll
set_option linter.unusedVariables false
set_option linter.unusedSimpArgs false

def GrRel (Q : RE → Prop) (w : World) (l : List S33) (i : Nat) (v : Value) (wr : World) : Prop := ∃ rs, G1 Q w w.heap.size (dedL (l.take i)) ((dedL (l.take i)).map (·.f0)) v rs wr
theorem wf_at {l : List S33} (h : EntsOk l) {i : Nat} (hi : i < l.length) : (Lit.int .i64 l[i].f0).wf = true := by
  have h1 := h.2.1 i hi
  rw [show l.getD i z33 = l[i] by simp [hi]] at h1
  have e1 : IntKind.i64.min = -9223372036854775808 := rfl
  have e2 : IntKind.i64.max = 9223372036854775807 := rfl
  simp only [Lit.wf, Bool.and_eq_true, decide_eq_true_eq, e1, e2]
  exact h1
/-- The rows of the third loop: what stands between two rounds. -/
def G3Rel (L : List S33) (w : World) (i : Nat) (v : Value) (wr : World) : Prop :=
  Below w.heap.size w wr ∧ ((i = 0 ∧ v = .slice none 0 0) ∨ (∃ rs r, 0 < i ∧ (rs ++ [r]).map RK.x = grpG (L.take i) ∧ GI 53 71 w.heap.size v rs r wr))
theorem srt_C {l : List S33} {A : Option Addr} {g : Nat} {rs : List RE} {W : World} (h : Srt1 l A g rs W) (hm : l.length ≤ 9223372036854775807) : Kd.C k33 W A l.length l := by
  have hl : rs.length = l.length := by rw [← h.map]; simp
  have := raw_C (w := W) (A := A) (rs := rs) (by omega) (by rw [h.adr]; exact h.row.rowC) (fun r hr => ⟨(h.labs r hr).1, (h.labs r hr).C⟩)
  rwa [h.map, hl] at this
theorem lens_of {g : List S33} (hE : EntsOk g) {x : S33} (hx : x ∈ g) : x.f2.length < 4398046511104 := by
  obtain ⟨j, hj, rfl⟩ := List.getElem_of_mem hx
  have := hE.2.2 j hj
  rwa [show g.getD j z33 = g[j] by simp [hj]] at this
theorem srt_labs {g : List S33} {A : Option Addr} {b : Nat} {rs : List RE} {W : World} (h : Srt1 (sortE g) A b rs W) (hE : EntsOk g) : ∀ r ∈ rs, r.x.f2.length < 4398046511104 := by
  intro r hr
  have hm : r.x ∈ sortE g := by rw [← h.map]; exact List.mem_map_of_mem hr
  exact lens_of hE ((sortE_perm g).mem_iff.1 hm)
theorem srt_lens {g : List S33} {A : Option Addr} {b : Nat} {rs : List RE} {W : World} (h : Srt1 (ST.srt ltL (sortE g)) A b rs W) (hE : EntsOk g) : ∀ x ∈ ST.srt ltL (sortE g), x.f2.length < 4398046511104 := by
  intro x hx
  exact lens_of hE ((sortE_perm g).mem_iff.1 ((ST.srt_perm _ _).mem_iff.1 hx))
theorem ents_at' {w : World} {A : Option Addr} {l : List S33} {n : Nat} (h : Kd.C k33 w A n l) (hl : l.length = n) (hp : 0 < n) : ∃ b o, A = some ⟨b, o, none⟩ ∧ ∀ i (hi : i < l.length), EntAt w b o i l[i] := by
  subst hl
  obtain ⟨b, o, e, hx⟩ := ents_at h hp
  refine ⟨b, o, e, fun i hi => ?_⟩
  have := hx i hi
  rwa [show l.getD i z33 = l[i] by simp [hi]] at this
theorem last_of {rs : List RK} {r : RK} {L : List S33} {j : Nat} (h : (rs ++ [r]).map RK.x = grpG (L.take (j + 1))) (hj : j < L.length) : r.ls = L[j].f2 ∧ 1 ≤ r.rows.length ∧ r.rows.length ≤ 1000 := by
  obtain ⟨o, c, e, h1, h2, h3⟩ := grpG_last L j hj
  rw [e, List.map_append] at h
  have h4 := List.append_inj_right' h rfl
  have h5 : r.x = c := by simpa using h4
  rw [← h5] at h1 h2 h3
  exact ⟨h1, h2, h3⟩
theorem rs_len {rs : List RK} {L : List S33} {i : Nat} (h : rs.map RK.x = grpG (L.take i)) : rs.length ≤ i := by
  have h1 := congrArg List.length h
  have h2 := grpG_len (L.take i)
  rw [List.length_map] at h1
  rw [List.length_take] at h2
  omega
theorem row_news (w2 : World) (x : S71) : ∀ j u, ([.int .i64 x.f0, .int .i64 x.f1, .string x.f2] : List Value)[j]? = some u → (w2.alloc (.cells #[.int .i64 x.f0, .int .i64 x.f1, .string x.f2] 71)).cell? (Addr.add ⟨w2.heap.size, 0, none⟩ j) = some u := by
  intro j u hu
  rw [addr_add, Nat.zero_add]
  have hb : Blk (w2.alloc (.cells #[.int .i64 x.f0, .int .i64 x.f1, .string x.f2] 71)) w2.heap.size #[.int .i64 x.f0, .int .i64 x.f1, .string x.f2] 71 := Blk.new _ _ _ _ rfl
  exact hb.cell j u (by simpa using hu)
theorem chk_news (w2 : World) (A : Option Addr) (n c : Nat) : ∀ j u, ([.slice A n c, .slice none 0 0] : List Value)[j]? = some u → (w2.alloc (.cells #[.slice A n c, .slice none 0 0] 53)).cell? (Addr.add ⟨w2.heap.size, 0, none⟩ j) = some u := by
  intro j u hu
  rw [addr_add, Nat.zero_add]
  have hb : Blk (w2.alloc (.cells #[.slice A n c, .slice none 0 0] 53)) w2.heap.size #[.slice A n c, .slice none 0 0] 53 := Blk.new _ _ _ _ rfl
  exact hb.cell j u (by simpa using hu)
theorem one3 (x : S71) : ∀ u ∈ ([.int .i64 x.f0, .int .i64 x.f1, .string x.f2] : List Value), u.oneCell' = true := by
  intro u hu
  simp only [List.mem_cons, List.not_mem_nil, or_false] at hu
  rcases hu with rfl | rfl | rfl <;> rfl
/-- What is known ahead of the row's append. -/
structure PreA (T E B : Nat) (w : World) (g c : Nat) (rs : List RK) (r : RK) (Bl bx : Nat) (x : S33) (A1 : Option Addr) (c1 : Nat) (W : World) : Prop where
  gi : GI T E B (.slice (some ⟨g, 0, none⟩) (rs.length + 1) c) rs r W
  hB : B ≤ Bl
  hBl : Bl ≤ W.heap.size
  lt : LtB rs Bl
  own : W.ownsRow Bl E 3 (.slice r.A2 r.rows.length r.c2) r.rows.length (rcells r.rows)
  bx : Blk W bx (entC x A1 c1) 33
  low : Below B w W
  sz : B ≤ W.heap.size
theorem PreA.mk' {T E B : Nat} {w : World} {v : Value} {rs : List RK} {r : RK} {bx : Nat} {x : S33} {A1 : Option Addr} {c1 : Nat} {W : World} (gi : GI T E B v rs r W) (hb : Blk W bx (entC x A1 c1) 33) (low : Below B w W) (sz : B ≤ W.heap.size) :
    ∃ g c Bl, v = .slice (some ⟨g, 0, none⟩) (rs.length + 1) c ∧ rs.length + 1 ≤ c ∧ PreA T E B w g c rs r Bl bx x A1 c1 W := by
  obtain ⟨g, c, rfl, _, _, h2, _⟩ := gi.out
  obtain ⟨Bl, h3, h0, h4, h5⟩ := gi.bl
  exact ⟨g, c, Bl, rfl, h2, gi, h3, h0, h4, h5, hb, low, sz⟩
theorem PreA.below {T E B : Nat} {w : World} {g c : Nat} {rs : List RK} {r : RK} {Bl bx : Nat} {x : S33} {A1 : Option Addr} {c1 : Nat} {W W' : World} (h : PreA T E B w g c rs r Bl bx x A1 c1 W) (hb : Below W.heap.size W W') : PreA T E B w g c rs r Bl bx x A1 c1 W' :=
  ⟨h.gi.below hb, h.hB, Nat.le_trans h.hBl hb.size, h.lt, own_below h.own hb, Blk.grown h.bx (grown_below hb) (fun e => by cases e), h.low.trans (hb.mono h.sz), Nat.le_trans h.sz hb.size⟩
theorem PreA.cells {T E B : Nat} {w : World} {g c : Nat} {rs : List RK} {r : RK} {Bl bx : Nat} {x : S33} {A1 : Option Addr} {c1 : Nat} {W : World} (h : PreA T E B w g c rs r Bl bx x A1 c1 W) :
    W.cell? ⟨g, rs.length * 2 + 1, none⟩ = some (.slice r.A2 r.rows.length r.c2) ∧ B ≤ g := by
  obtain ⟨g', c', e, h1, _, _, _, h2, _⟩ := h.gi.out
  injection e with e
  injection e with e
  injection e with e
  subst e
  exact ⟨h2, h1⟩
theorem PreA.after {T E B : Nat} {w : World} {g c : Nat} {rs : List RK} {r : RK} {Bl bx : Nat} {x : S33} {A1 : Option Addr} {c1 : Nat} {W w6 : World} {A6 : Option Addr} {c6 : Nat} (hT : T ≠ 112) (hTE : T ≠ E) (hE : E ≠ 112) (h33 : T ≠ 33) (h33' : E ≠ 33) (h : PreA T E B w g c rs r Bl bx x A1 c1 W)
    (ho : w6.ownsRow Bl E 3 (.slice A6 (r.rows.length + 1) c6) (r.rows.length + 1) (rcells r.rows ++ [.int .i64 x.f0, .int .i64 x.f1, .string x.f3])) (hg : W.grownBy w6 (Value.slice r.A2 r.rows.length r.c2).ownBlock) (hc : r.rows.length + 1 ≤ c6) :
    (w6.cell? ⟨g, rs.length * 2 + 1, none⟩ = some (.slice r.A2 r.rows.length r.c2) ∧ w6.frozen? ⟨g, rs.length * 2 + 1, none⟩ = false) ∧
    GI T E B (.slice (some ⟨g, 0, none⟩) (rs.length + 1) c) rs ⟨r.A1, r.c1, r.ls, A6, c6, r.rows ++ [rowE x]⟩ (w6.setCell ⟨g, rs.length * 2 + 1, none⟩ (.slice A6 (r.rows.length + 1) c6)) ∧
    Below B w (w6.setCell ⟨g, rs.length * 2 + 1, none⟩ (.slice A6 (r.rows.length + 1) c6)) ∧ Blk w6 bx (entC x A1 c1) 33 ∧ Blk (w6.setCell ⟨g, rs.length * 2 + 1, none⟩ (.slice A6 (r.rows.length + 1) c6)) bx (entC x A1 c1) 33 := by
  have h6 : Blk w6 bx (entC x A1 c1) 33 := Blk.grown h.bx hg (own_ne_blk h.own h.bx (fun e => h33' e.symm))
  refine ⟨h.gi.after hTE h.hB h.own hg, h.gi.grow (x := rowE x) hT hTE hE h.hB h.hBl h.lt h.own hg ho hc, (h.low.grown hg h.sz (fun k e => Nat.le_trans h.hB (own_ge h.own e))).setCell (p := ⟨g, rs.length * 2 + 1, none⟩) h.cells.2 _, h6, h6.far _ _ ?_⟩
  have := own_ne_blk h.gi.all.own h.bx (fun e => h33 e.symm)
  intro e
  apply this
  show some g = some bx
  rw [e]

set_option maxRecDepth 100000 in
set_option maxHeartbeats 16000000 in
theorem cgroup_any (A : Option Addr) (c : Nat) (l : List S33) (w : World) (hT : Tabs w) (hr : Kd.C k33 w A l.length l) (hE : EntsOk l) :
    Calls Tryd.prog 60 #[.slice A l.length c] w (SplP 53 71 w (grpG (ST.srt ltL (sortE (dedL l))))) := by
  have HX := Lib.hid hr
  have HE := Lib.hid hE
  have HT := Lib.hid hT
  have hmx : l.length ≤ 2513169434916 := hE.1
  have hmm := @run_makeMap Tryd.prog
  obtain ⟨i0, hi0, hz0, hz1, hz2⟩ := info_parts info33
  obtain ⟨i2, hi2, hx0, hx1, hx2⟩ := info_parts info53
  obtain ⟨i3, hi3, hy0, hy1, hy2⟩ := info_parts info71
  clear hT hr hE
  go_enter Tryd.func60, Tryd.ntmps60
  go_wp2_with fail
  go_loopw [14, 4] (fun v14 v4 wr => ∃ i : Nat, v14 = .int .i64 (i : Int) ∧ i ≤ l.length ∧ Hid (GrRel (fun _ => True) w l i v4 wr)) (fun v14 _ _ => l.length - (intOf v14).toNat)
  case atStart => exact ⟨0, rfl, Nat.zero_le _, [], G1.start w⟩
  case round =>
    obtain ⟨i, rfl, hi, HI⟩ := hrel
    obtain ⟨rs, hg⟩ := HI.out
    obtain ⟨A7, q7, rfl, hq7⟩ := own_slice hg.own
    by_cases hlt : i < l.length
    · have hltz : (i : Int) < (l.length : Int) := by omega
      obtain ⟨b, o, rfl, hx⟩ := ents_at HX.out (by omega)
      obtain ⟨A1, c1, y0, y1, y2, y3, y4, y5⟩ := hx i hlt
      rw [show l.getD i z33 = l[i] by simp [hlt]] at y0 y1 y2 y3 y4 y5
      have p0 := pw_cell_below hg.low y0
      have p1 := pw_cell_below hg.low y1
      have p2 := pw_cell_below hg.low y2
      have p3 := pw_cell_below hg.low y3
      have hwx := wf_at HE.out hlt
      have HNY : Hid (newE (dedL (l.take i)) l[i] = true → dedL (l.take (i + 1)) = dedL (l.take i) ++ [l[i]]) := Lib.hid (dedL_yes l i hlt)
      have HNN : Hid (newE (dedL (l.take i)) l[i] = false → dedL (l.take (i + 1)) = dedL (l.take i)) := Lib.hid (dedL_no l i hlt)
      have hol : (dedL (l.take i)).length ≤ i := by have := dedL_len (l.take i); rw [List.length_take] at this; omega
      have hbA : Below wr.heap.size wr (wr.alloc (.cells (entC l[i] A1 c1) 33)) := (Below.refl _ _).alloc (Nat.le_refl _) _
      have hgA := hg.grown hbA
      have bx : Blk (wr.alloc (.cells (entC l[i] A1 c1) 33)) wr.heap.size (entC l[i] A1 c1) 33 := Blk.new _ _ _ _ rfl
      have hcr := rightE_any l[i] A1 c1 _ (HT.out.below hgA.low) (Kd.C_below y5 hgA.low)
      have HGA := Lib.hid hgA
      have HBX := Lib.hid bx
      have HLT := Lib.hid hg.met.lt
      have HOK : Hid (RE.ok w ⟨l[i], A1, c1, 0⟩) := Lib.hid ⟨y4, y5⟩
      have HRL : Hid (rs.length ≤ i) := Lib.hid (by rw [hg.len]; exact hol)
      clear hx y0 y1 y2 y3 y4 y5 hbA hgA bx hg HI
      generalize l[i] = x at *
      generalize dedL (l.take i) = out at *
      cases hR : rightE x
      · rw [hR] at hcr
        have HN : Hid (newE out x = false) := Lib.hid (by unfold newE; rw [hR]; rfl)
        have HC := Lib.hid hcr
        clear hcr
        go_wp2_with (go_at_call 29; (with_reducible refine (HC.out).mono ?_); rintro e w5 ⟨rfl, hb5⟩; have HG5 := Lib.hid (HGA.out.grown hb5); clear hb5)
        go_roundw
        case rel => exact ⟨i + 1, by go_num, by omega, rs, by rw [HNN.out HN.out]; exact HG5.out⟩
        case measure => simp [intOf]; omega
      · rw [hR] at hcr
        have HC := Lib.hid hcr
        clear hcr
        cases hS : (out.map (·.f0)).contains x.f0
        · have HN : Hid (newE out x = true) := Lib.hid (by unfold newE; rw [hR, hS]; rfl)
          go_wp2_with (first
            | (go_at_call 29; (with_reducible refine (HC.out).mono ?_); rintro e w5 ⟨rfl, hb5⟩; have hg5 := HGA.out.grown hb5; have bx5 := Blk.grown HBX.out (grown_below hb5) (fun e => by cases e); have d0 := bx5.cell 0 _ rfl; have hl5 := hg5.met.lookup x.f0 hwx; rw [hS] at hl5; obtain ⟨W2, hrun, hg2, hgr⟩ := hg5.upd x.f0 hwx (by rw [List.length_map]; unfold maxLen; omega); have bx2 := Blk.grown bx5 hgr (fun e => by have := HLT.out; injection e with e; omega); have e0 := bx2.cell 0 _ rfl; have e1 := bx2.cell 1 _ rfl; have e2 := bx2.cell 2 _ rfl; have e3 := bx2.cell 3 _ rfl; have HG3 := Lib.hid (hg2.grown ((Below.refl _ _).alloc (Nat.le_refl _) (.cells (entC x A1 c1) 33))); have HNW := Lib.hid (rent_news W2 ⟨x, A1, c1, 0⟩); have HSZ : Hid (w.heap.size + 1 ≤ (W2.alloc (.cells (entC x A1 c1) 33)).heap.size) := Lib.hid (by have := hg2.met.lt; simp; omega); clear hb5 hg5 hg2 hgr bx5 bx2)
            | ((with_reducible refine gate_builtin (b := .append) (xs := #[.tmp 30, .tmp 32]) rfl ?_); at_builtin; refine wpList_append_own _ rfl _ _ 22 rfl (w.heap.size + 1) 33 i0 _ 4 56 Tryd.underlying22 hi0 hz0 hz1 hz2 rfl (by decide) _ rs.length (rs.flatMap RE.cells) rfl HG3.out.own ⟨W2.heap.size, 0, none⟩ 1 1 (RE.cells ⟨x, A1, c1, 0⟩) rfl rfl HNW.out (RE.cells_one _) (by have := HRL.out; unfold maxLen; omega) (by have := HRL.out; omega) HSZ.out ?_; intro v' w3 hown hgrow _))
          go_roundw
          case rel =>
            refine ⟨i + 1, by go_num, by omega, rs ++ [⟨x, A1, c1, 0⟩], ?_⟩
            rw [HNY.out HN.out, map_snoc0]
            exact HG3.out.push hown hgrow ⟨HOK.out, trivial⟩
          case measure => simp [intOf]; omega
        · have HN : Hid (newE out x = false) := Lib.hid (by unfold newE; rw [hR, hS]; rfl)
          go_wp2_with (go_at_call 29; (with_reducible refine (HC.out).mono ?_); rintro e w5 ⟨rfl, hb5⟩; have hg5 := HGA.out.grown hb5; have bx5 := Blk.grown HBX.out (grown_below hb5) (fun e => by cases e); have d0 := bx5.cell 0 _ rfl; have hl5 := hg5.met.lookup x.f0 hwx; rw [hS] at hl5; have HG5 := Lib.hid hg5; clear hb5 hg5 bx5)
          go_roundw
          case rel => exact ⟨i + 1, by go_num, by omega, rs, by rw [HNN.out HN.out]; exact HG5.out⟩
          case measure => simp [intOf]; omega
    · have hltz : ¬ (i : Int) < (l.length : Int) := by omega
      obtain rfl : i = l.length := by omega
      rw [List.take_length] at hg
      have HEg := Lib.hid (dedL_ok HE.out)
      generalize dedL l = g at *
      have hln : rs.length = g.length := hg.len
      have hC := hg.C rfl rfl (by have := HEg.out.1; omega)
      have hs1 := rsortQ_any A7 q7 g wr hC HEg.out
      have HS1 := Lib.hid hs1
      have HLow := Lib.hid hg.low
      have hsz : w.heap.size ≤ wr.heap.size := Nat.le_of_lt hg.met.lt
      clear hs1 hC hg HI HX
      rw [hln]
      unfold SortQ at HS1
      clear hln
      by_cases hn : g.length = 0
      · obtain rfl : g = [] := List.eq_nil_of_length_eq_zero hn
        simp only [List.length_nil] at HS1 ⊢
        go_wp2_with (first
          | (go_at_call 49; (with_reducible refine (HS1.out).mono ?_); rintro e w6 ⟨A6, c6, rfl, hb6, _⟩; have HB6 := Lib.hid (HLow.out.trans (hb6.mono hsz)); clear hb6)
          | (go_at_call 111; (with_reducible refine (sort_nil _ _ _ _).mono ?_); rintro e w7 ⟨rfl, rfl⟩))
        refine wp_loop_rounds 1 ?_
        rw [rounds_succ]
        go_wp2
        go_ret
        exact ⟨none, 0, [], rfl, rfl, ChksO.nil _ _ _ _, HB6.out⟩
      have hg0 : 0 < g.length := by omega
      have hsl : (sortE g).length = g.length := sortE_len g
      have hgm : g.length ≤ 2513169434916 := HEg.out.1
      have HGS := Lib.hid (fun (A6 : Option Addr) c6 gb rs1 W (h : Srt1 (sortE g) A6 gb rs1 W) => gsort_any A6 c6 gb (sortE g) rs1 W h (by omega) (srt_labs h HEg.out))
      rw [hsl] at HGS
      go_wp2_with (first
        | (go_at_call 49; (with_reducible refine (HS1.out).mono ?_); rintro e w6 ⟨A6, c6, rfl, hb6, hq6⟩; obtain ⟨gb, rs1, hgb, hsr1⟩ := hq6 hg0; have HB6 := Lib.hid (HLow.out.trans (hb6.mono hsz)); have HS6 := Lib.hid hsr1; have HGB : Hid (w.heap.size ≤ gb) := Lib.hid (Nat.le_trans hsz hgb); clear hb6 hq6 hsr1 hgb)
        | (go_at_call 111; (with_reducible refine (HGS.out A6 c6 gb rs1 _ HS6.out).mono ?_); rintro e w7 ⟨rfl, ⟨rs2, hsr2⟩, hb7⟩; have HB7 := Lib.hid (HB6.out.trans (hb7 _ HGB.out)); have HS7 := Lib.hid (srt_C hsr2 (by rw [ST.srt_length]; omega)); have HP7 := Lib.hid (srt_lens hsr2 HEg.out); clear hb7 hsr2))
      have HLN : Hid ((ST.srt ltL (sortE g)).length = g.length) := Lib.hid (by rw [ST.srt_length, hsl])
      clear hsl HGS HS1 HEg HLow HGB HS6 hq7 rs
      rw [HLN.out] at HS7
      generalize ST.srt ltL (sortE g) = L at *
      obtain ⟨n, hn⟩ : ∃ n, n = g.length := ⟨_, rfl⟩
      rw [← hn] at HS7 HLN hg0 hgm ⊢
      clear hn
      obtain ⟨b, o, rfl, hx⟩ := ents_at' HS7.out HLN.out hg0
      have HX := Lib.hid hx
      clear hx
      go_loopw [41, 7] (fun v41 v7 wr => ∃ i : Nat, v41 = .int .i64 (i : Int) ∧ i ≤ n ∧ Hid (G3Rel L w7 i v7 wr)) (fun v41 _ _ => n - (intOf v41).toNat)
      case atStart => exact ⟨0, rfl, Nat.zero_le _, Below.refl _ _, .inl ⟨rfl, rfl⟩⟩
      case round =>
        obtain ⟨i, rfl, hi, HI⟩ := hrel
        by_cases hlt : i < n
        · have hltz : (i : Int) < (n : Int) := by omega
          have hlt' : i < L.length := by rw [HLN.out]; exact hlt
          obtain ⟨hbw, hst⟩ := HI.out
          obtain ⟨A1, c1, y0, y1, y2, y3, y4, y5⟩ := HX.out i hlt'
          have p0 := pw_cell_below hbw y0
          have p1 := pw_cell_below hbw y1
          have p2 := pw_cell_below hbw y2
          have p3 := pw_cell_below hbw y3
          have HC1 := Lib.hid y5
          have hxl := HP7.out _ (List.getElem_mem hlt')
          have HSUC := Lib.hid (grpG_succ L i hlt')
          have HBW := Lib.hid hbw
          have hbsz := hbw.size
          have bx : Blk (wr.alloc (.cells (entC L[i] A1 c1) 33)) wr.heap.size (entC L[i] A1 c1) 33 := Blk.new _ _ _ _ rfl
          have BX := Lib.hid bx
          clear y0 y1 y2 y3 y4 y5 bx hbw HI
          rcases hst with ⟨hi0, rfl⟩ | ⟨rs, r, hi1, hrs, hgi⟩
          · subst hi0
            rw [Nat.zero_mul, Nat.add_zero] at p0 p1 p2 p3
            have HR0 : Hid (stepG (grpG (L.take 0)) L[0] = [(L[0].f2, [rowE L[0]])]) := Lib.hid rfl
            generalize L[0] = x at *
            go_wp2_with fail
            refine wp_gen (fun W => Below wr.heap.size wr W ∧ Blk W wr.heap.size (entC x A1 c1) 33) ⟨(Below.refl _ _).alloc (Nat.le_refl _) _, BX.out⟩ ?_
            rintro W ⟨hbW, bx⟩
            have BXW := Lib.hid bx
            have HBW1 := Lib.hid (HBW.out.trans (hbW.mono hbsz))
            have HSZ1 : Hid (w7.heap.size ≤ W.heap.size) := Lib.hid (Nat.le_trans hbsz hbW.size)
            clear bx hbW
            go_quiet (fail)
            have hm1 := pw_below_drewN HBW1.out nq
            have hm2 := BXW.out.drewN nq
            have hm3 : w7.heap.size ≤ (W.drewN nq).heap.size := by simpa using HSZ1.out
            generalize W.drewN nq = W2 at hm1 hm2 hm3 ⊢
            have HBW2 := Lib.hid hm1
            have BX2 := Lib.hid hm2
            have HSZ2 := Lib.hid hm3
            have b2 := hm2.cell 2 _ rfl
            clear hm1 hm2 hm3
            obtain ⟨RS, hRS⟩ : ∃ RS : List RK, RS = [] := ⟨_, rfl⟩
            have HCH : Hid (ChksO 53 71 w7.heap.size (.slice none 0 0) RS W2) := Lib.hid (by rw [hRS]; exact ChksO.nil _ _ _ _)
            have HRX : Hid (stepG (grpG (L.take 0)) x = RS.map RK.x ++ [(x.f2, [rowE x])]) := Lib.hid (by rw [hRS]; exact HR0.out)
            have hRB : RS.length ≤ 2513169434916 := (by rw [hRS]; exact Nat.zero_le _)
            clear hRS HR0 HBW1 BXW HSZ1
            have HCL := Lib.hid (fun W (hb : Below w7.heap.size w7 W) => lab_C (Kd.C_below HC1.out hb))
            have hw5 : IntKind.i64.wrap (((RS.length + 1 : Nat) : Int) - 1) = (RS.length : Int) := by rw [IntKind.wrap_i64]; omega
            have hw6 : wrap64 (((RS.length + 1 : Nat) : Int) - 1) = (RS.length : Int) := (by rw [show ((RS.length + 1 : Nat) : Int) - 1 = (RS.length : Int) by omega]; exact wrap64_nat RS.length (by omega))
            have hw7 : IntKind.i64.wrap ((RS.length : Int) + 1 - 1) = (RS.length : Int) := by rw [IntKind.wrap_i64]; omega
            have hw8 : wrap64 ((RS.length : Int) + 1 - 1) = (RS.length : Int) := (by rw [show (RS.length : Int) + 1 - 1 = (RS.length : Int) by omega]; exact wrap64_nat RS.length (by omega))
            have hgz : (RS.length : Int) < (RS.length : Int) + 1 := by omega
            go_wp2_with (first
              | (go_at_call 104; (with_reducible refine (clone_labs A1 x.f2.length c1 (lcells x.f2) _ (lcells_len _) (lcells_one _) (HCL.out _ HBW2.out) (by omega)).mono ?_); rintro e w4 ⟨v4, rfl, ho4, hb4⟩; obtain ⟨A3, c3, rfl, hc3⟩ := own_slice ho4; have hb5 : Below W2.heap.size W2 (w4.alloc (.cells #[.slice A3 x.f2.length c3, .slice none 0 0] 53)) := hb4.alloc hb4.size _; have HC5 := Lib.hid (HCH.out.below hb5); have HB5 := Lib.hid (HBW2.out.trans (hb5.mono HSZ2.out)); have HSZ5 := Lib.hid (Nat.le_trans HSZ2.out hb5.size); have BX5 := Lib.hid (Blk.grown BX2.out (grown_below hb5) (fun e => by cases e)); have HL5 := Lib.hid (And.intro hc3 (own_below (own_le ho4 HSZ2.out) ((Below.refl _ _).alloc (Nat.le_refl _) (.cells #[.slice A3 x.f2.length c3, .slice none 0 0] 53)))); have HNW := Lib.hid (chk_news w4 A3 x.f2.length c3); clear hb4 hb5 ho4 hc3)
              | ((with_reducible refine gate_builtin (b := .append) (xs := #[.tmp 71, .tmp 76]) rfl ?_); at_builtin; refine wpList_append_own _ rfl _ _ 65 rfl w7.heap.size 53 i2 _ 2 48 Tryd.underlying65 hi2 hx0 hx1 hx2 rfl (by decide) _ RS.length (RS.flatMap RK.cells) rfl HC5.out.own ⟨w4.heap.size, 0, none⟩ 1 1 (RK.cells ⟨A3, c3, x.f2, none, 0, []⟩) rfl rfl HNW.out (RK.cells_one _) (by unfold maxLen; omega) (by omega) HSZ5.out ?_; intro v5 w5 hown5 hgrow5 _; obtain ⟨r5, hr5⟩ : ∃ r5 : RK, r5 = ⟨A3, c3, x.f2, none, 0, []⟩ := ⟨_, rfl⟩; have hgi5 := GI.push HC5.out (Nat.le_trans HSZ5.out hgrow5.size) (by decide) (by decide) hown5 hgrow5 HL5.out; rw [← hr5] at hgi5; obtain ⟨g5, c5, Bl, rfl, hc5, hpa⟩ := PreA.mk' hgi5 (Blk.grown BX5.out hgrow5 (own_ne_blk HC5.out.own BX5.out (by decide))) (HB5.out.grown hgrow5 HSZ5.out (fun k e => own_ge HC5.out.own e)) (Nat.le_trans HSZ5.out hgrow5.size); have f0 := hpa.bx.cell 0 _ rfl; have f1 := hpa.bx.cell 1 _ rfl; have f3 := hpa.bx.cell 3 _ rfl; have f4 := hpa.cells.1; have HPA5 := Lib.hid hpa; have HR5 := Lib.hid hr5; have HK5 : Hid (r5.rows.length ≤ 1000) := Lib.hid (by rw [hr5]; exact Nat.zero_le _); clear hown5 hgrow5 hgi5 hpa hr5))
            have HPD := Lib.hid (HPA5.out.below (Below.refl _ _).drew)
            have HPA6 := Lib.hid (HPD.out.below ((Below.refl _ _).alloc (Nat.le_refl _) (.cells #[.int .i64 x.f0, .int .i64 x.f1, .string x.f3] 71)))
            have hs0 := And.intro HPD.out.cells.1 (And.intro (HPD.out.bx.cell 0 _ rfl) (And.intro (HPD.out.bx.cell 1 _ rfl) (HPD.out.bx.cell 3 _ rfl)))
            have hs1 := And.intro HPA6.out.cells.1 (And.intro (HPA6.out.bx.cell 0 _ rfl) (And.intro (HPA6.out.bx.cell 1 _ rfl) (HPA6.out.bx.cell 3 _ rfl)))
            refine (wpIn_wide (n := 1)).1 ?_
            refine region_held_g (z := 16) (S := fun w' => w'.cell? ⟨g5, RS.length * 2 + 1, none⟩ = some (.slice r5.A2 r5.rows.length r5.c2) ∧ w'.cell? ⟨wr.heap.size, 0, none⟩ = some (.int .i64 x.f0) ∧ w'.cell? ⟨wr.heap.size, 1, none⟩ = some (.int .i64 x.f1) ∧ w'.cell? ⟨wr.heap.size, 3, none⟩ = some (.string x.f3)) (by kernel_rfl) ?_
            refine AnyG.take' (i := 0) (d := some 83) ⟨fun _ => trivial, fun i o hi => plainOps_spec (by kernel_rfl) hi⟩ rfl (by kernel_rfl) (by kernel_rfl) (by kernel_rfl) (by kernel_rfl) (by kernel_rfl) (fun _ _ _ h => h) hs0 (v := ?v0a) (Or.inl ⟨by first | (go_simp; done) | rfl, fun w' hw' => ?y0a⟩) ?_
            case y0a => go_simp; (try rfl)
            simp only [Act.put, List.setIfInBounds_toArray, List.set_cons_zero, List.set_cons_succ]
            refine AnyG.take' (i := 1) (d := some 84) ⟨fun _ => trivial, fun i o hi => plainOps_spec (by kernel_rfl) hi⟩ rfl (by kernel_rfl) (by kernel_rfl) (by kernel_rfl) (by kernel_rfl) (by kernel_rfl) (fun _ _ _ h => h) hs0 (v := ?v1a) (Or.inl ⟨by first | (go_simp; done) | rfl, fun w' hw' => ?y1a⟩) ?_
            case y1a => go_simp; (try rfl)
            simp only [Act.put, List.setIfInBounds_toArray, List.set_cons_zero, List.set_cons_succ]
            refine AnyG.take' (i := 2) (d := some 85) ⟨fun _ => trivial, fun i o hi => plainOps_spec (by kernel_rfl) hi⟩ rfl (by kernel_rfl) (by kernel_rfl) (by kernel_rfl) (by kernel_rfl) (by kernel_rfl) (fun _ _ _ h => h) hs0 (v := ?v2a) (Or.inl ⟨by first | (go_simp; done) | rfl, fun w' hw' => ?y2a⟩) ?_
            case y2a => go_simp; (try rfl)
            simp only [Act.put, List.setIfInBounds_toArray, List.set_cons_zero, List.set_cons_succ]
            refine AnyG.take' (i := 3) (d := some 86) ⟨fun _ => trivial, fun i o hi => plainOps_spec (by kernel_rfl) hi⟩ rfl (by kernel_rfl) (by kernel_rfl) (by kernel_rfl) (by kernel_rfl) (by kernel_rfl) (fun _ _ _ h => h) hs0 (v := ?v3a) (Or.inl ⟨by first | (go_simp; done) | rfl, fun w' hw' => ?y3a⟩) ?_
            case y3a => go_simp; (try rfl)
            simp only [Act.put, List.setIfInBounds_toArray, List.set_cons_zero, List.set_cons_succ]
            refine AnyG.take' (i := 4) (d := some 87) ⟨fun _ => trivial, fun i o hi => plainOps_spec (by kernel_rfl) hi⟩ rfl (by kernel_rfl) (by kernel_rfl) (by kernel_rfl) (by kernel_rfl) (by kernel_rfl) (fun _ _ _ h => h) hs0 (v := ?v4a) (Or.inl ⟨by first | (go_simp; done) | rfl, fun w' hw' => ?y4a⟩) ?_
            case y4a => have z0 := hw'.1; go_simp; (try rfl)
            simp only [Act.put, List.setIfInBounds_toArray, List.set_cons_zero, List.set_cons_succ]
            refine AnyG.take' (i := 5) (d := some 88) ⟨fun _ => trivial, fun i o hi => plainOps_spec (by kernel_rfl) hi⟩ rfl (by kernel_rfl) (by kernel_rfl) (by kernel_rfl) (by kernel_rfl) (by kernel_rfl) (fun _ _ _ h => h) hs0 (v := ?v5a) (Or.inl ⟨by first | (go_simp; done) | rfl, fun w' hw' => ?y5a⟩) ?_
            case y5a => go_simp; (try rfl)
            simp only [Act.put, List.setIfInBounds_toArray, List.set_cons_zero, List.set_cons_succ]
            refine AnyG.take' (i := 6) (d := some 89) ⟨fun _ => trivial, fun i o hi => plainOps_spec (by kernel_rfl) hi⟩ rfl (by kernel_rfl) (by kernel_rfl) (by kernel_rfl) (by kernel_rfl) (by kernel_rfl) (fun _ _ _ h => h) hs0 (v := ?v6a) (Or.inl ⟨by first | (go_simp; done) | rfl, fun w' hw' => ?y6a⟩) ?_
            case y6a => have z0 := hw'.2.1; go_simp; (try rfl)
            simp only [Act.put, List.setIfInBounds_toArray, List.set_cons_zero, List.set_cons_succ]
            refine AnyG.take' (i := 7) (d := some 90) ⟨fun _ => trivial, fun i o hi => plainOps_spec (by kernel_rfl) hi⟩ rfl (by kernel_rfl) (by kernel_rfl) (by kernel_rfl) (by kernel_rfl) (by kernel_rfl) (fun _ _ _ h => h) hs0 (v := ?v7a) (Or.inl ⟨by first | (go_simp; done) | rfl, fun w' hw' => ?y7a⟩) ?_
            case y7a => go_simp; (try rfl)
            simp only [Act.put, List.setIfInBounds_toArray, List.set_cons_zero, List.set_cons_succ]
            refine AnyG.take' (i := 8) (d := some 91) ⟨fun _ => trivial, fun i o hi => plainOps_spec (by kernel_rfl) hi⟩ rfl (by kernel_rfl) (by kernel_rfl) (by kernel_rfl) (by kernel_rfl) (by kernel_rfl) (fun _ _ _ h => h) hs0 (v := ?v8a) (Or.inl ⟨by first | (go_simp; done) | rfl, fun w' hw' => ?y8a⟩) ?_
            case y8a => have z0 := hw'.2.2.1; go_simp; (try rfl)
            simp only [Act.put, List.setIfInBounds_toArray, List.set_cons_zero, List.set_cons_succ]
            refine AnyG.take' (i := 9) (d := some 92) ⟨fun _ => trivial, fun i o hi => plainOps_spec (by kernel_rfl) hi⟩ rfl (by kernel_rfl) (by kernel_rfl) (by kernel_rfl) (by kernel_rfl) (by kernel_rfl) (fun _ _ _ h => h) hs0 (v := ?v9a) (Or.inl ⟨by first | (go_simp; done) | rfl, fun w' hw' => ?y9a⟩) ?_
            case y9a => go_simp; (try rfl)
            simp only [Act.put, List.setIfInBounds_toArray, List.set_cons_zero, List.set_cons_succ]
            refine AnyG.take' (i := 10) (d := some 93) ⟨fun _ => trivial, fun i o hi => plainOps_spec (by kernel_rfl) hi⟩ rfl (by kernel_rfl) (by kernel_rfl) (by kernel_rfl) (by kernel_rfl) (by kernel_rfl) (fun _ _ _ h => h) hs0 (v := ?v10a) (Or.inl ⟨by first | (go_simp; done) | rfl, fun w' hw' => ?y10a⟩) ?_
            case y10a => have z0 := hw'.2.2.2; go_simp; (try rfl)
            simp only [Act.put, List.setIfInBounds_toArray, List.set_cons_zero, List.set_cons_succ]
            refine AnyG.take' (i := 11) (d := some 94) ⟨fun _ => trivial, fun i o hi => plainOps_spec (by kernel_rfl) hi⟩ rfl (by kernel_rfl) (by kernel_rfl) (by kernel_rfl) (by kernel_rfl) (by kernel_rfl) (fun _ _ _ h => h) hs0 (v := ?v11a) (Or.inl ⟨by first | (go_simp; done) | rfl, fun w' hw' => ?y11a⟩) ?_
            case y11a => go_simp; (try rfl)
            simp only [Act.put, List.setIfInBounds_toArray, List.set_cons_zero, List.set_cons_succ]
            refine AnyG.one (i := 12) rfl (by kernel_rfl) ?_
            intro K hK
            go_simp
            refine hK _ _ (fun _ => hs1) ?_
            clear hK
            refine AnyG.one (i := 13) rfl (by kernel_rfl) ?_
            intro K hK
            refine stepIn_append_own _ rfl (.tmp 87) (.tmp 95) 51 rfl Bl 71 i3 _ 3 32 Tryd.underlying51 hi3 hy0 hy1 hy2 rfl (by decide) _ r5.rows.length (rcells r5.rows) rfl HPA6.out.own ⟨w5.heap.size, 0, none⟩ 1 1 [.int .i64 x.f0, .int .i64 x.f1, .string x.f3] rfl rfl
              (row_news w5.drew (rowE x)) (one3 (rowE x)) (by have := HK5.out; unfold maxLen; omega) (by have := HK5.out; omega) HPA6.out.hBl ?_
            intro v6 w6 hown6 hgrow6
            obtain ⟨A6, c6, rfl, hc6⟩ := own_slice hown6
            obtain ⟨⟨k1, k2⟩, hg6, hb6, b6, b7⟩ := HPA6.out.after (by decide) (by decide) (by decide) (by decide) (by decide) hown6 hgrow6 hc6
            have HG6 := Lib.hid hg6
            have HB6 := Lib.hid hb6
            have hs2 := And.intro k1 (And.intro (b6.cell 0 _ rfl) (And.intro (b6.cell 1 _ rfl) (b6.cell 3 _ rfl)))
            clear hown6 hgrow6 hc6 hg6 hb6 b6 b7
            refine hK _ _ (fun _ => hs2) ?_
            clear hK
            simp only [Act.put, List.setIfInBounds_toArray, List.set_cons_zero, List.set_cons_succ]
            refine AnyG.one (i := 14) rfl (by kernel_rfl) ?_
            intro K hK
            go_simp
            refine hK _ _ (fun _ => hs2) ?_
            clear hK
            refine AnyG.one (i := 15) rfl (by kernel_rfl) ?_
            intro K hK
            go_simp
            refine hK _ _ (fun _ => hs2) ?_
            clear hK
            refine AnyG.one (i := 16) rfl (by kernel_rfl) ?_
            intro K hK
            go_simp
            refine hK _ _ (fun h => absurd rfl h) ?_
            clear hK
            refine AnyG.done (by kernel_rfl) ?_ _
            clear hs0 hs1 hs2
            go_wp2_with fail
            go_roundw
            case rel =>
              refine ⟨0 + 1, by go_num, by omega, HB6.out, .inr ⟨RS, ⟨r5.A1, r5.c1, r5.ls, A6, c6, r5.rows ++ [rowE x]⟩, by omega, ?_, HG6.out⟩⟩
              rw [HSUC.out, HRX.out, List.map_append, HR5.out]; rfl
            case measure => simp [intOf]; omega
          · obtain ⟨j, rfl⟩ : ∃ j, i = j + 1 := ⟨i - 1, by omega⟩
            have hj' : j < L.length := by omega
            obtain ⟨A0, c0, y0, y1, y2, y3, y4, y5⟩ := HX.out j hj'
            have q2 := pw_cell_below HBW.out y2
            obtain ⟨l1, l2, l3⟩ := last_of hrs hj'
            have HC0 := Lib.hid y5
            have hpl := HP7.out _ (List.getElem_mem hj')
            have hrl : rs.length ≤ j := by
              have := rs_len hrs
              rw [List.length_append, List.length_singleton] at this
              omega
            have HRS := Lib.hid hrs
            obtain ⟨g, c7, rfl, hgB, hgl, hgc, x0, x1, xf⟩ := hgi.out
            have HGI := Lib.hid hgi
            have HSN : Hid (stepG (grpG (L.take (j + 1))) L[j + 1] = if r.ls ≠ L[j + 1].f2 ∨ r.rows.length = 1000 then rs.map RK.x ++ [r.x] ++ [(L[j + 1].f2, [rowE L[j + 1]])] else rs.map RK.x ++ [(r.ls, r.rows ++ [rowE L[j + 1]])]) := Lib.hid (by rw [← hrs, List.map_append, List.map_cons, List.map_nil, stepG_snoc]; rfl)
            rw [l1] at HSN
            have HL1 := Lib.hid l1
            clear hgi hrs y0 y1 y2 y3 y4 y5 l1
            have HCM := Lib.hid (fun W (hb : Below w7.heap.size w7 W) => lcomp_any A0 c0 L[j].f2 A1 c1 L[j + 1].f2 W (Kd.C_below HC0.out hb) (Kd.C_below HC1.out hb) (by omega))
            have HEQ := Lib.hid (cmpL_ok.eq L[j].f2 L[j + 1].f2)
            have HL1' : Hid (r.ls = L[j].f2) := HL1
            generalize L[j + 1] = x at *
            generalize L[j] = y at *
            have hw1 : IntKind.i64.wrap (((j + 1 : Nat) : Int) - 1) = (j : Int) := by rw [IntKind.wrap_i64]; omega
            have hw2 : wrap64 (((j + 1 : Nat) : Int) - 1) = (j : Int) := (by rw [show ((j + 1 : Nat) : Int) - 1 = (j : Int) by omega]; exact wrap64_nat j (by omega))
            have hw3 : IntKind.i64.wrap ((j : Int) + 1 - 1) = (j : Int) := by rw [IntKind.wrap_i64]; omega
            have hw4 : wrap64 ((j : Int) + 1 - 1) = (j : Int) := (by rw [show (j : Int) + 1 - 1 = (j : Int) by omega]; exact wrap64_nat j (by omega))
            have hw9 : IntKind.i64.wrap (j : Int) = (j : Int) := by rw [IntKind.wrap_i64]; omega
            have hwa : IntKind.i64.wrap (rs.length : Int) = (rs.length : Int) := by rw [IntKind.wrap_i64]; omega
            have hjn : (j : Int) < (n : Int) := by omega
            have hj0 : (0 : Int) ≤ (j : Int) := by omega
            have hg0' : (0 : Int) ≤ (rs.length : Int) := by omega
            have hgz2 : (rs.length : Int) < ((rs.length + 1 : Nat) : Int) := by omega
            have hw5 : IntKind.i64.wrap (((rs.length + 1 : Nat) : Int) - 1) = (rs.length : Int) := by rw [IntKind.wrap_i64]; omega
            have hw6 : wrap64 (((rs.length + 1 : Nat) : Int) - 1) = (rs.length : Int) := (by rw [show ((rs.length + 1 : Nat) : Int) - 1 = (rs.length : Int) by omega]; exact wrap64_nat rs.length (by omega))
            have hw7 : IntKind.i64.wrap ((rs.length : Int) + 1 - 1) = (rs.length : Int) := by rw [IntKind.wrap_i64]; omega
            have hw8 : wrap64 ((rs.length : Int) + 1 - 1) = (rs.length : Int) := (by rw [show (rs.length : Int) + 1 - 1 = (rs.length : Int) by omega]; exact wrap64_nat rs.length (by omega))
            have hgz : (rs.length : Int) < (rs.length : Int) + 1 := by omega
            have hz0 : ((j + 1 : Nat) : Int) ≠ 0 := by omega
            have hz1 : (((j + 1 : Nat) : Int) == 0) = false := by simp; omega
            have hz2 : ((j : Int) + 1 == 0) = false := by simp; omega
            go_wp2_with fail
            refine wp_gen (fun W => Below wr.heap.size wr W ∧ Blk W wr.heap.size (entC x A1 c1) 33) ⟨(Below.refl _ _).alloc (Nat.le_refl _) _, BX.out⟩ ?_
            rintro W ⟨hbW, bx⟩
            have BXW := Lib.hid bx
            have HBW1 := Lib.hid (HBW.out.trans (hbW.mono hbsz))
            have HSZ1 : Hid (w7.heap.size ≤ W.heap.size) := Lib.hid (Nat.le_trans hbsz hbW.size)
            have r2 := bx.cell 2 _ rfl
            have s2 := pw_cell_below hbW q2
            have t2 := pw_cell_below hbW x1
            have HGW := Lib.hid (HGI.out.below hbW)
            have HSS : ∀ w', Below W.heap.size W w' → (w'.cell? ⟨wr.heap.size, 2, none⟩ = some (.slice A1 x.f2.length c1) ∧ w'.cell? ⟨b, o + j * 4 + 2, none⟩ = some (.slice A0 y.f2.length c0) ∧ w'.cell? ⟨g, rs.length * 2 + 1, none⟩ = some (.slice r.A2 r.rows.length r.c2)) := fun w' hK => ⟨pw_cell_below hK r2, pw_cell_below hK s2, pw_cell_below hK t2⟩
            clear bx hbW q2 x0 x1 xf p0 p1 p2 p3 r2 s2 t2
            obtain ⟨RS, hRS⟩ : ∃ RS : List RK, RS = rs ++ [r] := ⟨_, rfl⟩
            have hRB : RS.length ≤ 2513169434916 := (by rw [hRS, List.length_append, List.length_singleton]; omega)
            by_cases hz : cmpL y.f2 x.f2 = 0
            · have hzb : (cmpL y.f2 x.f2 != 0) = false := by simp [hz]
              have hyx : y.f2 = x.f2 := HEQ.out.1 hz
              by_cases hk : r.rows.length = 1000
              · have hk1 : (r.rows.length == 1000) = true := by simpa using hk
                have hk2 : ((r.rows.length : Int) == 1000) = true := by rw [hk]; rfl
                have HRX : Hid (stepG (grpG (L.take (j + 1))) x = RS.map RK.x ++ [(x.f2, [rowE x])]) := Lib.hid (by rw [HSN.out, if_pos (.inr hk), hRS, List.map_append]; rfl)
                clear hz hk hyx
                go_region_held3 (fun w' => w'.cell? ⟨wr.heap.size, 2, none⟩ = some (.slice A1 x.f2.length c1) ∧ w'.cell? ⟨b, o + j * 4 + 2, none⟩ = some (.slice A0 y.f2.length c0) ∧ w'.cell? ⟨g, rs.length * 2 + 1, none⟩ = some (.slice r.A2 r.rows.length r.c2))
                  (first | exact HSS _ (Below.refl _ _) | exact HSS _ (Below.refl _ _).drew | exact HSS _ hb2 | exact HSS _ hb2.drew)
                  (first | (go_at_call 119; refine (HCM.out _ (by first | exact HBW1.out.drew | exact HBW1.out)).mono ?_; rintro e w2 ⟨rfl, hb3⟩; have hb2 : Below W.heap.size W w2 := (by first | exact hb3 | exact ⟨hb3.os, hb3.tape, hb3.output, hb3.size, hb3.block⟩)))
                all_goals
                  have HCH : Hid (ChksO 53 71 w7.heap.size (.slice (some ⟨g, 0, none⟩) (rs.length + 1) c7) RS w2) := Lib.hid (by rw [hRS]; exact (HGW.out.below hb2).all)
                  have HBW2 := Lib.hid (HBW1.out.trans (hb2.mono HSZ1.out))
                  have BX2 := Lib.hid (Blk.grown BXW.out (grown_below hb2) (fun e => by cases e))
                  have HSZ2 := Lib.hid (Nat.le_trans HSZ1.out hb2.size)
                  have b2 := BX2.out.cell 2 _ rfl
                  clear hb2 hb3 hRS HGW HBW1 BXW HSZ1 HSS
                  obtain ⟨W2, hW2⟩ : ∃ W2, W2 = w2 := ⟨_, rfl⟩
                  subst hW2
                  have HCL := Lib.hid (fun W (hb : Below w7.heap.size w7 W) => lab_C (Kd.C_below HC1.out hb))
                  have hw5 : IntKind.i64.wrap (((RS.length + 1 : Nat) : Int) - 1) = (RS.length : Int) := by rw [IntKind.wrap_i64]; omega
                  have hw6 : wrap64 (((RS.length + 1 : Nat) : Int) - 1) = (RS.length : Int) := (by rw [show ((RS.length + 1 : Nat) : Int) - 1 = (RS.length : Int) by omega]; exact wrap64_nat RS.length (by omega))
                  have hw7 : IntKind.i64.wrap ((RS.length : Int) + 1 - 1) = (RS.length : Int) := by rw [IntKind.wrap_i64]; omega
                  have hw8 : wrap64 ((RS.length : Int) + 1 - 1) = (RS.length : Int) := (by rw [show (RS.length : Int) + 1 - 1 = (RS.length : Int) by omega]; exact wrap64_nat RS.length (by omega))
                  have hgz : (RS.length : Int) < (RS.length : Int) + 1 := by omega
                  go_wp2_with (first
                    | (go_at_call 104; (with_reducible refine (clone_labs A1 x.f2.length c1 (lcells x.f2) _ (lcells_len _) (lcells_one _) (HCL.out _ HBW2.out) (by omega)).mono ?_); rintro e w4 ⟨v4, rfl, ho4, hb4⟩; obtain ⟨A3, c3, rfl, hc3⟩ := own_slice ho4; have hb5 : Below W2.heap.size W2 (w4.alloc (.cells #[.slice A3 x.f2.length c3, .slice none 0 0] 53)) := hb4.alloc hb4.size _; have HC5 := Lib.hid (HCH.out.below hb5); have HB5 := Lib.hid (HBW2.out.trans (hb5.mono HSZ2.out)); have HSZ5 := Lib.hid (Nat.le_trans HSZ2.out hb5.size); have BX5 := Lib.hid (Blk.grown BX2.out (grown_below hb5) (fun e => by cases e)); have HL5 := Lib.hid (And.intro hc3 (own_below (own_le ho4 HSZ2.out) ((Below.refl _ _).alloc (Nat.le_refl _) (.cells #[.slice A3 x.f2.length c3, .slice none 0 0] 53)))); have HNW := Lib.hid (chk_news w4 A3 x.f2.length c3); clear hb4 hb5 ho4 hc3)
                    | ((with_reducible refine gate_builtin (b := .append) (xs := #[.tmp 71, .tmp 76]) rfl ?_); at_builtin; refine wpList_append_own _ rfl _ _ 65 rfl w7.heap.size 53 i2 _ 2 48 Tryd.underlying65 hi2 hx0 hx1 hx2 rfl (by decide) _ RS.length (RS.flatMap RK.cells) rfl HC5.out.own ⟨w4.heap.size, 0, none⟩ 1 1 (RK.cells ⟨A3, c3, x.f2, none, 0, []⟩) rfl rfl HNW.out (RK.cells_one _) (by unfold maxLen; omega) (by omega) HSZ5.out ?_; intro v5 w5 hown5 hgrow5 _; obtain ⟨r5, hr5⟩ : ∃ r5 : RK, r5 = ⟨A3, c3, x.f2, none, 0, []⟩ := ⟨_, rfl⟩; have hgi5 := GI.push HC5.out (Nat.le_trans HSZ5.out hgrow5.size) (by decide) (by decide) hown5 hgrow5 HL5.out; rw [← hr5] at hgi5; obtain ⟨g5, c5, Bl, rfl, hc5, hpa⟩ := PreA.mk' hgi5 (Blk.grown BX5.out hgrow5 (own_ne_blk HC5.out.own BX5.out (by decide))) (HB5.out.grown hgrow5 HSZ5.out (fun k e => own_ge HC5.out.own e)) (Nat.le_trans HSZ5.out hgrow5.size); have f0 := hpa.bx.cell 0 _ rfl; have f1 := hpa.bx.cell 1 _ rfl; have f3 := hpa.bx.cell 3 _ rfl; have f4 := hpa.cells.1; have HPA5 := Lib.hid hpa; have HR5 := Lib.hid hr5; have HK5 : Hid (r5.rows.length ≤ 1000) := Lib.hid (by rw [hr5]; exact Nat.zero_le _); clear hown5 hgrow5 hgi5 hpa hr5))
                  have HPD := Lib.hid (HPA5.out.below (Below.refl _ _).drew)
                  have HPA6 := Lib.hid (HPD.out.below ((Below.refl _ _).alloc (Nat.le_refl _) (.cells #[.int .i64 x.f0, .int .i64 x.f1, .string x.f3] 71)))
                  have hs0 := And.intro HPD.out.cells.1 (And.intro (HPD.out.bx.cell 0 _ rfl) (And.intro (HPD.out.bx.cell 1 _ rfl) (HPD.out.bx.cell 3 _ rfl)))
                  have hs1 := And.intro HPA6.out.cells.1 (And.intro (HPA6.out.bx.cell 0 _ rfl) (And.intro (HPA6.out.bx.cell 1 _ rfl) (HPA6.out.bx.cell 3 _ rfl)))
                  refine (wpIn_wide (n := 1)).1 ?_
                  refine region_held_g (z := 16) (S := fun w' => w'.cell? ⟨g5, RS.length * 2 + 1, none⟩ = some (.slice r5.A2 r5.rows.length r5.c2) ∧ w'.cell? ⟨wr.heap.size, 0, none⟩ = some (.int .i64 x.f0) ∧ w'.cell? ⟨wr.heap.size, 1, none⟩ = some (.int .i64 x.f1) ∧ w'.cell? ⟨wr.heap.size, 3, none⟩ = some (.string x.f3)) (by kernel_rfl) ?_
                  refine AnyG.take' (i := 0) (d := some 83) ⟨fun _ => trivial, fun i o hi => plainOps_spec (by kernel_rfl) hi⟩ rfl (by kernel_rfl) (by kernel_rfl) (by kernel_rfl) (by kernel_rfl) (by kernel_rfl) (fun _ _ _ h => h) hs0 (v := ?v0c) (Or.inl ⟨by first | (go_simp; done) | rfl, fun w' hw' => ?y0c⟩) ?_
                  case y0c => go_simp; (try rfl)
                  simp only [Act.put, List.setIfInBounds_toArray, List.set_cons_zero, List.set_cons_succ]
                  refine AnyG.take' (i := 1) (d := some 84) ⟨fun _ => trivial, fun i o hi => plainOps_spec (by kernel_rfl) hi⟩ rfl (by kernel_rfl) (by kernel_rfl) (by kernel_rfl) (by kernel_rfl) (by kernel_rfl) (fun _ _ _ h => h) hs0 (v := ?v1c) (Or.inl ⟨by first | (go_simp; done) | rfl, fun w' hw' => ?y1c⟩) ?_
                  case y1c => go_simp; (try rfl)
                  simp only [Act.put, List.setIfInBounds_toArray, List.set_cons_zero, List.set_cons_succ]
                  refine AnyG.take' (i := 2) (d := some 85) ⟨fun _ => trivial, fun i o hi => plainOps_spec (by kernel_rfl) hi⟩ rfl (by kernel_rfl) (by kernel_rfl) (by kernel_rfl) (by kernel_rfl) (by kernel_rfl) (fun _ _ _ h => h) hs0 (v := ?v2c) (Or.inl ⟨by first | (go_simp; done) | rfl, fun w' hw' => ?y2c⟩) ?_
                  case y2c => go_simp; (try rfl)
                  simp only [Act.put, List.setIfInBounds_toArray, List.set_cons_zero, List.set_cons_succ]
                  refine AnyG.take' (i := 3) (d := some 86) ⟨fun _ => trivial, fun i o hi => plainOps_spec (by kernel_rfl) hi⟩ rfl (by kernel_rfl) (by kernel_rfl) (by kernel_rfl) (by kernel_rfl) (by kernel_rfl) (fun _ _ _ h => h) hs0 (v := ?v3c) (Or.inl ⟨by first | (go_simp; done) | rfl, fun w' hw' => ?y3c⟩) ?_
                  case y3c => go_simp; (try rfl)
                  simp only [Act.put, List.setIfInBounds_toArray, List.set_cons_zero, List.set_cons_succ]
                  refine AnyG.take' (i := 4) (d := some 87) ⟨fun _ => trivial, fun i o hi => plainOps_spec (by kernel_rfl) hi⟩ rfl (by kernel_rfl) (by kernel_rfl) (by kernel_rfl) (by kernel_rfl) (by kernel_rfl) (fun _ _ _ h => h) hs0 (v := ?v4c) (Or.inl ⟨by first | (go_simp; done) | rfl, fun w' hw' => ?y4c⟩) ?_
                  case y4c => have z0 := hw'.1; go_simp; (try rfl)
                  simp only [Act.put, List.setIfInBounds_toArray, List.set_cons_zero, List.set_cons_succ]
                  refine AnyG.take' (i := 5) (d := some 88) ⟨fun _ => trivial, fun i o hi => plainOps_spec (by kernel_rfl) hi⟩ rfl (by kernel_rfl) (by kernel_rfl) (by kernel_rfl) (by kernel_rfl) (by kernel_rfl) (fun _ _ _ h => h) hs0 (v := ?v5c) (Or.inl ⟨by first | (go_simp; done) | rfl, fun w' hw' => ?y5c⟩) ?_
                  case y5c => go_simp; (try rfl)
                  simp only [Act.put, List.setIfInBounds_toArray, List.set_cons_zero, List.set_cons_succ]
                  refine AnyG.take' (i := 6) (d := some 89) ⟨fun _ => trivial, fun i o hi => plainOps_spec (by kernel_rfl) hi⟩ rfl (by kernel_rfl) (by kernel_rfl) (by kernel_rfl) (by kernel_rfl) (by kernel_rfl) (fun _ _ _ h => h) hs0 (v := ?v6c) (Or.inl ⟨by first | (go_simp; done) | rfl, fun w' hw' => ?y6c⟩) ?_
                  case y6c => have z0 := hw'.2.1; go_simp; (try rfl)
                  simp only [Act.put, List.setIfInBounds_toArray, List.set_cons_zero, List.set_cons_succ]
                  refine AnyG.take' (i := 7) (d := some 90) ⟨fun _ => trivial, fun i o hi => plainOps_spec (by kernel_rfl) hi⟩ rfl (by kernel_rfl) (by kernel_rfl) (by kernel_rfl) (by kernel_rfl) (by kernel_rfl) (fun _ _ _ h => h) hs0 (v := ?v7c) (Or.inl ⟨by first | (go_simp; done) | rfl, fun w' hw' => ?y7c⟩) ?_
                  case y7c => go_simp; (try rfl)
                  simp only [Act.put, List.setIfInBounds_toArray, List.set_cons_zero, List.set_cons_succ]
                  refine AnyG.take' (i := 8) (d := some 91) ⟨fun _ => trivial, fun i o hi => plainOps_spec (by kernel_rfl) hi⟩ rfl (by kernel_rfl) (by kernel_rfl) (by kernel_rfl) (by kernel_rfl) (by kernel_rfl) (fun _ _ _ h => h) hs0 (v := ?v8c) (Or.inl ⟨by first | (go_simp; done) | rfl, fun w' hw' => ?y8c⟩) ?_
                  case y8c => have z0 := hw'.2.2.1; go_simp; (try rfl)
                  simp only [Act.put, List.setIfInBounds_toArray, List.set_cons_zero, List.set_cons_succ]
                  refine AnyG.take' (i := 9) (d := some 92) ⟨fun _ => trivial, fun i o hi => plainOps_spec (by kernel_rfl) hi⟩ rfl (by kernel_rfl) (by kernel_rfl) (by kernel_rfl) (by kernel_rfl) (by kernel_rfl) (fun _ _ _ h => h) hs0 (v := ?v9c) (Or.inl ⟨by first | (go_simp; done) | rfl, fun w' hw' => ?y9c⟩) ?_
                  case y9c => go_simp; (try rfl)
                  simp only [Act.put, List.setIfInBounds_toArray, List.set_cons_zero, List.set_cons_succ]
                  refine AnyG.take' (i := 10) (d := some 93) ⟨fun _ => trivial, fun i o hi => plainOps_spec (by kernel_rfl) hi⟩ rfl (by kernel_rfl) (by kernel_rfl) (by kernel_rfl) (by kernel_rfl) (by kernel_rfl) (fun _ _ _ h => h) hs0 (v := ?v10c) (Or.inl ⟨by first | (go_simp; done) | rfl, fun w' hw' => ?y10c⟩) ?_
                  case y10c => have z0 := hw'.2.2.2; go_simp; (try rfl)
                  simp only [Act.put, List.setIfInBounds_toArray, List.set_cons_zero, List.set_cons_succ]
                  refine AnyG.take' (i := 11) (d := some 94) ⟨fun _ => trivial, fun i o hi => plainOps_spec (by kernel_rfl) hi⟩ rfl (by kernel_rfl) (by kernel_rfl) (by kernel_rfl) (by kernel_rfl) (by kernel_rfl) (fun _ _ _ h => h) hs0 (v := ?v11c) (Or.inl ⟨by first | (go_simp; done) | rfl, fun w' hw' => ?y11c⟩) ?_
                  case y11c => go_simp; (try rfl)
                  simp only [Act.put, List.setIfInBounds_toArray, List.set_cons_zero, List.set_cons_succ]
                  refine AnyG.one (i := 12) rfl (by kernel_rfl) ?_
                  intro K hK
                  go_simp
                  refine hK _ _ (fun _ => hs1) ?_
                  clear hK
                  refine AnyG.one (i := 13) rfl (by kernel_rfl) ?_
                  intro K hK
                  refine stepIn_append_own _ rfl (.tmp 87) (.tmp 95) 51 rfl Bl 71 i3 _ 3 32 Tryd.underlying51 hi3 hy0 hy1 hy2 rfl (by decide) _ r5.rows.length (rcells r5.rows) rfl HPA6.out.own ⟨w5.heap.size, 0, none⟩ 1 1 [.int .i64 x.f0, .int .i64 x.f1, .string x.f3] rfl rfl
                    (row_news w5.drew (rowE x)) (one3 (rowE x)) (by have := HK5.out; unfold maxLen; omega) (by have := HK5.out; omega) HPA6.out.hBl ?_
                  intro v6 w6 hown6 hgrow6
                  obtain ⟨A6, c6, rfl, hc6⟩ := own_slice hown6
                  obtain ⟨⟨k1, k2⟩, hg6, hb6, b6, b7⟩ := HPA6.out.after (by decide) (by decide) (by decide) (by decide) (by decide) hown6 hgrow6 hc6
                  have HG6 := Lib.hid hg6
                  have HB6 := Lib.hid hb6
                  have hs2 := And.intro k1 (And.intro (b6.cell 0 _ rfl) (And.intro (b6.cell 1 _ rfl) (b6.cell 3 _ rfl)))
                  clear hown6 hgrow6 hc6 hg6 hb6 b6 b7
                  refine hK _ _ (fun _ => hs2) ?_
                  clear hK
                  simp only [Act.put, List.setIfInBounds_toArray, List.set_cons_zero, List.set_cons_succ]
                  refine AnyG.one (i := 14) rfl (by kernel_rfl) ?_
                  intro K hK
                  go_simp
                  refine hK _ _ (fun _ => hs2) ?_
                  clear hK
                  refine AnyG.one (i := 15) rfl (by kernel_rfl) ?_
                  intro K hK
                  go_simp
                  refine hK _ _ (fun _ => hs2) ?_
                  clear hK
                  refine AnyG.one (i := 16) rfl (by kernel_rfl) ?_
                  intro K hK
                  go_simp
                  refine hK _ _ (fun h => absurd rfl h) ?_
                  clear hK
                  refine AnyG.done (by kernel_rfl) ?_ _
                  clear hs0 hs1 hs2
                  go_wp2_with fail
                  go_roundw
                  case rel =>
                    refine ⟨j + 1 + 1, by go_num, by omega, HB6.out, .inr ⟨RS, ⟨r5.A1, r5.c1, r5.ls, A6, c6, r5.rows ++ [rowE x]⟩, by omega, ?_, HG6.out⟩⟩
                    rw [HSUC.out, HRX.out, List.map_append, HR5.out]; rfl
                  case measure => simp [intOf]; omega
              · have hk1 : (r.rows.length == 1000) = false := by simpa using hk
                have hk2 : ((r.rows.length : Int) == 1000) = false := by rw [beq_eq_false_iff_ne]; omega
                have HRX : Hid (stepG (grpG (L.take (j + 1))) x = rs.map RK.x ++ [(r.ls, r.rows ++ [rowE x])]) := Lib.hid (by rw [HSN.out, if_neg (fun h => h.elim (fun h => h hyx) hk), HL1.out])
                have HK5 : Hid (r.rows.length ≤ 1000) := Lib.hid l3
                clear hz hk hyx hRB hRS RS
                go_region_held3 (fun w' => w'.cell? ⟨wr.heap.size, 2, none⟩ = some (.slice A1 x.f2.length c1) ∧ w'.cell? ⟨b, o + j * 4 + 2, none⟩ = some (.slice A0 y.f2.length c0) ∧ w'.cell? ⟨g, rs.length * 2 + 1, none⟩ = some (.slice r.A2 r.rows.length r.c2))
                  (first | exact HSS _ (Below.refl _ _) | exact HSS _ (Below.refl _ _).drew | exact HSS _ hb2 | exact HSS _ hb2.drew)
                  (first | (go_at_call 119; refine (HCM.out _ (by first | exact HBW1.out.drew | exact HBW1.out)).mono ?_; rintro e w2 ⟨rfl, hb3⟩; have hb2 : Below W.heap.size W w2 := (by first | exact hb3 | exact ⟨hb3.os, hb3.tape, hb3.output, hb3.size, hb3.block⟩)))
                all_goals
                  obtain ⟨r5, hr5⟩ : ∃ r5, r5 = r := ⟨_, rfl⟩
                  subst hr5
                  obtain ⟨g5, c5, Bl, e5, hc5, hpa⟩ := PreA.mk' (HGW.out.below hb2) (Blk.grown BXW.out (grown_below hb2) (fun e => by cases e)) (HBW1.out.trans (hb2.mono HSZ1.out)) (Nat.le_trans HSZ1.out hb2.size)
                  obtain ⟨rfl, rfl⟩ : g5 = g ∧ c5 = c7 := by
                    injection e5 with e1 e2 e3
                    injection e1 with e1
                    injection e1 with e1
                    exact ⟨e1.symm, e3.symm⟩
                  have f0 := hpa.bx.cell 0 _ rfl
                  have f1 := hpa.bx.cell 1 _ rfl
                  have f3 := hpa.bx.cell 3 _ rfl
                  have f4 := hpa.cells.1
                  have HPA5 := Lib.hid hpa
                  obtain ⟨W2, hW2⟩ : ∃ W2, W2 = w2 := ⟨_, rfl⟩
                  subst hW2
                  clear hb2 hb3 hpa e5 HGW HBW1 BXW HSZ1 HSS
                  go_wp2_with fail
                  have HPD := Lib.hid (HPA5.out.below (Below.refl _ _).drew)
                  have HPA6 := Lib.hid (HPD.out.below ((Below.refl _ _).alloc (Nat.le_refl _) (.cells #[.int .i64 x.f0, .int .i64 x.f1, .string x.f3] 71)))
                  have hs0 := And.intro HPD.out.cells.1 (And.intro (HPD.out.bx.cell 0 _ rfl) (And.intro (HPD.out.bx.cell 1 _ rfl) (HPD.out.bx.cell 3 _ rfl)))
                  have hs1 := And.intro HPA6.out.cells.1 (And.intro (HPA6.out.bx.cell 0 _ rfl) (And.intro (HPA6.out.bx.cell 1 _ rfl) (HPA6.out.bx.cell 3 _ rfl)))
                  refine (wpIn_wide (n := 1)).1 ?_
                  refine region_held_g (z := 16) (S := fun w' => w'.cell? ⟨g5, rs.length * 2 + 1, none⟩ = some (.slice r5.A2 r5.rows.length r5.c2) ∧ w'.cell? ⟨wr.heap.size, 0, none⟩ = some (.int .i64 x.f0) ∧ w'.cell? ⟨wr.heap.size, 1, none⟩ = some (.int .i64 x.f1) ∧ w'.cell? ⟨wr.heap.size, 3, none⟩ = some (.string x.f3)) (by kernel_rfl) ?_
                  refine AnyG.take' (i := 0) (d := some 83) ⟨fun _ => trivial, fun i o hi => plainOps_spec (by kernel_rfl) hi⟩ rfl (by kernel_rfl) (by kernel_rfl) (by kernel_rfl) (by kernel_rfl) (by kernel_rfl) (fun _ _ _ h => h) hs0 (v := ?v0k) (Or.inl ⟨by first | (go_simp; done) | rfl, fun w' hw' => ?y0k⟩) ?_
                  case y0k => go_simp; (try rfl)
                  simp only [Act.put, List.setIfInBounds_toArray, List.set_cons_zero, List.set_cons_succ]
                  refine AnyG.take' (i := 1) (d := some 84) ⟨fun _ => trivial, fun i o hi => plainOps_spec (by kernel_rfl) hi⟩ rfl (by kernel_rfl) (by kernel_rfl) (by kernel_rfl) (by kernel_rfl) (by kernel_rfl) (fun _ _ _ h => h) hs0 (v := ?v1k) (Or.inl ⟨by first | (go_simp; done) | rfl, fun w' hw' => ?y1k⟩) ?_
                  case y1k => go_simp; (try rfl)
                  simp only [Act.put, List.setIfInBounds_toArray, List.set_cons_zero, List.set_cons_succ]
                  refine AnyG.take' (i := 2) (d := some 85) ⟨fun _ => trivial, fun i o hi => plainOps_spec (by kernel_rfl) hi⟩ rfl (by kernel_rfl) (by kernel_rfl) (by kernel_rfl) (by kernel_rfl) (by kernel_rfl) (fun _ _ _ h => h) hs0 (v := ?v2k) (Or.inl ⟨by first | (go_simp; done) | rfl, fun w' hw' => ?y2k⟩) ?_
                  case y2k => go_simp; (try rfl)
                  simp only [Act.put, List.setIfInBounds_toArray, List.set_cons_zero, List.set_cons_succ]
                  refine AnyG.take' (i := 3) (d := some 86) ⟨fun _ => trivial, fun i o hi => plainOps_spec (by kernel_rfl) hi⟩ rfl (by kernel_rfl) (by kernel_rfl) (by kernel_rfl) (by kernel_rfl) (by kernel_rfl) (fun _ _ _ h => h) hs0 (v := ?v3k) (Or.inl ⟨by first | (go_simp; done) | rfl, fun w' hw' => ?y3k⟩) ?_
                  case y3k => go_simp; (try rfl)
                  simp only [Act.put, List.setIfInBounds_toArray, List.set_cons_zero, List.set_cons_succ]
                  refine AnyG.take' (i := 4) (d := some 87) ⟨fun _ => trivial, fun i o hi => plainOps_spec (by kernel_rfl) hi⟩ rfl (by kernel_rfl) (by kernel_rfl) (by kernel_rfl) (by kernel_rfl) (by kernel_rfl) (fun _ _ _ h => h) hs0 (v := ?v4k) (Or.inl ⟨by first | (go_simp; done) | rfl, fun w' hw' => ?y4k⟩) ?_
                  case y4k => have z0 := hw'.1; go_simp; (try rfl)
                  simp only [Act.put, List.setIfInBounds_toArray, List.set_cons_zero, List.set_cons_succ]
                  refine AnyG.take' (i := 5) (d := some 88) ⟨fun _ => trivial, fun i o hi => plainOps_spec (by kernel_rfl) hi⟩ rfl (by kernel_rfl) (by kernel_rfl) (by kernel_rfl) (by kernel_rfl) (by kernel_rfl) (fun _ _ _ h => h) hs0 (v := ?v5k) (Or.inl ⟨by first | (go_simp; done) | rfl, fun w' hw' => ?y5k⟩) ?_
                  case y5k => go_simp; (try rfl)
                  simp only [Act.put, List.setIfInBounds_toArray, List.set_cons_zero, List.set_cons_succ]
                  refine AnyG.take' (i := 6) (d := some 89) ⟨fun _ => trivial, fun i o hi => plainOps_spec (by kernel_rfl) hi⟩ rfl (by kernel_rfl) (by kernel_rfl) (by kernel_rfl) (by kernel_rfl) (by kernel_rfl) (fun _ _ _ h => h) hs0 (v := ?v6k) (Or.inl ⟨by first | (go_simp; done) | rfl, fun w' hw' => ?y6k⟩) ?_
                  case y6k => have z0 := hw'.2.1; go_simp; (try rfl)
                  simp only [Act.put, List.setIfInBounds_toArray, List.set_cons_zero, List.set_cons_succ]
                  refine AnyG.take' (i := 7) (d := some 90) ⟨fun _ => trivial, fun i o hi => plainOps_spec (by kernel_rfl) hi⟩ rfl (by kernel_rfl) (by kernel_rfl) (by kernel_rfl) (by kernel_rfl) (by kernel_rfl) (fun _ _ _ h => h) hs0 (v := ?v7k) (Or.inl ⟨by first | (go_simp; done) | rfl, fun w' hw' => ?y7k⟩) ?_
                  case y7k => go_simp; (try rfl)
                  simp only [Act.put, List.setIfInBounds_toArray, List.set_cons_zero, List.set_cons_succ]
                  refine AnyG.take' (i := 8) (d := some 91) ⟨fun _ => trivial, fun i o hi => plainOps_spec (by kernel_rfl) hi⟩ rfl (by kernel_rfl) (by kernel_rfl) (by kernel_rfl) (by kernel_rfl) (by kernel_rfl) (fun _ _ _ h => h) hs0 (v := ?v8k) (Or.inl ⟨by first | (go_simp; done) | rfl, fun w' hw' => ?y8k⟩) ?_
                  case y8k => have z0 := hw'.2.2.1; go_simp; (try rfl)
                  simp only [Act.put, List.setIfInBounds_toArray, List.set_cons_zero, List.set_cons_succ]
                  refine AnyG.take' (i := 9) (d := some 92) ⟨fun _ => trivial, fun i o hi => plainOps_spec (by kernel_rfl) hi⟩ rfl (by kernel_rfl) (by kernel_rfl) (by kernel_rfl) (by kernel_rfl) (by kernel_rfl) (fun _ _ _ h => h) hs0 (v := ?v9k) (Or.inl ⟨by first | (go_simp; done) | rfl, fun w' hw' => ?y9k⟩) ?_
                  case y9k => go_simp; (try rfl)
                  simp only [Act.put, List.setIfInBounds_toArray, List.set_cons_zero, List.set_cons_succ]
                  refine AnyG.take' (i := 10) (d := some 93) ⟨fun _ => trivial, fun i o hi => plainOps_spec (by kernel_rfl) hi⟩ rfl (by kernel_rfl) (by kernel_rfl) (by kernel_rfl) (by kernel_rfl) (by kernel_rfl) (fun _ _ _ h => h) hs0 (v := ?v10k) (Or.inl ⟨by first | (go_simp; done) | rfl, fun w' hw' => ?y10k⟩) ?_
                  case y10k => have z0 := hw'.2.2.2; go_simp; (try rfl)
                  simp only [Act.put, List.setIfInBounds_toArray, List.set_cons_zero, List.set_cons_succ]
                  refine AnyG.take' (i := 11) (d := some 94) ⟨fun _ => trivial, fun i o hi => plainOps_spec (by kernel_rfl) hi⟩ rfl (by kernel_rfl) (by kernel_rfl) (by kernel_rfl) (by kernel_rfl) (by kernel_rfl) (fun _ _ _ h => h) hs0 (v := ?v11k) (Or.inl ⟨by first | (go_simp; done) | rfl, fun w' hw' => ?y11k⟩) ?_
                  case y11k => go_simp; (try rfl)
                  simp only [Act.put, List.setIfInBounds_toArray, List.set_cons_zero, List.set_cons_succ]
                  refine AnyG.one (i := 12) rfl (by kernel_rfl) ?_
                  intro K hK
                  go_simp
                  refine hK _ _ (fun _ => hs1) ?_
                  clear hK
                  refine AnyG.one (i := 13) rfl (by kernel_rfl) ?_
                  intro K hK
                  refine stepIn_append_own _ rfl (.tmp 87) (.tmp 95) 51 rfl Bl 71 i3 _ 3 32 Tryd.underlying51 hi3 hy0 hy1 hy2 rfl (by decide) _ r5.rows.length (rcells r5.rows) rfl HPA6.out.own ⟨W2.heap.size, 0, none⟩ 1 1 [.int .i64 x.f0, .int .i64 x.f1, .string x.f3] rfl rfl
                    (row_news W2.drew (rowE x)) (one3 (rowE x)) (by have := HK5.out; unfold maxLen; omega) (by have := HK5.out; omega) HPA6.out.hBl ?_
                  intro v6 w6 hown6 hgrow6
                  obtain ⟨A6, c6, rfl, hc6⟩ := own_slice hown6
                  obtain ⟨⟨k1, k2⟩, hg6, hb6, b6, b7⟩ := HPA6.out.after (by decide) (by decide) (by decide) (by decide) (by decide) hown6 hgrow6 hc6
                  have HG6 := Lib.hid hg6
                  have HB6 := Lib.hid hb6
                  have hs2 := And.intro k1 (And.intro (b6.cell 0 _ rfl) (And.intro (b6.cell 1 _ rfl) (b6.cell 3 _ rfl)))
                  clear hown6 hgrow6 hc6 hg6 hb6 b6 b7
                  refine hK _ _ (fun _ => hs2) ?_
                  clear hK
                  simp only [Act.put, List.setIfInBounds_toArray, List.set_cons_zero, List.set_cons_succ]
                  refine AnyG.one (i := 14) rfl (by kernel_rfl) ?_
                  intro K hK
                  go_simp
                  refine hK _ _ (fun _ => hs2) ?_
                  clear hK
                  refine AnyG.one (i := 15) rfl (by kernel_rfl) ?_
                  intro K hK
                  go_simp
                  refine hK _ _ (fun _ => hs2) ?_
                  clear hK
                  refine AnyG.one (i := 16) rfl (by kernel_rfl) ?_
                  intro K hK
                  go_simp
                  refine hK _ _ (fun h => absurd rfl h) ?_
                  clear hK
                  refine AnyG.done (by kernel_rfl) ?_ _
                  clear hs0 hs1 hs2
                  go_wp2_with fail
                  go_roundw
                  case rel =>
                    refine ⟨j + 1 + 1, by go_num, by omega, HB6.out, .inr ⟨rs, ⟨r5.A1, r5.c1, r5.ls, A6, c6, r5.rows ++ [rowE x]⟩, by omega, ?_, HG6.out⟩⟩
                    rw [HSUC.out, HRX.out, List.map_append]; rfl
                  case measure => simp [intOf]; omega
            · have hzb : (cmpL y.f2 x.f2 != 0) = true := by simp [hz]
              have HRX : Hid (stepG (grpG (L.take (j + 1))) x = RS.map RK.x ++ [(x.f2, [rowE x])]) := Lib.hid (by rw [HSN.out, if_pos (.inl (fun h => hz (HEQ.out.2 h))), hRS, List.map_append]; rfl)
              have hzd : decide (cmpL y.f2 x.f2 = 0) = false := decide_eq_false hz
              have hze : (cmpL y.f2 x.f2 == 0) = false := by simpa using hz
              have c119 := fun d os => Calls.regrown_of (HCM.out (Go.Sort.grow (redrawn W d) os) (HBW1.out.trans ((below_regrown W d os).mono HSZ1.out)))
              have R2 := fun d os => cell_regrown (HSS _ (Below.refl _ _)).1 d os
              have S2 := fun d os => cell_regrown (HSS _ (Below.refl _ _)).2.1 d os
              refine wp_region_quiet_below (by kernel_rfl) (by kernel_rfl) ?_
              repeat (first
                | go_big_quiet_step ((go_at_call 119; with_reducible exact c119 _ _))
                | quiet_step ((go_at_call 119; with_reducible exact c119 _ _)))
              refine wpQuiet_nil ?_
              intro _ hw'
              obtain ⟨⟨dq, osq⟩, hw''⟩ := hw'
              subst hw''
              have hb2 := below_regrown W dq osq
              clear R2 S2 c119
              generalize Go.Sort.grow (redrawn W dq) osq = w2 at hb2 ⊢
              have HCH : Hid (ChksO 53 71 w7.heap.size (.slice (some ⟨g, 0, none⟩) (rs.length + 1) c7) RS w2) := Lib.hid (by rw [hRS]; exact (HGW.out.below hb2).all)
              have HBW2 := Lib.hid (HBW1.out.trans (hb2.mono HSZ1.out))
              have BX2 := Lib.hid (Blk.grown BXW.out (grown_below hb2) (fun e => by cases e))
              have HSZ2 := Lib.hid (Nat.le_trans HSZ1.out hb2.size)
              have b2 := BX2.out.cell 2 _ rfl
              clear hb2 hRS HGW HBW1 BXW HSZ1 HSS
              obtain ⟨W2, hW2⟩ : ∃ W2, W2 = w2 := ⟨_, rfl⟩
              subst hW2
              have HCL := Lib.hid (fun W (hb : Below w7.heap.size w7 W) => lab_C (Kd.C_below HC1.out hb))
              have hw5 : IntKind.i64.wrap (((RS.length + 1 : Nat) : Int) - 1) = (RS.length : Int) := by rw [IntKind.wrap_i64]; omega
              have hw6 : wrap64 (((RS.length + 1 : Nat) : Int) - 1) = (RS.length : Int) := (by rw [show ((RS.length + 1 : Nat) : Int) - 1 = (RS.length : Int) by omega]; exact wrap64_nat RS.length (by omega))
              have hw7 : IntKind.i64.wrap ((RS.length : Int) + 1 - 1) = (RS.length : Int) := by rw [IntKind.wrap_i64]; omega
              have hw8 : wrap64 ((RS.length : Int) + 1 - 1) = (RS.length : Int) := (by rw [show (RS.length : Int) + 1 - 1 = (RS.length : Int) by omega]; exact wrap64_nat RS.length (by omega))
              have hgz : (RS.length : Int) < (RS.length : Int) + 1 := by omega
              go_wp2_with (first
                | (go_at_call 104; (with_reducible refine (clone_labs A1 x.f2.length c1 (lcells x.f2) _ (lcells_len _) (lcells_one _) (HCL.out _ HBW2.out) (by omega)).mono ?_); rintro e w4 ⟨v4, rfl, ho4, hb4⟩; obtain ⟨A3, c3, rfl, hc3⟩ := own_slice ho4; have hb5 : Below W2.heap.size W2 (w4.alloc (.cells #[.slice A3 x.f2.length c3, .slice none 0 0] 53)) := hb4.alloc hb4.size _; have HC5 := Lib.hid (HCH.out.below hb5); have HB5 := Lib.hid (HBW2.out.trans (hb5.mono HSZ2.out)); have HSZ5 := Lib.hid (Nat.le_trans HSZ2.out hb5.size); have BX5 := Lib.hid (Blk.grown BX2.out (grown_below hb5) (fun e => by cases e)); have HL5 := Lib.hid (And.intro hc3 (own_below (own_le ho4 HSZ2.out) ((Below.refl _ _).alloc (Nat.le_refl _) (.cells #[.slice A3 x.f2.length c3, .slice none 0 0] 53)))); have HNW := Lib.hid (chk_news w4 A3 x.f2.length c3); clear hb4 hb5 ho4 hc3)
                | ((with_reducible refine gate_builtin (b := .append) (xs := #[.tmp 71, .tmp 76]) rfl ?_); at_builtin; refine wpList_append_own _ rfl _ _ 65 rfl w7.heap.size 53 i2 _ 2 48 Tryd.underlying65 hi2 hx0 hx1 hx2 rfl (by decide) _ RS.length (RS.flatMap RK.cells) rfl HC5.out.own ⟨w4.heap.size, 0, none⟩ 1 1 (RK.cells ⟨A3, c3, x.f2, none, 0, []⟩) rfl rfl HNW.out (RK.cells_one _) (by unfold maxLen; omega) (by omega) HSZ5.out ?_; intro v5 w5 hown5 hgrow5 _; obtain ⟨r5, hr5⟩ : ∃ r5 : RK, r5 = ⟨A3, c3, x.f2, none, 0, []⟩ := ⟨_, rfl⟩; have hgi5 := GI.push HC5.out (Nat.le_trans HSZ5.out hgrow5.size) (by decide) (by decide) hown5 hgrow5 HL5.out; rw [← hr5] at hgi5; obtain ⟨g5, c5, Bl, rfl, hc5, hpa⟩ := PreA.mk' hgi5 (Blk.grown BX5.out hgrow5 (own_ne_blk HC5.out.own BX5.out (by decide))) (HB5.out.grown hgrow5 HSZ5.out (fun k e => own_ge HC5.out.own e)) (Nat.le_trans HSZ5.out hgrow5.size); have f0 := hpa.bx.cell 0 _ rfl; have f1 := hpa.bx.cell 1 _ rfl; have f3 := hpa.bx.cell 3 _ rfl; have f4 := hpa.cells.1; have HPA5 := Lib.hid hpa; have HR5 := Lib.hid hr5; have HK5 : Hid (r5.rows.length ≤ 1000) := Lib.hid (by rw [hr5]; exact Nat.zero_le _); clear hown5 hgrow5 hgi5 hpa hr5))
              have HPD := Lib.hid (HPA5.out.below (Below.refl _ _).drew)
              have HPA6 := Lib.hid (HPD.out.below ((Below.refl _ _).alloc (Nat.le_refl _) (.cells #[.int .i64 x.f0, .int .i64 x.f1, .string x.f3] 71)))
              have hs0 := And.intro HPD.out.cells.1 (And.intro (HPD.out.bx.cell 0 _ rfl) (And.intro (HPD.out.bx.cell 1 _ rfl) (HPD.out.bx.cell 3 _ rfl)))
              have hs1 := And.intro HPA6.out.cells.1 (And.intro (HPA6.out.bx.cell 0 _ rfl) (And.intro (HPA6.out.bx.cell 1 _ rfl) (HPA6.out.bx.cell 3 _ rfl)))
              refine (wpIn_wide (n := 1)).1 ?_
              refine region_held_g (z := 16) (S := fun w' => w'.cell? ⟨g5, RS.length * 2 + 1, none⟩ = some (.slice r5.A2 r5.rows.length r5.c2) ∧ w'.cell? ⟨wr.heap.size, 0, none⟩ = some (.int .i64 x.f0) ∧ w'.cell? ⟨wr.heap.size, 1, none⟩ = some (.int .i64 x.f1) ∧ w'.cell? ⟨wr.heap.size, 3, none⟩ = some (.string x.f3)) (by kernel_rfl) ?_
              refine AnyG.take' (i := 0) (d := some 83) ⟨fun _ => trivial, fun i o hi => plainOps_spec (by kernel_rfl) hi⟩ rfl (by kernel_rfl) (by kernel_rfl) (by kernel_rfl) (by kernel_rfl) (by kernel_rfl) (fun _ _ _ h => h) hs0 (v := ?v0b) (Or.inl ⟨by first | (go_simp; done) | rfl, fun w' hw' => ?y0b⟩) ?_
              case y0b => go_simp; (try rfl)
              simp only [Act.put, List.setIfInBounds_toArray, List.set_cons_zero, List.set_cons_succ]
              refine AnyG.take' (i := 1) (d := some 84) ⟨fun _ => trivial, fun i o hi => plainOps_spec (by kernel_rfl) hi⟩ rfl (by kernel_rfl) (by kernel_rfl) (by kernel_rfl) (by kernel_rfl) (by kernel_rfl) (fun _ _ _ h => h) hs0 (v := ?v1b) (Or.inl ⟨by first | (go_simp; done) | rfl, fun w' hw' => ?y1b⟩) ?_
              case y1b => go_simp; (try rfl)
              simp only [Act.put, List.setIfInBounds_toArray, List.set_cons_zero, List.set_cons_succ]
              refine AnyG.take' (i := 2) (d := some 85) ⟨fun _ => trivial, fun i o hi => plainOps_spec (by kernel_rfl) hi⟩ rfl (by kernel_rfl) (by kernel_rfl) (by kernel_rfl) (by kernel_rfl) (by kernel_rfl) (fun _ _ _ h => h) hs0 (v := ?v2b) (Or.inl ⟨by first | (go_simp; done) | rfl, fun w' hw' => ?y2b⟩) ?_
              case y2b => go_simp; (try rfl)
              simp only [Act.put, List.setIfInBounds_toArray, List.set_cons_zero, List.set_cons_succ]
              refine AnyG.take' (i := 3) (d := some 86) ⟨fun _ => trivial, fun i o hi => plainOps_spec (by kernel_rfl) hi⟩ rfl (by kernel_rfl) (by kernel_rfl) (by kernel_rfl) (by kernel_rfl) (by kernel_rfl) (fun _ _ _ h => h) hs0 (v := ?v3b) (Or.inl ⟨by first | (go_simp; done) | rfl, fun w' hw' => ?y3b⟩) ?_
              case y3b => go_simp; (try rfl)
              simp only [Act.put, List.setIfInBounds_toArray, List.set_cons_zero, List.set_cons_succ]
              refine AnyG.take' (i := 4) (d := some 87) ⟨fun _ => trivial, fun i o hi => plainOps_spec (by kernel_rfl) hi⟩ rfl (by kernel_rfl) (by kernel_rfl) (by kernel_rfl) (by kernel_rfl) (by kernel_rfl) (fun _ _ _ h => h) hs0 (v := ?v4b) (Or.inl ⟨by first | (go_simp; done) | rfl, fun w' hw' => ?y4b⟩) ?_
              case y4b => have z0 := hw'.1; go_simp; (try rfl)
              simp only [Act.put, List.setIfInBounds_toArray, List.set_cons_zero, List.set_cons_succ]
              refine AnyG.take' (i := 5) (d := some 88) ⟨fun _ => trivial, fun i o hi => plainOps_spec (by kernel_rfl) hi⟩ rfl (by kernel_rfl) (by kernel_rfl) (by kernel_rfl) (by kernel_rfl) (by kernel_rfl) (fun _ _ _ h => h) hs0 (v := ?v5b) (Or.inl ⟨by first | (go_simp; done) | rfl, fun w' hw' => ?y5b⟩) ?_
              case y5b => go_simp; (try rfl)
              simp only [Act.put, List.setIfInBounds_toArray, List.set_cons_zero, List.set_cons_succ]
              refine AnyG.take' (i := 6) (d := some 89) ⟨fun _ => trivial, fun i o hi => plainOps_spec (by kernel_rfl) hi⟩ rfl (by kernel_rfl) (by kernel_rfl) (by kernel_rfl) (by kernel_rfl) (by kernel_rfl) (fun _ _ _ h => h) hs0 (v := ?v6b) (Or.inl ⟨by first | (go_simp; done) | rfl, fun w' hw' => ?y6b⟩) ?_
              case y6b => have z0 := hw'.2.1; go_simp; (try rfl)
              simp only [Act.put, List.setIfInBounds_toArray, List.set_cons_zero, List.set_cons_succ]
              refine AnyG.take' (i := 7) (d := some 90) ⟨fun _ => trivial, fun i o hi => plainOps_spec (by kernel_rfl) hi⟩ rfl (by kernel_rfl) (by kernel_rfl) (by kernel_rfl) (by kernel_rfl) (by kernel_rfl) (fun _ _ _ h => h) hs0 (v := ?v7b) (Or.inl ⟨by first | (go_simp; done) | rfl, fun w' hw' => ?y7b⟩) ?_
              case y7b => go_simp; (try rfl)
              simp only [Act.put, List.setIfInBounds_toArray, List.set_cons_zero, List.set_cons_succ]
              refine AnyG.take' (i := 8) (d := some 91) ⟨fun _ => trivial, fun i o hi => plainOps_spec (by kernel_rfl) hi⟩ rfl (by kernel_rfl) (by kernel_rfl) (by kernel_rfl) (by kernel_rfl) (by kernel_rfl) (fun _ _ _ h => h) hs0 (v := ?v8b) (Or.inl ⟨by first | (go_simp; done) | rfl, fun w' hw' => ?y8b⟩) ?_
              case y8b => have z0 := hw'.2.2.1; go_simp; (try rfl)
              simp only [Act.put, List.setIfInBounds_toArray, List.set_cons_zero, List.set_cons_succ]
              refine AnyG.take' (i := 9) (d := some 92) ⟨fun _ => trivial, fun i o hi => plainOps_spec (by kernel_rfl) hi⟩ rfl (by kernel_rfl) (by kernel_rfl) (by kernel_rfl) (by kernel_rfl) (by kernel_rfl) (fun _ _ _ h => h) hs0 (v := ?v9b) (Or.inl ⟨by first | (go_simp; done) | rfl, fun w' hw' => ?y9b⟩) ?_
              case y9b => go_simp; (try rfl)
              simp only [Act.put, List.setIfInBounds_toArray, List.set_cons_zero, List.set_cons_succ]
              refine AnyG.take' (i := 10) (d := some 93) ⟨fun _ => trivial, fun i o hi => plainOps_spec (by kernel_rfl) hi⟩ rfl (by kernel_rfl) (by kernel_rfl) (by kernel_rfl) (by kernel_rfl) (by kernel_rfl) (fun _ _ _ h => h) hs0 (v := ?v10b) (Or.inl ⟨by first | (go_simp; done) | rfl, fun w' hw' => ?y10b⟩) ?_
              case y10b => have z0 := hw'.2.2.2; go_simp; (try rfl)
              simp only [Act.put, List.setIfInBounds_toArray, List.set_cons_zero, List.set_cons_succ]
              refine AnyG.take' (i := 11) (d := some 94) ⟨fun _ => trivial, fun i o hi => plainOps_spec (by kernel_rfl) hi⟩ rfl (by kernel_rfl) (by kernel_rfl) (by kernel_rfl) (by kernel_rfl) (by kernel_rfl) (fun _ _ _ h => h) hs0 (v := ?v11b) (Or.inl ⟨by first | (go_simp; done) | rfl, fun w' hw' => ?y11b⟩) ?_
              case y11b => go_simp; (try rfl)
              simp only [Act.put, List.setIfInBounds_toArray, List.set_cons_zero, List.set_cons_succ]
              refine AnyG.one (i := 12) rfl (by kernel_rfl) ?_
              intro K hK
              go_simp
              refine hK _ _ (fun _ => hs1) ?_
              clear hK
              refine AnyG.one (i := 13) rfl (by kernel_rfl) ?_
              intro K hK
              refine stepIn_append_own _ rfl (.tmp 87) (.tmp 95) 51 rfl Bl 71 i3 _ 3 32 Tryd.underlying51 hi3 hy0 hy1 hy2 rfl (by decide) _ r5.rows.length (rcells r5.rows) rfl HPA6.out.own ⟨w5.heap.size, 0, none⟩ 1 1 [.int .i64 x.f0, .int .i64 x.f1, .string x.f3] rfl rfl
                (row_news w5.drew (rowE x)) (one3 (rowE x)) (by have := HK5.out; unfold maxLen; omega) (by have := HK5.out; omega) HPA6.out.hBl ?_
              intro v6 w6 hown6 hgrow6
              obtain ⟨A6, c6, rfl, hc6⟩ := own_slice hown6
              obtain ⟨⟨k1, k2⟩, hg6, hb6, b6, b7⟩ := HPA6.out.after (by decide) (by decide) (by decide) (by decide) (by decide) hown6 hgrow6 hc6
              have HG6 := Lib.hid hg6
              have HB6 := Lib.hid hb6
              have hs2 := And.intro k1 (And.intro (b6.cell 0 _ rfl) (And.intro (b6.cell 1 _ rfl) (b6.cell 3 _ rfl)))
              clear hown6 hgrow6 hc6 hg6 hb6 b6 b7
              refine hK _ _ (fun _ => hs2) ?_
              clear hK
              simp only [Act.put, List.setIfInBounds_toArray, List.set_cons_zero, List.set_cons_succ]
              refine AnyG.one (i := 14) rfl (by kernel_rfl) ?_
              intro K hK
              go_simp
              refine hK _ _ (fun _ => hs2) ?_
              clear hK
              refine AnyG.one (i := 15) rfl (by kernel_rfl) ?_
              intro K hK
              go_simp
              refine hK _ _ (fun _ => hs2) ?_
              clear hK
              refine AnyG.one (i := 16) rfl (by kernel_rfl) ?_
              intro K hK
              go_simp
              refine hK _ _ (fun h => absurd rfl h) ?_
              clear hK
              refine AnyG.done (by kernel_rfl) ?_ _
              clear hs0 hs1 hs2
              go_wp2_with fail
              go_roundw
              case rel =>
                refine ⟨j + 1 + 1, by go_num, by omega, HB6.out, .inr ⟨RS, ⟨r5.A1, r5.c1, r5.ls, A6, c6, r5.rows ++ [rowE x]⟩, by omega, ?_, HG6.out⟩⟩
                rw [HSUC.out, HRX.out, List.map_append, HR5.out]; rfl
              case measure => simp [intOf]; omega
        · have hltz : ¬ (i : Int) < (n : Int) := by omega
          obtain rfl : i = n := by omega
          obtain ⟨hbw, hst⟩ := HI.out
          have HBW := Lib.hid hbw
          clear hbw HI
          rcases hst with ⟨hi0, _⟩ | ⟨rs, r, hi1, hrs, hgi⟩
          · omega
          rw [List.take_of_length_le (Nat.le_of_eq HLN.out)] at hrs
          obtain ⟨g, c7, rfl, hgB, hgl, hgc, x0, x1, xf⟩ := hgi.out
          have HALL := Lib.hid hgi.all
          have HRS := Lib.hid hrs
          clear hgi hrs x0 x1 xf
          go_wp2_with fail
          go_ret
          refine ⟨some ⟨g, 0, none⟩, c7, rs ++ [r], by rw [List.length_append, List.length_singleton]; rfl, HRS.out, ?_, HB7.out.trans (HBW.out.mono HB7.out.size)⟩
          rw [List.length_append, List.length_singleton]
          exact HALL.out.le HB7.out.size
end Go.Proofs.YtojocffjajcdmaaDoor.RF
