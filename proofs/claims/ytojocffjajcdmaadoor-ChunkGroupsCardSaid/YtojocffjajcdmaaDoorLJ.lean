/- The reference's Group: walked. (Printed by mkZ9.py.) -/
import Derived.Test.YtojocffjajcdmaaDoorLI
import Derived.Test.YtojocffjajcdmaaDoorLE
import Derived.Test.YtojocffjajcdmaaDoorLO
import Derived.Test.YtojocffjajcdmaaDoorLV
import Derived.Test.YtojocffjajcdmaaDoorLH
import Derived.Test.YtojocffjajcdmaaDoorLQ
import Derived.Test.YtojocffjajcdmaaDoorLF
namespace Go.Proofs.YtojocffjajcdmaaDoor.RF
open Go Go.RowKit Go.Shelf Go.Sort Go.Proofs.YtojocffjajcdmaaDoor Go.Proofs.YtojocffjajcdmaaDoor.RS Go.Proofs.YtojocffjajcdmaaDoorW.PrintWords Go.Proofs.YtojocffjajcdmaaDoorW.PrintLast Go.Proofs.YtojocffjajcdmaaDoorW.PrintMore PChunkAll
set_option linter.unusedVariables false
set_option linter.unusedSimpArgs false

abbrev NoC (r : RE) : Prop := r.A = none → r.c = 0
/-- The sorted entries, as they lie. -/
structure GoodR (G : List S33) (n : Nat) (rs : List RE) (A : Option Addr) (W : World) : Prop where
  map : rs.map (·.x) = G
  len : rs.length = n
  row : RowC W A (rs.flatMap RE.cells)
  ok : ∀ r ∈ rs, r.ok W ∧ NoC r ∧ r.x.f2.length < 4398046511104
theorem GoodR.below {G : List S33} {n : Nat} {rs : List RE} {A : Option Addr} {W W' : World} (h : GoodR G n rs A W) (hb : Below W.heap.size W W') : GoodR G n rs A W' :=
  ⟨h.map, h.len, h.row.below hb, fun r hr => ⟨(h.ok r hr).1.below hb, (h.ok r hr).2⟩⟩
theorem GoodR.at {G : List S33} {n : Nat} {rs : List RE} {A : Option Addr} {W : World} (h : GoodR G n rs A W) (hn : 0 < n) :
    ∃ b o, A = some ⟨b, o, none⟩ ∧ ∀ i (hi : i < rs.length), W.cell? ⟨b, o + i * 4, none⟩ = some (.int .i64 rs[i].x.f0) ∧ W.cell? ⟨b, o + i * 4 + 1, none⟩ = some (.int .i64 rs[i].x.f1) ∧ W.cell? ⟨b, o + i * 4 + 2, none⟩ = some (.slice rs[i].A rs[i].x.f2.length rs[i].c) ∧ W.cell? ⟨b, o + i * 4 + 3, none⟩ = some (.string rs[i].x.f3) := by
  obtain ⟨b, o, e, hc⟩ := h.row (by rw [flat_len RE.cells 4 RE.cells_len, h.len]; omega)
  refine ⟨b, o, e, fun i hi => ?_⟩
  have hg : ∀ j u, j < 4 → rs[i].cells[j]? = some u → W.cell? ⟨b, o + i * 4 + j, none⟩ = some u := by
    intro j u hj hu
    have := hc (i * 4 + j) u ((flat_get RE.cells 4 RE.cells_len rs i j hi hj).trans hu)
    rwa [← Nat.add_assoc] at this
  exact ⟨hg 0 _ (by decide) rfl, hg 1 _ (by decide) rfl, hg 2 _ (by decide) rfl, hg 3 _ (by decide) rfl⟩
theorem noneC_at {w : World} {b o n i : Nat} (h : NoneC w (some ⟨b, o, none⟩) n) (hi : i < n) {A1 : Option Addr} {m c1 : Nat} (hc : w.cell? ⟨b, o + i * 4 + 2, none⟩ = some (.slice A1 m c1)) : A1 = none → c1 = 0 := by
  intro e
  subst e
  exact h b o rfl i hi m c1 hc
theorem sz_at {l : List S33} (h : SzE l) {i : Nat} (hi : i < l.length) : SzOk l[i].f2 := by
  have := h i hi
  rwa [show l.getD i z33 = l[i] by simp [hi]] at this
theorem good_of {g : List S33} {rs : List RE} {A : Option Addr} {c : Nat} {w W : World} (hm : rs.map (·.x) = g) (hE : EntsOk g) (hok : ∀ r ∈ rs, r.ok w ∧ NoC r) (hb : Below w.heap.size w W) {B : Nat} (ho : W.ownsRow B 33 4 (.slice A rs.length c) rs.length ((ST.srt (ltOf cfE) rs).flatMap RE.cells)) :
    GoodR (sortE g) rs.length (ST.srt (ltOf cfE) rs) A W := by
  refine ⟨by rw [ST.srt_map (·.x) (ltOf cfE) ltE (fun x y => rfl), hm]; rfl, ST.srt_length _ _, own_rowC ho, fun r hr => ?_⟩
  have h1 := hok r ((ST.srt_perm _ _).mem_iff.1 hr)
  refine ⟨h1.1.below hb, h1.2, lens_of hE ?_⟩
  rw [← hm]
  exact List.mem_map_of_mem ((ST.srt_perm _ _).mem_iff.1 hr)
/-! ### The sets of labels -/
structure LR where
  A : Option Addr
  c : Nat
  ls : List S112
def LR.cell (s : LR) : Value := .slice s.A s.ls.length s.c
def lcs (ss : List LR) : List Value := ss.map LR.cell
theorem lcs_len (ss : List LR) : (lcs ss).length = ss.length * 1 := by simp [lcs]
theorem lcs_one (ss : List LR) : ∀ u ∈ lcs ss, u.oneCell' = true := by
  intro u hu
  obtain ⟨s, _, rfl⟩ := List.mem_map.1 hu
  rfl
theorem lcs_get (ss : List LR) (m : Nat) (h : m < ss.length) : (lcs ss)[m]? = some (.slice ss[m].A ss[m].ls.length ss[m].c) := by
  unfold lcs
  rw [List.getElem?_map, List.getElem?_eq_getElem h]; rfl
theorem lrow_take {w : World} {A : Option Addr} {ss : List LR} (h : RowC w A (lcs ss)) (p : Nat) : RowC w A (lcs (ss.take p)) := fun hp => by
  rw [lcs_len, List.length_take] at hp
  obtain ⟨b, o, e, hc⟩ := h (by rw [lcs_len]; omega)
  refine ⟨b, o, e, fun j u hu => hc j u ?_⟩
  unfold lcs at hu ⊢
  rw [List.map_take, List.getElem?_take] at hu
  split at hu
  · exact hu
  · cases hu
theorem lrow_drop {w : World} {b o : Nat} {ss : List LR} (h : RowC w (some ⟨b, o, none⟩) (lcs ss)) (p : Nat) : RowC w (some ⟨b, o + p * 1, none⟩) (lcs (ss.drop p)) := fun hp => by
  rw [lcs_len, List.length_drop] at hp
  obtain ⟨b', o', e, hc⟩ := h (by rw [lcs_len]; omega)
  injection e with e; injection e with e1 e2
  subst e1; subst e2
  refine ⟨b, o + p * 1, rfl, fun j u hu => ?_⟩
  unfold lcs at hu hc
  rw [List.map_drop, List.getElem?_drop] at hu
  have := hc _ u hu
  rwa [← Nat.add_assoc, ← Nat.mul_one p] at this
/-- A list of labels that lies in world w. -/
def LOk (w : World) (s : LR) : Prop := s.ls.length ≤ s.c ∧ Kd.C k112 w s.A s.ls.length s.ls ∧ (s.A = none → s.c = 0) ∧ s.ls.length < 4398046511104
def insLR (ss : List LR) (r : RE) (p : Nat) : List LR := ss.take p ++ ⟨r.A, r.c, r.x.f2⟩ :: ss.drop p
theorem ins_lr {W : World} {base k p : Nat} {v : Value} {ss : List LR} {r : RE} (hl : ss.length = k) (hm : p ≤ k)
    (h : W.ownsRow base 31 1 v (0 + p + 1 + (k - p)) ((([] ++ lcs (ss.take p)) ++ [.slice r.A r.x.f2.length r.c]) ++ lcs (ss.drop p))) : W.ownsRow base 31 1 v (k + 1) (lcs (insLR ss r p)) := by
  have e : lcs (insLR ss r p) = (([] ++ lcs (ss.take p)) ++ [.slice r.A r.x.f2.length r.c]) ++ lcs (ss.drop p) := by
    simp [insLR, lcs, LR.cell]
  rw [e]
  have e2 : 0 + p + 1 + (k - p) = k + 1 := by omega
  rw [e2] at h
  exact h
theorem insLR_len {ss : List LR} {r : RE} {p k : Nat} (hl : ss.length = k) (hm : p ≤ k) : (insLR ss r p).length = k + 1 := by simp [insLR]; omega
theorem insLR_ok {w : World} {ss : List LR} {r : RE} {p : Nat} (h : ∀ s ∈ ss, LOk w s) (hr : r.ok w ∧ NoC r ∧ r.x.f2.length < 4398046511104) : ∀ s ∈ insLR ss r p, LOk w s := by
  intro s hs
  rcases List.mem_append.1 hs with hs | hs
  · exact h s (List.mem_of_mem_take hs)
  · rcases List.mem_cons.1 hs with rfl | hs
    · exact ⟨hr.1.1, hr.1.2, hr.2.1, hr.2.2⟩
    · exact h s (List.mem_of_mem_drop hs)
theorem insLR_ls {ss : List LR} {r : RE} {p k : Nat} (hl : ss.length = k) (hp : posK r.x.f2 (ss.map (·.ls)) k = p) (hne : ¬ (0 < p ∧ cmpL r.x.f2 ((ss.map (·.ls)).getD (p - 1) []) = 0)) : (insLR ss r p).map (·.ls) = insK (ss.map (·.ls)) r.x.f2 := by
  unfold insK
  rw [List.length_map, hl, hp, if_neg hne]
  simp [insLR]
theorem insK_same {ss : List LR} {r : RE} {p k : Nat} (hl : ss.length = k) (hp : posK r.x.f2 (ss.map (·.ls)) k = p) (he : 0 < p ∧ cmpL r.x.f2 ((ss.map (·.ls)).getD (p - 1) []) = 0) : insK (ss.map (·.ls)) r.x.f2 = ss.map (·.ls) := by
  unfold insK
  rw [List.length_map, hl, hp, if_pos he]
theorem getD_ls {ss : List LR} {m : Nat} (h : m < ss.length) : (ss.map (·.ls)).getD m [] = ss[m].ls := by simp [h]
def SetsRel (G : List S33) (w6 : World) (i : Nat) (v : Value) (wr : World) : Prop :=
  ∃ (k : Nat) (ss : List LR), ss.length = k ∧ k ≤ i ∧ ss.map (·.ls) = setsOf (G.take i) ∧ wr.ownsRow w6.heap.size 31 1 v k (lcs ss) ∧ (∀ s ∈ ss, LOk w6 s) ∧ Below w6.heap.size w6 wr
theorem good_get {G : List S33} {n : Nat} {rs : List RE} {A : Option Addr} {W : World} (h : GoodR G n rs A W) {i : Nat} (hi : i < rs.length) : ∃ hg : i < G.length, G[i] = rs[i].x := by
  have e := h.map
  subst e
  exact ⟨by simpa using hi, by simp⟩
theorem info31 : (Tryd.prog.info? 31).map (fun i => (i.zero, i.size, i.bytes)) = some (some (.slice none 0 0), 1, 24) := by kernel_rfl
/-! ### The chunks of the sets -/
def OutRel (G : List S33) (w7 : World) (s : Nat) (v : Value) (wr : World) : Prop :=
  ∃ rs : List RK, rs.map RK.x = grpR ((setsOf G).take s) G [] ∧ ChksO 50 93 w7.heap.size v rs wr ∧ Below w7.heap.size w7 wr
def InRel (G : List S33) (key : List S112) (out0 : List CH) (w7 : World) (bc i : Nat) (v : Value) (wi : World) : Prop :=
  ∃ (rs : List RK) (r : RK) (Bl : Nat), rs.map RK.x = (setR key (G.take i) out0).1 ∧ r.ls = key ∧ r.rows = (setR key (G.take i) out0).2 ∧ CI w7.heap.size w7 v rs r bc Bl wi
theorem in_len {G : List S33} {s i : Nat} {rs : List RK} (hs : s < (setsOf G).length) (h : rs.map RK.x = (setR (setsOf G)[s] (G.take i) (grpR ((setsOf G).take s) G [])).1) : rs.length < G.length := by
  have h1 := setR_len G s i hs
  have h2 := congrArg List.length h
  rw [List.length_map] at h2
  omega
theorem row_news93 (w2 : World) (x : S71) : ∀ j u, ([.int .i64 x.f0, .int .i64 x.f1, .string x.f2] : List Value)[j]? = some u → (w2.alloc (.cells #[.int .i64 x.f0, .int .i64 x.f1, .string x.f2] 93)).cell? (Addr.add ⟨w2.heap.size, 0, none⟩ j) = some u := by
  intro j u hu
  rw [addr_add, Nat.zero_add]
  have hb : Blk (w2.alloc (.cells #[.int .i64 x.f0, .int .i64 x.f1, .string x.f2] 93)) w2.heap.size #[.int .i64 x.f0, .int .i64 x.f1, .string x.f2] 93 := Blk.new _ _ _ _ rfl
  exact hb.cell j u (by simpa using hu)

set_option maxRecDepth 100000 in
set_option maxHeartbeats 16000000 in
theorem rgroup_any (A : Option Addr) (c : Nat) (l : List S33) (w : World) (hr : Kd.C k33 w A l.length l) (hN : NoneC w A l.length) (hE : EntsOk l) (hS : SzE l) :
    Calls Tryd.prog 61 #[.slice A l.length c] w (SplP 50 93 w (grpR (setsOf (sortE (dedL l))) (sortE (dedL l)) [])) := by
  have HX := Lib.hid hr
  have HN := Lib.hid hN
  have HE := Lib.hid hE
  have HS := Lib.hid hS
  have hmx : l.length ≤ 2513169434916 := hE.1
  have hmm := @run_makeMap Tryd.prog
  obtain ⟨i0, hi0, hz0, hz1, hz2⟩ := info_parts info33
  clear hr hN hE hS
  go_enter Tryd.func61, Tryd.ntmps61
  go_wp2_with fail
  go_loopw [5, 3] (fun v5 v3 wr => ∃ i : Nat, v5 = .int .i64 (i : Int) ∧ i ≤ l.length ∧ Hid (GrRel NoC w l i v3 wr)) (fun v5 _ _ => l.length - (intOf v5).toNat)
  case atStart => exact ⟨0, rfl, Nat.zero_le _, [], G1.start w⟩
  case round =>
    obtain ⟨i, rfl, hi, HI⟩ := hrel
    obtain ⟨rs, hg⟩ := HI.out
    obtain ⟨A7, q7, rfl, hq7⟩ := own_slice hg.own
    by_cases hlt : i < l.length
    · have hltz : (i : Int) < (l.length : Int) := by omega
      obtain ⟨b, o, rfl, hx⟩ := ents_at HX.out (by omega)
      obtain ⟨A1, c1, y0, y1, y2, y3, y4, y5⟩ := hx i hlt
      rw [show l.getD i z33 = l[i] by simp [hlt]] at y0 y1 y2 y3 y4 y5
      have p0 := pw_cell_below hg.low y0
      have p1 := pw_cell_below hg.low y1
      have p2 := pw_cell_below hg.low y2
      have p3 := pw_cell_below hg.low y3
      have hwx := wf_at HE.out hlt
      have HNY : Hid (newE (dedL (l.take i)) l[i] = true → dedL (l.take (i + 1)) = dedL (l.take i) ++ [l[i]]) := Lib.hid (dedL_yes l i hlt)
      have HNN : Hid (newE (dedL (l.take i)) l[i] = false → dedL (l.take (i + 1)) = dedL (l.take i)) := Lib.hid (dedL_no l i hlt)
      have hol : (dedL (l.take i)).length ≤ i := by have := dedL_len (l.take i); rw [List.length_take] at this; omega
      have hcr := rrightE_any l[i] A1 c1 _ (Kd.C_below y5 hg.low) (sz_at HS.out hlt)
      have HGA := Lib.hid hg
      have HOK : Hid (RE.ok w ⟨l[i], A1, c1, 0⟩ ∧ NoC ⟨l[i], A1, c1, 0⟩) := Lib.hid ⟨⟨y4, y5⟩, noneC_at HN.out hlt y2⟩
      have HRL : Hid (rs.length ≤ i) := Lib.hid (by rw [hg.len]; exact hol)
      have HY := Lib.hid (And.intro y0 (And.intro y1 (And.intro y2 y3)))
      clear hx y0 y1 y2 y3 y4 y5 hg HI
      generalize l[i] = x at *
      generalize dedL (l.take i) = out at *
      cases hR : rightE x
      · rw [hR] at hcr
        have HNW : Hid (newE out x = false) := Lib.hid (by unfold newE; rw [hR]; rfl)
        have HC := Lib.hid hcr
        clear hcr
        go_wp2_with (go_at_call 30; (with_reducible refine (HC.out).mono ?_); rintro e w5 ⟨rfl, hb5⟩; have HG5 := Lib.hid (HGA.out.grown hb5); clear hb5)
        go_roundw
        case rel => exact ⟨i + 1, by go_num, by omega, rs, by rw [HNN.out HNW.out]; exact HG5.out⟩
        case measure => simp [intOf]; omega
      · rw [hR] at hcr
        have HC := Lib.hid hcr
        clear hcr
        cases hS : (out.map (·.f0)).contains x.f0
        · have HNE : Hid (newE out x = true) := Lib.hid (by unfold newE; rw [hR, hS]; rfl)
          go_wp2_with (first
            | (go_at_call 30; (with_reducible refine (HC.out).mono ?_); rintro e w5 ⟨rfl, hb5⟩; have hg5 := HGA.out.grown hb5; have d0 := pw_cell_below hg5.low HY.out.1; have hl5 := hg5.met.lookup x.f0 hwx; rw [hS] at hl5; obtain ⟨W2, hrun, hg2, hgr⟩ := hg5.upd x.f0 hwx (by rw [List.length_map]; unfold maxLen; omega); have e0 := pw_cell_below hg2.low HY.out.1; have e1 := pw_cell_below hg2.low HY.out.2.1; have e2 := pw_cell_below hg2.low HY.out.2.2.1; have e3 := pw_cell_below hg2.low HY.out.2.2.2; have HG3 := Lib.hid (hg2.grown ((Below.refl _ _).alloc (Nat.le_refl _) (.cells (entC x A1 c1) 33))); have HNW := Lib.hid (rent_news W2 ⟨x, A1, c1, 0⟩); have HSZ : Hid (w.heap.size + 1 ≤ (W2.alloc (.cells (entC x A1 c1) 33)).heap.size) := Lib.hid (by have := hg2.met.lt; simp; omega); clear hb5 hg5 hg2 hgr)
            | ((with_reducible refine gate_builtin (b := .append) (xs := #[.tmp 41, .tmp 46]) rfl ?_); at_builtin; refine wpList_append_own _ rfl _ _ 22 rfl (w.heap.size + 1) 33 i0 _ 4 56 Tryd.underlying22 hi0 hz0 hz1 hz2 rfl (by decide) _ rs.length (rs.flatMap RE.cells) rfl HG3.out.own ⟨W2.heap.size, 0, none⟩ 1 1 (RE.cells ⟨x, A1, c1, 0⟩) rfl rfl HNW.out (RE.cells_one _) (by have := HRL.out; unfold maxLen; omega) (by have := HRL.out; omega) HSZ.out ?_; intro v' w3 hown hgrow _))
          go_roundw
          case rel =>
            refine ⟨i + 1, by go_num, by omega, rs ++ [⟨x, A1, c1, 0⟩], ?_⟩
            rw [HNY.out HNE.out, map_snoc0]
            exact HG3.out.push hown hgrow HOK.out
          case measure => simp [intOf]; omega
        · have HNE : Hid (newE out x = false) := Lib.hid (by unfold newE; rw [hR, hS]; rfl)
          go_wp2_with (go_at_call 30; (with_reducible refine (HC.out).mono ?_); rintro e w5 ⟨rfl, hb5⟩; have hg5 := HGA.out.grown hb5; have d0 := pw_cell_below hg5.low HY.out.1; have hl5 := hg5.met.lookup x.f0 hwx; rw [hS] at hl5; have HG5 := Lib.hid hg5; clear hb5 hg5)
          go_roundw
          case rel => exact ⟨i + 1, by go_num, by omega, rs, by rw [HNN.out HNE.out]; exact HG5.out⟩
          case measure => simp [intOf]; omega
    · have hltz : ¬ (i : Int) < (l.length : Int) := by omega
      obtain rfl : i = l.length := by omega
      rw [List.take_length] at hg
      have HEg := Lib.hid (dedL_ok HE.out)
      generalize dedL l = g at *
      have hrl : rs.length ≤ 2513169434916 := by rw [hg.len]; exact HEg.out.1
      have hs1 := rsort50 A7 q7 (rs.map RE.ent) wr (by rw [ecells_ent]; exact own_rowCells hg.own) (by rw [List.length_map]; exact hrl)
      rw [List.length_map] at hs1
      have HS1 := Lib.hid hs1
      have HGO := Lib.hid hg
      clear hs1 hg HI HX HN HS
      go_wp2_with (go_at_call 50; (with_reducible refine (HS1.out).mono ?_); rintro e w6 ⟨v6, rfl, ho6, hb6⟩; rw [sort_ent, ecells_ent, List.length_map] at ho6; obtain ⟨A6, c6, rfl, hc6⟩ := own_slice ho6; have HGR := Lib.hid (good_of HGO.out.map HEg.out HGO.out.ok (HGO.out.low.trans (hb6.mono (Nat.le_of_lt HGO.out.met.lt))) ho6); have HB6 := Lib.hid (HGO.out.low.trans (hb6.mono (Nat.le_of_lt HGO.out.met.lt))); clear ho6 hb6)
      generalize ST.srt (ltOf cfE) rs = rg at *
      obtain ⟨n, hn⟩ : ∃ n, n = rs.length := ⟨_, rfl⟩
      rw [← hn] at HGR hrl ⊢
      clear hn HS1 HGO HEg hq7
      generalize sortE g = G at *
      have hnn : n ≤ 2513169434916 := hrl
      obtain ⟨i9, hi9, hv0, hv1, hv2⟩ := info_parts info31
      go_loopw [7, 6] (fun v7 v6 wr => ∃ i : Nat, v7 = .int .i64 (i : Int) ∧ i ≤ n ∧ Hid (SetsRel G w6 i v6 wr)) (fun v7 _ _ => n - (intOf v7).toNat)
      case atStart => exact ⟨0, rfl, Nat.zero_le _, 0, [], rfl, Nat.le_refl _, rfl, World.ownsRow_nil _ _ _ _, fun s hs => (by cases hs), Below.refl _ _⟩
      case round =>
        obtain ⟨i, rfl, hi, HI⟩ := hrel
        obtain ⟨k, ss, hl, hki, hm, ho, hok, hbw⟩ := HI.out
        obtain ⟨Ao, co, rfl, hkc⟩ := own_slice ho
        by_cases hlt : i < n
        · have hltz : (i : Int) < (n : Int) := by omega
          obtain ⟨b, o, rfl, hx⟩ := HGR.out.at (by omega)
          have hri : i < rg.length := by rw [HGR.out.len]; exact hlt
          obtain ⟨_, _, y2, _⟩ := hx i hri
          obtain ⟨hgi, hge⟩ := good_get HGR.out hri
          have HSUC : Hid (setsOf (G.take (i + 1)) = insK (setsOf (G.take i)) rg[i].x.f2) := Lib.hid (by rw [← hge]; exact setsOf_succ G i hgi)
          have HROK := Lib.hid (HGR.out.ok _ (List.getElem_mem hri))
          have HY := Lib.hid y2
          have HL := Lib.hid hl
          have HM := Lib.hid hm
          have HO := Lib.hid ho
          have HOKS := Lib.hid hok
          have HBW := Lib.hid hbw
          clear hx y2 hgi hge hl hm ho hok hbw HI
          generalize rg[i] = r at *
          obtain ⟨wo, rfl⟩ : ∃ wo : World, wo = wr := ⟨_, rfl⟩
          go_wp2_with fail
          go_loopw [8] (fun v8 wi => ∃ j : Nat, v8 = .int .i64 (j : Int) ∧ j ≤ k ∧ Hid (posK r.x.f2 (ss.map (·.ls)) k = posK r.x.f2 (ss.map (·.ls)) j ∧ Below wo.heap.size wo wi)) (fun v8 _ => (intOf v8).toNat)
          case atStart => exact ⟨k, rfl, Nat.le_refl _, rfl, Below.refl _ _⟩
          case round =>
            obtain ⟨j, rfl, hj, HBI⟩ := hrel
            rcases Nat.eq_zero_or_pos j with h0 | hj0
            · subst h0
              go_wp2_with fail
              go_quiet (fail)
              have hb1 := pw_below_drewN (HBI.out.2) nq
              generalize wr.drewN nq = w1 at hb1 ⊢
              go_wp2_with fail
              go_quiet (fail)
              have hb2 := pw_below_drewN hb1 nq
              generalize w1.drewN nq = w2 at hb2 ⊢
              have HBW2 := Lib.hid (HBW.out.trans (hb2.mono HBW.out.size))
              have HO2 := Lib.hid (own_below HO.out hb2)
              obtain ⟨p, hp0, hpz⟩ : ∃ p : Nat, Value.int IntKind.i64 0 = Value.int IntKind.i64 (p : Int) ∧ p = 0 := ⟨0, rfl, rfl⟩
              rw [hp0]
              have hpos : posK r.x.f2 (ss.map (·.ls)) k = p := by rw [HBI.out.1, hpz]; rfl
              have HINS : Hid ((insLR ss r p).map (·.ls) = setsOf (G.take (i + 1))) := Lib.hid (by rw [HSUC.out, ← HM.out]; exact insLR_ls HL.out hpos (by omega))
              have hm4 : p ≤ k := by omega
              clear hb1 hb2 hp0 hpz hpos
              rcases Ao with _ | ad
              · have hm1 : (p : Int) ≤ (k : Int) := by omega
                have hm2 : (p : Int) ≤ (co : Int) := by omega
                have hm5 : p ≤ co := by omega
                have q2 := pw_cell_below HBW2.out HY.out
                have HSS : ∀ w', Below w2.heap.size w2 w' → (w'.cell? ⟨b, o + i * 4 + 2, none⟩ = some (.slice r.A r.x.f2.length r.c) ∧ Below w2.heap.size w2 w') := fun w' hK => ⟨pw_cell_below hK q2, hK⟩
                have hc0 : co = 0 := own_nilcap HO2.out rfl
                have hk0 : k = 0 := by omega
                have hout : ss = [] := List.eq_nil_of_length_eq_zero (by have := HL.out; omega)
                have hco1 : co - p = 0 := by omega
                have hco2 : co = p := by omega
                have hdn : ss.drop p = [] := by rw [hout]; simp
                have HCO := Lib.hid hc0
                have HT1 : Hid (∀ W, Below w2.heap.size w2 W → RowCells W none (lcs (ss.take p))) := Lib.hid (fun W _ hp => by rw [hout] at hp; simp [lcs] at hp)
                have HT3 : Hid (∀ W, Below w2.heap.size w2 W → RowCells W none (lcs (ss.drop p))) := Lib.hid (fun W _ hp => by rw [hdn] at hp; simp [lcs] at hp)
                clear hc0 hout hk0
                all_goals go_wp2_with fail
                all_goals go_region_held_law (fun w' => w'.cell? ⟨b, o + i * 4 + 2, none⟩ = some (.slice r.A r.x.f2.length r.c) ∧ Below w2.heap.size w2 w')
                  (first
                    | exact HSS _ (Below.refl _ _)
                    | exact HSS _ (Below.refl _ _).drew
                    | exact HSS _ hB8 | exact HSS _ hB7 | exact HSS _ hB6 | exact HSS _ hB7.drew | exact HSS _ hB6.drew
                    | exact HSS _ ((Below.refl _ _).alloc (Nat.le_refl _) _).drew
                    | exact HSS _ (((Below.refl _ _).alloc (Nat.le_refl _) _).alloc (by simp) _).drew
                    | exact HSS _ (hB6.alloc hB6.size _).drew
                    | exact HSS _ (hB6.alloc hB6.size _))
                  (first
                    | (refine step_append_row _ rfl (.tmp 92) (.tmp 95) 165 rfl w2.heap.size 31 i9 _ 1 24 Tryd.underlying165 hi9 hv0 hv1 hv2 rfl (by decide) _ 0 [] rfl
                        (by first | exact (own_madeE (Nat.le_refl _) rfl).drew2 | exact (own_below (own_madeE (Nat.le_refl _) rfl) ((Below.refl _ _).alloc (Nat.le_refl _) _)).drew2 | exact (own_madeE (by simp) (by simp)).drew2)
                        _ _ _ (lcs (ss.take p)) rfl (by intro _; have := HCO.out; omega) (by omega) (by rw [lcs_len, List.length_take]; have := HL.out; omega)
                        (by first | exact HT1.out _ ((Below.refl _ _).alloc (Nat.le_refl _) _).drew | exact HT1.out _ (((Below.refl _ _).alloc (Nat.le_refl _) _).alloc (by simp) _).drew)
                        (lcs_one _) (by unfold maxLen; omega) (by omega) (by simp only [World.size_alloc, World.size_drew]; omega) ?_
                       intro v6 w6' hown6 hgrow6
                       have hB6 : Below w2.heap.size w2 w6' := by
                         first
                           | exact ((Below.refl _ _).alloc (Nat.le_refl _) _).drew.grown hgrow6 (by simp only [World.size_alloc, World.size_drew]; omega) (by intro q hq; simp [Value.ownBlock, Act.eval, Act.put] at hq; omega)
                           | exact (((Below.refl _ _).alloc (Nat.le_refl _) _).alloc (by simp) _).drew.grown hgrow6 (by simp only [World.size_alloc, World.size_drew]; omega) (by intro q hq; simp [Value.ownBlock, Act.eval, Act.put] at hq; omega))
                    | (refine step_append_row _ rfl (.tmp 96) (.tmp 102) 165 rfl w2.heap.size 31 i9 _ 1 24 Tryd.underlying165 hi9 hv0 hv1 hv2 rfl (by decide) _ (0 + p) ([] ++ lcs (ss.take p)) rfl
                        (by first | exact hown6 | exact hown6.alloc _ | exact (hown6.alloc _).drew2 | exact hown6.drew2)
                        _ 1 1 [.slice r.A r.x.f2.length r.c] rfl (by intro e; cases e) (Nat.le_refl _) rfl
                        (by first
                          | exact rowCells_new (cs := #[.slice r.A r.x.f2.length r.c]) rfl
                          | exact rowCells_grown (cs := #[.slice r.A r.x.f2.length r.c]) (t := 31) ((Blk.new _ _ _ _ (by simp)).drew) hgrow6 (by simp [Value.ownBlock, Act.eval, Act.put])
                          | exact rowCells_grown (cs := #[.slice r.A r.x.f2.length r.c]) (t := 31) (((Blk.new _ _ _ _ (by simp)).alloc _).drew) hgrow6 (by simp [Value.ownBlock, Act.eval, Act.put]))
                        (by simp [Value.oneCell']) (by unfold maxLen; omega) (by omega) (by have := hB6.size; simp <;> omega) ?_
                       intro v7 w7 hown7 hgrow7
                       have hB7 : Below w2.heap.size w2 w7 := by
                         first
                           | exact hB6.grown hgrow7 hB6.size (fun q hq => (hown6.lt q hq).1)
                           | exact (hB6.alloc hB6.size _).grown hgrow7 (by have := hB6.size; simp; omega) (fun q hq => (hown6.lt q hq).1))
                    | (refine step_append_row _ rfl (.tmp 103) (.tmp 106) 165 rfl w2.heap.size 31 i9 _ 1 24 Tryd.underlying165 hi9 hv0 hv1 hv2 rfl (by decide) _ (0 + p + 1) _ rfl
                        hown7 _ _ _ (lcs (ss.drop p)) rfl (by intro _; have := HCO.out; omega) (by omega) (by rw [lcs_len, List.length_drop, HL.out])
                        (by first | exact HT3.out _ hB7 | (have := HT3.out _ hB7; simpa using this) | (exact fun hp => by rw [hdn] at hp; simp [lcs] at hp)) (lcs_one _) (by unfold maxLen; omega) (by omega) hB7.size ?_
                       intro v8 w8 hown8 hgrow8
                       have hB8 : Below w2.heap.size w2 w8 := hB7.grown hgrow8 hB7.size (fun q hq => (hown7.lt q hq).1)))
                all_goals
                  have hfin := Lib.hid (ownsRow_lower (ins_lr HL.out hm4 hown8) HBW2.out.size)
                  have hbf := Lib.hid (HBW2.out.trans (hB8.mono HBW2.out.size))
                  clear hown8 hown7 hown6 hgrow8 hgrow7 hgrow6 hB6 hB7 hB8
                  go_wp2_with fail
                  go_roundw
                  case rel => exact ⟨i + 1, by go_num, by omega, k + 1, insLR ss r p, insLR_len HL.out hm4, by omega, HINS.out, hfin.out, insLR_ok HOKS.out HROK.out, hbf.out⟩
                  case measure => simp [intOf]; omega
              · obtain ⟨g, eg⟩ : ∃ g, ad = ⟨g, 0, none⟩ := own_addr HO2.out
                subst eg
                have hm1 : (p : Int) ≤ (k : Int) := by omega
                have hm2 : (p : Int) ≤ (co : Int) := by omega
                have hm5 : p ≤ co := by omega
                have q2 := pw_cell_below HBW2.out HY.out
                have HSS : ∀ w', Below w2.heap.size w2 w' → (w'.cell? ⟨b, o + i * 4 + 2, none⟩ = some (.slice r.A r.x.f2.length r.c) ∧ Below w2.heap.size w2 w') := fun w' hK => ⟨pw_cell_below hK q2, hK⟩
                have HT1 := Lib.hid (fun W (hW : Below w2.heap.size w2 W) => (lrow_take (own_rowC HO2.out) p).below hW)
                have HT3 := Lib.hid (fun W (hW : Below w2.heap.size w2 W) => (lrow_drop (own_rowC HO2.out) p).below hW)
                have hdd : (co - p = 0 ∧ co = p ∧ ss.drop p = []) ∨ (¬ (co - p = 0) ∧ ¬ (co = p)) := by
                  have := HL.out
                  by_cases hco : p = co
                  · exact .inl ⟨by omega, by omega, List.drop_eq_nil_of_le (by omega)⟩
                  · exact .inr ⟨by omega, by omega⟩
                rcases hdd with ⟨hco1, hco2, hdn⟩ | ⟨hco1, hco2⟩
                all_goals go_wp2_with fail
                all_goals go_region_held_law (fun w' => w'.cell? ⟨b, o + i * 4 + 2, none⟩ = some (.slice r.A r.x.f2.length r.c) ∧ Below w2.heap.size w2 w')
                  (first
                    | exact HSS _ (Below.refl _ _)
                    | exact HSS _ (Below.refl _ _).drew
                    | exact HSS _ hB8 | exact HSS _ hB7 | exact HSS _ hB6 | exact HSS _ hB7.drew | exact HSS _ hB6.drew
                    | exact HSS _ ((Below.refl _ _).alloc (Nat.le_refl _) _).drew
                    | exact HSS _ (((Below.refl _ _).alloc (Nat.le_refl _) _).alloc (by simp) _).drew
                    | exact HSS _ (hB6.alloc hB6.size _).drew
                    | exact HSS _ (hB6.alloc hB6.size _))
                  (first
                    | (refine step_append_row _ rfl (.tmp 92) (.tmp 95) 165 rfl w2.heap.size 31 i9 _ 1 24 Tryd.underlying165 hi9 hv0 hv1 hv2 rfl (by decide) _ 0 [] rfl
                        (by first | exact (own_madeE (Nat.le_refl _) rfl).drew2 | exact (own_below (own_madeE (Nat.le_refl _) rfl) ((Below.refl _ _).alloc (Nat.le_refl _) _)).drew2 | exact (own_madeE (by simp) (by simp)).drew2)
                        _ _ _ (lcs (ss.take p)) rfl (by intro e; cases e) (by omega) (by rw [lcs_len, List.length_take]; have := HL.out; omega)
                        (by first | exact HT1.out _ ((Below.refl _ _).alloc (Nat.le_refl _) _).drew | exact HT1.out _ (((Below.refl _ _).alloc (Nat.le_refl _) _).alloc (by simp) _).drew)
                        (lcs_one _) (by unfold maxLen; omega) (by omega) (by simp only [World.size_alloc, World.size_drew]; omega) ?_
                       intro v6 w6' hown6 hgrow6
                       have hB6 : Below w2.heap.size w2 w6' := by
                         first
                           | exact ((Below.refl _ _).alloc (Nat.le_refl _) _).drew.grown hgrow6 (by simp only [World.size_alloc, World.size_drew]; omega) (by intro q hq; simp [Value.ownBlock, Act.eval, Act.put] at hq; omega)
                           | exact (((Below.refl _ _).alloc (Nat.le_refl _) _).alloc (by simp) _).drew.grown hgrow6 (by simp only [World.size_alloc, World.size_drew]; omega) (by intro q hq; simp [Value.ownBlock, Act.eval, Act.put] at hq; omega))
                    | (refine step_append_row _ rfl (.tmp 96) (.tmp 102) 165 rfl w2.heap.size 31 i9 _ 1 24 Tryd.underlying165 hi9 hv0 hv1 hv2 rfl (by decide) _ (0 + p) ([] ++ lcs (ss.take p)) rfl
                        (by first | exact hown6 | exact hown6.alloc _ | exact (hown6.alloc _).drew2 | exact hown6.drew2)
                        _ 1 1 [.slice r.A r.x.f2.length r.c] rfl (by intro e; cases e) (Nat.le_refl _) rfl
                        (by first
                          | exact rowCells_new (cs := #[.slice r.A r.x.f2.length r.c]) rfl
                          | exact rowCells_grown (cs := #[.slice r.A r.x.f2.length r.c]) (t := 31) ((Blk.new _ _ _ _ (by simp)).drew) hgrow6 (by simp [Value.ownBlock, Act.eval, Act.put])
                          | exact rowCells_grown (cs := #[.slice r.A r.x.f2.length r.c]) (t := 31) (((Blk.new _ _ _ _ (by simp)).alloc _).drew) hgrow6 (by simp [Value.ownBlock, Act.eval, Act.put]))
                        (by simp [Value.oneCell']) (by unfold maxLen; omega) (by omega) (by have := hB6.size; simp <;> omega) ?_
                       intro v7 w7 hown7 hgrow7
                       have hB7 : Below w2.heap.size w2 w7 := by
                         first
                           | exact hB6.grown hgrow7 hB6.size (fun q hq => (hown6.lt q hq).1)
                           | exact (hB6.alloc hB6.size _).grown hgrow7 (by have := hB6.size; simp; omega) (fun q hq => (hown6.lt q hq).1))
                    | (refine step_append_row _ rfl (.tmp 103) (.tmp 106) 165 rfl w2.heap.size 31 i9 _ 1 24 Tryd.underlying165 hi9 hv0 hv1 hv2 rfl (by decide) _ (0 + p + 1) _ rfl
                        hown7 _ _ _ (lcs (ss.drop p)) rfl (by intro e; cases e) (by omega) (by rw [lcs_len, List.length_drop, HL.out])
                        (by first | exact HT3.out _ hB7 | (have := HT3.out _ hB7; simpa using this) | (exact fun hp => by rw [hdn] at hp; simp [lcs] at hp)) (lcs_one _) (by unfold maxLen; omega) (by omega) hB7.size ?_
                       intro v8 w8 hown8 hgrow8
                       have hB8 : Below w2.heap.size w2 w8 := hB7.grown hgrow8 hB7.size (fun q hq => (hown7.lt q hq).1)))
                all_goals
                  have hfin := Lib.hid (ownsRow_lower (ins_lr HL.out hm4 hown8) HBW2.out.size)
                  have hbf := Lib.hid (HBW2.out.trans (hB8.mono HBW2.out.size))
                  clear hown8 hown7 hown6 hgrow8 hgrow7 hgrow6 hB6 hB7 hB8
                  go_wp2_with fail
                  go_roundw
                  case rel => exact ⟨i + 1, by go_num, by omega, k + 1, insLR ss r p, insLR_len HL.out hm4, by omega, HINS.out, hfin.out, insLR_ok HOKS.out HROK.out, hbf.out⟩
                  case measure => simp [intOf]; omega
            · obtain ⟨m, rfl⟩ : ∃ m, j = m + 1 := ⟨j - 1, by omega⟩
              have hcast : ((m + 1 : Nat) : Int) = (m : Int) + 1 := by omega
              rw [hcast]
              clear hcast
              obtain ⟨g, rfl, _⟩ := own_at HO.out (by omega)
              have hmo : m < ss.length := by have := HL.out; omega
              have s2 := (own_below HO.out HBI.out.2).cellAt m (by omega)
              rw [lcs_get ss m hmo] at s2
              have hbw := HBW.out.trans (HBI.out.2.mono HBW.out.size)
              have q2 := pw_cell_below hbw HY.out
              have hso := HOKS.out _ (List.getElem_mem hmo)
              have HCM := Lib.hid (fun W (hb : Below w6.heap.size w6 W) => rcmp_any r.A r.c r.x.f2 ss[m].A ss[m].c ss[m].ls W (Kd.C_below HROK.out.1.2 hb) (Kd.C_below hso.2.1 hb) (by have := HROK.out.2.2; omega))
              have HX : Hid (posK r.x.f2 (ss.map (·.ls)) (m + 1) = if cmpL r.x.f2 ss[m].ls < 0 then posK r.x.f2 (ss.map (·.ls)) m else m + 1) := Lib.hid (by
                rw [← getD_ls hmo]; rfl)
              have HGD := Lib.hid (getD_ls hmo)
              have hjk : (m : Int) < (k : Int) := by omega
              have hj0 : (0 : Int) ≤ (m : Int) := by omega
              have hjp : (0 : Int) < (m : Int) + 1 := by omega
              have hw1 : IntKind.i64.wrap ((m : Int) + 1 - 1) = (m : Int) := by rw [IntKind.wrap_i64]; omega
              have hw2 : IntKind.i64.wrap (m : Int) = (m : Int) := by rw [IntKind.wrap_i64]; omega
              have HBWI := Lib.hid hbw
              clear hbw hso
              generalize ss[m] = s at *
              go_wp2_with fail
              by_cases hz : cmpL r.x.f2 s.ls < 0
              · have hz1 : decide (cmpL r.x.f2 s.ls < 0) = true := decide_eq_true hz
                have c120 := fun d os => Calls.regrown_of (HCM.out (Go.Sort.grow (redrawn wr d) os) (HBWI.out.trans ((below_regrown wr d os).mono HBWI.out.size)))
                have R2 := fun d os => cell_regrown q2 d os
                have S2 := fun d os => cell_regrown s2 d os
                refine wp_region_quiet_below (by kernel_rfl) (by kernel_rfl) ?_
                repeat (first
                  | go_big_quiet_step ((go_at_call 120; with_reducible exact c120 _ _))
                  | quiet_step ((go_at_call 120; with_reducible exact c120 _ _)))
                refine wpQuiet_nil ?_
                intro _ hw'
                obtain ⟨⟨dq, osq⟩, hw''⟩ := hw'
                subst hw''
                have hbq := below_regrown wr dq osq
                clear R2 S2 c120
                generalize Go.Sort.grow (redrawn wr dq) osq = w2 at hbq ⊢
                have HP : Hid (posK r.x.f2 (ss.map (·.ls)) k = posK r.x.f2 (ss.map (·.ls)) m ∧ Below wo.heap.size wo w2) := Lib.hid ⟨by rw [HBI.out.1, HX.out, if_pos hz], HBI.out.2.trans (hbq.mono HBI.out.2.size)⟩
                clear q2 s2 hbq
                go_wp2_with fail
                go_roundw
                case rel => exact ⟨m, by go_num, by omega, HP.out⟩
                case measure => simp [intOf]
              · have hz1 : decide (cmpL r.x.f2 s.ls < 0) = false := decide_eq_false hz
                have c120 := fun d os => Calls.regrown_of (HCM.out (Go.Sort.grow (redrawn wr d) os) (HBWI.out.trans ((below_regrown wr d os).mono HBWI.out.size)))
                have R2 := fun d os => cell_regrown q2 d os
                have S2 := fun d os => cell_regrown s2 d os
                refine wp_region_quiet_below (by kernel_rfl) (by kernel_rfl) ?_
                repeat (first
                  | go_big_quiet_step ((go_at_call 120; with_reducible exact c120 _ _))
                  | quiet_step ((go_at_call 120; with_reducible exact c120 _ _)))
                refine wpQuiet_nil ?_
                intro _ hw'
                obtain ⟨⟨dq, osq⟩, hw''⟩ := hw'
                subst hw''
                have hbq := below_regrown wr dq osq
                clear R2 S2 c120
                generalize Go.Sort.grow (redrawn wr dq) osq = w1 at hbq ⊢
                have HBW1 := Lib.hid (HBWI.out.trans (hbq.mono HBWI.out.size))
                have hbr1 := HBI.out.2.trans (hbq.mono HBI.out.2.size)
                have q2' := pw_cell_below hbq q2
                have s2' := pw_cell_below hbq s2
                have hpos1 : posK r.x.f2 (ss.map (·.ls)) k = m + 1 := by rw [HBI.out.1, HX.out, if_neg hz]
                clear q2 s2 hbq hz1
                go_wp2_with fail
                by_cases hy : cmpL r.x.f2 s.ls = 0
                · have hy1 : (cmpL r.x.f2 s.ls == 0) = true := by simp [hy]
                  have hy2 : decide (cmpL r.x.f2 s.ls = 0) = true := decide_eq_true hy
                  have HSAME : Hid (ss.map (·.ls) = setsOf (G.take (i + 1))) := Lib.hid (by rw [HSUC.out, ← HM.out, insK_same HL.out hpos1 ⟨by omega, by rw [Nat.add_sub_cancel, HGD.out]; exact hy⟩])
                  have c120 := fun d os => Calls.regrown_of (HCM.out (Go.Sort.grow (redrawn w1 d) os) (HBW1.out.trans ((below_regrown w1 d os).mono HBW1.out.size)))
                  have R2 := fun d os => cell_regrown q2' d os
                  have S2 := fun d os => cell_regrown s2' d os
                  refine wp_region_quiet_below (by kernel_rfl) (by kernel_rfl) ?_
                  repeat (first
                    | go_big_quiet_step ((go_at_call 120; with_reducible exact c120 _ _))
                    | quiet_step ((go_at_call 120; with_reducible exact c120 _ _)))
                  refine wpQuiet_nil ?_
                  intro _ hw'
                  obtain ⟨⟨dq, osq⟩, hw''⟩ := hw'
                  subst hw''
                  have hbq := below_regrown w1 dq osq
                  clear R2 S2 c120
                  generalize Go.Sort.grow (redrawn w1 dq) osq = w2 at hbq ⊢
                  have HBW2 := Lib.hid (HBW1.out.trans (hbq.mono HBW1.out.size))
                  have HO2 := Lib.hid (own_below HO.out (hbr1.trans (hbq.mono hbr1.size)))
                  clear q2' s2' hbq hbr1 hz
                  go_wp2_with fail
                  go_roundw
                  case rel => exact ⟨i + 1, by go_num, by omega, k, ss, HL.out, by omega, HSAME.out, HO2.out, HOKS.out, HBW2.out⟩
                  case measure => simp [intOf]; omega
                · have hy1 : (cmpL r.x.f2 s.ls == 0) = false := by simp [hy]
                  have hy2 : decide (cmpL r.x.f2 s.ls = 0) = false := decide_eq_false hy
                  have c120 := fun d os => Calls.regrown_of (HCM.out (Go.Sort.grow (redrawn w1 d) os) (HBW1.out.trans ((below_regrown w1 d os).mono HBW1.out.size)))
                  have R2 := fun d os => cell_regrown q2' d os
                  have S2 := fun d os => cell_regrown s2' d os
                  refine wp_region_quiet_below (by kernel_rfl) (by kernel_rfl) ?_
                  repeat (first
                    | go_big_quiet_step ((go_at_call 120; with_reducible exact c120 _ _))
                    | quiet_step ((go_at_call 120; with_reducible exact c120 _ _)))
                  refine wpQuiet_nil ?_
                  intro _ hw'
                  obtain ⟨⟨dq, osq⟩, hw''⟩ := hw'
                  subst hw''
                  have hbq := below_regrown w1 dq osq
                  clear R2 S2 c120
                  generalize Go.Sort.grow (redrawn w1 dq) osq = w2 at hbq ⊢
                  have HBW2 := Lib.hid (HBW1.out.trans (hbq.mono HBW1.out.size))
                  have HO2 := Lib.hid (own_below HO.out (hbr1.trans (hbq.mono hbr1.size)))
                  clear q2' s2' hbq hbr1
                  obtain ⟨p, hpm⟩ : ∃ p : Nat, p = m + 1 := ⟨_, rfl⟩
                  have hpi : (m : Int) + 1 = (p : Int) := by omega
                  have hpos : posK r.x.f2 (ss.map (·.ls)) k = p := by rw [hpos1, hpm]
                  have HINS : Hid ((insLR ss r p).map (·.ls) = setsOf (G.take (i + 1))) := Lib.hid (by rw [HSUC.out, ← HM.out]; exact insLR_ls HL.out hpos (fun h => hy (by rw [hpm, Nat.add_sub_cancel, HGD.out] at h; exact h.2)))
                  have hm4 : p ≤ k := by omega
                  go_wp2_with fail
                  (try rw [hpi])
                  clear hpi hpm hpos hpos1 hz hy1 hy2 hw1 hw2 hjp
                  have hm1 : (p : Int) ≤ (k : Int) := by omega
                  have hm2 : (p : Int) ≤ (co : Int) := by omega
                  have hm5 : p ≤ co := by omega
                  have q2 := pw_cell_below HBW2.out HY.out
                  have HSS : ∀ w', Below w2.heap.size w2 w' → (w'.cell? ⟨b, o + i * 4 + 2, none⟩ = some (.slice r.A r.x.f2.length r.c) ∧ Below w2.heap.size w2 w') := fun w' hK => ⟨pw_cell_below hK q2, hK⟩
                  have HT1 := Lib.hid (fun W (hW : Below w2.heap.size w2 W) => (lrow_take (own_rowC HO2.out) p).below hW)
                  have HT3 := Lib.hid (fun W (hW : Below w2.heap.size w2 W) => (lrow_drop (own_rowC HO2.out) p).below hW)
                  have hdd : (co - p = 0 ∧ co = p ∧ ss.drop p = []) ∨ (¬ (co - p = 0) ∧ ¬ (co = p)) := by
                    have := HL.out
                    by_cases hco : p = co
                    · exact .inl ⟨by omega, by omega, List.drop_eq_nil_of_le (by omega)⟩
                    · exact .inr ⟨by omega, by omega⟩
                  rcases hdd with ⟨hco1, hco2, hdn⟩ | ⟨hco1, hco2⟩
                  all_goals go_wp2_with fail
                  all_goals go_region_held_law (fun w' => w'.cell? ⟨b, o + i * 4 + 2, none⟩ = some (.slice r.A r.x.f2.length r.c) ∧ Below w2.heap.size w2 w')
                    (first
                      | exact HSS _ (Below.refl _ _)
                      | exact HSS _ (Below.refl _ _).drew
                      | exact HSS _ hB8 | exact HSS _ hB7 | exact HSS _ hB6 | exact HSS _ hB7.drew | exact HSS _ hB6.drew
                      | exact HSS _ ((Below.refl _ _).alloc (Nat.le_refl _) _).drew
                      | exact HSS _ (((Below.refl _ _).alloc (Nat.le_refl _) _).alloc (by simp) _).drew
                      | exact HSS _ (hB6.alloc hB6.size _).drew
                      | exact HSS _ (hB6.alloc hB6.size _))
                    (first
                      | (refine step_append_row _ rfl (.tmp 92) (.tmp 95) 165 rfl w2.heap.size 31 i9 _ 1 24 Tryd.underlying165 hi9 hv0 hv1 hv2 rfl (by decide) _ 0 [] rfl
                          (by first | exact (own_madeE (Nat.le_refl _) rfl).drew2 | exact (own_below (own_madeE (Nat.le_refl _) rfl) ((Below.refl _ _).alloc (Nat.le_refl _) _)).drew2 | exact (own_madeE (by simp) (by simp)).drew2)
                          _ _ _ (lcs (ss.take p)) rfl (by intro e; cases e) (by omega) (by rw [lcs_len, List.length_take]; have := HL.out; omega)
                          (by first | exact HT1.out _ ((Below.refl _ _).alloc (Nat.le_refl _) _).drew | exact HT1.out _ (((Below.refl _ _).alloc (Nat.le_refl _) _).alloc (by simp) _).drew)
                          (lcs_one _) (by unfold maxLen; omega) (by omega) (by simp only [World.size_alloc, World.size_drew]; omega) ?_
                         intro v6 w6' hown6 hgrow6
                         have hB6 : Below w2.heap.size w2 w6' := by
                           first
                             | exact ((Below.refl _ _).alloc (Nat.le_refl _) _).drew.grown hgrow6 (by simp only [World.size_alloc, World.size_drew]; omega) (by intro q hq; simp [Value.ownBlock, Act.eval, Act.put] at hq; omega)
                             | exact (((Below.refl _ _).alloc (Nat.le_refl _) _).alloc (by simp) _).drew.grown hgrow6 (by simp only [World.size_alloc, World.size_drew]; omega) (by intro q hq; simp [Value.ownBlock, Act.eval, Act.put] at hq; omega))
                      | (refine step_append_row _ rfl (.tmp 96) (.tmp 102) 165 rfl w2.heap.size 31 i9 _ 1 24 Tryd.underlying165 hi9 hv0 hv1 hv2 rfl (by decide) _ (0 + p) ([] ++ lcs (ss.take p)) rfl
                          (by first | exact hown6 | exact hown6.alloc _ | exact (hown6.alloc _).drew2 | exact hown6.drew2)
                          _ 1 1 [.slice r.A r.x.f2.length r.c] rfl (by intro e; cases e) (Nat.le_refl _) rfl
                          (by first
                            | exact rowCells_new (cs := #[.slice r.A r.x.f2.length r.c]) rfl
                            | exact rowCells_grown (cs := #[.slice r.A r.x.f2.length r.c]) (t := 31) ((Blk.new _ _ _ _ (by simp)).drew) hgrow6 (by simp [Value.ownBlock, Act.eval, Act.put])
                            | exact rowCells_grown (cs := #[.slice r.A r.x.f2.length r.c]) (t := 31) (((Blk.new _ _ _ _ (by simp)).alloc _).drew) hgrow6 (by simp [Value.ownBlock, Act.eval, Act.put]))
                          (by simp [Value.oneCell']) (by unfold maxLen; omega) (by omega) (by have := hB6.size; simp <;> omega) ?_
                         intro v7 w7 hown7 hgrow7
                         have hB7 : Below w2.heap.size w2 w7 := by
                           first
                             | exact hB6.grown hgrow7 hB6.size (fun q hq => (hown6.lt q hq).1)
                             | exact (hB6.alloc hB6.size _).grown hgrow7 (by have := hB6.size; simp; omega) (fun q hq => (hown6.lt q hq).1))
                      | (refine step_append_row _ rfl (.tmp 103) (.tmp 106) 165 rfl w2.heap.size 31 i9 _ 1 24 Tryd.underlying165 hi9 hv0 hv1 hv2 rfl (by decide) _ (0 + p + 1) _ rfl
                          hown7 _ _ _ (lcs (ss.drop p)) rfl (by intro e; cases e) (by omega) (by rw [lcs_len, List.length_drop, HL.out])
                          (by first | exact HT3.out _ hB7 | (have := HT3.out _ hB7; simpa using this) | (exact fun hp => by rw [hdn] at hp; simp [lcs] at hp)) (lcs_one _) (by unfold maxLen; omega) (by omega) hB7.size ?_
                         intro v8 w8 hown8 hgrow8
                         have hB8 : Below w2.heap.size w2 w8 := hB7.grown hgrow8 hB7.size (fun q hq => (hown7.lt q hq).1)))
                  all_goals
                    have hfin := Lib.hid (ownsRow_lower (ins_lr HL.out hm4 hown8) HBW2.out.size)
                    have hbf := Lib.hid (HBW2.out.trans (hB8.mono HBW2.out.size))
                    clear hown8 hown7 hown6 hgrow8 hgrow7 hgrow6 hB6 hB7 hB8
                    go_wp2_with fail
                    go_roundw
                    case rel => exact ⟨i + 1, by go_num, by omega, k + 1, insLR ss r p, insLR_len HL.out hm4, by omega, HINS.out, hfin.out, insLR_ok HOKS.out HROK.out, hbf.out⟩
                    case measure => simp [intOf]; omega
        · have hltz : ¬ (i : Int) < (n : Int) := by omega
          obtain rfl : n = i := by omega
          have HBN := Lib.hid (And.intro hl (And.intro hm (And.intro ho (And.intro hok hbw))))
          clear hl hm ho hok hbw HI
          obtain ⟨w7, rfl⟩ : ∃ w7 : World, w7 = wr := ⟨_, rfl⟩
          have hGl : G.length = n := by rw [← HGR.out.map, List.length_map]; exact HGR.out.len
          obtain ⟨hl, hm, ho, hok, hbw⟩ := HBN.out
          rw [List.take_of_length_le (Nat.le_of_eq hGl)] at hm
          have HL := Lib.hid hl
          have HM := Lib.hid hm
          have HO := Lib.hid ho
          have HOKS := Lib.hid hok
          have HBW := Lib.hid hbw
          have HGL := Lib.hid hGl
          clear hl hm ho hok hbw hGl HBN
          obtain ⟨i1, hi1, ha0, ha1, ha2⟩ := info_parts info112
          obtain ⟨i2, hi2, hb0, hb1', hb2'⟩ := info_parts info50
          obtain ⟨i3, hi3, hc0, hc1, hc2⟩ := info_parts info93
          go_wp2_with fail
          go_loopw [10, 9] (fun v10 v9 wr => ∃ s : Nat, v10 = .int .i64 (s : Int) ∧ s ≤ k ∧ Hid (OutRel G w7 s v9 wr)) (fun v10 _ _ => k - (intOf v10).toNat)
          case atStart => exact ⟨0, rfl, Nat.zero_le _, [], rfl, ChksO.nil _ _ _ _, Below.refl _ _⟩
          case round =>
            obtain ⟨s, rfl, hs, HI⟩ := hrel
            obtain ⟨rs, hrs, hch, hbw⟩ := HI.out
            obtain ⟨A9, q9, rfl, hq9⟩ := own_slice hch.own
            by_cases hlt : s < k
            · have hltz : (s : Int) < (k : Int) := by omega
              obtain ⟨g, rfl, _⟩ := own_at HO.out (by omega)
              have hsl : s < ss.length := by have := HL.out; omega
              have s2 := HO.out.cellAt s (by omega)
              rw [lcs_get ss s hsl] at s2
              have t2 := pw_cell_below hbw s2
              have HS2 := Lib.hid s2
              have HTK := Lib.hid (HOKS.out _ (List.getElem_mem hsl))
              have hss : s < (setsOf G).length := by rw [← HM.out, List.length_map]; exact hsl
              have hse : (setsOf G)[s] = ss[s].ls := by
                have := HM.out
                simp only [← this, List.getElem_map]
              have HSE := Lib.hid hse
              have HSS := Lib.hid hss
              have HLC := Lib.hid (fun W (hb : Below w7.heap.size w7 W) => lab_C (Kd.C_below (HOKS.out _ (List.getElem_mem hsl)).2.1 (HBW.out.trans (hb.mono HBW.out.size))))
              have HCM0 := Lib.hid (fun (q : RE) (hq : q.ok w6 ∧ NoC q ∧ q.x.f2.length < 4398046511104) W (hb : Below w6.heap.size w6 W) => rcmp_any q.A q.c q.x.f2 ss[s].A ss[s].c ss[s].ls W (Kd.C_below hq.1.2 hb) (Kd.C_below (HOKS.out _ (List.getElem_mem hsl)).2.1 hb) (by have := hq.2.2; omega))
              have HBS := Lib.hid (And.intro hbw hbw.size)
              have HCH := Lib.hid hch
              have HRS := Lib.hid hrs
              clear s2 hse hch hrs hbw HI
              obtain ⟨OUT0, hO0⟩ : ∃ OUT0, OUT0 = grpR ((setsOf G).take s) G [] := ⟨_, rfl⟩
              rw [← hO0] at HRS
              have HO0 := Lib.hid hO0
              clear hO0
              generalize ss[s] = t at *
              obtain ⟨wo, rfl⟩ : ∃ wo : World, wo = wr := ⟨_, rfl⟩
              have t3 := pw_cell_below ((Below.refl _ _).alloc (Nat.le_refl _) (.cells #[] 112)) t2
              go_wp2_with (first
                | ((with_reducible refine gate_builtin (b := .append) (xs := #[.tmp 114, .tmp 118]) rfl ?_); at_builtin; refine wpList_append_row rfl (.tmp 114) (.tmp 118) 31 rfl w7.heap.size 112 i1 _ 2 32 Tryd.underlying31 hi1 ha0 ha1 ha2 rfl (by decide) _ 0 [] rfl (own_madeE (W := wo) HBS.out.2 rfl) t.A t.ls.length t.c (lcells t.ls) rfl HTK.out.2.2.1 HTK.out.1 (lcells_len _) (HLC.out _ (HBS.out.1.alloc HBS.out.2 (.cells #[] 112))) (lcells_one _) (by have := HTK.out.2.2.2; unfold maxLen; omega) (by have := HTK.out.2.2.2; omega) (HBS.out.1.alloc HBS.out.2 (.cells #[] 112)).size ?_; intro v5 w5 hown5 hgrow5 _; rw [Nat.zero_add, List.nil_append] at hown5; obtain ⟨A3, c3, rfl, hc3⟩ := own_slice hown5; have hb5 : Below wo.heap.size wo w5 := ((Below.refl _ _).alloc (Nat.le_refl _) (.cells #[] 112)).grown hgrow5 ((Below.refl _ _).alloc (Nat.le_refl _) (.cells #[] 112)).size (by intro j hj; simp [Value.ownBlock, Act.eval, Act.put] at hj; omega); have HC0 := Lib.hid (C0.fresh (C0.new (HCH.out.below hb5) (HBS.out.1.trans (hb5.mono HBS.out.2)) (Nat.le_trans HBS.out.2 hb5.size) (boxC ⟨A3, c3, t.ls, none, 0, []⟩)) ⟨hc3, own_below hown5 ((Below.refl _ _).alloc (Nat.le_refl _) _)⟩); clear hown5 hgrow5 hb5 hc3))
              obtain ⟨bc, hbc⟩ : ∃ bc, bc = w5.heap.size := ⟨_, rfl⟩
              rw [← hbc] at HC0 ⊢
              clear hbc t2 t3
              go_loopw [12, 9] (fun v12 v9 wi => ∃ i : Nat, v12 = .int .i64 (i : Int) ∧ i ≤ n ∧ Hid (InRel G t.ls OUT0 w7 bc i v9 wi)) (fun v12 _ _ => n - (intOf v12).toNat)
              case atStart => exact ⟨0, rfl, Nat.zero_le _, rs, _, _, HRS.out, rfl, rfl, HC0.out⟩
              case round =>
                clear HC0 HRS HCH HBS
                obtain ⟨i, rfl, hi, HJ⟩ := hrel
                obtain ⟨rs, r, Bl, hr1, hr2, hr3, hci⟩ := HJ.out
                obtain ⟨A9, q9, rfl, hq9⟩ := own_slice hci.c0.out.own
                have HRL : Hid (rs.length < n) := Lib.hid (by
                  have := in_len HSS.out (rs := rs) (i := i) (by rw [HSE.out, ← HO0.out]; exact hr1)
                  rw [HGL.out] at this; exact this)
                have HRR : Hid (r.rows.length ≤ 1000) := Lib.hid (by rw [hr3]; exact setR_rows t.ls G OUT0 i (by have := HGL.out; omega))
                have HR1 := Lib.hid hr1
                have HR2 := Lib.hid hr2
                have HR3 := Lib.hid hr3
                by_cases hli : i < n
                · have hliz : (i : Int) < (n : Int) := by omega
                  obtain ⟨b, o, rfl, hx⟩ := HGR.out.at (by omega)
                  have hri : i < rg.length := by rw [HGR.out.len]; exact hli
                  have HY := Lib.hid (hx i hri)
                  obtain ⟨hgi, hge⟩ := good_get HGR.out hri
                  have HSTEP : Hid (setR t.ls (G.take (i + 1)) OUT0 = if rg[i].x.f2 = t.ls then stepR t.ls (setR t.ls (G.take i) OUT0) rg[i].x else setR t.ls (G.take i) OUT0) := Lib.hid (by rw [← hge]; exact setR_succ t.ls G OUT0 i hgi)
                  have HCM := Lib.hid (HCM0.out rg[i] (HGR.out.ok _ (List.getElem_mem hri)))
                  have hb6 := HBW.out.trans (hci.c0.low.mono HBW.out.size)
                  have p2 := pw_cell_below hb6 HY.out.2.2.1
                  have t2 := pw_cell_below hci.c0.low HS2.out
                  have HEQ := Lib.hid (cmpL_ok.eq rg[i].x.f2 t.ls)
                  have HCI := Lib.hid hci
                  clear hx hgi hge hci hr1 hr2 hr3 HJ
                  generalize rg[i] = q at *
                  have hskz : (s : Int) < (k : Int) := by omega
                  go_wp2_with fail
                  by_cases hz : cmpL q.x.f2 t.ls = 0
                  · have hz1 : (cmpL q.x.f2 t.ls != 0) = false := by simp [hz]
                    have HYX := Lib.hid (HEQ.out.1 hz)
                    have c120 := fun d os => Calls.regrown_of (HCM.out (Go.Sort.grow (redrawn wr d) os) (hb6.trans ((below_regrown wr d os).mono hb6.size)))
                    have R2 := fun d os => cell_regrown p2 d os
                    have S2 := fun d os => cell_regrown t2 d os
                    refine wp_region_quiet_below (by kernel_rfl) (by kernel_rfl) ?_
                    repeat (first
                      | go_big_quiet_step ((go_at_call 120; with_reducible exact c120 _ _))
                      | quiet_step ((go_at_call 120; with_reducible exact c120 _ _)))
                    refine wpQuiet_nil ?_
                    intro _ hw'
                    obtain ⟨⟨dq, osq⟩, hw''⟩ := hw'
                    subst hw''
                    have hbq := below_regrown wr dq osq
                    clear R2 S2 c120
                    generalize Go.Sort.grow (redrawn wr dq) osq = w2 at hbq ⊢
                    have HC2 := Lib.hid (HCI.out.below hbq)
                    clear p2 t2 hbq hb6 HCI hz hz1
                    have hyx := HYX.out
                    by_cases hk : r.rows.length = 1000
                    · have HRX : Hid (setR t.ls (G.take (i + 1)) OUT0 = ((setR t.ls (G.take i) OUT0).1 ++ [(t.ls, (setR t.ls (G.take i) OUT0).2)], [rowE q.x])) := Lib.hid (by rw [HSTEP.out, if_pos hyx]; unfold stepR; rw [← HR3.out, if_pos hk])
                      have hk1 : (r.rows.length == 1000) = true := by simpa using hk
                      have hk2 : ((r.rows.length : Int) == 1000) = true := by rw [hk]; rfl
                      have g0 := HC2.out.c0.box.cell 0 _ rfl
                      have g1 := HC2.out.c0.box.cell 1 _ rfl
                      have HCP := Lib.hid (HC2.out.below ((Below.refl _ _).alloc (Nat.le_refl _) (.cells (boxC r) 50)))
                      clear hk hyx
                      go_wp2_with (first
                        | ((with_reducible refine gate_builtin (b := .append) (xs := #[.tmp 142, .tmp 144]) rfl ?_); at_builtin; refine wpList_append_row rfl (.tmp 142) (.tmp 144) 68 rfl w7.heap.size 50 i2 _ 2 48 Tryd.underlying68 hi2 hb0 hb1' hb2' rfl (by decide) _ rs.length (rs.flatMap RK.cells) rfl HCP.out.c0.out.own (some ⟨w2.heap.size, 0, none⟩) 1 1 (RK.cells r) rfl (by intro e; cases e) (Nat.le_refl _) rfl (rowCells_new (cs := boxC r) rfl) (RK.cells_one _) (by have := HRL.out; unfold maxLen; omega) (by have := HRL.out; omega) HCP.out.c0.sz ?_; intro v3 w3 hownp hgrowp hwhere; have hp3 := HCP.out.push hownp hgrowp hwhere; obtain ⟨A9', q9', rfl, hq9'⟩ := own_slice hp3.out.own; have HP3 := Lib.hid hp3; have HB3 := Lib.hid (And.intro hp3.low hp3.sz); have u2 := pw_cell_below hp3.low HS2.out; have u3 := pw_cell_below ((Below.refl _ _).alloc (Nat.le_refl _) (.cells #[] 112)) u2; clear hownp hgrowp hwhere hp3)
                        | ((with_reducible refine gate_builtin (b := .append) (xs := #[.tmp 146, .tmp 150]) rfl ?_); at_builtin; refine wpList_append_row rfl (.tmp 146) (.tmp 150) 31 rfl w7.heap.size 112 i1 _ 2 32 Tryd.underlying31 hi1 ha0 ha1 ha2 rfl (by decide) _ 0 [] rfl (own_madeE (W := w3) HB3.out.2 rfl) t.A t.ls.length t.c (lcells t.ls) rfl HTK.out.2.2.1 HTK.out.1 (lcells_len _) (HLC.out _ (HB3.out.1.alloc HB3.out.2 (.cells #[] 112))) (lcells_one _) (by have := HTK.out.2.2.2; unfold maxLen; omega) (by have := HTK.out.2.2.2; omega) (HB3.out.1.alloc HB3.out.2 (.cells #[] 112)).size ?_; intro v4 w4 hown4 hgrow4 _; rw [Nat.zero_add, List.nil_append] at hown4; obtain ⟨A4, c4, rfl, hc4⟩ := own_slice hown4; have hb4 : Below w3.heap.size w3 w4 := ((Below.refl _ _).alloc (Nat.le_refl _) (.cells #[] 112)).grown hgrow4 ((Below.refl _ _).alloc (Nat.le_refl _) (.cells #[] 112)).size (by intro j hj; simp [Value.ownBlock, Act.eval, Act.put] at hj; omega); have hp4 := HP3.out.below hb4; have j0 := hp4.box.cell 0 _ rfl; have j1 := hp4.box.cell 1 _ rfl; have l0 := hp4.box.frozen 0; have l1 := hp4.box.frozen 1; have HP4 := Lib.hid hp4; have HL4 := Lib.hid (And.intro hc4 hown4); clear hown4 hgrow4 hb4 hp4 hc4))
                      obtain ⟨r5, hr5⟩ : ∃ r5 : RK, r5 = ⟨A4, c4, t.ls, none, 0, []⟩ := ⟨_, rfl⟩
                      have HC5 : Hid (CI w7.heap.size w7 (.slice A9' (rs.length + 1) q9') (rs ++ [r]) r5 bc _ ((w4.setCell ⟨bc, 0, none⟩ (.slice A4 t.ls.length c4)).setCell ⟨bc, 1, none⟩ (.slice none 0 0))) := Lib.hid (by
                        have h1 := (HP4.out.set 0 (.slice A4 t.ls.length c4)).set 1 (.slice none 0 0)
                        have hl1 : (w4.setCell ⟨bc, 0, none⟩ (.slice A4 t.ls.length c4)).ownsRow w7.heap.size 112 2 (.slice A4 t.ls.length c4) t.ls.length (lcells t.ls) := ownsRow_setCell_other HL4.out.2 (ne_of_type HP4.out.box HL4.out.2 (by decide)) _
                        have hl2 : ((w4.setCell ⟨bc, 0, none⟩ (.slice A4 t.ls.length c4)).setCell ⟨bc, 1, none⟩ (.slice none 0 0)).ownsRow w7.heap.size 112 2 (.slice A4 t.ls.length c4) t.ls.length (lcells t.ls) := ownsRow_setCell_other hl1 (ne_of_type HP4.out.box HL4.out.2 (by decide)) _
                        have hlen : rs.length + 1 = (rs ++ [r]).length := by simp
                        rw [hr5, hlen]
                        exact C0.fresh (by simpa [boxC] using h1) ⟨HL4.out.1, hl2⟩)
                      obtain ⟨Bl5, hBl5⟩ : ∃ Bl5, Bl5 = ((w4.setCell ⟨bc, 0, none⟩ (.slice A4 t.ls.length c4)).setCell ⟨bc, 1, none⟩ (.slice none 0 0)).heap.size := ⟨_, rfl⟩
                      rw [← hBl5] at HC5
                      generalize (w4.setCell ⟨bc, 0, none⟩ (.slice A4 t.ls.length c4)).setCell ⟨bc, 1, none⟩ (.slice none 0 0) = W5 at *
                      have HK5 : Hid (r5.rows.length ≤ 1000) := Lib.hid (by rw [hr5]; exact Nat.zero_le _)
                      have HR5 := Lib.hid hr5
                      clear hr5 hBl5
                      have HCD := Lib.hid (HC5.out.below (Below.refl _ _).drew)
                      have HC6 := Lib.hid (HCD.out.below ((Below.refl _ _).alloc (Nat.le_refl _) (.cells #[.int .i64 q.x.f0, .int .i64 q.x.f1, .string q.x.f3] 93)))
                      have HSX : ∀ w', Blk w' bc (boxC r5) 50 → Below w6.heap.size w6 w' → (w'.cell? ⟨bc, 1, none⟩ = some (.slice r5.A2 r5.rows.length r5.c2) ∧ w'.cell? ⟨b, o + i * 4, none⟩ = some (.int .i64 q.x.f0) ∧ w'.cell? ⟨b, o + i * 4 + 1, none⟩ = some (.int .i64 q.x.f1) ∧ w'.cell? ⟨b, o + i * 4 + 3, none⟩ = some (.string q.x.f3)) := fun w' hb1 hb2 => ⟨hb1.cell 1 _ rfl, pw_cell_below hb2 HY.out.1, pw_cell_below hb2 HY.out.2.1, pw_cell_below hb2 HY.out.2.2.2⟩
                      have hs0 := HSX _ HCD.out.c0.box (HBW.out.trans (HCD.out.c0.low.mono HBW.out.size))
                      have hs1 := HSX _ HC6.out.c0.box (HBW.out.trans (HC6.out.c0.low.mono HBW.out.size))
                      refine (wpIn_wide (n := 1)).1 ?_
                      refine region_held_g (z := 21) (S := fun w' => w'.cell? ⟨bc, 1, none⟩ = some (.slice r5.A2 r5.rows.length r5.c2) ∧ w'.cell? ⟨b, o + i * 4, none⟩ = some (.int .i64 q.x.f0) ∧ w'.cell? ⟨b, o + i * 4 + 1, none⟩ = some (.int .i64 q.x.f1) ∧ w'.cell? ⟨b, o + i * 4 + 3, none⟩ = some (.string q.x.f3)) (by kernel_rfl) ?_
                      refine AnyG.take' (i := 0) (d := some 153) ⟨fun _ => trivial, fun i o hi => plainOps_spec (by kernel_rfl) hi⟩ rfl (by kernel_rfl) (by kernel_rfl) (by kernel_rfl) (by kernel_rfl) (by kernel_rfl) (fun _ _ _ h => h) hs0 (v := ?v0f) (Or.inl ⟨by first | (go_simp; done) | rfl, fun w' hw' => ?y0f⟩) ?_
                      case y0f => go_simp; (try rfl)
                      simp only [Act.put, List.setIfInBounds_toArray, List.set_cons_zero, List.set_cons_succ]
                      refine AnyG.take' (i := 1) (d := some 154) ⟨fun _ => trivial, fun i o hi => plainOps_spec (by kernel_rfl) hi⟩ rfl (by kernel_rfl) (by kernel_rfl) (by kernel_rfl) (by kernel_rfl) (by kernel_rfl) (fun _ _ _ h => h) hs0 (v := ?v1f) (Or.inl ⟨by first | (go_simp; done) | rfl, fun w' hw' => ?y1f⟩) ?_
                      case y1f => have z0 := hw'.1; go_simp; (try rfl)
                      simp only [Act.put, List.setIfInBounds_toArray, List.set_cons_zero, List.set_cons_succ]
                      refine AnyG.take' (i := 2) (d := some 155) ⟨fun _ => trivial, fun i o hi => plainOps_spec (by kernel_rfl) hi⟩ rfl (by kernel_rfl) (by kernel_rfl) (by kernel_rfl) (by kernel_rfl) (by kernel_rfl) (fun _ _ _ h => h) hs0 (v := ?v2f) (Or.inl ⟨by first | (go_simp; done) | rfl, fun w' hw' => ?y2f⟩) ?_
                      case y2f => go_simp; (try rfl)
                      simp only [Act.put, List.setIfInBounds_toArray, List.set_cons_zero, List.set_cons_succ]
                      refine AnyG.take' (i := 3) (d := some 156) ⟨fun _ => trivial, fun i o hi => plainOps_spec (by kernel_rfl) hi⟩ rfl (by kernel_rfl) (by kernel_rfl) (by kernel_rfl) (by kernel_rfl) (by kernel_rfl) (fun _ _ _ h => h) hs0 (v := ?v3f) (Or.inl ⟨by first | (go_simp; done) | rfl, fun w' hw' => ?y3f⟩) ?_
                      case y3f => go_simp; (try rfl)
                      simp only [Act.put, List.setIfInBounds_toArray, List.set_cons_zero, List.set_cons_succ]
                      refine AnyG.take' (i := 4) (d := some 157) ⟨fun _ => trivial, fun i o hi => plainOps_spec (by kernel_rfl) hi⟩ rfl (by kernel_rfl) (by kernel_rfl) (by kernel_rfl) (by kernel_rfl) (by kernel_rfl) (fun _ _ _ h => h) hs0 (v := ?v4f) (Or.inl ⟨by first | (go_simp; done) | rfl, fun w' hw' => ?y4f⟩) ?_
                      case y4f => go_simp; (try rfl)
                      simp only [Act.put, List.setIfInBounds_toArray, List.set_cons_zero, List.set_cons_succ]
                      refine AnyG.take' (i := 5) (d := some 158) ⟨fun _ => trivial, fun i o hi => plainOps_spec (by kernel_rfl) hi⟩ rfl (by kernel_rfl) (by kernel_rfl) (by kernel_rfl) (by kernel_rfl) (by kernel_rfl) (fun _ _ _ h => h) hs0 (v := ?v5f) (Or.inl ⟨by first | (go_simp; done) | rfl, fun w' hw' => ?y5f⟩) ?_
                      case y5f => go_simp; (try rfl)
                      simp only [Act.put, List.setIfInBounds_toArray, List.set_cons_zero, List.set_cons_succ]
                      refine AnyG.take' (i := 6) (d := some 159) ⟨fun _ => trivial, fun i o hi => plainOps_spec (by kernel_rfl) hi⟩ rfl (by kernel_rfl) (by kernel_rfl) (by kernel_rfl) (by kernel_rfl) (by kernel_rfl) (fun _ _ _ h => h) hs0 (v := ?v6f) (Or.inl ⟨by first | (go_simp; done) | rfl, fun w' hw' => ?y6f⟩) ?_
                      case y6f => have z0 := hw'.2.1; go_simp; (try rfl)
                      simp only [Act.put, List.setIfInBounds_toArray, List.set_cons_zero, List.set_cons_succ]
                      refine AnyG.take' (i := 7) (d := some 160) ⟨fun _ => trivial, fun i o hi => plainOps_spec (by kernel_rfl) hi⟩ rfl (by kernel_rfl) (by kernel_rfl) (by kernel_rfl) (by kernel_rfl) (by kernel_rfl) (fun _ _ _ h => h) hs0 (v := ?v7f) (Or.inl ⟨by first | (go_simp; done) | rfl, fun w' hw' => ?y7f⟩) ?_
                      case y7f => go_simp; (try rfl)
                      simp only [Act.put, List.setIfInBounds_toArray, List.set_cons_zero, List.set_cons_succ]
                      refine AnyG.take' (i := 8) (d := some 161) ⟨fun _ => trivial, fun i o hi => plainOps_spec (by kernel_rfl) hi⟩ rfl (by kernel_rfl) (by kernel_rfl) (by kernel_rfl) (by kernel_rfl) (by kernel_rfl) (fun _ _ _ h => h) hs0 (v := ?v8f) (Or.inl ⟨by first | (go_simp; done) | rfl, fun w' hw' => ?y8f⟩) ?_
                      case y8f => go_simp; (try rfl)
                      simp only [Act.put, List.setIfInBounds_toArray, List.set_cons_zero, List.set_cons_succ]
                      refine AnyG.take' (i := 9) (d := some 162) ⟨fun _ => trivial, fun i o hi => plainOps_spec (by kernel_rfl) hi⟩ rfl (by kernel_rfl) (by kernel_rfl) (by kernel_rfl) (by kernel_rfl) (by kernel_rfl) (fun _ _ _ h => h) hs0 (v := ?v9f) (Or.inl ⟨by first | (go_simp; done) | rfl, fun w' hw' => ?y9f⟩) ?_
                      case y9f => go_simp; (try rfl)
                      simp only [Act.put, List.setIfInBounds_toArray, List.set_cons_zero, List.set_cons_succ]
                      refine AnyG.take' (i := 10) (d := some 163) ⟨fun _ => trivial, fun i o hi => plainOps_spec (by kernel_rfl) hi⟩ rfl (by kernel_rfl) (by kernel_rfl) (by kernel_rfl) (by kernel_rfl) (by kernel_rfl) (fun _ _ _ h => h) hs0 (v := ?v10f) (Or.inl ⟨by first | (go_simp; done) | rfl, fun w' hw' => ?y10f⟩) ?_
                      case y10f => go_simp; (try rfl)
                      simp only [Act.put, List.setIfInBounds_toArray, List.set_cons_zero, List.set_cons_succ]
                      refine AnyG.take' (i := 11) (d := some 164) ⟨fun _ => trivial, fun i o hi => plainOps_spec (by kernel_rfl) hi⟩ rfl (by kernel_rfl) (by kernel_rfl) (by kernel_rfl) (by kernel_rfl) (by kernel_rfl) (fun _ _ _ h => h) hs0 (v := ?v11f) (Or.inl ⟨by first | (go_simp; done) | rfl, fun w' hw' => ?y11f⟩) ?_
                      case y11f => have z0 := hw'.2.2.1; go_simp; (try rfl)
                      simp only [Act.put, List.setIfInBounds_toArray, List.set_cons_zero, List.set_cons_succ]
                      refine AnyG.take' (i := 12) (d := some 165) ⟨fun _ => trivial, fun i o hi => plainOps_spec (by kernel_rfl) hi⟩ rfl (by kernel_rfl) (by kernel_rfl) (by kernel_rfl) (by kernel_rfl) (by kernel_rfl) (fun _ _ _ h => h) hs0 (v := ?v12f) (Or.inl ⟨by first | (go_simp; done) | rfl, fun w' hw' => ?y12f⟩) ?_
                      case y12f => go_simp; (try rfl)
                      simp only [Act.put, List.setIfInBounds_toArray, List.set_cons_zero, List.set_cons_succ]
                      refine AnyG.take' (i := 13) (d := some 166) ⟨fun _ => trivial, fun i o hi => plainOps_spec (by kernel_rfl) hi⟩ rfl (by kernel_rfl) (by kernel_rfl) (by kernel_rfl) (by kernel_rfl) (by kernel_rfl) (fun _ _ _ h => h) hs0 (v := ?v13f) (Or.inl ⟨by first | (go_simp; done) | rfl, fun w' hw' => ?y13f⟩) ?_
                      case y13f => go_simp; (try rfl)
                      simp only [Act.put, List.setIfInBounds_toArray, List.set_cons_zero, List.set_cons_succ]
                      refine AnyG.take' (i := 14) (d := some 167) ⟨fun _ => trivial, fun i o hi => plainOps_spec (by kernel_rfl) hi⟩ rfl (by kernel_rfl) (by kernel_rfl) (by kernel_rfl) (by kernel_rfl) (by kernel_rfl) (fun _ _ _ h => h) hs0 (v := ?v14f) (Or.inl ⟨by first | (go_simp; done) | rfl, fun w' hw' => ?y14f⟩) ?_
                      case y14f => go_simp; (try rfl)
                      simp only [Act.put, List.setIfInBounds_toArray, List.set_cons_zero, List.set_cons_succ]
                      refine AnyG.take' (i := 15) (d := some 168) ⟨fun _ => trivial, fun i o hi => plainOps_spec (by kernel_rfl) hi⟩ rfl (by kernel_rfl) (by kernel_rfl) (by kernel_rfl) (by kernel_rfl) (by kernel_rfl) (fun _ _ _ h => h) hs0 (v := ?v15f) (Or.inl ⟨by first | (go_simp; done) | rfl, fun w' hw' => ?y15f⟩) ?_
                      case y15f => go_simp; (try rfl)
                      simp only [Act.put, List.setIfInBounds_toArray, List.set_cons_zero, List.set_cons_succ]
                      refine AnyG.take' (i := 16) (d := some 169) ⟨fun _ => trivial, fun i o hi => plainOps_spec (by kernel_rfl) hi⟩ rfl (by kernel_rfl) (by kernel_rfl) (by kernel_rfl) (by kernel_rfl) (by kernel_rfl) (fun _ _ _ h => h) hs0 (v := ?v16f) (Or.inl ⟨by first | (go_simp; done) | rfl, fun w' hw' => ?y16f⟩) ?_
                      case y16f => have z0 := hw'.2.2.2; go_simp; (try rfl)
                      simp only [Act.put, List.setIfInBounds_toArray, List.set_cons_zero, List.set_cons_succ]
                      refine AnyG.take' (i := 17) (d := some 170) ⟨fun _ => trivial, fun i o hi => plainOps_spec (by kernel_rfl) hi⟩ rfl (by kernel_rfl) (by kernel_rfl) (by kernel_rfl) (by kernel_rfl) (by kernel_rfl) (fun _ _ _ h => h) hs0 (v := ?v17f) (Or.inl ⟨by first | (go_simp; done) | rfl, fun w' hw' => ?y17f⟩) ?_
                      case y17f => go_simp; (try rfl)
                      simp only [Act.put, List.setIfInBounds_toArray, List.set_cons_zero, List.set_cons_succ]
                      refine AnyG.one (i := 18) rfl (by kernel_rfl) ?_
                      intro K hK
                      go_simp
                      refine hK _ _ (fun _ => hs1) ?_
                      clear hK
                      refine AnyG.one (i := 19) rfl (by kernel_rfl) ?_
                      intro K hK
                      refine stepIn_append_own _ rfl (.tmp 154) (.tmp 171) 48 rfl Bl5 93 i3 _ 3 32 Tryd.underlying48 hi3 hc0 hc1 hc2 rfl (by decide) _ r5.rows.length (rcells r5.rows) rfl HC6.out.row ⟨W5.heap.size, 0, none⟩ 1 1 [.int .i64 q.x.f0, .int .i64 q.x.f1, .string q.x.f3] rfl rfl
                        (row_news93 W5.drew (rowE q.x)) (one3 (rowE q.x)) (by have := HK5.out; unfold maxLen; omega) (by have := HK5.out; omega) HC6.out.hBl ?_
                      intro v8 w8 hown8 hgrow8
                      obtain ⟨A8, c8, rfl, hc8⟩ := own_slice hown8
                      obtain ⟨b8, hci8⟩ := HC6.out.grow (x := rowE q.x) hgrow8 hown8 hc8
                      have k1 := b8.cell 1 _ rfl
                      have k2 := b8.frozen 1
                      have HC8 := Lib.hid hci8
                      have hs2 := HSX _ b8 (HBW.out.trans ((HC6.out.c0.low.grown hgrow8 HC6.out.c0.sz (fun k e => Nat.le_trans HC6.out.hB (own_ge HC6.out.row e))).mono HBW.out.size))
                      clear hown8 hgrow8 hc8 hci8 b8
                      refine hK _ _ (fun _ => hs2) ?_
                      clear hK
                      simp only [Act.put, List.setIfInBounds_toArray, List.set_cons_zero, List.set_cons_succ]
                      refine AnyG.one (i := 20) rfl (by kernel_rfl) ?_
                      intro K hK
                      go_simp
                      refine hK _ _ (fun _ => hs2) ?_
                      clear hK
                      refine AnyG.one (i := 21) rfl (by kernel_rfl) ?_
                      intro K hK
                      go_simp
                      refine hK _ _ (fun h => absurd rfl h) ?_
                      clear hK
                      refine AnyG.done (by kernel_rfl) ?_ _
                      clear hs0 hs1 hs2 HSX
                      go_wp2_with fail
                      go_roundw
                      case rel =>
                        refine ⟨i + 1, by go_num, by omega, rs ++ [r], ⟨r5.A1, r5.c1, r5.ls, A8, c8, r5.rows ++ [rowE q.x]⟩, Bl5, ?_, ?_, ?_, HC8.out⟩
                        · rw [HRX.out, List.map_append, HR1.out, ← HR3.out, ← HR2.out]; rfl
                        · rw [HR5.out]
                        · rw [HRX.out, HR5.out]; rfl
                      case measure => simp [intOf]; omega
                    · have HRX : Hid (setR t.ls (G.take (i + 1)) OUT0 = ((setR t.ls (G.take i) OUT0).1, (setR t.ls (G.take i) OUT0).2 ++ [rowE q.x])) := Lib.hid (by rw [HSTEP.out, if_pos hyx]; unfold stepR; rw [← HR3.out, if_neg hk])
                      have hk1 : (r.rows.length == 1000) = false := by simpa using hk
                      have hk2 : ((r.rows.length : Int) == 1000) = false := by rw [beq_eq_false_iff_ne]; omega
                      have g0 := HC2.out.c0.box.cell 0 _ rfl
                      have g1 := HC2.out.c0.box.cell 1 _ rfl
                      clear hk hyx
                      go_wp2_with fail
                      obtain ⟨r5, hr5⟩ : ∃ r5, r5 = r := ⟨_, rfl⟩
                      subst hr5
                      obtain ⟨Bl5, hB5⟩ : ∃ Bl5, Bl5 = Bl := ⟨_, rfl⟩
                      subst hB5
                      have HC5 := HC2
                      have HK5 := HRR
                      clear g0 g1
                      have HCD := Lib.hid (HC5.out.below (Below.refl _ _).drew)
                      have HC6 := Lib.hid (HCD.out.below ((Below.refl _ _).alloc (Nat.le_refl _) (.cells #[.int .i64 q.x.f0, .int .i64 q.x.f1, .string q.x.f3] 93)))
                      have HSX : ∀ w', Blk w' bc (boxC r5) 50 → Below w6.heap.size w6 w' → (w'.cell? ⟨bc, 1, none⟩ = some (.slice r5.A2 r5.rows.length r5.c2) ∧ w'.cell? ⟨b, o + i * 4, none⟩ = some (.int .i64 q.x.f0) ∧ w'.cell? ⟨b, o + i * 4 + 1, none⟩ = some (.int .i64 q.x.f1) ∧ w'.cell? ⟨b, o + i * 4 + 3, none⟩ = some (.string q.x.f3)) := fun w' hb1 hb2 => ⟨hb1.cell 1 _ rfl, pw_cell_below hb2 HY.out.1, pw_cell_below hb2 HY.out.2.1, pw_cell_below hb2 HY.out.2.2.2⟩
                      have hs0 := HSX _ HCD.out.c0.box (HBW.out.trans (HCD.out.c0.low.mono HBW.out.size))
                      have hs1 := HSX _ HC6.out.c0.box (HBW.out.trans (HC6.out.c0.low.mono HBW.out.size))
                      refine (wpIn_wide (n := 1)).1 ?_
                      refine region_held_g (z := 21) (S := fun w' => w'.cell? ⟨bc, 1, none⟩ = some (.slice r5.A2 r5.rows.length r5.c2) ∧ w'.cell? ⟨b, o + i * 4, none⟩ = some (.int .i64 q.x.f0) ∧ w'.cell? ⟨b, o + i * 4 + 1, none⟩ = some (.int .i64 q.x.f1) ∧ w'.cell? ⟨b, o + i * 4 + 3, none⟩ = some (.string q.x.f3)) (by kernel_rfl) ?_
                      refine AnyG.take' (i := 0) (d := some 153) ⟨fun _ => trivial, fun i o hi => plainOps_spec (by kernel_rfl) hi⟩ rfl (by kernel_rfl) (by kernel_rfl) (by kernel_rfl) (by kernel_rfl) (by kernel_rfl) (fun _ _ _ h => h) hs0 (v := ?v0m) (Or.inl ⟨by first | (go_simp; done) | rfl, fun w' hw' => ?y0m⟩) ?_
                      case y0m => go_simp; (try rfl)
                      simp only [Act.put, List.setIfInBounds_toArray, List.set_cons_zero, List.set_cons_succ]
                      refine AnyG.take' (i := 1) (d := some 154) ⟨fun _ => trivial, fun i o hi => plainOps_spec (by kernel_rfl) hi⟩ rfl (by kernel_rfl) (by kernel_rfl) (by kernel_rfl) (by kernel_rfl) (by kernel_rfl) (fun _ _ _ h => h) hs0 (v := ?v1m) (Or.inl ⟨by first | (go_simp; done) | rfl, fun w' hw' => ?y1m⟩) ?_
                      case y1m => have z0 := hw'.1; go_simp; (try rfl)
                      simp only [Act.put, List.setIfInBounds_toArray, List.set_cons_zero, List.set_cons_succ]
                      refine AnyG.take' (i := 2) (d := some 155) ⟨fun _ => trivial, fun i o hi => plainOps_spec (by kernel_rfl) hi⟩ rfl (by kernel_rfl) (by kernel_rfl) (by kernel_rfl) (by kernel_rfl) (by kernel_rfl) (fun _ _ _ h => h) hs0 (v := ?v2m) (Or.inl ⟨by first | (go_simp; done) | rfl, fun w' hw' => ?y2m⟩) ?_
                      case y2m => go_simp; (try rfl)
                      simp only [Act.put, List.setIfInBounds_toArray, List.set_cons_zero, List.set_cons_succ]
                      refine AnyG.take' (i := 3) (d := some 156) ⟨fun _ => trivial, fun i o hi => plainOps_spec (by kernel_rfl) hi⟩ rfl (by kernel_rfl) (by kernel_rfl) (by kernel_rfl) (by kernel_rfl) (by kernel_rfl) (fun _ _ _ h => h) hs0 (v := ?v3m) (Or.inl ⟨by first | (go_simp; done) | rfl, fun w' hw' => ?y3m⟩) ?_
                      case y3m => go_simp; (try rfl)
                      simp only [Act.put, List.setIfInBounds_toArray, List.set_cons_zero, List.set_cons_succ]
                      refine AnyG.take' (i := 4) (d := some 157) ⟨fun _ => trivial, fun i o hi => plainOps_spec (by kernel_rfl) hi⟩ rfl (by kernel_rfl) (by kernel_rfl) (by kernel_rfl) (by kernel_rfl) (by kernel_rfl) (fun _ _ _ h => h) hs0 (v := ?v4m) (Or.inl ⟨by first | (go_simp; done) | rfl, fun w' hw' => ?y4m⟩) ?_
                      case y4m => go_simp; (try rfl)
                      simp only [Act.put, List.setIfInBounds_toArray, List.set_cons_zero, List.set_cons_succ]
                      refine AnyG.take' (i := 5) (d := some 158) ⟨fun _ => trivial, fun i o hi => plainOps_spec (by kernel_rfl) hi⟩ rfl (by kernel_rfl) (by kernel_rfl) (by kernel_rfl) (by kernel_rfl) (by kernel_rfl) (fun _ _ _ h => h) hs0 (v := ?v5m) (Or.inl ⟨by first | (go_simp; done) | rfl, fun w' hw' => ?y5m⟩) ?_
                      case y5m => go_simp; (try rfl)
                      simp only [Act.put, List.setIfInBounds_toArray, List.set_cons_zero, List.set_cons_succ]
                      refine AnyG.take' (i := 6) (d := some 159) ⟨fun _ => trivial, fun i o hi => plainOps_spec (by kernel_rfl) hi⟩ rfl (by kernel_rfl) (by kernel_rfl) (by kernel_rfl) (by kernel_rfl) (by kernel_rfl) (fun _ _ _ h => h) hs0 (v := ?v6m) (Or.inl ⟨by first | (go_simp; done) | rfl, fun w' hw' => ?y6m⟩) ?_
                      case y6m => have z0 := hw'.2.1; go_simp; (try rfl)
                      simp only [Act.put, List.setIfInBounds_toArray, List.set_cons_zero, List.set_cons_succ]
                      refine AnyG.take' (i := 7) (d := some 160) ⟨fun _ => trivial, fun i o hi => plainOps_spec (by kernel_rfl) hi⟩ rfl (by kernel_rfl) (by kernel_rfl) (by kernel_rfl) (by kernel_rfl) (by kernel_rfl) (fun _ _ _ h => h) hs0 (v := ?v7m) (Or.inl ⟨by first | (go_simp; done) | rfl, fun w' hw' => ?y7m⟩) ?_
                      case y7m => go_simp; (try rfl)
                      simp only [Act.put, List.setIfInBounds_toArray, List.set_cons_zero, List.set_cons_succ]
                      refine AnyG.take' (i := 8) (d := some 161) ⟨fun _ => trivial, fun i o hi => plainOps_spec (by kernel_rfl) hi⟩ rfl (by kernel_rfl) (by kernel_rfl) (by kernel_rfl) (by kernel_rfl) (by kernel_rfl) (fun _ _ _ h => h) hs0 (v := ?v8m) (Or.inl ⟨by first | (go_simp; done) | rfl, fun w' hw' => ?y8m⟩) ?_
                      case y8m => go_simp; (try rfl)
                      simp only [Act.put, List.setIfInBounds_toArray, List.set_cons_zero, List.set_cons_succ]
                      refine AnyG.take' (i := 9) (d := some 162) ⟨fun _ => trivial, fun i o hi => plainOps_spec (by kernel_rfl) hi⟩ rfl (by kernel_rfl) (by kernel_rfl) (by kernel_rfl) (by kernel_rfl) (by kernel_rfl) (fun _ _ _ h => h) hs0 (v := ?v9m) (Or.inl ⟨by first | (go_simp; done) | rfl, fun w' hw' => ?y9m⟩) ?_
                      case y9m => go_simp; (try rfl)
                      simp only [Act.put, List.setIfInBounds_toArray, List.set_cons_zero, List.set_cons_succ]
                      refine AnyG.take' (i := 10) (d := some 163) ⟨fun _ => trivial, fun i o hi => plainOps_spec (by kernel_rfl) hi⟩ rfl (by kernel_rfl) (by kernel_rfl) (by kernel_rfl) (by kernel_rfl) (by kernel_rfl) (fun _ _ _ h => h) hs0 (v := ?v10m) (Or.inl ⟨by first | (go_simp; done) | rfl, fun w' hw' => ?y10m⟩) ?_
                      case y10m => go_simp; (try rfl)
                      simp only [Act.put, List.setIfInBounds_toArray, List.set_cons_zero, List.set_cons_succ]
                      refine AnyG.take' (i := 11) (d := some 164) ⟨fun _ => trivial, fun i o hi => plainOps_spec (by kernel_rfl) hi⟩ rfl (by kernel_rfl) (by kernel_rfl) (by kernel_rfl) (by kernel_rfl) (by kernel_rfl) (fun _ _ _ h => h) hs0 (v := ?v11m) (Or.inl ⟨by first | (go_simp; done) | rfl, fun w' hw' => ?y11m⟩) ?_
                      case y11m => have z0 := hw'.2.2.1; go_simp; (try rfl)
                      simp only [Act.put, List.setIfInBounds_toArray, List.set_cons_zero, List.set_cons_succ]
                      refine AnyG.take' (i := 12) (d := some 165) ⟨fun _ => trivial, fun i o hi => plainOps_spec (by kernel_rfl) hi⟩ rfl (by kernel_rfl) (by kernel_rfl) (by kernel_rfl) (by kernel_rfl) (by kernel_rfl) (fun _ _ _ h => h) hs0 (v := ?v12m) (Or.inl ⟨by first | (go_simp; done) | rfl, fun w' hw' => ?y12m⟩) ?_
                      case y12m => go_simp; (try rfl)
                      simp only [Act.put, List.setIfInBounds_toArray, List.set_cons_zero, List.set_cons_succ]
                      refine AnyG.take' (i := 13) (d := some 166) ⟨fun _ => trivial, fun i o hi => plainOps_spec (by kernel_rfl) hi⟩ rfl (by kernel_rfl) (by kernel_rfl) (by kernel_rfl) (by kernel_rfl) (by kernel_rfl) (fun _ _ _ h => h) hs0 (v := ?v13m) (Or.inl ⟨by first | (go_simp; done) | rfl, fun w' hw' => ?y13m⟩) ?_
                      case y13m => go_simp; (try rfl)
                      simp only [Act.put, List.setIfInBounds_toArray, List.set_cons_zero, List.set_cons_succ]
                      refine AnyG.take' (i := 14) (d := some 167) ⟨fun _ => trivial, fun i o hi => plainOps_spec (by kernel_rfl) hi⟩ rfl (by kernel_rfl) (by kernel_rfl) (by kernel_rfl) (by kernel_rfl) (by kernel_rfl) (fun _ _ _ h => h) hs0 (v := ?v14m) (Or.inl ⟨by first | (go_simp; done) | rfl, fun w' hw' => ?y14m⟩) ?_
                      case y14m => go_simp; (try rfl)
                      simp only [Act.put, List.setIfInBounds_toArray, List.set_cons_zero, List.set_cons_succ]
                      refine AnyG.take' (i := 15) (d := some 168) ⟨fun _ => trivial, fun i o hi => plainOps_spec (by kernel_rfl) hi⟩ rfl (by kernel_rfl) (by kernel_rfl) (by kernel_rfl) (by kernel_rfl) (by kernel_rfl) (fun _ _ _ h => h) hs0 (v := ?v15m) (Or.inl ⟨by first | (go_simp; done) | rfl, fun w' hw' => ?y15m⟩) ?_
                      case y15m => go_simp; (try rfl)
                      simp only [Act.put, List.setIfInBounds_toArray, List.set_cons_zero, List.set_cons_succ]
                      refine AnyG.take' (i := 16) (d := some 169) ⟨fun _ => trivial, fun i o hi => plainOps_spec (by kernel_rfl) hi⟩ rfl (by kernel_rfl) (by kernel_rfl) (by kernel_rfl) (by kernel_rfl) (by kernel_rfl) (fun _ _ _ h => h) hs0 (v := ?v16m) (Or.inl ⟨by first | (go_simp; done) | rfl, fun w' hw' => ?y16m⟩) ?_
                      case y16m => have z0 := hw'.2.2.2; go_simp; (try rfl)
                      simp only [Act.put, List.setIfInBounds_toArray, List.set_cons_zero, List.set_cons_succ]
                      refine AnyG.take' (i := 17) (d := some 170) ⟨fun _ => trivial, fun i o hi => plainOps_spec (by kernel_rfl) hi⟩ rfl (by kernel_rfl) (by kernel_rfl) (by kernel_rfl) (by kernel_rfl) (by kernel_rfl) (fun _ _ _ h => h) hs0 (v := ?v17m) (Or.inl ⟨by first | (go_simp; done) | rfl, fun w' hw' => ?y17m⟩) ?_
                      case y17m => go_simp; (try rfl)
                      simp only [Act.put, List.setIfInBounds_toArray, List.set_cons_zero, List.set_cons_succ]
                      refine AnyG.one (i := 18) rfl (by kernel_rfl) ?_
                      intro K hK
                      go_simp
                      refine hK _ _ (fun _ => hs1) ?_
                      clear hK
                      refine AnyG.one (i := 19) rfl (by kernel_rfl) ?_
                      intro K hK
                      refine stepIn_append_own _ rfl (.tmp 154) (.tmp 171) 48 rfl Bl5 93 i3 _ 3 32 Tryd.underlying48 hi3 hc0 hc1 hc2 rfl (by decide) _ r5.rows.length (rcells r5.rows) rfl HC6.out.row ⟨w2.heap.size, 0, none⟩ 1 1 [.int .i64 q.x.f0, .int .i64 q.x.f1, .string q.x.f3] rfl rfl
                        (row_news93 w2.drew (rowE q.x)) (one3 (rowE q.x)) (by have := HK5.out; unfold maxLen; omega) (by have := HK5.out; omega) HC6.out.hBl ?_
                      intro v8 w8 hown8 hgrow8
                      obtain ⟨A8, c8, rfl, hc8⟩ := own_slice hown8
                      obtain ⟨b8, hci8⟩ := HC6.out.grow (x := rowE q.x) hgrow8 hown8 hc8
                      have k1 := b8.cell 1 _ rfl
                      have k2 := b8.frozen 1
                      have HC8 := Lib.hid hci8
                      have hs2 := HSX _ b8 (HBW.out.trans ((HC6.out.c0.low.grown hgrow8 HC6.out.c0.sz (fun k e => Nat.le_trans HC6.out.hB (own_ge HC6.out.row e))).mono HBW.out.size))
                      clear hown8 hgrow8 hc8 hci8 b8
                      refine hK _ _ (fun _ => hs2) ?_
                      clear hK
                      simp only [Act.put, List.setIfInBounds_toArray, List.set_cons_zero, List.set_cons_succ]
                      refine AnyG.one (i := 20) rfl (by kernel_rfl) ?_
                      intro K hK
                      go_simp
                      refine hK _ _ (fun _ => hs2) ?_
                      clear hK
                      refine AnyG.one (i := 21) rfl (by kernel_rfl) ?_
                      intro K hK
                      go_simp
                      refine hK _ _ (fun h => absurd rfl h) ?_
                      clear hK
                      refine AnyG.done (by kernel_rfl) ?_ _
                      clear hs0 hs1 hs2 HSX
                      go_wp2_with fail
                      go_roundw
                      case rel =>
                        refine ⟨i + 1, by go_num, by omega, rs, ⟨r5.A1, r5.c1, r5.ls, A8, c8, r5.rows ++ [rowE q.x]⟩, Bl5, ?_, HR2.out, ?_, HC8.out⟩
                        · rw [HRX.out, HR1.out]
                        · rw [HRX.out, ← HR3.out]
                      case measure => simp [intOf]; omega
                  · have hz1 : (cmpL q.x.f2 t.ls != 0) = true := by simp [hz]
                    have hyx : ¬ q.x.f2 = t.ls := fun h => hz (HEQ.out.2 h)
                    have HRX : Hid (setR t.ls (G.take (i + 1)) OUT0 = setR t.ls (G.take i) OUT0) := Lib.hid (by rw [HSTEP.out, if_neg hyx])
                    have c120 := fun d os => Calls.regrown_of (HCM.out (Go.Sort.grow (redrawn wr d) os) (hb6.trans ((below_regrown wr d os).mono hb6.size)))
                    have R2 := fun d os => cell_regrown p2 d os
                    have S2 := fun d os => cell_regrown t2 d os
                    refine wp_region_quiet_below (by kernel_rfl) (by kernel_rfl) ?_
                    repeat (first
                      | go_big_quiet_step ((go_at_call 120; with_reducible exact c120 _ _))
                      | quiet_step ((go_at_call 120; with_reducible exact c120 _ _)))
                    refine wpQuiet_nil ?_
                    intro _ hw'
                    obtain ⟨⟨dq, osq⟩, hw''⟩ := hw'
                    subst hw''
                    have hbq := below_regrown wr dq osq
                    clear R2 S2 c120
                    generalize Go.Sort.grow (redrawn wr dq) osq = w2 at hbq ⊢
                    have HC2 := Lib.hid (HCI.out.below hbq)
                    clear p2 t2 hbq hb6 HCI hyx
                    go_wp2_with fail
                    go_roundw
                    case rel => exact ⟨i + 1, by go_num, by omega, rs, r, Bl, by rw [HRX.out]; exact HR1.out, HR2.out, by rw [HRX.out]; exact HR3.out, HC2.out⟩
                    case measure => simp [intOf]; omega
                · have hliz : ¬ (i : Int) < (n : Int) := by omega
                  obtain rfl : n = i := by omega
                  have g0 := hci.c0.box.cell 0 _ rfl
                  have g1 := hci.c0.box.cell 1 _ rfl
                  have HCP := Lib.hid (hci.below ((Below.refl _ _).alloc (Nat.le_refl _) (.cells (boxC r) 50)))
                  clear hci hr1 hr2 hr3 HJ
                  obtain ⟨w2, rfl⟩ : ∃ w2 : World, w2 = wr := ⟨_, rfl⟩
                  go_wp2_with (first
                    | ((with_reducible refine gate_builtin (b := .append) (xs := #[.tmp 174, .tmp 176]) rfl ?_); at_builtin; refine wpList_append_row rfl (.tmp 174) (.tmp 176) 68 rfl w7.heap.size 50 i2 _ 2 48 Tryd.underlying68 hi2 hb0 hb1' hb2' rfl (by decide) _ rs.length (rs.flatMap RK.cells) rfl HCP.out.c0.out.own (some ⟨w2.heap.size, 0, none⟩) 1 1 (RK.cells r) rfl (by intro e; cases e) (Nat.le_refl _) rfl (rowCells_new (cs := boxC r) rfl) (RK.cells_one _) (by have := HRL.out; unfold maxLen; omega) (by have := HRL.out; omega) HCP.out.c0.sz ?_; intro v3 w3 hownp hgrowp hwhere; have hp3 := HCP.out.push hownp hgrowp hwhere; have HP3 := Lib.hid hp3; clear hownp hgrowp hwhere hp3))
                  go_roundw
                  case rel =>
                    refine ⟨s + 1, by go_num, by omega, rs ++ [r], ?_, HP3.out.out, HP3.out.low⟩
                    have h1 := HR1.out
                    have h3 := HR3.out
                    rw [List.take_of_length_le (Nat.le_of_eq HGL.out)] at h1 h3
                    rw [grpR_succ _ _ _ HSS.out, HSE.out, ← HO0.out, List.map_append, h1, ← h3, ← HR2.out]; rfl
                  case measure => simp [intOf]; omega
            · have hltz : ¬ (s : Int) < (k : Int) := by omega
              obtain rfl : k = s := by omega
              have HCH := Lib.hid hch
              have HRS := Lib.hid hrs
              have HBS := Lib.hid hbw
              clear hch hrs hbw HI
              have hlen : rs.length = rs.length := rfl
              go_wp2_with fail
              go_ret
              refine ⟨A9, q9, rs, rfl, ?_, HCH.out.le ?_, HB6.out.trans ((HBW.out.trans (HBS.out.mono HBW.out.size)).mono HB6.out.size)⟩
              · rw [HRS.out, List.take_of_length_le (by rw [← HM.out, List.length_map]; exact Nat.le_of_eq HL.out)]
              · exact Nat.le_trans HB6.out.size HBW.out.size
end Go.Proofs.YtojocffjajcdmaaDoor.RF
