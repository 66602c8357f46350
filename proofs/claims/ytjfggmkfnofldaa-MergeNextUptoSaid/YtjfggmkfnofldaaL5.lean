import Derived.Test.YtjfggmkfnofldaaL4
namespace Go.Proofs.Ytjfggmkfnofldaa
open Go.RowKit
set_option linter.unusedVariables false

theorem same_true (a b : Ent) (aa : AEnt) (w : World) (ha : EntA w a aa) (hb : EntA w b aa) :
    Calls Try.prog 18 #[.agg #[.int .i64 a.s, .int .i64 a.t, .slice a.A a.n a.c, .string a.x], .agg #[.int .i64 b.s, .int .i64 b.t, .slice b.A b.n b.c, .string b.x]] w fun e w' => e = .returned (.bool true) ∧ Below w.heap.size w w' :=
  (same_any a b aa aa w ha hb).mono fun e w' h => ⟨by rw [h.1]; simp, h.2⟩

def SpRel (w w1 w4 : World) (v1 : Value) (rs1 : List Raw) (v10 : Value) (wr : World) : Prop := ∃ k : Nat, v10 = .int .i64 k ∧ k ≤ rs1.length ∧ SpInv w w1 w4 v1 rs1 wr
def NxRel (W0 : World) (nw : Bool) (ib hb mb tb mb2 m : Nat) (v2 : Value) (v12 : Value) (wr : World) : Prop :=
  ∃ (i : Nat) (v : Value) (ys : List It) (qs : List Raw) (seen : List Int) (sk : Int) (rowsX : List (List Ent)) (rowsA : List (List AEnt)), v12 = .int .i64 i ∧ i ≤ m ∧ NxInv W0 nw ib hb mb tb mb2 v v2 ys qs seen sk rowsX rowsA wr

theorem NxInv.belowed {W0 : World} {nw : Bool} {ib hb mb tb mb2 : Nat} {v v2 : Value} {ys : List It} {qs : List Raw} {seen : List Int} {sk : Int} {rowsX : List (List Ent)} {rowsA : List (List AEnt)} {wr w' : World} (h : NxInv W0 nw ib hb mb tb mb2 v v2 ys qs seen sk rowsX rowsA wr) (k : Below wr.heap.size wr w') :
    NxInv W0 nw ib hb mb tb mb2 v v2 ys qs seen sk rowsX rowsA w' :=
  ⟨h.it.move (KeepF.of_below k (fun _ => False)) (fun h => h) (fun h => h) (fun h => h) (fun _ _ h => h) (fun _ _ h => h), h.sim, h.relX, h.ref.move (KeepF.of_below k (fun _ => False)) (fun h => h) (fun h => h) (fun _ _ h => h) (fun _ _ _ _ _ _ h => h), h.relR, h.okX, h.okR, h.old, h.small, h.bd, h.ne, thenB h.bel k⟩

def EntOf (W0 : World) : Option Ent → AEnt → Prop
  | none, a => a = ⟨0, 0, [], ⟨#[]⟩⟩
  | some x, a => EntA W0 x a
def zeroE : Ent := ⟨0, 0, none, 0, 0, ⟨#[]⟩⟩
theorem zeroE_ent (w : World) : EntA w zeroE ⟨0, 0, [], ⟨#[]⟩⟩ := ⟨rfl, rfl, rfl, fun h => by simp [lcells] at h, rfl, ⟨Nat.le_refl _, fun _ => rfl⟩, by show 0 * 32 ≤ 140737488355328; omega⟩
/-- What an iterator has answered, as an entry. -/
def NxOut (W0 : World) (r : Option Ent) (e : Ending) (w' : World) : Prop :=
  ∃ (o : Ent), e = .returned (.tuple #[.agg #[.int .i64 o.s, .int .i64 o.t, .slice o.A o.n o.c, .string o.x], .bool r.isSome]) ∧ ∀ a, EntOf W0 r a → EntA w' o a
def NxOut1 (W0 : World) (r : Option Ent) (e : Ending) (w' : World) : Prop :=
  ∃ (o : Ent), e = .returned (.tuple #[.agg #[.int .i64 o.s, .int .i64 o.t, .slice o.A o.n o.c, .string o.x], .bool r.isSome]) ∧ ∀ a, EntOf W0 r a → EntA w' o a ∧ ∀ b k, o.A = some ⟨b, k, none⟩ → 0 < a.ls.length → ∃ cs fr, w'.heap[b]? = some (.cells cs 55 fr)
theorem nx_out1 {W0 wr w5 : World} {r1 : Option Ent} {e : Ending} (hend : match r1 with
    | none => e = .returned (.tuple #[.agg #[.int .i64 0, .int .i64 0, .slice none 0 0, .string ⟨#[]⟩], .bool false])
    | some x => EntOk W0 x ∧ ∃ u ls, LabIs W0 x ls ∧ e = .returned (.tuple #[entVal x u, .bool true]) ∧ w5.ownsRow wr.heap.size 55 2 u x.n (lcells ls)) : NxOut1 W0 r1 e w5 := by
  cases r1 with
  | none => exact ⟨zeroE, hend, fun a ha => by rw [show a = _ from ha]; exact ⟨zeroE_ent _, fun b k e => by cases e⟩⟩
  | some x =>
    obtain ⟨_, u, ls, hls, rfl, hu⟩ := hend
    obtain ⟨Au, cu, rfl⟩ := own_sl hu
    refine ⟨⟨x.s, x.t, Au, x.n, cu, x.x⟩, rfl, fun a ha => ?_⟩
    have ha : EntA W0 x a := ha
    have hq := hls.uniq ha.ls
    subst hq
    have : OwnEnt w5 wr.heap.size ⟨x.s, x.t, Au, x.n, cu, x.x⟩ a := ⟨ha.s, ha.t, ha.x, ha.ls.2.1.symm, ha.ls.2.2.2, hu⟩
    refine ⟨this.ent, fun b k e hp => ?_⟩
    rcases hu.2 with ⟨hv, h0⟩ | ⟨g, cap, cur, hv, hbg, hg, _⟩
    · have := ha.ls.2.1; omega
    · injection hv with e1
      simp only at e
      rw [e1] at e; injection e with e; injection e with e _
      subst e
      exact ⟨_, _, hg⟩
theorem nx_out2 {W0 w7 : World} {r2 : Option Ent} {e : Ending} (hb : Below W0.heap.size W0 w7) (hend : match r2 with
    | none => e = .returned (.tuple #[.agg #[.int .i64 0, .int .i64 0, .slice none 0 0, .string ⟨#[]⟩], .bool false])
    | some x => EntOk W0 x ∧ e = .returned (.tuple #[entVal x (.slice x.A x.n x.c), .bool true])) : NxOut W0 r2 e w7 := by
  cases r2 with
  | none => exact ⟨zeroE, hend, fun a ha => by rw [show a = _ from ha]; exact zeroE_ent _⟩
  | some x =>
    obtain ⟨_, rfl⟩ := hend
    exact ⟨x, rfl, fun a ha => EntA.below ha hb⟩

set_option maxRecDepth 100000 in
set_option maxHeartbeats 4000000 in
theorem mergeNext_any (A : Option Addr) (c : Nat) (nw : Bool) (calls : Int) (rs : List Raw) (xss : List (List AEnt)) (w : World) (hr : RowsA w A rs xss) (hc : A = none → c = 0) (hok : ∀ xs ∈ xss, ∀ a ∈ xs, AOk a) (hn : rs.length ≤ 100000000000) (ht : totA xss ≤ 100000000000) (hs : ∀ xs ∈ xss, xs.length * 56 ≤ 140737488355328) :
    Calls Try.prog 7 #[.slice A rs.length c, .bool nw, .int .i64 calls] w fun e w' => e = .returned (.bool true) ∧ Below w.heap.size w w' := by
  have hs0 : ∀ r ∈ rs, r.es.length * 56 ≤ 140737488355328 := by
    intro r h
    obtain ⟨i, hi, rfl⟩ := List.getElem_of_mem h
    have hx : i < xss.length := by rw [← hr.len]; exact hi
    rw [(hr.rows i hi hx).len]
    exact hs _ (List.getElem_mem hx)
  have HW := Lib.hid (rows11 A c rs xss w hr hs0 (by omega))
  have HR := Lib.hid hr
  clear hr
  go_enter Try.func7, Try.ntmps7
  go_wp2_with fail
  refine (HW.out).mono ?_
  rintro r w1 ⟨v1, rs1, rfl, ho1, hb1⟩
  obtain ⟨A1, c1, rfl⟩ := own_sl ho1.own
  have HO1 := Lib.hid ho1
  have hl1 : rs1.length = rs.length := by rw [ho1.len, HR.out.len]
  have HN := Lib.hid (new_any A1 c1 nw rs1 w1 ho1.rowsA.1.cells (fun r h => by
    obtain ⟨i, hi, rfl⟩ := List.getElem_of_mem h
    have hx : i < xss.length := by rw [← ho1.len]; exact hi
    refine ⟨(ho1.rowsA.1.rows i hi hx).cells, ?_⟩
    rw [(ho1.rowsA.1.rows i hi hx).len]
    exact hs _ (List.getElem_mem hx)) (by omega))
  have HL1 := Lib.hid hl1
  have hsl : rs1.length ≤ 100000000000 := by omega
  clear ho1 hs0 hl1
  go_wp2_with fail
  refine (HN.out).mono ?_
  rintro r w2 ⟨ib, hb, mb, v, its, rfl, hit, hits, hb2⟩
  have HI := Lib.hid hit
  have HIT := Lib.hid hits
  clear hit hits HN HW
  go_wp2_with fail
  refine (rnew_any A c nw rs w2 (HR.out.cells.below (thenB hb1 hb2)) hc (fun r h => by
    obtain ⟨i, hi, rfl⟩ := List.getElem_of_mem h
    have hx : i < xss.length := by rw [← HR.out.len]; exact hi
    exact ⟨((HR.out.rows i hi hx).cells).below (thenB hb1 hb2), (HR.out.cap _ h).2⟩) (by omega)).mono ?_
  rintro r w3 ⟨tb, mb2, v2, rfl, href, hb3⟩
  have HRF := Lib.hid href
  clear href
  go_wp2_with (go_at_call 16; refine (knows_any _).mono ?_; rintro r w4 ⟨rfl, hb4⟩)
  have hsp := SpInv.start HO1.out (thenB hb2 (thenB hb3 hb4))
  go_loopw [10] (fun v10 wr => SpRel w w1 w4 (.slice A1 rs1.length c1) rs1 v10 wr) (fun v10 _ => rs1.length - (intOf v10).toNat)
  case atStart => exact ⟨0, rfl, Nat.zero_le _, hsp⟩
  case round =>
    clear hsp
    obtain ⟨k, rfl, hk, hi⟩ := hrel
    by_cases hlt : k < rs1.length
    · obtain ⟨g1, rfl, _⟩ := own_at hi.own (by omega)
      have HROW : Hid (∀ wi, SpInv w w1 w4 (.slice (some ⟨g1, 0, none⟩) rs1.length c1) rs1 wi → wi.cell? ⟨g1, k, none⟩ = some (.slice rs1[k].A rs1[k].es.length rs1[k].c)) := Lib.hid (fun wi hwi => by
        obtain ⟨g', e', e2⟩ := own_row hwi.own k (by simpa using hlt)
        injection e' with e'; injection e' with e'
        subst e'
        rw [List.getElem_map] at e2
        exact e2)
      have HMEM : Hid (rs1[k] ∈ rs1) := Lib.hid (List.getElem_mem hlt)
      have hlen0 : rs1[k].es.length * 56 ≤ 140737488355328 := by
        have hx : k < xss.length := by rw [← HO1.out.len]; exact hlt
        rw [(HO1.out.rows k hlt hx).len]
        exact hs _ (List.getElem_mem hx)
      have hi1 : (k : Int) < (rs1.length : Int) := by omega
      have p0 := HROW.out _ hi
      have HII := Lib.hid hi
      clear hi
      generalize rs1[k] = rk at *
      go_wp2_with (go_at_call 15; refine (spoil_empty _ _ _).mono ?_; rintro r wx ⟨rfl, rfl⟩)
      go_loopw [11] (fun v11 wi => ∃ j : Nat, v11 = .int .i64 j ∧ j ≤ rk.es.length ∧ SpInv w w1 w4 (.slice (some ⟨g1, 0, none⟩) rs1.length c1) rs1 wi) (fun v11 _ => rk.es.length - (intOf v11).toNat)
      case atStart => exact ⟨0, rfl, Nat.zero_le _, HII.out⟩
      case round =>
        clear p0 HII
        obtain ⟨j, rfl, hj, hi⟩ := hrel
        have p1 := HROW.out _ hi
        by_cases hjl : j < rk.es.length
        · obtain ⟨g, cs, e1, e2, e3, e4⟩ := hi.rows rk HMEM.out (by omega)
          rw [e1] at p1
          have hj1 : (j : Int) < (rk.es.length : Int) := by omega
          obtain ⟨u, q1⟩ : ∃ u, wr.cell? ⟨g, j * 4, none⟩ = some u := ⟨cs[j * 4]'(by omega), by unfold World.cell?; simp [e3]⟩
          have q2 : wr.frozen? ⟨g, j * 4, none⟩ = false := by unfold World.frozen?; simp [e3]
          have HST := Lib.hid (hi.step (i := j * 4) e2 e3 (.int .i64 (-5)))
          clear hi e1 e2 e3 e4
          go_wp2_with fail
          go_roundw
          case rel => exact ⟨j + 1, by go_num, by omega, HST.out⟩
          case measure => simp [intOf]; omega
        · have HII := Lib.hid hi
          clear hi
          go_wp2_with fail
          go_roundw
          case rel => exact ⟨k + 1, by go_num, by omega, HII.out⟩
          case measure => simp [intOf]; omega
    · have hstart := nx_start HR.out hb1 HO1.out hok ht hn HI.out HIT.out hb2 HRF.out hb3 hb4 hi
      obtain ⟨W0, hw0, hnx⟩ := hstart
      have HNX := Lib.hid hnx
      clear hnx hi
      obtain ⟨m, hm1, hm2⟩ := calls_m calls
      go_wp2_with fail
      have HM := Lib.hid hm1
      clear hm1
      generalize wrap64 (calls.tmod 60 + 60) = y1
      generalize calls.tmod 60 = y2
      go_loopw [12] (fun v12 wr => NxRel W0 nw ib hb mb tb mb2 m v2 v12 wr) (fun v12 _ => m - (intOf v12).toNat)
      case atStart => exact ⟨0, v, _, rs, [], 0, _, _, rfl, Nat.zero_le _, HNX.out⟩
      case round =>
        obtain ⟨i, v', ys, qs, seen, sk, rowsX, rowsA, rfl, him, h⟩ := hrel
        by_cases hlt : i < m
        · have hi1 : (i : Int) < (m : Int) := by omega
          have htt := h.tots
          have hbd := h.bd
          have HT := Lib.hid (next_any W0 wr ib hb mb v' nw (totA rowsA + 1) ys seen sk h.it (by omega) (by omega) hbd.2 h.okX h.bel)
          have HH := Lib.hid h
          have HB := Lib.hid hbd
          have HTT := Lib.hid htt
          clear h htt hbd
          go_wp2_with fail
          refine (HT.out).mono ?_
          rintro e w5 ⟨r1, v5, ys5, s5, k5, hx, it5, kf5, _, _, ok5, hend⟩
          obtain ⟨ref5, bel5⟩ := HH.out.ref_kept kf5
          have HX := Lib.hid hx
          clear hx HT
          obtain ⟨o1, rfl, ho1⟩ := nx_out1 hend
          clear hend
          have HO5 := Lib.hid ho1
          have blk5 := Blk.new w5 #[.int .i64 o1.s, .int .i64 o1.t, .slice o1.A o1.n o1.c, .string o1.x] 34 _ rfl
          have hal := (Below.refl w5.heap.size w5).alloc (Nat.le_refl _) (.cells #[.int .i64 o1.s, .int .i64 o1.t, .slice o1.A o1.n o1.c, .string o1.x] 34)
          have it6 := it5.move (KeepF.of_below hal (fun _ => False)) (fun h => h) (fun h => h) (fun h => h) (fun _ _ h => h) (fun _ _ h => h)
          have ref6 := ref5.move (KeepF.of_below hal (fun _ => False)) (fun h => h) (fun h => h) (fun _ _ h => h) (fun _ _ _ _ _ _ h => h)
          have bel6 := thenB bel5 hal
          have HR2 := Lib.hid (rnext_any W0 _ tb mb2 v2 nw (totA rowsA + 1) qs seen sk ref6 (by have := HTT.out; omega) (by have := HTT.out; have := HB.out; omega) HB.out.2 HH.out.okR HH.out.old bel6 HH.out.small)
          have HI6 := Lib.hid it6
          have HRF6 := Lib.hid ref6
          have HBL6 := Lib.hid bel6
          have HBK := Lib.hid blk5
          clear ho1 it5 ref5 bel5 blk5 hal it6 ref6 bel6
          go_wp2_with fail
          refine (HR2.out).mono ?_
          rintro e w7 ⟨r2, qs7, s7, k7, hr7, ref7, kf7, okR7, old7, hl7, hend⟩
          have it7 := iter_kept HI6.out HRF6.out HH.out.ne kf7
          have bel7 : Below W0.heap.size W0 w7 := kf7.toBelow HBL6.out HRF6.out.far2
          obtain ⟨rfl, rfl, ⟨rowsX7, rowsA7, h7⟩, hcase⟩ := nx_next HH.out HX.out hr7 it7 ref7 ok5 okR7 old7 hl7 bel7
          obtain ⟨o2, rfl, ho2⟩ := nx_out2 bel7 hend
          clear hend
          obtain ⟨a, ha1, ha2, hsome⟩ : ∃ a, EntOf W0 r1 a ∧ EntOf W0 r2 a ∧ r1.isSome = r2.isSome := by
            rcases hcase with ⟨rfl, rfl⟩ | ⟨x, y, a, rfl, rfl, hxa, hya⟩
            · exact ⟨_, rfl, rfl, rfl⟩
            · exact ⟨a, hxa, hya, rfl⟩
          rw [← hsome]
          have hne5 : ¬ (w5.heap.size = tb ∨ w5.heap.size = mb2 ∨ some w5.heap.size = v2.ownBlock) := HRF6.out.ne' HBK.out.out (by decide)
          have blk7 : Blk w7 w5.heap.size #[.int .i64 o1.s, .int .i64 o1.t, .slice o1.A o1.n o1.c, .string o1.x] 34 := ⟨(kf7.block _ HBK.out.lt hne5).trans HBK.out.out⟩
          have hal := (Below.refl w7.heap.size w7).alloc (Nat.le_refl _) (.cells #[.int .i64 o2.s, .int .i64 o2.t, .slice o2.A o2.n o2.c, .string o2.x] 34)
          obtain ⟨ea1, eb1⟩ := HO5.out a ha1
          have ea7 : EntA w7 o1 a := ⟨ea1.s, ea1.t, ea1.x, ea1.ls.moved fun b k e hp => by
            obtain ⟨cs, fr, hcs⟩ := eb1 b k e hp
            have hbl : b < w5.heap.size := (Array.getElem?_eq_some_iff.1 hcs).1
            have h6 : (w5.alloc (.cells #[.int .i64 o1.s, .int .i64 o1.t, .slice o1.A o1.n o1.c, .string o1.x] 34)).heap[b]? = w5.heap[b]? := Below.heap_alloc _ _ _ hbl
            rw [kf7.block b (by simp; omega) (HRF6.out.ne' (h6.trans hcs) (by decide)), h6]⟩
          have HS := Lib.hid (fun w' (hb' : Below (w7.alloc (.cells #[.int .i64 o2.s, .int .i64 o2.t, .slice o2.A o2.n o2.c, .string o2.x] 34)).heap.size (w7.alloc (.cells #[.int .i64 o2.s, .int .i64 o2.t, .slice o2.A o2.n o2.c, .string o2.x] 34)) w') => same_true o1 o2 a w' (ea7.below (thenB hal hb')) ((ho2 a ha2).below (thenB hal hb')))
          have HK := Lib.hid (fun w' (hb' : Below (w7.alloc (.cells #[.int .i64 o2.s, .int .i64 o2.t, .slice o2.A o2.n o2.c, .string o2.x] 34)).heap.size (w7.alloc (.cells #[.int .i64 o2.s, .int .i64 o2.t, .slice o2.A o2.n o2.c, .string o2.x] 34)) w') => skipped_any (h7.it.move (KeepF.of_below (thenB hal hb') (fun _ => False)) (fun h => h) (fun h => h) (fun h => h) (fun _ _ h => h) (fun _ _ h => h)))
          have HE := Lib.hid (fun w' (hb' : Below (w7.alloc (.cells #[.int .i64 o2.s, .int .i64 o2.t, .slice o2.A o2.n o2.c, .string o2.x] 34)).heap.size (w7.alloc (.cells #[.int .i64 o2.s, .int .i64 o2.t, .slice o2.A o2.n o2.c, .string o2.x] 34)) w') => NxInv.belowed h7 (thenB hal hb'))
          have y8 := blk7.below hal blk7.lt
          have z8 := Blk.new w7 #[.int .i64 o2.s, .int .i64 o2.t, .slice o2.A o2.n o2.c, .string o2.x] 34 _ rfl
          have t8 := h7.ref.blk.below hal h7.ref.blk.lt
          have x0 := y8.cell 0 (.int .i64 o1.s) rfl
          have x1 := y8.cell 1 (.int .i64 o1.t) rfl
          have x2 := y8.cell 2 (.slice o1.A o1.n o1.c) rfl
          have x3 := y8.cell 3 (.string o1.x) rfl
          have y0 := z8.cell 0 (.int .i64 o2.s) rfl
          have y1' := z8.cell 1 (.int .i64 o2.t) rfl
          have y2' := z8.cell 2 (.slice o2.A o2.n o2.c) rfl
          have y3 := z8.cell 3 (.string o2.x) rfl
          have t3 := t8.cell 3 (.int .i64 k5) rfl
          have hbb : (r1.isSome != r1.isSome) = false := by simp
          have hkk : (k5 != k5) = false := by simp
          clear y8 z8 t8 ea7 ea1 eb1 ho2 ha1 ha2 h7 blk7 bel7 it7 ref7 hr7 okR7 old7 hcase kf7 kf5 ok5 hal hsome
          generalize r1.isSome = bb at *
          go_wp2_with fail
          generalize w7.alloc (.cells #[.int .i64 o2.s, .int .i64 o2.t, .slice o2.A o2.n o2.c, .string o2.x] 34) = W8 at *
          go_region_held3 (fun w' => w'.cell? ⟨w5.heap.size, 0, none⟩ = some (.int .i64 o1.s) ∧ w'.cell? ⟨w5.heap.size, 1, none⟩ = some (.int .i64 o1.t) ∧ w'.cell? ⟨w5.heap.size, 2, none⟩ = some (.slice o1.A o1.n o1.c) ∧ w'.cell? ⟨w5.heap.size, 3, none⟩ = some (.string o1.x)
              ∧ w'.cell? ⟨w7.heap.size, 0, none⟩ = some (.int .i64 o2.s) ∧ w'.cell? ⟨w7.heap.size, 1, none⟩ = some (.int .i64 o2.t) ∧ w'.cell? ⟨w7.heap.size, 2, none⟩ = some (.slice o2.A o2.n o2.c) ∧ w'.cell? ⟨w7.heap.size, 3, none⟩ = some (.string o2.x) ∧ w'.cell? ⟨tb, 3, none⟩ = some (.int .i64 k5))
            (first | go_keep | (exact ⟨keepc hb9 x0, keepc hb9 x1, keepc hb9 x2, keepc hb9 x3, keepc hb9 y0, keepc hb9 y1', keepc hb9 y2', keepc hb9 y3, keepc hb9 t3⟩))
            (first
              | (go_at_call 18; refine (HS.out _ (by first | exact Below.refl _ _ | exact (Below.refl _ _).drew)).mono ?_; rintro e w9 ⟨rfl, hb9⟩)
              | (go_at_call 28; refine (HK.out _ (by first | exact hb9 | exact undrew hb9)).mono ?_; rintro e w10 ⟨rfl, rfl⟩))
          all_goals
            have h9 := Lib.hid (HE.out w9 (undrew hb9))
            clear x0 x1 x2 x3 y0 y1' y2' y3 t3 hb9 HS HK HE hbb hkk
            go_wp2_with fail
            go_roundw
            case rel => exact ⟨i + 1, v5, ys5, qs7, s5, k5, rowsX7, rowsA7, by go_num, by omega, h9.out⟩
            case measure => simp [intOf]; omega
        · have hle : ¬ ((i : Int) < (m : Int)) := by omega
          have HBEL := Lib.hid h.bel
          clear h
          go_wp2_with fail
          go_ret
          exact ⟨rfl, hw0.trans (HBEL.out.mono hw0.size)⟩
end Go.Proofs.Ytjfggmkfnofldaa
