/- RecordOrdered: the law walked. -/
import Derived.Test.YtojocffjajcdmaaDoorMU
namespace Go.Proofs.YtojocffjajcdmaaDoor
open Go.RowKit Go.Proofs.YtojocffjajcdmaaDoorW.PrintWords Go.Proofs.YtojocffjajcdmaaDoorW.PrintLast Go.Proofs.YtojocffjajcdmaaDoorW.PrintMore PChunkAll
set_option linter.unusedVariables false
set_option linter.unusedSimpArgs false

/-! ### Are two entries the same? -/
theorem same02_some (l m : List S112) (hl : l.length < 4398046511104) (hm : l.length = m.length) (n i : Nat) (h : i + n = l.length) : ∃ b, icehouselaw02_Same.l0 (n + 1) l m (i : Int) = some b := by
  induction n generalizing i with
  | zero => exact ⟨true, by rw [icehouselaw02_Same.l0, if_neg (by omega)]⟩
  | succ n ih =>
    have hw : wrap64 ((i : Int) + 1) = ((i + 1 : Nat) : Int) := by unfold wrap64; omega
    rw [icehouselaw02_Same.l0, if_pos (by omega), if_pos (by omega), if_pos (by omega), hw]
    split
    · split
      · exact ih (i + 1) (by omega)
      · exact ⟨false, rfl⟩
    · exact ⟨false, rfl⟩
theorem same03_some (x y : S33) (hl : x.f2.length < 4398046511104) : ∃ b, icehouselaw03_Same.f (x.f2.length + 1) x.f0 x.f1 x.f2 x.f3 y.f0 y.f1 y.f2 y.f3 = some b := by
  unfold icehouselaw03_Same.f
  split
  · split
    · split
      · unfold icehouselaw02_Same.f
        split
        · obtain ⟨b, hb⟩ := same02_some x.f2 y.f2 hl (by omega) x.f2.length 0 (by omega)
          exact ⟨b, by rw [show ((0 : Nat) : Int) = 0 from rfl] at hb; rw [hb]; rfl⟩
        · exact ⟨false, rfl⟩
      · exact ⟨false, rfl⟩
    · exact ⟨false, rfl⟩
  · exact ⟨false, rfl⟩
def sameB (x y : S33) : Bool := (icehouselaw03_Same.f (x.f2.length + 1) x.f0 x.f1 x.f2 x.f3 y.f0 y.f1 y.f2 y.f3).getD false
theorem sameB_any (x y : S33) (A B : Option Addr) (c d : Nat) (w : World) (hA : Kd.C k112 w A x.f2.length x.f2) (hc : x.f2.length ≤ c) (hB : Kd.C k112 w B y.f2.length y.f2) (hd : y.f2.length ≤ d) (hl : x.f2.length < 4398046511104) :
    Calls Tryd.prog 31 #[entA x A c, entA y B d] w fun e w' => e = .returned (.bool (sameB x y)) ∧ Below w.heap.size w w' := by
  obtain ⟨b, hb⟩ := same03_some x y hl
  have e : sameB x y = b := by unfold sameB; rw [hb]; rfl
  rw [e]
  exact (icehouselaw03_Same.calls (x.f2.length + 1) x.f0 x.f1 A c x.f2 x.f3 y.f0 y.f1 B d y.f2 y.f3 b w hA hc hB hd hb).mono fun e w' h => h

/-- How many of the first i are the same as z. -/
def cntS (z : S33) (l : List S33) (i : Nat) : Nat := (l.take i).countP (fun x => sameB x z)
theorem cntS_succ (z : S33) (l : List S33) (i : Nat) (h : i < l.length) : cntS z l (i + 1) = if sameB (l.getD i z33) z then cntS z l i + 1 else cntS z l i := by
  unfold cntS
  rw [List.take_succ_eq_append_getElem h, List.countP_append]
  have e : l.getD i z33 = l[i] := by simp [h]
  rw [e]
  split <;> rename_i hb <;> simp [List.countP_cons, hb]
theorem cntS_le (z : S33) (l : List S33) (i : Nat) : cntS z l i ≤ i := by
  unfold cntS
  exact Nat.le_trans (List.countP_le_length) (by rw [List.length_take]; omega)
theorem cntS_perm (z : S33) {l m : List S33} (h : l.Perm m) : cntS z l l.length = cntS z m m.length := by
  unfold cntS
  rw [List.take_length, List.take_length]
  exact h.countP_eq _

theorem tmod_bdn (x : Int) (n : Nat) (hn : 0 < n) : -(n : Int) < x.tmod n ∧ x.tmod n < n := by
  have h1 := Int.tmod_lt_of_pos x (b := (n : Int)) (by omega)
  have h2 : x.tmod n = if 0 ≤ x then x % n else -((-x) % n) := by
    split
    · rename_i h; exact Int.tmod_eq_emod_of_nonneg h
    · rename_i h
      have e : x = -(-x) := by omega
      conv => lhs; rw [e]
      rw [Int.neg_tmod, Int.tmod_eq_emod_of_nonneg (by omega)]
  have h3 := Int.emod_nonneg (-x) (b := (n : Int)) (by omega)
  have h4 := Int.emod_lt_of_pos (-x) (b := (n : Int)) (by omega)
  have h5 := Int.emod_nonneg x (b := (n : Int)) (by omega)
  refine ⟨?_, h1⟩
  rw [h2]
  split <;> omega
theorem rem_pos (x : Int) (n : Nat) (hn : 0 < n) (hm : n ≤ 2513169434916) : ∃ q : Nat, (wrap64 (x.tmod n + n)).tmod n = (q : Int) ∧ q < n := by
  have h := tmod_bdn x n hn
  have e1 : wrap64 (x.tmod n + n) = x.tmod n + n := by unfold wrap64; omega
  have e : (x.tmod n + n).tmod n = (x.tmod n + n) % n := Int.tmod_eq_emod_of_nonneg (by omega)
  have h3 := Int.emod_nonneg (x.tmod n + n) (b := (n : Int)) (by omega)
  have h4 := Int.emod_lt_of_pos (x.tmod n + n) (b := (n : Int)) (by omega)
  exact ⟨((x.tmod n + n) % n).toNat, by rw [e1, e]; omega, by omega⟩

theorem sort_before {l : List S33} (i : Nat) (h : i + 1 < (sortE l).length) : beforeE ((sortE l).getD (i + 1) z33).f0 ((sortE l).getD (i + 1) z33).f1 ((sortE l).getD i z33).f0 ((sortE l).getD i z33).f1 = false := by
  have := (List.pairwise_iff_getElem.1 (ST.srt_ord ltE_swo l)) i (i + 1) (by exact Nat.lt_of_succ_lt h) h (by omega)
  have e1 : (sortE l).getD (i + 1) z33 = (sortE l)[i + 1] := by simp [h]
  have e2 : (sortE l).getD i z33 = (sortE l)[i]'(Nat.lt_of_succ_lt h) := by simp [Nat.lt_of_succ_lt h]
  rw [e1, e2]
  exact this
theorem entsOk_sort {l : List S33} (h : EntsOk l) : EntsOk (sortE l) := by
  refine ⟨by rw [sortE_len]; exact h.1, fun k hk => ?_, lenE_sort h⟩
  have e : (sortE l).getD k z33 = (sortE l)[k] := by simp [hk]
  rw [e]
  have hm := (sortE_perm l).mem_iff.1 (List.getElem_mem hk)
  obtain ⟨j, hj, hq⟩ := List.getElem_of_mem hm
  rw [← hq]
  have := h.2.1 j hj
  simpa [hj] using this
theorem resort_any {n : Nat} (A : Option Addr) (c : Nat) (l : List S33) (w : World) (hn : l.length = n) (hr : Kd.C k33 w A n (sortE l)) (hE : EntsOk l) : Calls Tryd.prog 49 #[.slice A n c] w fun e w' => ∃ A' c', e = .returned (.slice A' n c') ∧ Kd.C k33 w' A' n (sortE l) ∧ Below w.heap.size w w' := by
  have hl2 : (sortE l).length = n := by rw [sortE_len]; exact hn
  have h := rsort_any A c (sortE l) w (by rw [hl2]; exact hr) (entsOk_sort hE)
  unfold SortP at h
  rw [hl2] at h
  refine h.mono ?_
  rintro e w' ⟨A', c', rfl, _, h3, h4⟩
  refine ⟨A', c', rfl, ?_, h4⟩
  have e2 : sortE (sortE l) = sortE l := ST.srt_srt ltE_swo l
  rwa [e2] at h3

set_option maxHeartbeats 16000000 in
set_option maxRecDepth 100000 in
theorem ordered_any (A : Option Addr) (c : Nat) (l : List S33) (kk : Int) (w : World) (hT : Tabs w) (hx : Kd.C k33 w A l.length l) (hc : l.length ≤ c) (hE : EntsOk l) : Calls Tryd.prog 11 #[.slice A l.length c, .int .i64 kk] w (LawRes w) := by
  have HT0 := Lib.hid hT
  have HX0 := Lib.hid hx
  have HEL := Lib.hid hE.2.2
  have HES := Lib.hid (lenE_sort hE)
  have HSB := Lib.hid (fun i h => sort_before (l := l) i h)
  have HCP := Lib.hid (fun z => cntS_perm z (sortE_perm l))
  have HSL := Lib.hid (sortE_len l)
  have HAL := Lib.hid (fun W (h : Kd.C k33 W A l.length l) => all_any A c l W h hc hE)
  have HSO := Lib.hid (fun A' c' W (h : Kd.C k33 W A' l.length l) => rsort_any A' c' l W h hE)
  have HSO2 := Lib.hid (fun A' c' W (h : Kd.C k33 W A' l.length (sortE l)) => resort_any A' c' l W rfl h hE)
  have HS1 := Lib.hid (fun A1 B1 c1 d1 W (h1 : Kd.C k33 W A1 l.length (sortE l)) (h3 : Kd.C k33 W B1 l.length (sortE l)) => sames_len A1 B1 c1 d1 (sortE l) W (sortE_len l) h1 h3 (lenE_sort hE))
  have hmx : l.length ≤ 2513169434916 := hE.1
  unfold SortP at HSO
  clear hT hx hc hE
  generalize sortE l = sl at *
  go_enter Tryd.func11, Tryd.ntmps11
  go_wp2_with (first
    | (go_at_call 19; (with_reducible refine (HAL.out _ HX0.out).mono ?_); rintro e w1 ⟨A1, c1, rfl, hc1, hC1, hb⟩; have HY1 := Lib.hid hC1; have HB1 := Lib.hid hb; have HT1 := Lib.hid (HT0.out.below hb); have HX1 := Lib.hid (Kd.C_below HX0.out hb); clear hc1 hC1 hb)
    | (go_at_call 49; (with_reducible refine (HSO.out _ _ _ HY1.out).mono ?_); rintro e w2 ⟨A2, c2, rfl, hc2, hC2, hb⟩; have HS2 := Lib.hid hC2; have HB2 := Lib.hid (below_step HB1.out hb); have HT2 := Lib.hid (HT1.out.below hb); have HX2 := Lib.hid (Kd.C_below HX1.out hb); clear hc2 hC2 hb)
    | (go_at_call 49; (with_reducible refine (HSO2.out _ _ _ HS2.out).mono ?_); rintro e w3 ⟨A3, c3, rfl, hC3, hb⟩; have HR3 := Lib.hid hC3; have HB3 := Lib.hid (below_step HB2.out hb); have HT3 := Lib.hid (HT2.out.below hb); have HX3 := Lib.hid (Kd.C_below HX2.out hb); have HS3 := Lib.hid (Kd.C_below HS2.out hb); clear hC3 hb)
    | (go_at_call 38; (with_reducible refine (HS1.out _ _ _ _ _ HR3.out HS3.out).mono ?_); rintro e w4 ⟨rfl, hb⟩; have HB4 := Lib.hid (below_step HB3.out hb); have HT4 := Lib.hid (HT3.out.below hb); have HX4 := Lib.hid (Kd.C_below HX3.out hb); have HS4 := Lib.hid (Kd.C_below HS3.out hb); clear hb))
  clear HAL HSO HSO2 HS1
  go_loopg [6] l.length (fun kx v6 wr => ∃ (m : Nat), v6 = .int .i64 ((m : Int) + 1) ∧ l.length - m ≤ kx ∧ (m ≤ l.length) ∧ Hid (Below w4.heap.size w4 wr))
  case atStart => exact ⟨0, by simp, by omega, by omega, Below.refl _ _⟩
  case round =>
    obtain ⟨m, rfl, hkx, hml, HBR⟩ := hrel
    by_cases hlt : m + 1 < l.length
    · have hltz : (m : Int) + 1 < (l.length : Int) := by omega
      have hltz1 : (m : Int) < (l.length : Int) := by omega
      have hsl := HSL.out
      have HS5 : Kd.C k33 w4 A2 sl.length sl := by rw [hsl]; exact HS4.out
      obtain ⟨b, o, rfl, hx⟩ := ents_at HS5 (by omega)
      obtain ⟨A1', c1', p0, p1, p2, p3, p4, p5⟩ := (hx m (by omega)).below HBR.out
      obtain ⟨A2', c2', q0, q1, q2, q3, q4, q5⟩ := (hx (m + 1) (by omega)).below HBR.out
      have hbf := HSB.out m (by omega)
      clear hx p4 p5 q4 q5 HS5 hsl
      generalize sl.getD m z33 = x at *
      generalize sl.getD (m + 1) z33 = y at *
      have hw1 : IntKind.i64.wrap ((m : Int) + 1 - 1) = (m : Int) := by rw [IntKind.wrap_i64]; omega
      have hw2 : IntKind.i64.wrap (m : Int) = (m : Int) := by rw [IntKind.wrap_i64]; omega
      have e0 : ((m : Int) + 1).toNat = m + 1 := by omega
      have p00 : (0 : Int) ≤ (m : Int) + 1 := by omega
      have P0 := fun d os => cell_regrown p0 d os
      have P1 := fun d os => cell_regrown p1 d os
      have P2 := fun d os => cell_regrown p2 d os
      have P3 := fun d os => cell_regrown p3 d os
      have Q0 := fun d os => cell_regrown q0 d os
      have Q1 := fun d os => cell_regrown q1 d os
      have Q2 := fun d os => cell_regrown q2 d os
      have Q3 := fun d os => cell_regrown q3 d os
      have c51 := fun d os => Calls.regrown_of (before_any y.f0 y.f1 x.f0 x.f1 (.slice A2' y.f2.length c2') (.slice A1' x.f2.length c1') (.string y.f3) (.string x.f3) (Go.Sort.grow (redrawn wr d) os))
      rw [hbf] at c51
      clear p0 p1 p2 p3 q0 q1 q2 q3 hbf
      go_wp2_with fail
      refine wp_region_quiet_below (by kernel_rfl) (by kernel_rfl) ?_
      repeat (first
        | go_big_quiet_step ((go_at_call 51; with_reducible exact c51 _ _))
        | quiet_step ((go_at_call 51; with_reducible exact c51 _ _)))
      refine wpQuiet_nil ?_
      intro _ hw'
      obtain ⟨⟨dq, osq⟩, hw''⟩ := hw'
      subst hw''
      go_wp2_with fail
      go_roundg (l.length - (m + 1))
      case measure => omega
      case rel => exact ⟨m + 1, by go_num, by omega, by omega, HBR.out.trans ((below_regrown wr dq osq).mono HBR.out.size)⟩
    · have hltz : ¬ (m : Int) + 1 < (l.length : Int) := by omega
      have HX5 := Lib.hid (Kd.C_below HX4.out HBR.out)
      have HS5 := Lib.hid (by have h := Kd.C_below HS4.out HBR.out; rwa [← HSL.out] at h : Kd.C k33 wr A2 sl.length sl)
      have HT5 := Lib.hid (HT4.out.below HBR.out)
      have HB5 := Lib.hid (below_step HB4.out HBR.out)
      clear HBR
      by_cases hn0 : l.length = 0
      · have hz : ((l.length : Int) == 0) = true := by simp [hn0]
        clear hn0
        go_wp2_with (go_at_call 21; (with_reducible refine (knows_any _ HT5.out).mono ?_); rintro e w7 ⟨rfl, hb⟩; have HB7 := Lib.hid (below_step HB5.out hb); clear hb)
        go_ret
        exact ⟨rfl, HB7.out⟩
      · have hz : ((l.length : Int) == 0) = false := beq_eq_false_iff_ne.2 (by omega)
        have hz2 : ¬ ((l.length : Int) = 0) := by omega
        have hlp : 0 < l.length := Nat.pos_of_ne_zero hn0
        have hsp : 0 < sl.length := by rw [HSL.out]; exact hlp
        obtain ⟨b, o, rfl, hx⟩ := ents_at HX5.out hlp
        obtain ⟨b', o', rfl, hy⟩ := ents_at HS5.out hsp
        clear hsp
        obtain ⟨q, hq, hqn⟩ := rem_pos kk l.length hlp hmx
        have HXX := Lib.hid hx
        have HYY := Lib.hid hy
        clear hx hy
        go_wp2_with fail
        (try rw [hq])
        clear hq hz hz2
        obtain ⟨wo, rfl⟩ : ∃ wo : World, wo = wr := ⟨_, rfl⟩
        go_loopg [9, 7, 8] l.length (fun kx v9 v7 v8 wr2 => ∃ (i : Nat), v9 = .int .i64 i ∧ v7 = .int .i64 (cntS (l.getD q z33) l i) ∧ v8 = .int .i64 (cntS (l.getD q z33) sl i) ∧ i ≤ l.length ∧ l.length - i ≤ kx ∧ Hid (Below wo.heap.size wo wr2))
        case atStart => exact ⟨0, rfl, by simp [cntS], by simp [cntS], by omega, by omega, Below.refl _ _⟩
        case round =>
          obtain ⟨i, rfl, rfl, rfl, hin, hkx, HBR⟩ := hrel
          by_cases hlt : i < l.length
          · have hltz : (i : Int) < (l.length : Int) := by omega
            have hqz : (q : Int) < (l.length : Int) := by omega
            have hsl := HSL.out
            obtain ⟨A1', c1', p0, p1, p2, p3, p4, p5⟩ := (HXX.out i hlt).below HBR.out
            obtain ⟨A2', c2', q0, q1, q2, q3, q4, q5⟩ := (HXX.out q hqn).below HBR.out
            obtain ⟨A3', c3', r0, r1, r2, r3, r4, r5⟩ := (HYY.out i (by omega)).below HBR.out
            have hs1 := cntS_succ (l.getD q z33) l i hlt
            have hs2 := cntS_succ (l.getD q z33) sl i (by omega)
            have hc1 := cntS_le (l.getD q z33) l i
            have hc2 := cntS_le (l.getD q z33) sl i
            have HSA := Lib.hid (fun W' (hb' : Below wr.heap.size wr W') => sameB_any (l.getD i z33) (l.getD q z33) A1' A2' c1' c2' W' (Kd.C_below p5 hb') p4 (Kd.C_below q5 hb') q4 (HEL.out i hlt))
            have HSB2 := Lib.hid (fun W' (hb' : Below wr.heap.size wr W') => sameB_any (sl.getD i z33) (l.getD q z33) A3' A2' c3' c2' W' (Kd.C_below r5 hb') r4 (Kd.C_below q5 hb') q4 (HES.out i (by omega)))
            generalize cntS (l.getD q z33) l i = n1 at *
            generalize cntS (l.getD q z33) sl i = n2 at *
            generalize sameB (l.getD i z33) (l.getD q z33) = b1 at *
            generalize sameB (sl.getD i z33) (l.getD q z33) = b2 at *
            generalize l.getD i z33 = x at *
            generalize l.getD q z33 = y at *
            generalize sl.getD i z33 = z at *
            clear p4 p5 q4 q5 r4 r5 hsl
            have HN1 := Lib.hid hs1
            have HN2 := Lib.hid hs2
            clear hs1 hs2
            have w1 : IntKind.i64.wrap ((n1 : Int) + 1) = ((n1 + 1 : Nat) : Int) := by rw [IntKind.wrap_i64]; omega
            have w2 : IntKind.i64.wrap ((n2 : Int) + 1) = ((n2 + 1 : Nat) : Int) := by rw [IntKind.wrap_i64]; omega
            have P0 := fun d os => cell_regrown p0 d os
            have P1 := fun d os => cell_regrown p1 d os
            have P2 := fun d os => cell_regrown p2 d os
            have P3 := fun d os => cell_regrown p3 d os
            have Q0 := fun d os => cell_regrown q0 d os
            have Q1 := fun d os => cell_regrown q1 d os
            have Q2 := fun d os => cell_regrown q2 d os
            have Q3 := fun d os => cell_regrown q3 d os
            have c31 := fun d os => Calls.regrown_of (HSA.out (Go.Sort.grow (redrawn wr d) os) (below_regrown wr d os))
            clear p0 p1 p2 p3
            go_upto_region 17 with fail
            go_cut [69] (fun v wc => v = .bool b1 ∧ Hid (Below wr.heap.size wr wc))
            case first =>
              refine wp_region_quiet_below (by kernel_rfl) (by kernel_rfl) ?_
              repeat (first
                | go_big_quiet_step ((go_at_call 31; with_reducible exact c31 _ _))
                | quiet_step ((go_at_call 31; with_reducible exact c31 _ _)))
              refine wpQuiet_nil ?_
              intro _ hw'
              obtain ⟨⟨dq, osq⟩, hw''⟩ := hw'
              subst hw''
              go_wp2_with fail
              go_meet
              exact ⟨rfl, below_regrown wr dq osq⟩
            case rest =>
            obtain ⟨rfl, HB1⟩ := hcut
            have hbw : Below wo.heap.size wo wc := below_step HBR.out HB1.out
            have HBW := Lib.hid hbw
            have q0' := pw_cell_below HB1.out q0
            have q1' := pw_cell_below HB1.out q1
            have q2' := pw_cell_below HB1.out q2
            have q3' := pw_cell_below HB1.out q3
            have r0' := pw_cell_below HB1.out r0
            have r1' := pw_cell_below HB1.out r1
            have r2' := pw_cell_below HB1.out r2
            have r3' := pw_cell_below HB1.out r3
            have Q0' := fun d os => cell_regrown q0' d os
            have Q1' := fun d os => cell_regrown q1' d os
            have Q2' := fun d os => cell_regrown q2' d os
            have Q3' := fun d os => cell_regrown q3' d os
            have R0' := fun d os => cell_regrown r0' d os
            have R1' := fun d os => cell_regrown r1' d os
            have R2' := fun d os => cell_regrown r2' d os
            have R3' := fun d os => cell_regrown r3' d os
            have c31b := fun d os => Calls.regrown_of (HSB2.out (Go.Sort.grow (redrawn wc d) os) (HB1.out.trans ((below_regrown wc d os).mono HB1.out.size)))
            clear q0 q1 q2 q3 r0 r1 r2 r3 q0' q1' q2' q3' r0' r1' r2' r3' P0 P1 P2 P3 Q0 Q1 Q2 Q3 c31 hbw
            obtain ⟨m1, hm1⟩ : ∃ m1 : Nat, m1 = if b1 then n1 + 1 else n1 := ⟨_, rfl⟩
            have HM1 := Lib.hid hm1
            clear hm1
            go_upto_if 69 with fail
            go_cut [7] (fun v wx => v = .int .i64 m1 ∧ wx = wc)
            case first =>
              cases b1 with
              | true =>
                go_wp2_with fail
                go_meet
                exact ⟨by rw [HM1.out]; rfl, rfl⟩
              | false =>
                go_wp2_with fail
                go_meet
                exact ⟨by rw [HM1.out]; rfl, rfl⟩
            case rest =>
            obtain ⟨rfl, rfl⟩ := hcut
            go_upto_region 19 with fail
            go_cut [80] (fun v wx => v = .bool b2 ∧ Hid (Below wo.heap.size wo wx))
            case first =>
              refine wp_region_quiet_below (by kernel_rfl) (by kernel_rfl) ?_
              repeat (first
                | go_big_quiet_step ((go_at_call 31; with_reducible exact c31b _ _))
                | quiet_step ((go_at_call 31; with_reducible exact c31b _ _)))
              refine wpQuiet_nil ?_
              intro _ hw'
              obtain ⟨⟨dq, osq⟩, hw''⟩ := hw'
              subst hw''
              go_wp2_with fail
              go_meet
              exact ⟨rfl, HBW.out.trans ((below_regrown _ dq osq).mono HBW.out.size)⟩
            case rest =>
            obtain ⟨rfl, HB2⟩ := hcut
            clear c31b Q0' Q1' Q2' Q3' R0' R1' R2' R3'
            cases b2 with
            | true =>
              go_wp2_with fail
              go_roundg (l.length - (i + 1))
              case measure => omega
              case rel => exact ⟨i + 1, by go_num, by rw [HN1.out, HM1.out], by rw [HN2.out]; rfl, by omega, Nat.le_refl _, HB2.out⟩
            | false =>
              go_wp2_with fail
              go_roundg (l.length - (i + 1))
              case measure => omega
              case rel => exact ⟨i + 1, by go_num, by rw [HN1.out, HM1.out], by rw [HN2.out]; rfl, by omega, Nat.le_refl _, HB2.out⟩
          · have hltz : ¬ (i : Int) < (l.length : Int) := by omega
            obtain rfl : i = l.length := by omega
            have hcp := HCP.out (l.getD q z33)
            rw [HSL.out] at hcp
            rw [hcp]
            have HT6 := Lib.hid (HT5.out.below HBR.out)
            have HB6 := Lib.hid (below_step HB5.out HBR.out)
            generalize cntS (l.getD q z33) l l.length = nn at *
            clear hcp
            go_wp2_with (go_at_call 21; (with_reducible refine (knows_any _ HT6.out).mono ?_); rintro e w7 ⟨rfl, hb⟩; have HB7 := Lib.hid (below_step HB6.out hb); clear hb)
            go_ret
            exact ⟨rfl, HB7.out⟩
end Go.Proofs.YtojocffjajcdmaaDoor
