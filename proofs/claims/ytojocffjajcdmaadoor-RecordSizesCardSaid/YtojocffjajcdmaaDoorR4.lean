import Derived.Test.YtojocffjajcdmaaDoorR3
import Derived.Test.YtojocffjajcdmaaDoorPChunkAllx4
namespace Go.Proofs.YtojocffjajcdmaaDoor
open Go.RowKit Go.Proofs.YtojocffjajcdmaaDoorW.PrintWords Go.Proofs.YtojocffjajcdmaaDoorW.PrintLast Go.Proofs.YtojocffjajcdmaaDoorW.PrintMore PChunkAll
set_option linter.unusedVariables false
set_option linter.unusedSimpArgs false

abbrev KB := Kd.int .u8
/-- Bytes of one's own, made since base. -/
abbrev OwnB (w : World) (base : Nat) (v : Value) (bs : List Int) : Prop := Kd.R KB 5 w base (fun _ => True) v bs
def BytesBelow (bs : List Int) (w : World) (e : Ending) (w' : World) : Prop := ∃ v, e = .returned v ∧ OwnB w' w.heap.size v bs ∧ Below w.heap.size w w'
abbrev KBs := Kd.slice 5 KB

set_option maxHeartbeats 2000000 in
theorem grow_any (n : Nat) (w : World) (hn : n ≤ 1099511627776) : Calls Tryd.prog 135 #[.slice none 0 0, .int .i64 (n : Int)] w (BytesBelow [] w) := by
  have hn0 : decide ((n : Int) < 0) = false := decide_eq_false (by omega)
  rcases Nat.eq_zero_or_pos n with h0 | h0
  · have hz : decide ((0 : Int) < (n : Int)) = false := decide_eq_false (by omega)
    go_enter Tryd.func135, Tryd.ntmps135
    go_wp2
    go_ret
    exact ⟨_, rfl, Kd.R_nil _ _ _ _ _, Below.refl _ _⟩
  · have hz : decide ((0 : Int) < (n : Int)) = true := decide_eq_true (by omega)
    have hw : IntKind.i64.wrap (n : Int) = (n : Int) := by rw [IntWalk.i64_in _ ⟨by omega, by omega⟩]
    obtain ⟨i5, hi5, _, hsz5, _⟩ := info_parts info5
    go_enter Tryd.func135, Tryd.ntmps135
    go_wp2_with ((with_reducible refine gate_builtin (b := .append) (xs := #[.tmp 20, .tmp 21]) rfl ?_); at_builtin; refine Kd.R_append_zeros KB (w0 := w) w.heap.size rfl (.tmp 20) (.tmp 21) 23 3 5 (.int .u8 0) 1 rfl Tryd.underlying23 (k := .i64) Tryd.underlying3 info5 rfl (by decide) (by omega) (.slice none 0 0) [] 0 (kx := .i64) (n : Int) (fun _ => True) rfl rfl (by exact rfl) (fun _ _ => trivial) (Kd.R_nil _ _ _ _ _) (by omega) (Below.refl _ _) (Nat.le_refl _) (by simp; omega) ?_; intro v1 w1 ho hb hg hat; obtain ⟨A1, c1, rfl⟩ := Kd.R_slice ho; have hcut := cut_to (P := Tryd.prog) 23 5 .i64 Tryd.underlying23 hi5 A1 ([] ++ List.replicate (n : Int).toNat (0 : Int)).length c1 0 (by omega) (by omega) (Kd.R_reads' ho).2.1)
    go_ret
    exact ⟨_, rfl, Kd.R_take ho (Nat.zero_le _), hb⟩

def upT (xss : List (List Int)) (k : Nat) : List Int := (xss.take k).flatten
theorem upT_succ (xss : List (List Int)) (k : Nat) (h : k < xss.length) : upT xss (k + 1) = upT xss k ++ rd_L8 xss (k : Int) := by
  unfold upT rd_L8
  rw [Int.toNat_natCast, List.take_succ_eq_append_getElem h, List.flatten_append]
  simp [h]
theorem upT_le (xss : List (List Int)) (k : Nat) : (upT xss k).length ≤ xss.flatten.length := by
  have h : xss.flatten = upT xss k ++ (xss.drop k).flatten := by unfold upT; rw [← List.flatten_append, List.take_append_drop]
  rw [h, List.length_append]
  omega
theorem upT_all (xss : List (List Int)) (k : Nat) (h : ¬ k < xss.length) : upT xss k = xss.flatten := by unfold upT; rw [List.take_of_length_le (by omega)]
def Cat1 (xss : List (List Int)) (w : World) (v3 v11 : Value) (wr : World) : Prop :=
  ∃ k : Nat, v3 = .int .i64 ((upT xss k).length : Int) ∧ v11 = .int .i64 (k : Int) ∧ k ≤ xss.length ∧ Below w.heap.size w wr
def Cat2 (xss : List (List Int)) (w : World) (v6 v27 : Value) (wr : World) : Prop :=
  ∃ k : Nat, OwnB wr w.heap.size v6 (upT xss k) ∧ v27 = .int .i64 (k : Int) ∧ k ≤ xss.length ∧ Below w.heap.size w wr

set_option maxHeartbeats 4000000 in
theorem concat_any (A : Option Addr) (c : Nat) (xss : List (List Int)) (w : World) (hr : Kd.C KBs w A xss.length xss) (hsz : xss.flatten.length ≤ 1099511627776) : Calls Tryd.prog 83 #[.slice A xss.length c] w (BytesBelow xss.flatten w) := by
  have hmax := Kd.C_max hr
  have HR := Lib.hid hr
  clear hr
  go_enter Tryd.func83, Tryd.ntmps83
  go_wp2
  go_loopw [3, 11] (fun v3 v11 wr => Cat1 xss w v3 v11 wr) (fun _ v11 _ => xss.length - (intOf v11).toNat)
  case atStart => exact ⟨0, rfl, rfl, Nat.zero_le _, Below.refl _ _⟩
  case round =>
    obtain ⟨k, rfl, rfl, hk, hb⟩ := hrel
    have HBB := Lib.hid hb
    by_cases hlt : k < xss.length
    · have hki : (k : Int) < (xss.length : Int) := by omega
      obtain ⟨ad, A0, c0, hAd, hcell, hcc, hrow⟩ := at_L8 HR.out (k : Int) (by omega) hki
      subst hAd
      have hcw := pw_cell_below hb hcell
      have HN := Lib.hid (upT_succ xss k hlt)
      have HL := upT_le xss (k + 1)
      rw [HN.out, List.length_append] at HL
      have HNL : Hid ((upT xss (k + 1)).length = (upT xss k).length + (rd_L8 xss (k : Int)).length) := Lib.hid (by rw [HN.out, List.length_append])
      clear HN hrow hcell hb
      generalize hS : (upT xss k).length = S at *
      generalize hx : rd_L8 xss (k : Int) = x at *
      have hw1 : IntKind.i64.wrap ((S : Int) + (x.length : Int)) = (S : Int) + (x.length : Int) := by rw [IntWalk.i64_in _ ⟨by omega, by omega⟩]
      have hn0 : decide ((S : Int) + (x.length : Int) < 0) = false := decide_eq_false (by omega)
      rw [Int.toNat_natCast] at hcw
      go_wp2
      go_roundw
      case rel => exact ⟨k + 1, by rw [HNL.out]; simp, by go_num, by omega, HBB.out⟩
      case measure => simp [intOf]; omega
    · have hki : ¬ (k : Int) < (xss.length : Int) := by omega
      have hkE : k = xss.length := by omega
      have HAll := Lib.hid (upT_all xss k hlt)
      rw [HAll.out]
      clear hlt
      have HG := Lib.hid (grow_any xss.flatten.length wr hsz)
      generalize hT : xss.flatten = T at *
      have HSZ := Lib.hid hsz
      clear hsz
      go_wp2_with (go_at_call 135; refine (HG.out).mono ?_; rintro e w2 ⟨v1, rfl, ho, hb2⟩; have HO := Lib.hid (Kd.R_lower ho (below_size HBB.out)); have HB2 := Lib.hid (below_step HBB.out hb2); clear ho hb2)
      go_loopw [6, 27] (fun v6 v27 wr => Cat2 xss w v6 v27 wr) (fun _ v27 _ => xss.length - (intOf v27).toNat)
      case atStart => exact ⟨0, HO.out, rfl, Nat.zero_le _, HB2.out⟩
      case round =>
        obtain ⟨j, ho, rfl, hj, hb3⟩ := hrel
        have HO3 := Lib.hid ho
        have HB3 := Lib.hid hb3
        by_cases hlt : j < xss.length
        · have hji : (j : Int) < (xss.length : Int) := by omega
          obtain ⟨ad, A0, c0, hAd, hcell, hcc, hrow⟩ := at_L8 HR.out (j : Int) (by omega) hji
          subst hAd
          have hcw := pw_cell_below hb3 hcell
          have HN := Lib.hid (upT_succ xss j hlt)
          have HL := upT_le xss (j + 1)
          rw [hT, HN.out, List.length_append] at HL
          have HRow := Lib.hid (Kd.C_below hrow hb3)
          have HLS := HSZ.out
          clear hcell hb3 ho hrow
          rw [Int.toNat_natCast] at hcw
          have HLL : Hid ((upT xss j).length + (rd_L8 xss (j : Int)).length ≤ 1099511627776) := Lib.hid (by omega)
          clear HL HLS
          generalize rd_L8 xss (j : Int) = x at *
          generalize upT xss j = Y at *
          go_wp2_with ((with_reducible refine gate_builtin (b := .append) (xs := #[.tmp 31, .tmp 32]) rfl ?_); at_builtin; refine Kd.R_append_row (Value.int .u8) 0 (w0 := w) w.heap.size rfl (.tmp 31) (.tmp 32) 23 5 (.int .u8 0) 1 rfl Tryd.underlying23 info5 rfl (by omega) u6 Y x A0 x.length c0 (fun _ => True) rfl rfl (fun _ _ => trivial) HO3.out HRow.out HB3.out (below_size HB3.out) (by have := HLL.out; omega) ?_; intro v4 w4 ho4 hb4 hg4 hat4; have HO4 := Lib.hid ho4; have HB4 := Lib.hid hb4; clear ho4 hb4 hg4 hat4)
          go_roundw
          case rel => exact ⟨j + 1, by rw [HN.out]; exact HO4.out, by go_num, by omega, HB4.out⟩
          case measure => simp [intOf]; omega
        · have hji : ¬ (j : Int) < (xss.length : Int) := by omega
          have HE := upT_all xss j hlt
          rw [hT] at HE
          go_wp2
          go_ret
          exact ⟨_, rfl, by rw [← HE]; exact HO3.out, HB3.out⟩
end Go.Proofs.YtojocffjajcdmaaDoor
