import Derived.Test.YtjfggmkfnofldaaH4
import Derived.Test.YtjfggmkfnofldaaL1
namespace Go.Proofs.Ytjfggmkfnofldaa
open Go.RowKit
set_option linter.unusedVariables false

def LoopB (w1 : World) (n : Nat) (v10 v9 : Value) (wr : World) : Prop := ∃ k : Nat, v10 = .int .i64 k ∧ v9 = .bool true ∧ k ≤ n ∧ Below w1.heap.size w1 wr

set_option maxHeartbeats 1000000 in
theorem mergeAll_any (A : Option Addr) (c : Nat) (nw : Bool) (most : Int) (rs : List Raw) (xss : List (List AEnt)) (w : World) (hr : RowsA w A rs xss) (hc : A = none → c = 0) (hok : ∀ xs ∈ xss, ∀ a ∈ xs, AOk a) (hn : rs.length ≤ 100000000000) (ht : totA xss ≤ 100000000000) (hs : ∀ xs ∈ xss, xs.length * 56 ≤ 140737488355328) :
    Calls Try.prog 3 #[.slice A rs.length c, .bool nw, .int .i64 most] w fun e w' => e = .returned (.bool true) ∧ Below w.heap.size w w' := by
  have hs0 : ∀ r ∈ rs, r.es.length * 56 ≤ 140737488355328 := by
    intro r h
    obtain ⟨i, hi, rfl⟩ := List.getElem_of_mem h
    have hx : i < xss.length := by rw [← hr.len]; exact hi
    rw [(hr.rows i hi hx).len]
    exact hs _ (List.getElem_mem hx)
  have HW := Lib.hid (rows11 A c rs xss w hr hs0 (by omega))
  have HR := Lib.hid hr
  have hlen : (limA most 0 (allA nw xss)).length ≤ 100000000000 := Nat.le_trans (limA_length _ _ _) (Nat.le_trans (allA_length _ _) ht)
  clear hr
  go_enter Try.func3, Try.ntmps3
  go_wp2_with fail
  refine (HW.out).mono ?_
  rintro r w1 ⟨v1, rs1, rfl, ho1, hb1⟩
  obtain ⟨A1, c1, rfl⟩ := own_sl ho1.own
  obtain ⟨hr1, hc1, _⟩ := ho1.rowsA
  have hl1 : rs1.length = rs.length := by rw [ho1.len, HR.out.len]
  have HO1 := Lib.hid ho1
  have HR1 := Lib.hid hr1
  have hs1 : ∀ r ∈ rs1, r.es.length * 56 ≤ 140737488355328 := by
    intro r h
    obtain ⟨i, hi, rfl⟩ := List.getElem_of_mem h
    have hx : i < xss.length := by rw [← hr1.len]; exact hi
    rw [(hr1.rows i hi hx).len]
    exact hs _ (List.getElem_mem hx)
  have HA := Lib.hid (all_A A1 c1 nw most rs1 xss w1 hr1 hok (by omega) ht hs1)
  have HL1 := Lib.hid hl1
  clear ho1 hr1 hs1 hs0 hl1
  go_wp2_with fail
  refine (HA.out).mono ?_
  rintro r w2 ⟨v2, os2, rfl, ho2, hb2⟩
  obtain ⟨A2, c2, rfl⟩ := own_sl ho2.own
  have HO2 := Lib.hid ho2
  have hl2 : os2.length ≤ 100000000000 := by rw [ho2.len]; exact hlen
  clear ho2
  go_wp2_with fail
  refine (rall_A A c nw most rs xss w2 (HR.out.below (thenB hb1 hb2)) hc hok hn ht).mono ?_
  rintro r w3 ⟨A3, es3, c3, rfl, hr3, hb3⟩
  have hl3 : es3.length ≤ 100000000000 := by rw [hr3.len]; exact hlen
  have HO3 := Lib.hid (HO2.out.below hb3)
  have HS := Lib.hid (sames_true A2 A3 c2 c3 os2 es3 _ w3 HO3.out.rowA.2.1 hr3 (by omega) (by omega))
  clear hr3
  go_wp2_with fail
  refine (HS.out).mono ?_
  rintro r w4 ⟨rfl, hb4⟩
  have HO4 := Lib.hid (HO3.out.below hb4)
  have HSP := Lib.hid (spoil15 w1.heap.size c2 A2 os2 w4 (spoil_of HO4.out) (by omega) HO4.out.ns)
  clear HS
  go_wp2_with fail
  refine (HSP.out).mono ?_
  rintro r w5 ⟨rfl, hb5⟩
  have hb15 : Below w1.heap.size w1 w5 := (thenB hb2 (thenB hb3 hb4)).trans hb5
  clear hb5 HSP HO4 HO3 HO2 HA
  go_wp2_with fail
  go_loopw [10, 9] (fun v10 v9 wr => LoopB w1 rs1.length v10 v9 wr) (fun v10 _ _ => rs1.length - (intOf v10).toNat)
  case atStart => exact ⟨0, rfl, rfl, Nat.zero_le _, hb15⟩
  case round =>
    obtain ⟨k, rfl, rfl, hk, hb⟩ := hrel
    clear hb15
    have hb0 := thenB hb1 hb
    by_cases hlt : k < rs1.length
    · have hlt0 : k < rs.length := by have := HL1.out; omega
      have hx : k < xss.length := by rw [← HR.out.len]; exact hlt0
      have HC : Hid (∀ w', Below w1.heap.size w1 w' → Calls Try.prog 13 #[.slice rs1[k].A rs1[k].es.length rs1[k].c, .slice rs[k].A rs[k].es.length rs[k].c] w' fun e w'' => e = .returned (.bool true) ∧ Below w'.heap.size w' w'') := Lib.hid (fun w' h' => by
        have q1 := (HR1.out.rows k hlt hx).below h'
        have q2 := (HR.out.rows k hlt0 hx).below (thenB hb1 h')
        have q3 := hs _ (List.getElem_mem hx)
        exact sames_true _ _ _ _ _ _ _ w' q1 q2 (by rw [q1.len]; omega) (by rw [q2.len]; omega))
      obtain ⟨b1, o1, rfl, hc1'⟩ := HR1.out.cells (by simpa using (by omega : 0 < rs1.length))
      obtain ⟨b0, o0, rfl, hc0'⟩ := HR.out.cells (by simpa using (by omega : 0 < rs.length))
      have p1 : wr.cell? ⟨b1, o1 + k, none⟩ = some rs1[k].val := keepc hb (hc1' k _ (by simp [hlt]))
      have p0 : wr.cell? ⟨b0, o0 + k, none⟩ = some rs[k].val := keepc hb0 (hc0' k _ (by simp [hlt0]))
      clear hc1' hc0'
      have hi1 : (k : Int) < (rs1.length : Int) := by omega
      have hi0 : (k : Int) < (rs.length : Int) := by omega
      generalize rs1[k] = r1 at *
      generalize rs[k] = r0 at *
      go_wp2_with fail
      go_region_held3 (fun w' => w'.cell? ⟨b1, o1 + k, none⟩ = some (.slice r1.A r1.es.length r1.c) ∧ w'.cell? ⟨b0, o0 + k, none⟩ = some (.slice r0.A r0.es.length r0.c))
        (first | go_keep | (exact ⟨keepc hb6 p1, keepc hb6 p0⟩))
        (first | (go_at_call 13; refine (HC.out _ (by first | exact hb | exact hb.drew)).mono ?_; rintro e w6 ⟨rfl, hb6⟩))
      all_goals
        have hbb : Below w1.heap.size w1 w6 := thenB hb (undrew hb6)
        clear p0 p1 hb6
        go_wp2_with fail
        go_roundw
        case rel => exact ⟨k + 1, by go_num, rfl, by omega, hbb⟩
        case measure => simp [intOf]; omega
    · go_wp2_with (go_at_call 16; refine (knows_any _).mono ?_; rintro r w9 ⟨rfl, hb9⟩)
      go_ret
      exact ⟨rfl, thenB hb0 hb9⟩
end Go.Proofs.Ytjfggmkfnofldaa
