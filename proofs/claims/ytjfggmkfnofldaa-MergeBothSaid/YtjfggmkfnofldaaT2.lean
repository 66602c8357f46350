import Derived.Test.YtjfggmkfnofldaaT1
namespace Go.Proofs.Ytjfggmkfnofldaa
open Go.RowKit
set_option linter.unusedVariables false

set_option maxHeartbeats 1000000 in
theorem mergeBoth_any (A : Option Addr) (c : Nat) (es : List Ent) (xs : List AEnt) (B : Option Addr) (d : Nat) (ts : List Int) (w : World) (hr : RowA w A es xs) (hok : ∀ a ∈ xs, AOk a) (hto : RowCells w B (ts.map (Value.int .i64))) (htw : ∀ t ∈ ts, (Lit.int .i64 t).wf = true) (htl : ts.length ≤ 9223372036854775807) :
    Calls Try.prog 10 #[.slice A es.length c, .slice B ts.length d] w (BoolPost true w) := by
  by_cases hl : 200 < es.length
  · have hl2 : (200 : Int) < (es.length : Int) := by omega
    clear hr hto
    go_enter Try.func10, Try.ntmps10
    go_wp2_with (go_at_call 16; refine (knows_any _).mono ?_; rintro r w9 ⟨rfl, hb9⟩)
    go_ret
    exact ⟨rfl, hb9⟩
  · have hl2 : (es.length : Int) ≤ 200 := by omega
    have hxl : xs.length ≤ 200 := by rw [← hr.len]; omega
    have HR := Lib.hid hr
    have HTO := Lib.hid hto
    have H1 := Lib.hid (once20 A c es w hr.cells (by omega) (fun e he => by
      obtain ⟨i, hi, rfl⟩ := List.getElem_of_mem he
      have hx : i < xs.length := by rw [← hr.len]; exact hi
      rw [(hr.ents i hi hx).s]
      exact (hok _ (List.getElem_mem hx)).1))
    clear hr hto hl
    go_enter Try.func10, Try.ntmps10
    go_wp2_with fail
    refine (H1.out).mono ?_
    rintro r w1 ⟨v1, rfl, ho1, hb1⟩
    obtain ⟨A1, c1, rfl⟩ := own_sl ho1
    have hr1 := once_row (n := 0) HR.out hb1 ho1
    have hl1 := onceE_length es []
    have HR1 := Lib.hid hr1
    clear hr1 ho1 H1
    have hl1i : (onceE [] es).length ≤ 200 := by omega
    have HDL : Hid ((sortA (dedupS [] xs)).length = (onceE [] es).length) := Lib.hid (by rw [sortA_length, HR1.out.len])
    have H3 := Lib.hid (deal23 A1 c1 (onceE [] es) (dedupS [] xs) B d ts false w1 HR1.out (HTO.out.below hb1) htw (by omega) htl)
    go_wp2_with fail
    refine (H3.out).mono ?_
    rintro r w2 ⟨A2, c2, rs2, rfl, hr2, hc2, hb2⟩
    have H4 := Lib.hid (merge_deal (c := c2) hr2 hxl hok)
    clear H3 hr2 hc2
    go_wp2_with fail
    refine (H4.out).mono ?_
    rintro r w3 ⟨v3, os3, rfl, ho3, hb3⟩
    obtain ⟨A3, c3, rfl⟩ := own_sl ho3.own
    have HL3 : Hid (os3.length = (onceE [] es).length) := Lib.hid (by rw [ho3.len, turnIf_length, HDL.out])
    have HO3 := Lib.hid ho3
    clear ho3 H4
    have hb13 := thenB hb2 hb3
    have H3 := Lib.hid (deal23 A1 c1 (onceE [] es) (dedupS [] xs) B d ts true w3 (HR1.out.below hb13) (HTO.out.below (thenB hb1 hb13)) htw (by omega) htl)
    go_wp2_with fail
    refine (H3.out).mono ?_
    rintro r w4 ⟨A4, c4, rs4, rfl, hr4, hc4, hb4⟩
    have H4 := Lib.hid (merge_deal (c := c4) hr4 hxl hok)
    clear H3 hr4 hc4
    go_wp2_with fail
    refine (H4.out).mono ?_
    rintro r w5 ⟨v5, os5, rfl, ho5, hb5⟩
    obtain ⟨A5, c5, rfl⟩ := own_sl ho5.own
    have HL5 : Hid (os5.length = (onceE [] es).length) := Lib.hid (by rw [ho5.len, turnIf_length, HDL.out])
    have HO5 := Lib.hid ho5
    clear ho5 H4
    have hb35 := thenB hb4 hb5
    have HR35 := Lib.hid ((HO3.out.below hb35).rowA.2.1)
    have HT := Lib.hid (turn30 A3 c3 os3 _ w5 HR35.out (by rw [HL3.out]; omega))
    go_wp2_with fail
    refine (HT.out).mono ?_
    rintro r w6 ⟨v6, os6, rfl, ho6, hb6⟩
    obtain ⟨A6, c6, rfl⟩ := own_sl ho6.own
    have HL6 : Hid (os6.length = (onceE [] es).length) := Lib.hid (by rw [ho6.len, List.length_reverse, turnIf_length, HDL.out])
    have hsm := sames_true A6 A5 c6 c5 os6 os5 _ w6 ho6.rowA.2.1 ((HO5.out.below hb6).rowA.2.1) (by rw [HL6.out]; omega) (by rw [HL5.out]; omega)
    have HS := Lib.hid hsm
    clear hsm ho6 HT
    go_wp2_with fail
    refine (HS.out).mono ?_
    rintro r w7 ⟨rfl, hb7⟩
    have heq : ((os3.length : Int) == ((onceE [] es).length : Int)) = true := by rw [HL3.out]; simp
    go_wp2_with (go_at_call 16; refine (knows_any _).mono ?_; rintro r w9 ⟨rfl, hb9⟩)
    go_ret
    exact ⟨rfl, thenB (thenB (thenB hb1 hb13) (thenB hb35 hb6)) (thenB hb7 hb9)⟩
end Go.Proofs.Ytjfggmkfnofldaa
