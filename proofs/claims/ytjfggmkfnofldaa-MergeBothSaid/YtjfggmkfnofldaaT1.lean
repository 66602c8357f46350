import Derived.Test.YtjfggmkfnofldaaS3
namespace Go.Proofs.Ytjfggmkfnofldaa
open Go.RowKit
set_option linter.unusedVariables false

theorem dealt_turn (nw : Bool) (dl : List Int) (xs : List AEnt) (hd : xs.Pairwise (fun x y => x.s ≠ y.s)) : limA 0 0 (allA nw (dealt dl (turnIf nw (sortA xs)))) = turnIf nw (sortA xs) := by
  rw [limA, if_pos rfl]
  cases nw
  · exact dealt_false dl xs hd
  · exact dealt_true dl xs hd
theorem once_row {w w1 : World} {A : Option Addr} {n c : Nat} {es : List Ent} {xs : List AEnt} {base : Nat} (hr : RowA w A es xs) (hb : Below w.heap.size w w1) {A1 : Option Addr} (ho : w1.ownsRow base 34 4 (.slice A1 (onceE [] es).length c) (onceE [] es).length (ecells (onceE [] es))) :
    RowA w1 A1 (onceE [] es) (dedupS [] xs) := by
  have h := (once_rel (EntA.key w) [] hr.rel).imp (fun e a h => h.below hb)
  exact ⟨own_rowCells ho, h.len, h.at_⟩
theorem onceE_length (es : List Ent) : ∀ seen, (onceE seen es).length ≤ es.length := by
  induction es with
  | nil => intro seen; simp [onceE]
  | cons a l ih =>
    intro seen
    rw [onceE]
    split
    · have := ih seen; simp; omega
    · have := ih (a.s :: seen); simp; omega
theorem dealt_lens (dl : List Int) (s : List AEnt) : (∀ r ∈ dealt dl s, r.length ≤ s.length) ∧ totA (dealt dl s) ≤ 4 * s.length := by
  obtain ⟨h1, _, h3⟩ := dealt_facts dl s
  refine ⟨fun r hr => (h1 r hr).length_le, ?_⟩
  generalize dealt dl s = rows at *
  match rows, h3 with
  | [a, b, c, d], _ =>
    have ha := (h1 a (by simp)).length_le
    have hb := (h1 b (by simp)).length_le
    have hc := (h1 c (by simp)).length_le
    have hd := (h1 d (by simp)).length_le
    simp [totA]; omega
theorem dealt_ok (dl : List Int) (s : List AEnt) (h : ∀ a ∈ s, AOk a) : ∀ r ∈ dealt dl s, ∀ a ∈ r, AOk a := fun r hr a ha => h a (((dealt_facts dl s).1 r hr).subset ha)
theorem dedupS_mem (l : List AEnt) : ∀ seen, ∀ x ∈ dedupS seen l, x ∈ l := by
  induction l with
  | nil => intro seen x h; cases h
  | cons a l ih =>
    intro seen x h
    rw [dedupS] at h
    split at h
    · exact List.mem_cons_of_mem _ (ih _ x h)
    · rcases List.mem_cons.1 h with rfl | h
      · exact List.mem_cons_self
      · exact List.mem_cons_of_mem _ (ih _ x h)
theorem turnIf_mem {α : Type} (nw : Bool) (l : List α) (x : α) : x ∈ turnIf nw l ↔ x ∈ l := by cases nw <;> simp [turnIf]
theorem sortA_length (xs : List AEnt) : (sortA xs).length = xs.length := (sortA_perm xs).length_eq
/-- Dealt rows are merged dl the sorted ones. -/
theorem merge_deal {w : World} {A : Option Addr} {c : Nat} {rs : List Raw} {xs : List AEnt} {nw : Bool} {ts : List Int} (hr : RowsA w A rs (dealt ts (turnIf nw (sortA (dedupS [] xs))))) (hl : xs.length ≤ 200) (hok : ∀ a ∈ xs, AOk a) :
    Calls Try.prog 12 #[.slice A rs.length c, .bool nw, .int .i64 0] w (AllAPost w (turnIf nw (sortA (dedupS [] xs)))) := by
  have hd := (dedupS_distinct xs []).1
  have hlen : (turnIf nw (sortA (dedupS [] xs))).length ≤ 200 := by rw [turnIf_length, sortA_length]; exact Nat.le_trans (dedupS_length _ _) hl
  obtain ⟨l1, l2⟩ := dealt_lens ts (turnIf nw (sortA (dedupS [] xs)))
  have hn : rs.length = 4 := by rw [hr.len]; exact (dealt_facts ts _).2.2
  have h := all_A A c nw 0 rs _ w hr (dealt_ok ts _ (fun a ha => hok a (dedupS_mem _ _ a ((sortA_perm _).subset ((turnIf_mem _ _ _).1 ha))))) (by omega) (by omega) (fun r hrr => by
    obtain ⟨i, hi, rfl⟩ := List.getElem_of_mem hrr
    have hx : i < (dealt ts (turnIf nw (sortA (dedupS [] xs)))).length := by rw [← hr.len]; exact hi
    rw [(hr.rows i hi hx).len]
    have := l1 _ (List.getElem_mem hx)
    omega)
  rw [dealt_turn nw ts _ hd] at h
  exact h

def BoolPost (b : Bool) (w : World) (e : Ending) (w' : World) : Prop := e = .returned (.bool b) ∧ Below w.heap.size w w'

set_option maxHeartbeats 1000000 in
theorem mergePieces_any (A : Option Addr) (c : Nat) (es : List Ent) (xs : List AEnt) (B : Option Addr) (d : Nat) (ts : List Int) (nw : Bool) (w : World) (hr : RowA w A es xs) (hok : ∀ a ∈ xs, AOk a) (hto : RowCells w B (ts.map (Value.int .i64))) (htw : ∀ t ∈ ts, (Lit.int .i64 t).wf = true) (htl : ts.length ≤ 9223372036854775807) :
    Calls Try.prog 5 #[.slice A es.length c, .slice B ts.length d, .bool nw] w (BoolPost true w) := by
  by_cases hl : 200 < es.length
  · have hl2 : (200 : Int) < (es.length : Int) := by omega
    clear hr hto
    go_enter Try.func5, Try.ntmps5
    go_wp2_with (go_at_call 16; refine (knows_any _).mono ?_; rintro r w9 ⟨rfl, hb9⟩)
    go_ret
    exact ⟨rfl, hb9⟩
  · have hl2 : (es.length : Int) ≤ 200 := by omega
    have hxl : xs.length ≤ 200 := by rw [← hr.len]; omega
    have HR := Lib.hid hr
    have HTO := Lib.hid hto
    have H1 := Lib.hid (once20 A c es w hr.cells (by omega) (fun e he => by
      obtain ⟨i, hi, rfl⟩ := List.getElem_of_mem he
      have hx : i < xs.length := by rw [← hr.len]; exact hi
      rw [(hr.ents i hi hx).s]
      exact (hok _ (List.getElem_mem hx)).1))
    clear hr hto hl
    go_enter Try.func5, Try.ntmps5
    go_wp2_with fail
    refine (H1.out).mono ?_
    rintro r w1 ⟨v1, rfl, ho1, hb1⟩
    obtain ⟨A1, c1, rfl⟩ := own_sl ho1
    have hr1 := once_row (n := 0) HR.out hb1 ho1
    have hl1 := onceE_length es []
    have HR1 := Lib.hid hr1
    clear hr1 ho1 H1
    have hl1i : (onceE [] es).length ≤ 200 := by omega
    have hokx := dedupS_mem xs []
    have HOK : Hid (∀ a ∈ dedupS [] xs, AOk a) := Lib.hid (fun a h => hok a (hokx a h))
    clear hokx
    have H2 := Lib.hid (sort21 A1 c1 (onceE [] es) w1 HR1.out.cells (by omega))
    go_wp2_with fail
    refine (H2.out).mono ?_
    rintro r w2 ⟨v2, rfl, ho2, hb2⟩
    obtain ⟨A2, c2, rfl⟩ := own_sl ho2
    have hsr := (sort_rel (EntA.key w1) HR1.out.rel).imp (fun e a h => EntA.below h hb2)
    have HSL : Hid ((sortE (onceE [] es)).length = (onceE [] es).length) := Lib.hid (sortE_length _)
    have hrs : RowA w2 A2 (sortE (onceE [] es)) (sortA (dedupS [] xs)) := ⟨own_rowCells ho2, hsr.len, hsr.at_⟩
    have HRS := Lib.hid hrs
    clear hrs hsr ho2 H2
    have hb02 := thenB hb1 hb2
    have HDL : Hid ((sortA (dedupS [] xs)).length ≤ 200) := Lib.hid (by rw [sortA_length]; exact Nat.le_trans (dedupS_length _ _) hxl)
    cases nw with
    | false =>
      have H3 := Lib.hid (deal23 A1 c1 (onceE [] es) (dedupS [] xs) B d ts false w2 (HR1.out.below hb2) (HTO.out.below hb02) htw (by omega) htl)
      go_wp2_with fail
      refine (H3.out).mono ?_
      rintro r w4 ⟨A4, c4, rs4, rfl, hr4, hc4, hb4⟩
      have H4 := Lib.hid (merge_deal (c := c4) hr4 hxl hok)
      clear H3 hr4 hc4
      go_wp2_with fail
      refine (H4.out).mono ?_
      rintro r w5 ⟨v5, os5, rfl, ho5, hb5⟩
      obtain ⟨A5, c5, rfl⟩ := own_sl ho5.own
      have hb25 := thenB hb4 hb5
      have hl5 : os5.length ≤ 200 := by rw [ho5.len, turnIf_length]; exact HDL.out
      have hsm := sames_true A5 A2 c5 c2 os5 (sortE (onceE [] es)) _ w5 ho5.rowA.2.1 (HRS.out.below hb25) (by omega) (by rw [HSL.out]; omega)
      rw [HSL.out] at hsm
      have HS := Lib.hid hsm
      clear hsm ho5 H4
      go_wp2_with fail
      refine (HS.out).mono ?_
      rintro r w6 ⟨rfl, hb6⟩
      go_wp2_with (go_at_call 16; refine (knows_any _).mono ?_; rintro r w9 ⟨rfl, hb9⟩)
      go_ret
      exact ⟨rfl, thenB (thenB hb02 hb25) (thenB hb6 hb9)⟩
    | true =>
      have H2 := Lib.hid (rturn22 A2 c2 (sortE (onceE [] es)) w2 HRS.out.cells (by rw [HSL.out]; omega))
      rw [HSL.out] at H2
      go_wp2_with fail
      refine (H2.out).mono ?_
      rintro r w3 ⟨v3, rfl, ho3, hb3⟩
      obtain ⟨A3, c3, rfl⟩ := own_sl ho3
      rw [HSL.out]
      have hrv := (HRS.out.rel.reverse).imp (fun e a h => EntA.below h hb3)
      have hrs3 : RowA w3 A3 (sortE (onceE [] es)).reverse (sortA (dedupS [] xs)).reverse := ⟨own_rowCells ho3, hrv.len, hrv.at_⟩
      have HRS3 := Lib.hid hrs3
      have HSL3 : Hid ((sortE (onceE [] es)).reverse.length = (onceE [] es).length) := Lib.hid (by rw [List.length_reverse, HSL.out])
      clear hrs3 hrv ho3 H2
      have hb03 := thenB hb02 hb3
      have H3 := Lib.hid (deal23 A1 c1 (onceE [] es) (dedupS [] xs) B d ts true w3 (HR1.out.below (thenB hb2 hb3)) (HTO.out.below hb03) htw (by omega) htl)
      go_wp2_with fail
      refine (H3.out).mono ?_
      rintro r w4 ⟨A4, c4, rs4, rfl, hr4, hc4, hb4⟩
      have H4 := Lib.hid (merge_deal (c := c4) hr4 hxl hok)
      clear H3 hr4 hc4
      go_wp2_with fail
      refine (H4.out).mono ?_
      rintro r w5 ⟨v5, os5, rfl, ho5, hb5⟩
      obtain ⟨A5, c5, rfl⟩ := own_sl ho5.own
      have hb25 := thenB hb4 hb5
      have hl5 : os5.length ≤ 200 := by rw [ho5.len, turnIf_length]; exact HDL.out
      have hsm := sames_true A5 A3 c5 c3 os5 (sortE (onceE [] es)).reverse _ w5 ho5.rowA.2.1 (HRS3.out.below hb25) (by omega) (by rw [HSL3.out]; omega)
      rw [HSL3.out] at hsm
      have HS := Lib.hid hsm
      clear hsm ho5 H4
      go_wp2_with fail
      refine (HS.out).mono ?_
      rintro r w6 ⟨rfl, hb6⟩
      go_wp2_with (go_at_call 16; refine (knows_any _).mono ?_; rintro r w9 ⟨rfl, hb9⟩)
      go_ret
      exact ⟨rfl, thenB (thenB hb03 hb25) (thenB hb6 hb9)⟩
end Go.Proofs.Ytjfggmkfnofldaa
