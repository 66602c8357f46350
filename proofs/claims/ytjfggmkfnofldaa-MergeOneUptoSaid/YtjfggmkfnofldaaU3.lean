import Derived.Test.YtjfggmkfnofldaaU2
namespace Go.Proofs.Ytjfggmkfnofldaa
open Go.RowKit
set_option linter.unusedVariables false

def OnePost (w : World) (e : Ending) (w' : World) : Prop := e = .returned (.bool true) ∧ Below w.heap.size w w'
/-- What the first two loops leave. -/
def WantPost (w : World) (mb : Nat) (nw : Bool) (rs : List Raw) (xss : List (List AEnt)) (wr : World) : Prop :=
  (∀ j (h : j < rs.length), ordB nw rs[j].es = true) ∧ SetIs wr mb xss.flatten.length (fun s => decide (s ∈ seqs xss.flatten)) ∧ Below w.heap.size w wr

theorem belowN {B : Nat} {w w' : World} (h : Below B w w') (n : Nat) : Below B w (w'.drewN n) := ⟨h.os, h.tape, h.output, h.size, h.block⟩
set_option maxHeartbeats 4000000 in
set_option maxRecDepth 100000 in
theorem mergeOne_any (A : Option Addr) (c : Nat) (nw : Bool) (rs : List Raw) (xss : List (List AEnt)) (w : World) (hr : RowsA w A rs xss) (hok : ∀ xs ∈ xss, ∀ a ∈ xs, AOk a) (hn : rs.length ≤ 100000000000) (ht : totA xss ≤ 100000000000) (hs : ∀ xs ∈ xss, xs.length * 56 ≤ 140737488355328) :
    Calls Try.prog 4 #[.slice A rs.length c, .bool nw] w (OnePost w) := by
  have HR := Lib.hid hr
  have HOK := Lib.hid hok
  have HS := Lib.hid hs
  have HLEN : Hid (rs.length = xss.length) := Lib.hid hr.len
  clear hr hok hs
  have hmm := @run_makeMap Try.prog
  go_enter Try.func4, Try.ntmps4
  go_wp2
  go_loopw [6] (fun v6 wr => WantRel w w.heap.size nw rs xss v6 wr) (fun v6 _ => rs.length - (intOf v6).toNat)
  case atStart => exact ⟨0, rfl, Nat.zero_le _, fun j _ h => by omega, setIs_congr (SetIs.made w) rfl (fun i => by simp [seqs]), (Below.refl _ _).alloc (Nat.le_refl _) _⟩
  case round =>
    obtain ⟨i, rfl, hi, hord, hset, hb⟩ := hrel
    clear hmm
    have HORD := Lib.hid hord
    have HSET := Lib.hid hset
    clear hord hset
    by_cases hlt : i < rs.length
    · have hx : i < xss.length := by have := HLEN.out; omega
      obtain ⟨bA, oA, rfl, hcA⟩ := HR.out.cells (by simpa using (by omega : 0 < rs.length))
      have HP0 : Hid (∀ w', Below w.heap.size w w' → w'.cell? ⟨bA, oA + i, none⟩ = some rs[i].val) := Lib.hid (fun w' h' => keepc h' (hcA i _ (by simp [hlt])))
      have HROW : Hid (RowA w rs[i].A rs[i].es xss[i]) := Lib.hid (HR.out.rows i hlt hx)
      have HXO : Hid (∀ a ∈ xss[i], AOk a) := Lib.hid (HOK.out _ (List.getElem_mem hx))
      have HXL : Hid (xss[i].length * 56 ≤ 140737488355328) := Lib.hid (HS.out _ (List.getElem_mem hx))
      have HEND := Lib.hid (fun wq kq (h1 : SetIs wq w.heap.size ((xss.take i).flatten.length + kq) (fun s => decide (s ∈ seqs ((xss.take i).flatten ++ xss[i].take kq)))) (h2 : kq = xss[i].length) => want_end hx h1 h2)
      have HTL := Lib.hid (flatten_row_len xss i hx)
      have HNEXT : Hid (ordB nw rs[i].es = true → ∀ j (h : j < rs.length), j < i + 1 → ordB nw rs[j].es = true) := Lib.hid (fun ho j h hj => by
        rcases Nat.lt_or_ge j i with h1 | h1
        · exact HORD.out j h h1
        · obtain rfl : j = i := by omega
          exact ho)
      have p0 := HP0.out wr hb
      have hi1 : (i : Int) < (rs.length : Int) := by omega
      clear hcA
      generalize xss[i] = x0 at *
      generalize rs[i] = r0 at *
      obtain ⟨A0, c0, es0⟩ := r0
      simp only [Raw.val] at HP0 p0
      have HXE : Hid (es0.length = x0.length) := Lib.hid HROW.out.len
      have hel : es0.length ≤ 9000000000000 := by have := HXE.out; have := HXL.out; omega
      have hord0 := rord_any A0 c0 nw es0 wr (HROW.out.cells.below hb) (by omega)
      cases ho : ordB nw es0 with
      | false =>
        rw [ho] at hord0
        have HC := Lib.hid hord0
        clear hord0 ho
        go_wp2_with (first | (go_at_call 17; refine (HC.out).mono ?_; rintro e w2 ⟨rfl, hb2⟩) | (go_at_call 16; refine (knows_any _).mono ?_; rintro e w3 ⟨rfl, hb3⟩))
        go_ret
        exact ⟨rfl, thenB hb (thenB hb2 hb3)⟩
      | true =>
        rw [ho] at hord0
        have HC := Lib.hid hord0
        have HNX := Lib.hid (HNEXT.out ho)
        clear hord0 ho
        go_wp2_with (first | (go_at_call 17; refine (HC.out).mono ?_; rintro e w2 ⟨rfl, hb2⟩))
        have hb02 := thenB hb hb2
        have HS2 := Lib.hid (HSET.out.below hb2)
        clear p0
        obtain ⟨wo, hwo⟩ : ∃ wo : World, wo = w2 := ⟨_, rfl⟩
        go_loopw [7] (fun v7 wi => WantIn w w.heap.size (xss.take i).flatten x0 v7 wi) (fun v7 _ => es0.length - (intOf v7).toNat)
        case atStart => exact ⟨0, rfl, Nat.zero_le _, setIs_congr HS2.out (by simp) (fun i => by simp), hb02⟩
        case round =>
          obtain ⟨k, rfl, hk, hset, hbi⟩ := hrel
          have HSK := Lib.hid hset
          clear hset
          have p0 := HP0.out wr hbi
          by_cases hkl : k < es0.length
          · have hkx : k < x0.length := by have := HXE.out; omega
            obtain ⟨b, o, rfl, hc⟩ := HROW.out.cells (by rw [ecells_length]; omega)
            obtain ⟨q0, q1, q2, q3⟩ := entCells_of (fun j u hu => keepc hbi (hc j u hu)) k hkl
            have HEK : Hid (es0[k].s = x0[k].s) := Lib.hid (HROW.out.ents k hkl hkx).s
            have hwf : (Lit.int .i64 es0[k].s).wf = true := by rw [HEK.out]; exact (HXO.out _ (List.getElem_mem hkx)).1
            obtain ⟨w4, hrun, hset4, hg4⟩ := HSK.out.update es0[k].s hwf (by have := HTL.out; unfold maxLen; omega) true
            have hb4 : Below w.heap.size w w4 := hbi.grown hg4 hbi.size (fun q hq => by cases hq; exact Nat.le_refl _)
            rw [HEK.out] at hset4
            have HS4 := Lib.hid (want_step hset4 hkx rfl rfl)
            have hki : (k : Int) < (es0.length : Int) := by omega
            clear hc hset4 hg4 hwf
            generalize es0[k] = e0 at *
            go_wp2_with fail
            go_roundw
            case rel => exact ⟨k + 1, by go_num, by omega, HS4.out, hb4⟩
            case measure => simp [intOf]; omega
          · have hke : k = x0.length := by have := HXE.out; omega
            have HS5 := Lib.hid (HEND.out wr k HSK.out hke)
            go_wp2_with fail
            go_roundw
            case rel => exact ⟨i + 1, by go_num, by omega, HNX.out, HS5.out, hbi⟩
            case measure => simp [intOf]; omega
    · have hie : i = xss.length := by have := HLEN.out; omega
      have HSA : Hid (SetIs wr w.heap.size xss.flatten.length (fun s => decide (s ∈ seqs xss.flatten))) := Lib.hid (by
        have := HSET.out
        rw [hie, List.take_of_length_le (Nat.le_refl _)] at this
        exact this)
      have HSRT : Hid (∀ r ∈ xss, SortedA nw r) := Lib.hid (fun r hr => by
        obtain ⟨j, hj, rfl⟩ := List.getElem_of_mem hr
        have hj2 : j < rs.length := by rw [HLEN.out]; exact hj
        exact sorted_of_ordB (HR.out.rows j hj2 hj).keys (HORD.out j hj2 (by omega)))
      have hs0 : ∀ (rq : List Raw) (wq : World) (Aq : Option Addr), RowsA wq Aq rq xss → ∀ r ∈ rq, r.es.length * 56 ≤ 140737488355328 := fun rq wq Aq hq r h => by
        obtain ⟨j, hj, rfl⟩ := List.getElem_of_mem h
        have hx : j < xss.length := by rw [← hq.len]; exact hj
        rw [(hq.rows j hj hx).len]
        exact HS.out _ (List.getElem_mem hx)
      have HS0 := Lib.hid hs0
      have H11 := Lib.hid (rows11 A c rs xss wr (HR.out.below hb) (hs0 _ _ _ HR.out) (by omega))
      clear hs0
      go_wp2_with fail
      refine (H11.out).mono ?_
      rintro r w2 ⟨v2, rs2, rfl, ho2, hb2⟩
      obtain ⟨A2, c2, rfl⟩ := own_sl ho2.own
      obtain ⟨hr2, _, _⟩ := ho2.rowsA
      have hl2 : rs2.length ≤ 100000000000 := by rw [ho2.len, ← HLEN.out]; exact hn
      have h12 := all_A A2 c2 nw 0 rs2 xss w2 hr2 HOK.out hl2 ht (HS0.out _ _ _ hr2)
      rw [limA, if_pos rfl] at h12
      have H12 := Lib.hid h12
      clear ho2 hr2 h12
      go_wp2_with fail
      refine (H12.out).mono ?_
      rintro r w3 ⟨v3, os, rfl, ho3, hb3⟩
      obtain ⟨A3, c3, rfl⟩ := own_sl ho3.own
      have HO3 := Lib.hid ho3
      have HOL : Hid (os.length = (allA nw xss).length) := Lib.hid ho3.len
      have hol : os.length ≤ 100000000000 := by rw [HOL.out]; exact Nat.le_trans (allA_length nw xss) ht
      have hb03 : Below w.heap.size w w3 := thenB hb (thenB hb2 hb3)
      have HS3 := Lib.hid (HSA.out.below (thenB hb2 hb3))
      have HKEEP : Hid (∀ wx, KeepF w3 wx (fun k => k = w.heap.size) → OwnRowA wx w2.heap.size (.slice A3 os.length c3) os (allA nw xss)) := Lib.hid (fun wx hk => HO3.out.keep hk (fun q cs t _ hq ht e => by
        obtain ⟨es', cl, hm⟩ := HS3.out.isMap
        rw [e, hm] at hq; cases hq))
      have htf : xss.flatten.length ≤ 100000000000 := by have := flatten_take_len xss xss.length; rw [List.take_of_length_le (Nat.le_refl _)] at this; omega
      clear ho3 H11 H12 HSET HSA
      go_wp2_with fail
      go_loopw [9] (fun v9 wr => PassRel w w3 w.heap.size xss.flatten.length xss.flatten (allA nw xss) v9 wr) (fun v9 _ => os.length - (intOf v9).toNat)
      case atStart => exact ⟨0, rfl, Nat.zero_le _, setIs_congr HS3.out (by simp) (fun i => by simp [seqs]), KeepF.refl _ _, hb03⟩
      case round =>
        obtain ⟨i3, rfl, hi3, hset3, hk3, hb3r⟩ := hrel
        have HSP := Lib.hid hset3
        clear hset3
        by_cases hlt3 : i3 < os.length
        · have hL : i3 < (allA nw xss).length := by have := HOL.out; omega
          have hown := HKEEP.out wr hk3
          obtain ⟨g, rfl, _, _⟩ := own_at hown.own (by omega)
          have HEC : Hid (∀ wx, KeepF w3 wx (fun k => k = w.heap.size) → EntCells wx g (i3 * 4) os[i3]) := Lib.hid (fun wx hk => own_ecells (HKEEP.out wx hk).own i3 hlt3)
          have HEA : Hid (∀ wx, KeepF w3 wx (fun k => k = w.heap.size) → EntA wx os[i3] (allA nw xss)[i3]) := Lib.hid (fun wx hk => (HKEEP.out wx hk).rowA.2.1.ents i3 hlt3 hL)
          have HSQ : Hid (os[i3].s = (allA nw xss)[i3].s) := Lib.hid (HEA.out wr hk3).s
          have HIN : Hid (∃ r ∈ xss, (allA nw xss)[i3] ∈ r) := Lib.hid (allA_from nw xss _ (List.getElem_mem hL))
          have hwf : (Lit.int .i64 os[i3].s).wf = true := by
            obtain ⟨r, hr, ha⟩ := HIN.out
            rw [HSQ.out]; exact (HOK.out r hr _ ha).1
          have hlook := HSP.out.lookup os[i3].s hwf
          have hl2 : (Instr.lookup 30 (.map (some w.heap.size)) (.int .i64 os[i3].s) false).run Try.prog wr = .ok (.bool true) wr := by
            rw [hlook, HSQ.out, pass_has hL]
          obtain ⟨w4, hrun, hset4, hg4⟩ := HSP.out.update os[i3].s hwf (by unfold maxLen; omega) false
          rw [HSQ.out] at hset4
          have HS4 := Lib.hid (pass_step hset4 hL rfl)
          have hk4 : KeepF w3 w4 (fun k => k = w.heap.size) := hk3.trans (KeepF.of_grown hg4) (fun q h => .inl (Option.some.inj h))
          have hb4 : Below w.heap.size w w4 := hb3r.grown hg4 hb3r.size (fun q hq => by cases hq; exact Nat.le_refl _)
          obtain ⟨y0, y1, y2, y3⟩ := HEC.out wr hk3
          have hi3i : (i3 : Int) < (os.length : Int) := by omega
          clear hown hlook hset4 hg4 hwf
          generalize (allA nw xss)[i3] = a at *
          generalize os[i3] = ox at *
          obtain ⟨wz, rfl⟩ : ∃ wz : World, wz = wr := ⟨_, rfl⟩
          go_wp2_with fail
          go_loopw [11, 10] (fun v11 v10 wi => FromRel w4 a xss v11 v10 wi) (fun v11 _ _ => rs.length - (intOf v11).toNat)
          case atStart => exact ⟨0, false, rfl, rfl, Nat.zero_le _, .inr (by simpa using HIN.out), Below.refl _ _⟩
          case round =>
            obtain ⟨k4, f4, rfl, rfl, hk4r, hf4, hbi⟩ := hrel
            have HF4 := Lib.hid hf4
            clear hf4 y0 y1 y2 y3 hl2 hrun
            have hb04 := thenB hb4 hbi
            by_cases hlt4 : k4 < rs.length
            · have hx : k4 < xss.length := by have := HLEN.out; omega
              obtain ⟨bA, oA, rfl, hcA⟩ := HR.out.cells (by simpa using (by omega : 0 < rs.length))
              have HP0 : Hid (∀ w', Below w.heap.size w w' → w'.cell? ⟨bA, oA + k4, none⟩ = some rs[k4].val) := Lib.hid (fun w' h' => keepc h' (hcA k4 _ (by simp [hlt4])))
              have HROW : Hid (RowA w rs[k4].A rs[k4].es xss[k4]) := Lib.hid (HR.out.rows k4 hlt4 hx)
              have HXL : Hid (xss[k4].length * 56 ≤ 140737488355328) := Lib.hid (HS.out _ (List.getElem_mem hx))
              have HF5 : Hid (f4 = true ∨ a ∈ xss[k4].drop 0 ∨ ∃ r ∈ xss.drop (k4 + 1), a ∈ r) := Lib.hid (from_row hx HF4.out)
              have hi4 : (k4 : Int) < (rs.length : Int) := by omega
              clear hcA
              generalize xss[k4] = x0 at *
              generalize rs[k4] = r0 at *
              obtain ⟨A0, c0, es0⟩ := r0
              simp only [Raw.val] at HP0
              have HXE : Hid (es0.length = x0.length) := Lib.hid HROW.out.len
              have hel : es0.length ≤ 9000000000000 := by have := HXE.out; have := HXL.out; omega
              have p0 := HP0.out wr hb04
              obtain ⟨wy, rfl⟩ : ∃ wy : World, wy = wr := ⟨_, rfl⟩
              go_wp2_with fail
              clear p0
              go_loopw [12, 10] (fun v12 v10 wi => FromIn w4 a x0 (xss.drop (k4 + 1)) v12 v10 wi) (fun v12 _ _ => es0.length - (intOf v12).toNat)
              case atStart => exact ⟨0, f4, rfl, rfl, Nat.zero_le _, HF5.out, hbi⟩
              case round =>
                obtain ⟨q5, f5, rfl, rfl, hq5, hf5, hbj⟩ := hrel
                have HFR := Lib.hid hf5
                clear hf5
                have hb05 := thenB hb4 hbj
                have p0 := HP0.out wr hb05
                by_cases hlt5 : q5 < es0.length
                · have hq5i : (q5 : Int) < (es0.length : Int) := by omega
                  have hqx : q5 < x0.length := by have := HXE.out; omega
                  cases f5 with
                  | true =>
                    go_wp2_with fail
                    go_quiet (fail)
                    go_wp2_with fail
                    go_roundw
                    case rel => exact ⟨q5 + 1, true, by go_num, rfl, by omega, .inl rfl, belowN hbj _⟩
                    case measure => simp [intOf]; omega
                  | false =>
                    have HFN := Lib.hid (from_next hqx ((HFR.out).resolve_left (by simp)))
                    obtain ⟨b, o, rfl, hc⟩ := HROW.out.cells (by rw [ecells_length]; omega)
                    obtain ⟨z0, z1, z2, z3⟩ := entCells_of (fun j u hu => keepc hb05 (hc j u hu)) q5 hlt5
                    have HKW : Hid (KeepF w3 wr (fun k => k = w.heap.size)) := Lib.hid (hk4.trans (KeepF.of_below hbj (fun _ => False)) (fun _ h => h.elim))
                    obtain ⟨y0, y1, y2, y3⟩ := HEC.out wr HKW.out
                    have HCAL : Hid (∀ w', Below w4.heap.size w4 w' → Calls Try.prog 18 #[.agg #[.int .i64 es0[q5].s, .int .i64 es0[q5].t, .slice es0[q5].A es0[q5].n es0[q5].c, .string es0[q5].x], .agg #[.int .i64 ox.s, .int .i64 ox.t, .slice ox.A ox.n ox.c, .string ox.x]] w' fun e w'' => e = .returned (.bool (decide (x0[q5] = a))) ∧ Below w'.heap.size w' w'') := Lib.hid (fun w' h' =>
                      same_any es0[q5] ox x0[q5] a w' ((HROW.out.ents q5 hlt5 hqx).below (thenB hb4 h')) (HEA.out w' (hk4.trans (KeepF.of_below h' (fun _ => False)) (fun _ h => h.elim))))
                    clear hc
                    generalize decide (x0[q5] = a) = fd at *
                    generalize es0[q5] = e0 at *
                    go_wp2_with fail
                    go_region_held3 (fun w' => w'.cell? ⟨bA, oA + k4, none⟩ = some (.slice (some ⟨b, o, none⟩) es0.length c0) ∧ w'.cell? ⟨b, o + q5 * 4, none⟩ = some (.int .i64 e0.s) ∧ w'.cell? ⟨b, o + q5 * 4 + 1, none⟩ = some (.int .i64 e0.t) ∧ w'.cell? ⟨b, o + q5 * 4 + 2, none⟩ = some (.slice e0.A e0.n e0.c) ∧ w'.cell? ⟨b, o + q5 * 4 + 3, none⟩ = some (.string e0.x)
                        ∧ w'.cell? ⟨g, i3 * 4, none⟩ = some (.int .i64 ox.s) ∧ w'.cell? ⟨g, i3 * 4 + 1, none⟩ = some (.int .i64 ox.t) ∧ w'.cell? ⟨g, i3 * 4 + 2, none⟩ = some (.slice ox.A ox.n ox.c) ∧ w'.cell? ⟨g, i3 * 4 + 3, none⟩ = some (.string ox.x))
                      (first | go_keep | (exact ⟨keepc hb6 p0, keepc hb6 z0, keepc hb6 z1, keepc hb6 z2, keepc hb6 z3, keepc hb6 y0, keepc hb6 y1, keepc hb6 y2, keepc hb6 y3⟩))
                      (first | (go_at_call 18; refine (HCAL.out _ (by first | exact hbj | exact hbj.drew)).mono ?_; rintro e w6 ⟨rfl, hb6⟩))
                    all_goals
                      have hbj6 : Below w4.heap.size w4 w6 := thenB hbj (undrew hb6)
                      clear p0 z0 z1 z2 z3 y0 y1 y2 y3 hb6
                      go_wp2_with fail
                      go_roundw
                      case rel => exact ⟨q5 + 1, fd, by go_num, rfl, by omega, HFN.out, hbj6⟩
                      case measure => simp [intOf]; omega
                · have HF6 : Hid (f5 = true ∨ ∃ r ∈ xss.drop (k4 + 1), a ∈ r) := Lib.hid (by
                    rcases HFR.out with h | h | h
                    · exact .inl h
                    · rw [List.drop_eq_nil_of_le (by have := HXE.out; omega)] at h; cases h
                    · exact .inr h)
                  go_wp2_with fail
                  go_roundw
                  case rel => exact ⟨k4 + 1, f5, by go_num, rfl, by omega, HF6.out, hbj⟩
                  case measure => simp [intOf]; omega
            · have hfd : f4 = true := by
                rcases HF4.out with h | ⟨r, hr, _⟩
                · exact h
                · rw [List.drop_eq_nil_of_le (by have := HLEN.out; omega)] at hr; cases hr
              subst hfd
              have HS6 := Lib.hid (HS4.out.below hbi)
              have HK6 : Hid (KeepF w3 wr (fun k => k = w.heap.size)) := Lib.hid (hk4.trans (KeepF.of_below hbi (fun _ => False)) (fun _ h => h.elim))
              go_wp2_with fail
              go_roundw
              case rel => exact ⟨i3 + 1, by go_num, by omega, HS6.out, HK6.out, hb04⟩
              case measure => simp [intOf]; omega
        · have hLe : i3 = (allA nw xss).length := by have := HOL.out; omega
          have hmm := @run_makeMap Try.prog
          obtain ⟨wz, rfl⟩ : ∃ wz : World, wz = wr := ⟨_, rfl⟩
          have HKZ := Lib.hid hk3
          have HBZ := Lib.hid hb3r
          have hw3z := hk3.size
          clear hk3 hb3r HSP hLe
          go_wp2
          clear hmm
          go_loopw [15, 13] (fun v15 v13 wq => CntRel w w3 w.heap.size wz.heap.size xss v15 v13 wq) (fun v15 _ _ => rs.length - (intOf v15).toNat)
          case atStart => exact ⟨0, rfl, Nat.zero_le _, rfl, setIs_congr (SetIs.made wz) rfl (fun i => by simp [seqs]), HKZ.out.trans (KeepF.of_below ((Below.refl _ _).alloc (Nat.le_refl _) _) (fun _ => False)) (fun _ h => h.elim), HBZ.out.alloc HBZ.out.size _⟩
          case round =>
            obtain ⟨i6, rfl, hi6, rfl, hset6, hk6, hb6⟩ := hrel
            have HS6 := Lib.hid hset6
            have HK6 := Lib.hid hk6
            clear hset6 hk6
            by_cases hlt6 : i6 < rs.length
            · have hx : i6 < xss.length := by have := HLEN.out; omega
              obtain ⟨bA, oA, rfl, hcA⟩ := HR.out.cells (by simpa using (by omega : 0 < rs.length))
              have HP0 : Hid (∀ w', Below w.heap.size w w' → w'.cell? ⟨bA, oA + i6, none⟩ = some rs[i6].val) := Lib.hid (fun w' h' => keepc h' (hcA i6 _ (by simp [hlt6])))
              have HROW : Hid (RowA w rs[i6].A rs[i6].es xss[i6]) := Lib.hid (HR.out.rows i6 hlt6 hx)
              have HXO : Hid (∀ a ∈ xss[i6], AOk a) := Lib.hid (HOK.out _ (List.getElem_mem hx))
              have HXL : Hid (xss[i6].length * 56 ≤ 140737488355328) := Lib.hid (HS.out _ (List.getElem_mem hx))
              have HEND := Lib.hid (fun wq kq (h1 : SetIs wq wz.heap.size ((xss.take i6).flatten.length + kq) (fun s => decide (s ∈ seqs ((xss.take i6).flatten ++ xss[i6].take kq)))) (h2 : kq = xss[i6].length) => want_end hx h1 h2)
              have HCE : Hid ((dedupS [] (xss.take (i6 + 1)).flatten).length = (dedupS [] ((xss.take i6).flatten ++ xss[i6].take xss[i6].length)).length) := Lib.hid (by rw [flatten_take_succ xss i6 hx, List.take_of_length_le (Nat.le_refl _)])
              have htl := flatten_row_len xss i6 hx
              have hi6i : (i6 : Int) < (rs.length : Int) := by omega
              clear hcA
              generalize xss[i6] = x0 at *
              generalize rs[i6] = r0 at *
              obtain ⟨P, hP⟩ : ∃ P, P = (xss.take i6).flatten := ⟨_, rfl⟩
              rw [← hP] at HS6 HEND HCE htl ⊢
              clear hP
              have HTL := Lib.hid htl
              clear htl
              obtain ⟨A0, c0, es0⟩ := r0
              simp only [Raw.val] at HP0
              have HXE : Hid (es0.length = x0.length) := Lib.hid HROW.out.len
              have hel : es0.length ≤ 9000000000000 := by have := HXE.out; have := HXL.out; omega
              obtain ⟨wy, rfl⟩ : ∃ wy : World, wy = wr := ⟨_, rfl⟩
              go_wp2_with fail
              go_loopw [16, 13] (fun v16 v13 wq => CntIn w w3 w.heap.size wz.heap.size P x0 v16 v13 wq) (fun v16 _ _ => es0.length - (intOf v16).toNat)
              case atStart => exact ⟨0, rfl, Nat.zero_le _, by simp, setIs_congr HS6.out (by simp) (fun i => by simp), HK6.out, hb6⟩
              case round =>
                obtain ⟨k7, rfl, hk7, rfl, hset7, hkp7, hb7⟩ := hrel
                have HS7 := Lib.hid hset7
                have HK7 := Lib.hid hkp7
                clear hset7 hkp7
                have p0 := HP0.out wr hb7
                by_cases hlt7 : k7 < es0.length
                · have hkx : k7 < x0.length := by have := HXE.out; omega
                  obtain ⟨b, o, rfl, hc⟩ := HROW.out.cells (by rw [ecells_length]; omega)
                  obtain ⟨q0, q1, q2, q3⟩ := entCells_of (fun j u hu => keepc hb7 (hc j u hu)) k7 hlt7
                  have HEK : Hid (es0[k7].s = x0[k7].s) := Lib.hid (HROW.out.ents k7 hlt7 hkx).s
                  have hwf : (Lit.int .i64 es0[k7].s).wf = true := by rw [HEK.out]; exact (HXO.out _ (List.getElem_mem hkx)).1
                  have hlook := HS7.out.lookup es0[k7].s hwf
                  have HCS := Lib.hid (cnt_step (P := P) hkx rfl)
                  have hdl := dedupS_length (P ++ x0.take k7) []
                  rw [List.length_append, List.length_take] at hdl
                  have hdl2 : (dedupS [] (P ++ x0.take k7)).length ≤ 100000000000 := by have := HTL.out; omega
                  have hk7i : (k7 : Int) < (es0.length : Int) := by omega
                  clear hc hdl
                  rw [HEK.out] at hlook
                  by_cases hmem : x0[k7].s ∈ seqs (P ++ x0.take k7)
                  · have hl2 : (Instr.lookup 30 (.map (some wz.heap.size)) (.int .i64 es0[k7].s) false).run Try.prog wr = .ok (.bool true) wr := by
                      rw [HEK.out, hlook]; simp [hmem]
                    have HC2 : Hid ((dedupS [] (P ++ x0.take (k7 + 1))).length = (dedupS [] (P ++ x0.take k7)).length) := Lib.hid (by rw [HCS.out, if_pos hmem, Nat.add_zero])
                    have HS8 := Lib.hid (setIs_mono (cnt_same HS7.out hkx rfl hmem) (m := P.length + (k7 + 1)) (by omega))
                    clear hlook hmem hwf
                    generalize es0[k7] = e0 at *
                    go_wp2_with fail
                    go_roundw
                    case rel => exact ⟨k7 + 1, by go_num, by omega, by rw [HC2.out], HS8.out, HK7.out, hb7⟩
                    case measure => simp [intOf]; omega
                  · have hl2 : (Instr.lookup 30 (.map (some wz.heap.size)) (.int .i64 es0[k7].s) false).run Try.prog wr = .ok (.bool false) wr := by
                      rw [HEK.out, hlook]; simp [hmem]
                    have HC2 : Hid ((dedupS [] (P ++ x0.take (k7 + 1))).length = (dedupS [] (P ++ x0.take k7)).length + 1) := Lib.hid (by rw [HCS.out, if_neg hmem])
                    obtain ⟨w8, hrun, hset8, hg8⟩ := HS7.out.update es0[k7].s hwf (by have := HTL.out; unfold maxLen; omega) true
                    rw [HEK.out] at hset8
                    have HS8 := Lib.hid (want_step hset8 hkx rfl rfl)
                    have hb8 : Below w.heap.size w w8 := hb7.grown hg8 hb7.size (fun q hq => by cases hq; exact HBZ.out.size)
                    have HK8 : Hid (KeepF w3 w8 (fun k => k = w.heap.size)) := Lib.hid (HK7.out.trans (KeepF.of_grown hg8) (fun q h => .inr (by cases h; exact hw3z)))
                    clear hlook hmem hwf hset8 hg8
                    generalize es0[k7] = e0 at *
                    go_wp2_with fail
                    go_roundw
                    case rel => exact ⟨k7 + 1, by go_num, by omega, by rw [HC2.out]; go_num, HS8.out, HK8.out, hb8⟩
                    case measure => simp [intOf]; omega
                · have hke : k7 = x0.length := by have := HXE.out; omega
                  have HS9 := Lib.hid (HEND.out wr k7 HS7.out hke)
                  have HC9 : Hid ((dedupS [] (P ++ x0.take k7)).length = (dedupS [] (xss.take (i6 + 1)).flatten).length) := Lib.hid (by rw [HCE.out, hke])
                  clear hke
                  go_wp2_with fail
                  go_roundw
                  case rel => exact ⟨i6 + 1, by go_num, by omega, by rw [HC9.out], HS9.out, HK7.out, hb7⟩
                  case measure => simp [intOf]; omega
            · have HCN : Hid ((dedupS [] (xss.take i6).flatten).length = os.length) := Lib.hid (by
                rw [show i6 = xss.length by have := HLEN.out; omega, List.take_of_length_le (Nat.le_refl _), HOL.out]
                exact cnt_eq nw xss)
              have hrw := (HKEEP.out wr HK6.out).rowA.2.1
              have hord := ord_any A3 c3 nw os wr hrw.cells (by omega)
              rw [ordB_of_sorted hrw.keys (allA_sorted nw xss HSRT.out)] at hord
              have HORD2 := Lib.hid hord
              clear hrw hord
              rw [HCN.out]
              have heq : ((os.length : Int) == (os.length : Int)) = true := by simp
              go_wp2_with (first | (go_at_call 19; refine (HORD2.out).mono ?_; rintro e w8 ⟨rfl, hb8⟩) | (go_at_call 16; refine (knows_any _).mono ?_; rintro e w9 ⟨rfl, hb9⟩))
              go_ret
              exact ⟨rfl, thenB hb6 (thenB hb8 hb9)⟩
end Go.Proofs.Ytjfggmkfnofldaa
