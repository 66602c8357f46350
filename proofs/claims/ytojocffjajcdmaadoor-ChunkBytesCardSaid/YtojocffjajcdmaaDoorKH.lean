import Derived.Test.YtojocffjajcdmaaDoorKG
import Derived.Deep.RegionHeld3
import Derived.Test.YtojocffjajcdmaaDoorKA
namespace Go.Proofs.YtojocffjajcdmaaDoor
open Go.RowKit Go.Proofs.YtojocffjajcdmaaDoorW.PrintWords Go.Proofs.YtojocffjajcdmaaDoorW.PrintLast Go.Proofs.YtojocffjajcdmaaDoorW.PrintMore PChunkAll
set_option linter.unusedVariables false
set_option linter.unusedSimpArgs false

end Go.Proofs.YtojocffjajcdmaaDoor
namespace Go.Proofs.YtojocffjajcdmaaDoor
open Go.RowKit Go.Proofs.YtojocffjajcdmaaDoorW.PrintWords Go.Proofs.YtojocffjajcdmaaDoorW.PrintLast Go.Proofs.YtojocffjajcdmaaDoorW.PrintMore PChunkAll
set_option linter.unusedVariables false
set_option linter.unusedSimpArgs false

theorem readL_err {bs : List Int} (h : (readL bs).2 ≠ 0) : rightL (readL bs).1 = false := by
  unfold readL at h ⊢
  split
  · rfl
  · rename_i hn
    rw [if_neg hn] at h
    exact absurd rfl h

end Go.Proofs.YtojocffjajcdmaaDoor
namespace Go.Proofs.YtojocffjajcdmaaDoor
open Go.RowKit Go.Proofs.YtojocffjajcdmaaDoorW.PrintWords Go.Proofs.YtojocffjajcdmaaDoorW.PrintLast Go.Proofs.YtojocffjajcdmaaDoorW.PrintMore PChunkAll
set_option linter.unusedVariables false
set_option linter.unusedSimpArgs false

def RLabRel (l : List S112) (w : World) (v4 v23 : Value) (wr : World) : Prop :=
  ∃ k : Nat, OwnB wr w.heap.size v4 (labs7 l k) ∧ v23 = .int .i64 (k : Int) ∧ k ≤ l.length ∧ Below w.heap.size w wr

set_option maxHeartbeats 8000000 in
set_option maxRecDepth 100000 in
theorem rbytesL_any (A : Option Addr) (c : Nat) (l : List S112) (w : World) (hr : Kd.C k112 w A l.length l) (hR : rightL l = true) : Calls Tryd.prog 136 #[.slice A l.length c] w (BytesBelow (bytesL l) w) := by
  have hg := rightL_get hR
  have HNU : Hid (∀ W, Calls Tryd.prog 107 #[.int .i64 (l.length : Int)] W (BytesBelow (num7 l.length) W)) := Lib.hid (fun W => rbytes_any l.length W (by omega))
  have HG := Lib.hid hg
  have HLL := Lib.hid (fun k hk => labs7_len hR k hk)
  have HR := Lib.hid hr
  have h16 := hg.1
  clear hr hR hg
  go_enter Tryd.func136, Tryd.ntmps136
  go_wp2_with (go_at_call 107; refine (HNU.out _).mono ?_; rintro e w3 ⟨v, rfl, ho, hb⟩; have HO := Lib.hid ho; have HB3 := Lib.hid hb; clear ho hb)
  go_loopw [3, 4] (fun v4 v23 wr => RLabRel l w v4 v23 wr) (fun _ v23 _ => l.length - (intOf v23).toNat)
  case atStart => exact ⟨0, by have h := HO.out; simpa [labs7] using h, rfl, Nat.zero_le _, HB3.out⟩
  case round =>
    obtain ⟨k, ho, rfl, hk, hb⟩ := hrel
    by_cases hlt : k < l.length
    · have hki : (k : Int) < (l.length : Int) := by omega
      obtain ⟨b, o, rfl, hx⟩ := labs_at HR.out (by omega)
      have hc0 := (hx k hlt).1
      have hc1 := (hx k hlt).2
      have hx0 := pw_cell_below hb hc0
      have hx1 := pw_cell_below hb hc1
      have HC0 := Lib.hid hc0
      have HC1 := Lib.hid hc1
      have HS : Hid (labs7 l (k + 1) = labs7 l k ++ text7 (l.getD k z112).f0 ++ text7 (l.getD k z112).f1) := Lib.hid (by rw [labs7_succ l k hlt]; simp)
      have hsz := HG.out.2.2 k hlt
      have hll := (HLL.out (k + 1) (by omega)).1
      rw [HS.out] at hll
      have HCL : Hid ((labs7 l k ++ text7 (l.getD k z112).f0 ++ text7 (l.getD k z112).f1).length ≤ 100000) := Lib.hid (by omega)
      have HT0 : Hid (∀ W, Calls Tryd.prog 108 #[.string (l.getD k z112).f0] W (BytesBelow (text7 (l.getD k z112).f0) W)) := Lib.hid (fun W => rtextb_any _ W (by omega))
      have HT1 : Hid (∀ W, Calls Tryd.prog 108 #[.string (l.getD k z112).f1] W (BytesBelow (text7 (l.getD k z112).f1) W)) := Lib.hid (fun W => rtextb_any _ W (by omega))
      have HOK := Lib.hid ho
      have HBK := Lib.hid hb
      obtain ⟨A4, q4, h4⟩ := Kd.R_slice ho
      subst h4
      clear hx hsz hll hb hc0 hc1 ho
      generalize l.getD k z112 = x at *
      generalize labs7 l k = Y at *
      generalize text7 x.f0 = T0 at *
      generalize text7 x.f1 = T1 at *
      obtain ⟨Z, hZ⟩ : ∃ Z, Z = Y ++ T0 := ⟨_, rfl⟩
      have HZ := Lib.hid hZ
      have HC0L : Hid (Y.length + T0.length ≤ 100000) := Lib.hid (by have := HCL.out; simp at this; omega)
      have HC1L : Hid (Z.length + T1.length ≤ 100000) := Lib.hid (by have := HCL.out; rw [← hZ, List.length_append] at this; exact this)
      rw [← hZ] at HS
      clear hZ HCL
      go_wp2_with fail
      go_region_held3 (fun w' => w'.cell? ⟨b, o + k * 2, none⟩ = some (.string x.f0) ∧ w'.cell? ⟨b, o + k * 2 + 1, none⟩ = some (.string x.f1))
        (first | go_keep | (exact ⟨pw_cell_below hk4 HC0.out, pw_cell_below hk4 HC1.out⟩) | (exact ⟨pw_cell_below hk5 HC0.out, pw_cell_below hk5 HC1.out⟩) | (exact ⟨pw_cell_below hk6 HC0.out, pw_cell_below hk6 HC1.out⟩) | (exact ⟨pw_cell_below hk7 HC0.out, pw_cell_below hk7 HC1.out⟩))
        (first | (go_at_call 108; (with_reducible refine (HT0.out _).mono ?_); rintro e w4 ⟨v4, rfl, ho4, hb4⟩; obtain ⟨A8, q8, h8⟩ := Kd.R_slice ho4; subst h8; have hk4 := below_step (below_drew1 HBK.out) hb4; have HO4 := Lib.hid (Kd.R_below (Kd.R_drew HOK.out) hb4); have HC4 := Lib.hid (Kd.R_reads' ho4).2.2; clear ho4 hb4)
               | (refine Kd.R_append_rows_step KB (w0 := w) w.heap.size (by rfl) (.tmp 14) (.tmp 20) 23 5 (.int .u8 0) 1 rfl Tryd.underlying23 info5 rfl (by decide) (by omega) (.slice A4 Y.length q4) Y T0 _ _ _ (fun _ => True) (fun _ => False) rfl rfl HO4.out HC4.out (fun _ _ h => h) (fun _ h => h.elim) (fun _ _ => trivial) hk4 hk4.size (by have := HC0L.out; omega) ?_; intro v5 w5 ho5 hk5 hg5 hat5; rw [← HZ.out] at ho5; obtain ⟨A5, q5, h5⟩ := Kd.R_slice ho5; subst h5; have HO5 := Lib.hid ho5; clear ho5 hg5 hat5)
               | (go_at_call 108; (with_reducible refine (HT1.out _).mono ?_); rintro e w6 ⟨v6, rfl, ho6, hb6⟩; obtain ⟨A9, q9, h9⟩ := Kd.R_slice ho6; subst h9; have hk6 := below_step hk5 hb6; have HO6 := Lib.hid (Kd.R_below HO5.out hb6); have HC6 := Lib.hid (Kd.R_reads' ho6).2.2; clear ho6 hb6)
               | (refine Kd.R_append_rows_step KB (w0 := w) w.heap.size (by rfl) (.tmp 21) (.tmp 27) 23 5 (.int .u8 0) 1 rfl Tryd.underlying23 info5 rfl (by decide) (by omega) (.slice A5 Z.length q5) Z T1 _ _ _ (fun _ => True) (fun _ => False) rfl rfl HO6.out HC6.out (fun _ _ h => h) (fun _ h => h.elim) (fun _ _ => trivial) hk6 hk6.size (by have := HC1L.out; omega) ?_; intro v7 w7 ho7 hk7 hg7 hat7; obtain ⟨A7, q7, h7⟩ := Kd.R_slice ho7; subst h7; have HO7 := Lib.hid ho7; clear ho7 hg7 hat7))
      go_wp2
      go_roundw
      case rel => exact ⟨k + 1, by rw [HS.out]; have h := HO7.out; rw [List.length_append] at h; exact h, by go_num, by omega, hk7⟩
      case measure => simp [intOf]; omega
    · have HE := Lib.hid (labs7_all l k hlt)
      have hki : ¬ (k : Int) < (l.length : Int) := by omega
      have HOK := Lib.hid ho
      have HBK := Lib.hid hb
      clear ho hb
      go_wp2
      go_ret
      exact ⟨_, rfl, by rw [← HE.out]; exact HOK.out, HBK.out⟩
end Go.Proofs.YtojocffjajcdmaaDoor
namespace Go.Proofs.YtojocffjajcdmaaDoor
open Go.RowKit Go.Proofs.YtojocffjajcdmaaDoorW.PrintWords Go.Proofs.YtojocffjajcdmaaDoorW.PrintLast Go.Proofs.YtojocffjajcdmaaDoorW.PrintMore PChunkAll
set_option linter.unusedVariables false
set_option linter.unusedSimpArgs false

end Go.Proofs.YtojocffjajcdmaaDoor
namespace Go.Proofs.YtojocffjajcdmaaDoor
open Go.RowKit Go.Proofs.YtojocffjajcdmaaDoorW.PrintWords Go.Proofs.YtojocffjajcdmaaDoorW.PrintLast Go.Proofs.YtojocffjajcdmaaDoorW.PrintMore PChunkAll
set_option linter.unusedVariables false
set_option linter.unusedSimpArgs false

/-- An entry's block. -/
def Ent (W : World) (g : Nat) (x : S33) (A : Option Addr) (c : Nat) : Prop := W.heap[g]? = some (.cells (entC x A c) 33 (0, 0)) ∧ Kd.C k112 W A x.f2.length x.f2
theorem Ent.below {W W' : World} {g : Nat} {x : S33} {A : Option Addr} {c : Nat} (h : Ent W g x A c) (hb : Below W.heap.size W W') : Ent W' g x A c := ⟨blk_below h.1 hb, Kd.C_below h.2 hb⟩
theorem Ent.new {W : World} {x : S33} {A : Option Addr} {c : Nat} (h : Kd.C k112 W A x.f2.length x.f2) : Ent (W.alloc (.cells (entC x A c) 33)) W.heap.size x A c := ⟨heap_alloc_new W _, Kd.C_alloc h _⟩
theorem Ent.cell {W : World} {g : Nat} {x : S33} {A : Option Addr} {c : Nat} (h : Ent W g x A c) : W.cell? ⟨g, 0, none⟩ = some (.int .i64 x.f0) ∧ W.cell? ⟨g, 1, none⟩ = some (.int .i64 x.f1) ∧ W.cell? ⟨g, 2, none⟩ = some (.slice A x.f2.length c) ∧ W.cell? ⟨g, 3, none⟩ = some (.string x.f3) :=
  ⟨(blk_cell h.1 0).trans rfl, (blk_cell h.1 1).trans rfl, (blk_cell h.1 2).trans rfl, (blk_cell h.1 3).trans rfl⟩
theorem Ent.c {W : World} {g : Nat} {x : S33} {A : Option Addr} {c : Nat} (h : Ent W g x A c) : Kd.C k112 W A x.f2.length x.f2 := h.2
/-- A slice of bytes, in whatever world has come of W. -/
theorem str_regrown {W : World} {A : Option Addr} {c : Nat} {bs : List Int} (h : Kd.C KB W A bs.length bs) (d : Nat) (os : Array Obj) : (convert 23 9 (.slice A bs.length c)).run Tryd.prog (Go.Sort.grow (redrawn W d) os) = .ok (.string (strOfNums bs)) (Go.Sort.grow (redrawn W d) os) :=
  Kd.C_string (P := Tryd.prog) Tryd.underlying23 Tryd.underlying5 Tryd.underlying9 (Kd.C_below h (below_regrown W d os))
end Go.Proofs.YtojocffjajcdmaaDoor
