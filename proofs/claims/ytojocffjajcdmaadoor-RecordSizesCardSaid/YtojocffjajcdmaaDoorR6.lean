import Derived.Test.YtojocffjajcdmaaDoorR5
namespace Go.Proofs.YtojocffjajcdmaaDoor
open Go.RowKit Go.Proofs.YtojocffjajcdmaaDoorW.PrintWords Go.Proofs.YtojocffjajcdmaaDoorW.PrintLast Go.Proofs.YtojocffjajcdmaaDoorW.PrintMore PChunkAll
set_option linter.unusedVariables false
set_option linter.unusedSimpArgs false

def lab7 (x : S112) : List Int := text7 x.f0 ++ text7 x.f1
def labs7 (l : List S112) (k : Nat) : List Int := num7 l.length ++ (l.take k).flatMap lab7
def bytesL (l : List S112) : List Int := num7 l.length ++ l.flatMap lab7
theorem labs7_succ (l : List S112) (k : Nat) (h : k < l.length) : labs7 l (k + 1) = [labs7 l k, text7 (l.getD k z112).f0, text7 (l.getD k z112).f1].flatten := by
  unfold labs7
  rw [List.take_succ_eq_append_getElem h, List.flatMap_append]
  simp [lab7, h]
theorem labs7_all (l : List S112) (k : Nat) (h : ¬ k < l.length) : labs7 l k = bytesL l := by unfold labs7 bytesL; rw [List.take_of_length_le (by omega)]
theorem nameI_size {s : ByteArray} (h : nameI s = true) : s.size ≤ 64 := by
  unfold nameI at h
  simp only [Bool.and_eq_true, decide_eq_true_eq] at h
  omega
theorem valI_size {s : ByteArray} (h : valI s = true) : s.size ≤ 128 := by
  unfold valI at h
  simp only [Bool.and_eq_true, decide_eq_true_eq] at h
  omega
theorem labsB_get (p : Option ByteArray) (l : List S112) (h : labsB p l = true) (k : Nat) (hk : k < l.length) : nameI (l.getD k z112).f0 = true ∧ valI (l.getD k z112).f1 = true := by
  induction l generalizing p k with
  | nil => simp at hk
  | cons x l ih =>
    rw [labsB, labB] at h
    simp only [Bool.and_eq_true] at h
    cases k with
    | zero => exact ⟨h.1.1.1, h.1.1.2⟩
    | succ k => exact ih _ h.2 k (by simp at hk; omega)
theorem rightL_get {l : List S112} (h : rightL l = true) : l.length ≤ 16 ∧ 1 ≤ l.length ∧ ∀ k, k < l.length → (l.getD k z112).f0.size ≤ 64 ∧ (l.getD k z112).f1.size ≤ 128 := by
  unfold rightL at h
  simp only [Bool.and_eq_true, decide_eq_true_eq] at h
  exact ⟨h.2.2, h.2.1, fun k hk => ⟨nameI_size (labsB_get none l h.1 k hk).1, valI_size (labsB_get none l h.1 k hk).2⟩⟩
theorem labs7_len {l : List S112} (h : rightL l = true) (k : Nat) (hk : k ≤ l.length) : (labs7 l k).length ≤ 1 + k * 198 ∧ 1 ≤ (labs7 l k).length := by
  obtain ⟨h1, h2, h3⟩ := rightL_get h
  induction k with
  | zero =>
    have := num7_len l.length 0 (by simp; omega)
    simp [labs7]; omega
  | succ k ih =>
    have := h3 k (by omega)
    have ih := ih (by omega)
    have ha := text7_len (l.getD k z112).f0 (by omega)
    have hb := text7_len (l.getD k z112).f1 (by omega)
    rw [labs7_succ l k (by omega)]
    simp only [List.flatten_cons, List.flatten_nil, List.length_append, List.length_nil]
    omega
def LabRel (l : List S112) (w : World) (v4 v23 : Value) (wr : World) : Prop :=
  ∃ k : Nat, OwnB wr w.heap.size v4 (labs7 l k) ∧ v23 = .int .i64 (k : Int) ∧ k ≤ l.length ∧ Below w.heap.size w wr

set_option maxHeartbeats 4000000 in
theorem bytesL_any (A : Option Addr) (c : Nat) (l : List S112) (w : World) (hT : Tabs w) (hr : Kd.C k112 w A l.length l) (hR : rightL l = true) : Calls Tryd.prog 82 #[.slice A l.length c] w (TupBelow (bytesL l) 0 w) := by
  have hg := rightL_get hR
  have HRL := Lib.hid (right_any A c l w hT hr)
  rw [hR] at HRL
  have HNU : Hid (∀ W, Calls Tryd.prog 78 #[.int .i64 (l.length : Int)] W (TupBelow (num7 l.length) 0 W)) := Lib.hid (fun W => number_any l.length W (by omega))
  have HG := Lib.hid hg
  have HLL := Lib.hid (fun k hk => labs7_len hR k hk)
  have HR := Lib.hid hr
  have h16 := hg.1
  clear hr hT hR hg
  go_enter Tryd.func82, Tryd.ntmps82
  go_wp2_with (first | (go_at_call 95; refine (HRL.out).mono ?_; rintro e w2 ⟨rfl, hb⟩; have HB := Lib.hid hb; clear hb) | (go_at_call 78; refine (HNU.out _).mono ?_; rintro e w3 ⟨v, rfl, ho, hb⟩; have HO := Lib.hid (Kd.R_lower ho (below_size HB.out)); have HB3 := Lib.hid (below_step HB.out hb); clear ho hb))
  go_loopw [4, 23] (fun v4 v23 wr => LabRel l w v4 v23 wr) (fun _ v23 _ => l.length - (intOf v23).toNat)
  case atStart => exact ⟨0, by have h := HO.out; simpa [labs7] using h, rfl, Nat.zero_le _, HB3.out⟩
  case round =>
    obtain ⟨k, ho, rfl, hk, hb⟩ := hrel
    have HOK := Lib.hid ho
    have HBK := Lib.hid hb
    clear ho
    by_cases hlt : k < l.length
    · have hki : (k : Int) < (l.length : Int) := by omega
      obtain ⟨b, o, rfl, hx⟩ := labs_at HR.out (by omega)
      have hx0 := pw_cell_below hb (hx k hlt).1
      have hx1 := pw_cell_below hb (hx k hlt).2
      have HS := Lib.hid (labs7_succ l k hlt)
      have hsz := HG.out.2.2 k hlt
      have hll := HLL.out (k + 1) (by omega)
      rw [HS.out] at hll
      have HCL : Hid ([labs7 l k, text7 (l.getD k z112).f0, text7 (l.getD k z112).f1].flatten.length ≤ 1099511627776) := Lib.hid (by omega)
      have HT0 : Hid (∀ W, Calls Tryd.prog 80 #[.string (l.getD k z112).f0] W (TupBelow (text7 (l.getD k z112).f0) 0 W)) := Lib.hid (fun W => text_any _ W (by omega))
      have HT1 : Hid (∀ W, Calls Tryd.prog 80 #[.string (l.getD k z112).f1] W (TupBelow (text7 (l.getD k z112).f1) 0 W)) := Lib.hid (fun W => text_any _ W (by omega))
      clear hx hsz hll hb
      generalize l.getD k z112 = x at *
      go_wp2_with fail
      obtain ⟨W, hW⟩ : ∃ W, W = wr.alloc (.cells #[.string x.f0, .string x.f1] 112) := ⟨_, rfl⟩
      rw [← hW]
      have c0 : W.cell? ⟨wr.heap.size, 0, none⟩ = some (.string x.f0) := by rw [hW]; exact two_at wr _ _ 112 0 _ rfl
      have c1 : W.cell? ⟨wr.heap.size, 1, none⟩ = some (.string x.f1) := by rw [hW]; exact two_at wr _ _ 112 1 _ rfl
      have HBW : Hid (Below w.heap.size w W) := Lib.hid (by rw [hW]; exact below_alloc HBK.out _)
      have HL4 : Hid (Lies W u4 (labs7 l k)) := Lib.hid (by rw [hW]; exact (OwnB.lies HOK.out).below (below_alloc (Below.refl _ _) _))
      obtain ⟨gb, hgb⟩ : ∃ g, g = wr.heap.size := ⟨_, rfl⟩
      obtain ⟨A4, q4, h4⟩ := Kd.R_slice HOK.out
      subst h4
      rw [← hgb] at c0 c1 ⊢
      clear hx0 hx1 hW hgb HOK HBK
      go_wp2_with (first | (go_at_call 80; (with_reducible refine (HT0.out _).mono ?_); rintro e w4 ⟨v4, rfl, ho4, hb4⟩; obtain ⟨A8, q8, rfl⟩ := Kd.R_slice ho4; have HL4a := Lib.hid (HL4.out.below hb4); have HL5 := Lib.hid (OwnB.lies ho4); have HB4 := Lib.hid (below_step HBW.out hb4); have c1 := pw_cell_below hb4 c1; clear ho4 hb4 c0) | (go_at_call 80; (with_reducible refine (HT1.out _).mono ?_); rintro e w5 ⟨v5, rfl, ho5, hb5⟩; obtain ⟨A9, q9, rfl⟩ := Kd.R_slice ho5; have HL4b := Lib.hid (HL4a.out.below hb5); have HL5b := Lib.hid (HL5.out.below hb5); have HL6 := Lib.hid (OwnB.lies ho5); have HB5 := Lib.hid (below_step HB4.out hb5); clear ho5 hb5) | (go_at_call 83; refine (concat_any _ _ [_, _, _] _ (rows3 23 HL4b.out HL5b.out HL6.out) HCL.out).mono ?_; rintro e w6 ⟨v6, rfl, ho6, hb6⟩; have HO6 := Lib.hid (Kd.R_lower ho6 (below_size (below_alloc HB5.out _))); have HB6 := Lib.hid (below_step (below_alloc HB5.out _) hb6); clear ho6 hb6))
      go_roundw
      case rel => exact ⟨k + 1, by rw [HS.out]; exact HO6.out, by go_num, by omega, HB6.out⟩
      case measure => simp [intOf]; omega
    · have HE := Lib.hid (labs7_all l k hlt)
      have hki : ¬ (k : Int) < (l.length : Int) := by omega
      go_wp2
      go_ret2
      exact ⟨_, rfl, by rw [← HE.out]; exact HOK.out, HBK.out⟩
end Go.Proofs.YtojocffjajcdmaaDoor
