import Derived.Test.YtojocffjajcdmaaDoorR6
namespace Go.Proofs.YtojocffjajcdmaaDoor
open Go.RowKit Go.Proofs.YtojocffjajcdmaaDoorW.PrintWords Go.Proofs.YtojocffjajcdmaaDoorW.PrintLast Go.Proofs.YtojocffjajcdmaaDoorW.PrintMore PChunkAll
set_option linter.unusedVariables false
set_option linter.unusedSimpArgs false

theorem strOfNums_size (xs : List Int) : (strOfNums xs).size = xs.length := by
  unfold strOfNums
  show (List.toArray _).size = _
  simp
def bytesE (x : S33) : List Int := [num7 x.f0.toNat, num7 x.f1.toNat, text7 (strOfNums (bytesL x.f2)), text7 x.f3].flatten
def putE (x : S33) : List Int × Int := if rightE x = true then (bytesE x, 0) else ([], 1)
theorem rightE_get {x : S33} (h : rightE x = true) : 1 ≤ x.f0 ∧ x.f0 < 1099511627776 ∧ 0 ≤ x.f1 ∧ x.f1 < 1099511627776 ∧ rightL x.f2 = true ∧ x.f3.size ≤ 1024 := by
  unfold rightE at h
  simp only [Bool.and_eq_true, decide_eq_true_eq] at h
  exact ⟨h.1.1, h.1.2.1, h.1.2.2.1, h.1.2.2.2, h.2.1, h.2.2⟩
theorem bytesL_len {l : List S112} (h : rightL l = true) : (bytesL l).length ≤ 3169 ∧ 1 ≤ (bytesL l).length := by
  have h1 := labs7_len h l.length (Nat.le_refl _)
  rw [labs7_all l l.length (by omega)] at h1
  have h2 := rightL_get h
  omega
theorem num7_len6 {n : Int} (h0 : 0 ≤ n) (h : n < 1099511627776) : 1 ≤ (num7 n.toNat).length ∧ (num7 n.toNat).length ≤ 6 := num7_len n.toNat 5 (by omega)
theorem bytesE_len {x : S33} (h : rightE x = true) : x.f3.size + 5 ≤ (bytesE x).length ∧ (bytesE x).length ≤ 4300 := by
  obtain ⟨h1, h2, h3, h4, h5, h6⟩ := rightE_get h
  have ha := num7_len6 (n := x.f0) (by omega) h2
  have hb := num7_len6 h3 h4
  have hc := bytesL_len h5
  have hd := text7_len (strOfNums (bytesL x.f2)) (by rw [strOfNums_size]; omega)
  rw [strOfNums_size] at hd
  have he := text7_len x.f3 (by omega)
  unfold bytesE
  simp only [List.flatten_cons, List.flatten_nil, List.length_append, List.length_nil]
  omega
def PutRes (r : List Int × Int) (w : World) (e : Ending) (w' : World) : Prop := TupBelow r.1 r.2 w e w'

set_option maxHeartbeats 4000000 in
theorem putE_any (x : S33) (A : Option Addr) (c : Nat) (w : World) (hT : Tabs w) (hr : Kd.C k112 w A x.f2.length x.f2) : Calls Tryd.prog 24 #[entA x A c] w (PutRes (putE x) w) := by
  have hb0 : Below w.heap.size w (w.alloc (.cells (entC x A c) 33)) := below_alloc (Below.refl _ _) _
  have HRE := Lib.hid (rightE_any x A c _ (hT.below hb0) (Kd.C_alloc hr (.cells (entC x A c) 33)))
  have HT := Lib.hid hT
  have HR := Lib.hid hr
  have HPE : Hid (putE x = if rightE x = true then (bytesE x, 0) else ([], 1)) := Lib.hid rfl
  clear hT hr
  have HGET := Lib.hid (@rightE_get x)
  cases hx : rightE x with
  | true =>
    have HPR : Hid (putE x = (bytesE x, 0)) := Lib.hid (by rw [HPE.out, hx]; rfl)
    have HLE := Lib.hid (bytesE_len hx)
    rw [hx] at HRE
    obtain ⟨h1, h2, h3, h4, h5, h6⟩ := rightE_get hx
    have hs : (strOfNums (bytesL x.f2)).size ≤ 65536 := by have := bytesL_len h5; rw [strOfNums_size]; omega
    have hcl : [num7 x.f0.toNat, num7 x.f1.toNat, text7 (strOfNums (bytesL x.f2)), text7 x.f3].flatten.length ≤ 1099511627776 := by
      have := HLE.out.2
      unfold bytesE at this
      omega
    have HN0 : Hid (∀ W, Calls Tryd.prog 78 #[.int .i64 x.f0] W (TupBelow (num7 x.f0.toNat) 0 W)) := Lib.hid (fun W => by have := number_any x.f0.toNat W (by omega); rwa [Int.toNat_of_nonneg (by omega)] at this)
    have HN1 : Hid (∀ W, Calls Tryd.prog 78 #[.int .i64 x.f1] W (TupBelow (num7 x.f1.toNat) 0 W)) := Lib.hid (fun W => by have := number_any x.f1.toNat W (by omega); rwa [Int.toNat_of_nonneg (by omega)] at this)
    have HLB : Hid (∀ W, Below w.heap.size w W → Calls Tryd.prog 82 #[.slice A x.f2.length c] W (TupBelow (bytesL x.f2) 0 W)) := Lib.hid (fun W hb => bytesL_any A c x.f2 W (HT.out.below hb) (Kd.C_below HR.out hb) h5)
    have HT2 : Hid (∀ W, Calls Tryd.prog 80 #[.string (strOfNums (bytesL x.f2))] W (TupBelow (text7 (strOfNums (bytesL x.f2))) 0 W)) := Lib.hid (fun W => text_any _ W hs)
    have HT3 : Hid (∀ W, Calls Tryd.prog 80 #[.string x.f3] W (TupBelow (text7 x.f3) 0 W)) := Lib.hid (fun W => text_any _ W (by omega))
    have HCL := Lib.hid hcl
    have HBE : Hid (bytesE x = [num7 x.f0.toNat, num7 x.f1.toNat, text7 (strOfNums (bytesL x.f2)), text7 x.f3].flatten) := Lib.hid rfl
    rw [HPR.out, HBE.out]
    have k0 : (w.alloc (.cells (entC x A c) 33)).cell? ⟨w.heap.size, 0, none⟩ = some (.int .i64 x.f0) := by rw [blk_cell (heap_alloc_new w _)]; rfl
    have k1 : (w.alloc (.cells (entC x A c) 33)).cell? ⟨w.heap.size, 1, none⟩ = some (.int .i64 x.f1) := by rw [blk_cell (heap_alloc_new w _)]; rfl
    have k2 : (w.alloc (.cells (entC x A c) 33)).cell? ⟨w.heap.size, 2, none⟩ = some (.slice A x.f2.length c) := by rw [blk_cell (heap_alloc_new w _)]; rfl
    have k3 : (w.alloc (.cells (entC x A c) 33)).cell? ⟨w.heap.size, 3, none⟩ = some (.string x.f3) := by rw [blk_cell (heap_alloc_new w _)]; rfl
    have HB0 := Lib.hid hb0
    clear hx h1 h2 h3 h4 h5 h6 hs hcl hb0 HPE HPR HGET HLE HBE
    go_enter Tryd.func24, Tryd.ntmps24
    go_wp2_with (first | (go_at_call 29; (with_reducible refine (HRE.out).mono ?_); rintro e w2 ⟨rfl, hb⟩; have HB2 := Lib.hid (below_then HB0.out HB0.out.size hb); have m1 := pw_cell_below hb k1; have m0 := pw_cell_below hb k0; have m2 := pw_cell_below hb k2; have m3 := pw_cell_below hb k3; clear hb k0 k1 k2 k3) | (go_at_call 78; (with_reducible refine (HN0.out _).mono ?_); rintro e w3 ⟨v, rfl, ho, hb⟩; obtain ⟨Aa, qa, rfl⟩ := Kd.R_slice ho; have LA3 := Lib.hid (OwnB.lies ho); have HB3 := Lib.hid (below_step HB2.out hb); have n1 := pw_cell_below hb m1; have n2 := pw_cell_below hb m2; have n3 := pw_cell_below hb m3; clear ho hb m0 m1 m2 m3) | (go_at_call 78; (with_reducible refine (HN1.out _).mono ?_); rintro e w4 ⟨v, rfl, ho, hb⟩; obtain ⟨Ab, qb, rfl⟩ := Kd.R_slice ho; have LA4 := Lib.hid (LA3.out.below hb); have LB4 := Lib.hid (OwnB.lies ho); have HB4 := Lib.hid (below_step HB3.out hb); have o2 := pw_cell_below hb n2; have o3 := pw_cell_below hb n3; clear ho hb n1 n2 n3) | (go_at_call 82; (with_reducible refine (HLB.out _ HB4.out).mono ?_); rintro e w5 ⟨v, rfl, ho, hb⟩; obtain ⟨Ac, qc, rfl⟩ := Kd.R_slice ho; have LA5 := Lib.hid (LA4.out.below hb); have LB5 := Lib.hid (LB4.out.below hb); have hcv := Kd.C_string (P := Tryd.prog) (A := Ac) (c := qc) Tryd.underlying23 Tryd.underlying5 Tryd.underlying9 (Kd.R_reads' ho).2.2; have HB5 := Lib.hid (below_step HB4.out hb); have p3 := pw_cell_below hb o3; clear ho hb o2 o3) | (go_at_call 80; (with_reducible refine (HT2.out _).mono ?_); rintro e w6 ⟨v, rfl, ho, hb⟩; obtain ⟨Ad, qd, rfl⟩ := Kd.R_slice ho; have LA6 := Lib.hid (LA5.out.below hb); have LB6 := Lib.hid (LB5.out.below hb); have LD6 := Lib.hid (OwnB.lies ho); have HB6 := Lib.hid (below_step HB5.out hb); have q3 := pw_cell_below hb p3; clear ho hb p3 hcv) | (go_at_call 80; (with_reducible refine (HT3.out _).mono ?_); rintro e w7 ⟨v, rfl, ho, hb⟩; obtain ⟨Ae, qe, rfl⟩ := Kd.R_slice ho; have LA7 := Lib.hid (LA6.out.below hb); have LB7 := Lib.hid (LB6.out.below hb); have LD7 := Lib.hid (LD6.out.below hb); have LE7 := Lib.hid (OwnB.lies ho); have HB7 := Lib.hid (below_step HB6.out hb); clear ho hb q3) | (go_at_call 83; refine (concat_any _ _ [_, _, _, _] _ (rows4 23 LA7.out LB7.out LD7.out LE7.out) HCL.out).mono ?_; rintro e w8 ⟨v, rfl, ho, hb⟩; have HO := Lib.hid (Kd.R_lower ho (below_size (below_alloc HB7.out _))); have HB8 := Lib.hid (below_step (below_alloc HB7.out _) hb); clear ho hb))
    go_ret2
    exact ⟨_, rfl, HO.out, HB8.out⟩
  | false =>
    have HPR : Hid (putE x = ([], 1)) := Lib.hid (by rw [HPE.out, hx]; rfl)
    rw [HPR.out]
    rw [hx] at HRE
    clear hx HPE
    go_enter Tryd.func24, Tryd.ntmps24
    go_wp2_with (first | (go_at_call 29; (with_reducible refine (HRE.out).mono ?_); rintro e w2 ⟨rfl, hb⟩))
    go_ret2
    exact ⟨_, rfl, Kd.R_nil _ _ _ _ _, below_then hb0 hb0.size hb⟩
end Go.Proofs.YtojocffjajcdmaaDoor
