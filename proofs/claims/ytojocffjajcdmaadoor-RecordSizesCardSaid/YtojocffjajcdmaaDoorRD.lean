import Derived.Test.YtojocffjajcdmaaDoorRC
namespace Go.Proofs.YtojocffjajcdmaaDoor
open Go.RowKit Go.Proofs.YtojocffjajcdmaaDoorW.PrintWords Go.Proofs.YtojocffjajcdmaaDoorW.PrintLast Go.Proofs.YtojocffjajcdmaaDoorW.PrintMore PChunkAll
set_option linter.unusedVariables false
set_option linter.unusedSimpArgs false

/-- What may lie in memory: numbers are i64, no more labels than memory holds. -/
def EntsOk (l : List S33) : Prop := l.length ≤ 2513169434916 ∧ SeqOk l ∧ ∀ k, k < l.length → (l.getD k z33).f2.length < 4398046511104
theorem own02_f (l : List S112) (h : l.length < 4398046511104) : icehouselaw02_Own.f l = some l := by
  unfold icehouselaw02_Own.f
  simp only [Option.bind_some, List.length_nil, Nat.zero_add, List.nil_append]
  rw [if_pos h]
theorem own03_f (x : S33) (h : x.f2.length < 4398046511104) : icehouselaw03_Own.f x.f0 x.f1 x.f2 x.f3 = some (x.f0, x.f1, x.f2, x.f3) := by
  unfold icehouselaw03_Own.f
  rw [own02_f _ h]
  rfl
theorem all03_l0 (l : List S33) (h : EntsOk l) (n k : Nat) (hk : k + n = l.length) : icehouselaw03_All.l0 (n + 1) l (l.take k) (k : Int) = some l := by
  induction n generalizing k with
  | zero =>
    rw [icehouselaw03_All.l0, if_neg (by omega), List.take_of_length_le (by omega)]
  | succ n ih =>
    rw [icehouselaw03_All.l0, if_pos (by omega), if_pos (by omega)]
    have e : rd_T33 l (k : Int) = l.getD k z33 := by unfold rd_T33; rw [Int.toNat_natCast]
    rw [e, own03_f _ (h.2.2 k (by omega))]
    simp only [Option.bind_some]
    have hw : wrap64 ((k : Int) + 1) = ((k + 1 : Nat) : Int) := by
      have := h.1
      unfold wrap64
      omega
    rw [if_pos (by rw [List.length_take]; have := h.1; omega), hw]
    have ht : List.take k l ++ [(⟨(l.getD k z33).f0, (l.getD k z33).f1, (l.getD k z33).f2, (l.getD k z33).f3⟩ : S33)] = List.take (k + 1) l := by
      rw [List.take_succ_eq_append_getElem (by omega)]
      have e3 : l.getD k z33 = l[k] := by simp [show k < l.length by omega]
      rw [e3]
    rw [ht]
    exact ih (k + 1) (by omega)
theorem all_any (A : Option Addr) (c : Nat) (l : List S33) (w : World) (hr : Kd.C k33 w A l.length l) (hc : l.length ≤ c) (h : EntsOk l) :
    Calls Tryd.prog 19 #[.slice A l.length c] w fun e w' => ∃ A' c', e = .returned (.slice A' l.length c') ∧ l.length ≤ c' ∧ Kd.C k33 w' A' l.length l ∧ Below w.heap.size w w' := by
  refine (icehouselaw03_All.calls (l.length + 1) A c l l w hr hc (all03_l0 l h l.length 0 (by omega))).mono ?_
  rintro e w' ⟨v, rfl, hs, hb⟩
  obtain ⟨A', c', rfl⟩ := Kd.S_slice hs
  exact ⟨A', c', rfl, (Kd.S_reads' hs).2.1, (Kd.S_reads' hs).2.2, hb⟩
theorem own_any (x : S33) (A : Option Addr) (c : Nat) (w : World) (hr : Kd.C k112 w A x.f2.length x.f2) (hc : x.f2.length ≤ c) (h : x.f2.length < 4398046511104) :
    Calls Tryd.prog 23 #[entA x A c] w fun e w' => ∃ A' c', e = .returned (entA x A' c') ∧ x.f2.length ≤ c' ∧ Kd.C k112 w' A' x.f2.length x.f2 ∧ Below w.heap.size w w' := by
  refine (icehouselaw03_Own.calls x.f0 x.f1 A c x.f2 x.f3 x.f0 x.f1 x.f2 x.f3 w hr hc (own03_f x h)).mono ?_
  rintro e w' ⟨v, rfl, hs, hb⟩
  obtain ⟨A', c', rfl⟩ := Kd.R_slice hs
  exact ⟨A', c', rfl, (Kd.R_reads' hs).2.1, (Kd.R_reads' hs).2.2, hb⟩

/-! ### Sizes -/
def sumE (l : List S33) (k : Nat) : Nat := ((l.take k).map (fun x => (bytesE x).length)).sum
theorem sumE_succ (l : List S33) (k : Nat) (h : k < l.length) : sumE l (k + 1) = sumE l k + (bytesE (l.getD k z33)).length := by
  unfold sumE
  rw [List.take_succ_eq_append_getElem h, List.map_append, List.sum_append]
  simp [h]
theorem ents7_sum {l : List S33} (h : batchB l = true) (k : Nat) (hk : k ≤ l.length) : sumE l k + 1 ≤ (ents7 l k).length ∧ (ents7 l k).length ≤ sumE l k + 3 * k + 1 ∧ sumE l k ≤ 4400 * k := by
  obtain ⟨h1, h2, h3⟩ := batchB_get h
  induction k with
  | zero =>
    have := num7_len l.length 0 (by simp; omega)
    simp [ents7, sumE]; omega
  | succ k ih =>
    have ih := ih (by omega)
    have ha := ent7_len (h3 k (by omega))
    have hb := bytesE_len (h3 k (by omega))
    rw [ents7_succ l k (by omega), List.length_append, sumE_succ l k (by omega)]
    unfold ent7 at ha
    omega
def RSRel (l : List S33) (w : World) (v5 v6 : Value) (wr : World) : Prop :=
  ∃ k : Nat, v5 = .int .i64 (sumE l k : Int) ∧ v6 = .int .i64 (k : Int) ∧ k ≤ l.length ∧ Below w.heap.size w wr

set_option maxHeartbeats 4000000 in
theorem sizes_any (A : Option Addr) (c : Nat) (l : List S33) (w : World) (hT : Tabs w) (hr : Kd.C k33 w A l.length l) (hc : l.length ≤ c) (hE : EntsOk l) : Calls Tryd.prog 3 #[.slice A l.length c] w (BoolBelow true w) := by
  have hmax := Kd.C_max hr
  have HAL := Lib.hid (all_any A c l w hr hc hE)
  have HPB : Hid (∀ A' c' W, Below w.heap.size w W → Kd.C k33 W A' l.length l → Calls Tryd.prog 18 #[.slice A' l.length c'] W (PutRes (putB l) W)) := Lib.hid (fun A' c' W hb hC => putB_any A' c' l W (hT.below hb) hC hE.2.1)
  have HKN : Hid (∀ W, Below w.heap.size w W → Calls Tryd.prog 21 #[] W (BoolBelow true W)) := Lib.hid (fun W hb => knows_any W (hT.below hb))
  have HR := Lib.hid hr
  have HT := Lib.hid hT
  have HE := Lib.hid hE
  have HPE : Hid (putB l = if batchB l = true then (bytesB l, 0) else ([], 1)) := Lib.hid rfl
  clear hT hr hE
  cases hx : batchB l with
  | false =>
    have HPR : Hid (putB l = ([], 1)) := Lib.hid (by rw [HPE.out, hx]; rfl)
    rw [HPR.out] at HPB
    clear hx HPE HPR
    go_enter Tryd.func3, Tryd.ntmps3
    go_wp2_with (first | (go_at_call 19; (with_reducible refine (HAL.out).mono ?_); rintro e w2 ⟨A', c', rfl, hc2, hC2, hb⟩; have HB2 := Lib.hid hb; have HC2 := Lib.hid hC2; clear hb hC2) | (go_at_call 18; (with_reducible refine (HPB.out _ _ _ HB2.out HC2.out).mono ?_); rintro e w3 ⟨v, rfl, ho, hb⟩; obtain ⟨A3, q3, rfl⟩ := Kd.R_slice ho; have HB3 := Lib.hid (below_step HB2.out hb); clear ho hb) | (go_at_call 20; (with_reducible refine (num_any _ _).mono ?_); rintro e w3 ⟨rfl, rfl⟩) | (go_at_call 21; (with_reducible refine (HKN.out _ HB3.out).mono ?_); rintro e w4 ⟨rfl, hb⟩; have HB4 := Lib.hid (below_step HB3.out hb); clear hb))
    go_ret
    exact ⟨rfl, HB4.out⟩
  | true =>
    have HPR : Hid (putB l = (bytesB l, 0)) := Lib.hid (by rw [HPE.out, hx]; rfl)
    rw [HPR.out] at HPB
    have HG := Lib.hid (batchB_get hx)
    have HSUM := Lib.hid (fun k hk => ents7_sum hx k hk)
    have h16 := HG.out.1
    clear hx HPE HPR
    have HEND : Hid (sumE l l.length < (bytesB l).length ∧ (bytesB l).length ≤ sumE l l.length + 3 * l.length + 1 ∧ sumE l l.length ≤ 100000) := Lib.hid (by
      have := HSUM.out l.length (Nat.le_refl _)
      rw [ents7_all l l.length (by omega)] at this
      omega)
    go_enter Tryd.func3, Tryd.ntmps3
    go_wp2_with (first | (go_at_call 19; (with_reducible refine (HAL.out).mono ?_); rintro e w2 ⟨A', c', rfl, hc2, hC2, hb⟩; have HB2 := Lib.hid hb; have HC2 := Lib.hid hC2; clear hb hC2) | (go_at_call 18; (with_reducible refine (HPB.out _ _ _ HB2.out HC2.out).mono ?_); rintro e w3 ⟨v, rfl, ho, hb⟩; obtain ⟨A3, q3, rfl⟩ := Kd.R_slice ho; have HB3 := Lib.hid (below_step HB2.out hb); clear ho hb) | (go_at_call 20; (with_reducible refine (num_any _ _).mono ?_); rintro e w3 ⟨rfl, rfl⟩))
    go_loopw [5, 6] (fun v5 v6 wr => RSRel l w v5 v6 wr) (fun _ v6 _ => l.length - (intOf v6).toNat)
    case atStart => exact ⟨0, rfl, rfl, Nat.zero_le _, HB3.out⟩
    case round =>
      obtain ⟨k, rfl, rfl, hk, hb⟩ := hrel
      have HBK := Lib.hid hb
      by_cases hlt : k < l.length
      · have hki : (k : Int) < (l.length : Int) := by omega
        obtain ⟨b, o, rfl, hx⟩ := ents_at HR.out (by omega)
        have HXA := Lib.hid ((hx k hlt).below hb)
        have HCA := Lib.hid (HE.out.2.2 k hlt)
        have HXR := HG.out.2.2 k hlt
        have HSS := Lib.hid (sumE_succ l k hlt)
        have hsm := (HSUM.out k hk).2.2
        have hle := bytesE_len HXR
        have HPX : Hid (putE (l.getD k z33) = (bytesE (l.getD k z33), 0)) := Lib.hid (by unfold putE; rw [HXR]; rfl)
        clear hx hb HXR
        generalize l.getD k z33 = x at *
        generalize sumE l k = S at *
        obtain ⟨Ax, cx, hx0, hx1, hx2, hx3, hx4, hx5⟩ := HXA.out
        have HX5 := Lib.hid hx5
        have HX4 := Lib.hid hx4
        have HOW := Lib.hid (fun W (hW : Below wr.heap.size wr W) => own_any x Ax cx W (Kd.C_below HX5.out hW) HX4.out HCA.out)
        have HSZ : Hid (∀ A' c' W, Below w.heap.size w W → Kd.C k112 W A' x.f2.length x.f2 → Calls Tryd.prog 22 #[entA x A' c'] W (NumBelow ((bytesE x).length : Int) W)) := Lib.hid (fun A' c' W hb hC => by have := size_any x A' c' W (HT.out.below hb) hC; rwa [HPX.out] at this)
        have HPT : Hid (∀ A' c' W, Below w.heap.size w W → Kd.C k112 W A' x.f2.length x.f2 → Calls Tryd.prog 24 #[entA x A' c'] W (TupBelow (bytesE x) 0 W)) := Lib.hid (fun A' c' W hb hC => by have := putE_any x A' c' W (HT.out.below hb) hC; unfold PutRes at this; rwa [HPX.out] at this)
        generalize bytesE x = Bx at *
        have hS : S ≤ 70400 := by omega
        obtain ⟨hle1, hle2⟩ := hle
        have hle3 : (x.f3.size : Int) + 5 ≤ (Bx.length : Int) := by omega
        clear hx4 hx5 hsm
        go_wp2_with fail
        go_wp2_with (first | (go_at_call 23; refine (HOW.out _ (Below.refl _ _)).mono ?_; rintro e w4 ⟨A4, c4, rfl, hc4, hC4, hb4⟩; have HB4 := Lib.hid (below_step HBK.out hb4); have HB4r := Lib.hid hb4; have HC4 := Lib.hid hC4; clear hb4 hC4) | (go_at_call 22; (with_reducible refine (HSZ.out _ _ _ HB4.out HC4.out).mono ?_); rintro e w5 ⟨rfl, hb5⟩; have HB5 := Lib.hid (below_step HB4.out hb5); have HB5r := Lib.hid (below_step HB4r.out hb5); have y0 := pw_cell_below HB5r.out hx0; have y1 := pw_cell_below HB5r.out hx1; have y2 := pw_cell_below HB5r.out hx2; have y3 := pw_cell_below HB5r.out hx3; clear hb5))
        go_wp2_with (first | (go_at_call 23; refine (HOW.out _ HB5r.out).mono ?_; rintro e w6 ⟨A6, c6, rfl, hc6, hC6, hb6⟩; have HB6 := Lib.hid (below_step HB5.out hb6); have HB6r := Lib.hid (below_step HB5r.out hb6); have HC6 := Lib.hid hC6; clear hb6 hC6) | (go_at_call 24; (with_reducible refine (HPT.out _ _ _ HB6.out HC6.out).mono ?_); rintro e w7 ⟨v7, rfl, ho7, hb7⟩; obtain ⟨A7, q7, rfl⟩ := Kd.R_slice ho7; have HB7 := Lib.hid (below_step HB6.out hb7); have HB7r := Lib.hid (below_step HB6r.out hb7); have z3 := pw_cell_below HB7r.out hx3; clear hb7 ho7) | (go_at_call 20; (with_reducible refine (num_any _ _).mono ?_); rintro e w3 ⟨rfl, rfl⟩))
        go_roundw
        case rel => exact ⟨k + 1, by rw [HSS.out]; go_num, by go_num, by omega, HB7.out⟩
        case measure => simp [intOf]; omega
      · have hki : ¬ (k : Int) < (l.length : Int) := by omega
        have hkE : k = l.length := by omega
        subst hkE
        obtain ⟨e1, e2, e3⟩ := HEND.out
        generalize sumE l l.length = S at *
        generalize (bytesB l).length = N at *
        have hd1 : decide ((S : Int) < (N : Int)) = true := decide_eq_true (by omega)
        have hw1 : IntKind.i64.wrap (3 * (l.length : Int)) = 3 * (l.length : Int) := by rw [IntWalk.i64_in _ ⟨by omega, by omega⟩]
        have hw2 : IntKind.i64.wrap ((S : Int) + 3 * (l.length : Int)) = (S : Int) + 3 * (l.length : Int) := by rw [IntWalk.i64_in _ ⟨by omega, by omega⟩]
        have hw3 : IntKind.i64.wrap ((S : Int) + 3 * (l.length : Int) + 1) = (S : Int) + 3 * (l.length : Int) + 1 := by rw [IntWalk.i64_in _ ⟨by omega, by omega⟩]
        have hd2 : decide ((N : Int) ≤ (S : Int) + 3 * (l.length : Int) + 1) = true := decide_eq_true (by omega)
        have hd3 : decide (S < N) = true := decide_eq_true (by omega)
        have hd4 : (N : Int) ≤ (S : Int) + 3 * (l.length : Int) + 1 := by omega
        clear hlt
        go_wp2_with (first | (go_at_call 21; (with_reducible refine (HKN.out _ HBK.out).mono ?_); rintro e w4 ⟨rfl, hb⟩; have HB4 := Lib.hid (below_step HBK.out hb); clear hb))
        go_ret
        exact ⟨rfl, HB4.out⟩
end Go.Proofs.YtojocffjajcdmaaDoor
