import Derived.Test.YtojocffjajcdmaaDoorR9
namespace Go.Proofs.YtojocffjajcdmaaDoor
open Go.RowKit Go.Proofs.YtojocffjajcdmaaDoorW.PrintWords Go.Proofs.YtojocffjajcdmaaDoorW.PrintLast Go.Proofs.YtojocffjajcdmaaDoorW.PrintMore PChunkAll
set_option linter.unusedVariables false
set_option linter.unusedSimpArgs false

def ent7 (x : S33) : List Int := text7 (strOfNums (bytesE x))
def ents7 (l : List S33) (k : Nat) : List Int := num7 l.length ++ (l.take k).flatMap ent7
def bytesB (l : List S33) : List Int := num7 l.length ++ l.flatMap ent7
def putB (l : List S33) : List Int × Int := if batchB l = true then (bytesB l, 0) else ([], 1)
def SeqOk (l : List S33) : Prop := ∀ k, k < l.length → -9223372036854775808 ≤ (l.getD k z33).f0 ∧ (l.getD k z33).f0 ≤ 9223372036854775807
theorem ents7_succ (l : List S33) (k : Nat) (h : k < l.length) : ents7 l (k + 1) = ents7 l k ++ text7 (strOfNums (bytesE (l.getD k z33))) := by
  unfold ents7
  rw [List.take_succ_eq_append_getElem h, List.flatMap_append]
  simp [ent7, h]
theorem ents7_all (l : List S33) (k : Nat) (h : ¬ k < l.length) : ents7 l k = bytesB l := by unfold ents7 bytesB; rw [List.take_of_length_le (by omega)]
theorem entsB_get (p : Option Int) (l : List S33) (h : entsB p l = true) (k : Nat) (hk : k < l.length) : rightE (l.getD k z33) = true := by
  induction l generalizing p k with
  | nil => simp at hk
  | cons x l ih =>
    rw [entsB, entB] at h
    simp only [Bool.and_eq_true] at h
    cases k with
    | zero => exact h.1.1
    | succ k => exact ih _ h.2 k (by simp at hk; omega)
theorem batchB_get {l : List S33} (h : batchB l = true) : l.length ≤ 16 ∧ 1 ≤ l.length ∧ ∀ k, k < l.length → rightE (l.getD k z33) = true := by
  unfold batchB at h
  simp only [Bool.and_eq_true, decide_eq_true_eq] at h
  exact ⟨h.2.2, h.2.1, fun k hk => entsB_get none l h.1 k hk⟩
theorem ent7_len {x : S33} (h : rightE x = true) : (bytesE x).length + 1 ≤ (ent7 x).length ∧ (ent7 x).length ≤ (bytesE x).length + 3 := by
  have h1 := bytesE_len h
  have h2 := text7_len (strOfNums (bytesE x)) (by rw [strOfNums_size]; omega)
  rw [strOfNums_size] at h2
  exact h2
theorem ents7_len {l : List S33} (h : batchB l = true) (k : Nat) (hk : k ≤ l.length) : (ents7 l k).length ≤ 1 + k * 4400 := by
  obtain ⟨h1, h2, h3⟩ := batchB_get h
  induction k with
  | zero =>
    have := num7_len l.length 0 (by simp; omega)
    simp [ents7]; omega
  | succ k ih =>
    have ih := ih (by omega)
    have ha := ent7_len (h3 k (by omega))
    have hb := bytesE_len (h3 k (by omega))
    rw [ents7_succ l k (by omega), List.length_append]
    unfold ent7 at ha
    omega
def PBRel (l : List S33) (w : World) (g : Nat) (v21 : Value) (wr : World) : Prop :=
  ∃ k : Nat, v21 = .int .i64 (k : Int) ∧ k ≤ l.length ∧ Below w.heap.size w wr ∧ ∃ v, wr.heap[g]? = some (.cells #[v] 23 (0, 0)) ∧ OwnB wr w.heap.size v (ents7 l k)

set_option maxHeartbeats 4000000 in
theorem putB_any (A : Option Addr) (c : Nat) (l : List S33) (w : World) (hT : Tabs w) (hr : Kd.C k33 w A l.length l) (hseq : SeqOk l) : Calls Tryd.prog 18 #[.slice A l.length c] w (PutRes (putB l) w) := by
  have hmax := Kd.C_max hr
  have HBA := Lib.hid (batch_any A c l w hT hr hseq)
  have HR := Lib.hid hr
  have HT := Lib.hid hT
  have HPE : Hid (putB l = if batchB l = true then (bytesB l, 0) else ([], 1)) := Lib.hid rfl
  clear hT hr hseq
  cases hx : batchB l with
  | true =>
    have HPR : Hid (putB l = (bytesB l, 0)) := Lib.hid (by rw [HPE.out, hx]; rfl)
    rw [hx] at HBA
    have HG := Lib.hid (batchB_get hx)
    have h16 := HG.out.1
    have HLL := Lib.hid (fun k hk => ents7_len hx k hk)
    have HNU : Hid (∀ W, Calls Tryd.prog 78 #[.int .i64 (l.length : Int)] W (TupBelow (num7 l.length) 0 W)) := Lib.hid (fun W => number_any l.length W (by omega))
    rw [HPR.out]
    clear hx HPE HPR
    go_enter Tryd.func18, Tryd.ntmps18
    go_wp2_with (first | (go_at_call 77; (with_reducible refine (HBA.out).mono ?_); rintro e w2 ⟨rfl, hb⟩; have HB := Lib.hid hb; clear hb) | (go_at_call 78; (with_reducible refine (HNU.out _).mono ?_); rintro e w3 ⟨v, rfl, ho, hb⟩; obtain ⟨A3, q3, rfl⟩ := Kd.R_slice ho; have HO := Lib.hid (Kd.R_lower ho (below_size HB.out)); have HB3 := Lib.hid (below_step HB.out hb); clear ho hb))
    go_loopw [21] (fun v21 wr => PBRel l w w3.heap.size v21 wr) (fun v21 _ => l.length - (intOf v21).toNat)
    case atStart => exact ⟨0, rfl, Nat.zero_le _, below_alloc HB3.out _, _, heap_alloc_new w3 _, Kd.R_alloc (by have h := HO.out; simpa [ents7] using h) _⟩
    case round =>
      obtain ⟨k, rfl, hk, hb, v, hv, ho⟩ := hrel
      obtain ⟨Av, qv, hsv⟩ := Kd.R_slice ho
      subst hsv
      have HBK := Lib.hid hb
      have HOK := Lib.hid ho
      have HW3 : Hid (w.heap.size ≤ w3.heap.size) := Lib.hid HB3.out.size
      by_cases hlt : k < l.length
      · have hki : (k : Int) < (l.length : Int) := by omega
        obtain ⟨b, o, rfl, hx⟩ := ents_at HR.out (by omega)
        obtain ⟨A2, c2, hx0, hx1, hx2, hx3, hx4, hx5⟩ := hx k hlt
        have hy0 := pw_cell_below hb hx0
        have hy1 := pw_cell_below hb hx1
        have hy2 := pw_cell_below hb hx2
        have hy3 := pw_cell_below hb hx3
        have HS := Lib.hid (ents7_succ l k hlt)
        have HXR := Lib.hid (HG.out.2.2 k hlt)
        have HLK : Hid ((ents7 l k).length ≤ 1000000) := Lib.hid (by have := HLL.out k hk; omega)
        have HX5 := Lib.hid hx5
        clear hx hx0 hx1 hx2 hx3 hx4 hx5 hb ho
        generalize hL : ents7 l k = Y at *
        generalize l.getD k z33 = x at *
        have HV1 : Hid ((wr.alloc (.cells (entC x A2 c2) 33)).heap[w3.heap.size]? = some (.cells #[.slice Av Y.length qv] 23 (0, 0))) := Lib.hid (blk_alloc hv _)
        have HO1 := Lib.hid (Kd.R_alloc HOK.out (.cells (entC x A2 c2) 33))
        have HB1 : Hid (Below w.heap.size w (wr.alloc (.cells (entC x A2 c2) 33))) := Lib.hid (below_alloc HBK.out _)
        have HC := Lib.hid (closure_any x A2 c2 w (wr.alloc (.cells (entC x A2 c2) 33)) w3.heap.size _ Y HT.out HX5.out HXR.out HV1.out HW3.out HO1.out HB1.out HLK.out)
        clear hv
        go_wp2_with (first | (go_at_call 79; (with_reducible refine (HC.out).mono ?_); rintro e w4 ⟨rfl, hb4, v4, hv4, ho4⟩; have HB4 := Lib.hid hb4; have HV4 := Lib.hid hv4; have HO4 := Lib.hid ho4; clear hb4 hv4 ho4))
        go_roundw
        case rel => exact ⟨k + 1, by go_num, by omega, HB4.out, v4, HV4.out, by rw [HS.out]; exact HO4.out⟩
        case measure => simp [intOf]; omega
      · have hki : ¬ (k : Int) < (l.length : Int) := by omega
        have HE := Lib.hid (ents7_all l k hlt)
        have hc := cell_of_one hv
        go_wp2
        go_ret2
        exact ⟨_, rfl, by rw [← HE.out]; exact HOK.out, HBK.out⟩
  | false =>
    have HPR : Hid (putB l = ([], 1)) := Lib.hid (by rw [HPE.out, hx]; rfl)
    rw [HPR.out]
    rw [hx] at HBA
    clear hx HPE
    go_enter Tryd.func18, Tryd.ntmps18
    go_wp2_with (first | (go_at_call 77; (with_reducible refine (HBA.out).mono ?_); rintro e w2 ⟨rfl, hb⟩))
    go_ret2
    exact ⟨_, rfl, Kd.R_nil _ _ _ _ _, hb⟩
end Go.Proofs.YtojocffjajcdmaaDoor
