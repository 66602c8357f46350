import Derived.Test.YtojocffjajcdmaaDoorR8
namespace Go.Proofs.YtojocffjajcdmaaDoor
open Go.RowKit Go.Proofs.YtojocffjajcdmaaDoorW.PrintWords Go.Proofs.YtojocffjajcdmaaDoorW.PrintLast Go.Proofs.YtojocffjajcdmaaDoorW.PrintMore PChunkAll
set_option linter.unusedVariables false
set_option linter.unusedSimpArgs false

/-! ### The closure: one entry's bytes behind the others -/
theorem closure_any (x : S33) (A : Option Addr) (c : Nat) (w0 w : World) (g : Nat) (v : Value) (bs : List Int) (hT : Tabs w0) (hr : Kd.C k112 w0 A x.f2.length x.f2) (hx : rightE x = true)
    (hv : w.heap[g]? = some (.cells #[v] 23 (0, 0))) (hg : w0.heap.size ≤ g) (ho : OwnB w w0.heap.size v bs) (hb : Below w0.heap.size w0 w) (hl : bs.length ≤ 1000000) :
    Calls Tryd.prog 79 #[entA x A c, .pointer (some ⟨g, 0, none⟩)] w fun e w' => e = .returned (.tuple #[]) ∧ Below w0.heap.size w0 w' ∧ ∃ v', w'.heap[g]? = some (.cells #[v'] 23 (0, 0)) ∧ OwnB w' w0.heap.size v' (bs ++ text7 (strOfNums (bytesE x))) := by
  obtain ⟨A0, q0, rfl⟩ := Kd.R_slice ho
  have hb0 : Below w.heap.size w (w.alloc (.cells (entC x A c) 33)) := below_alloc (Below.refl _ _) _
  have hb00 : Below w0.heap.size w0 (w.alloc (.cells (entC x A c) 33)) := below_alloc hb _
  have HPR : putE x = (bytesE x, 0) := by unfold putE; rw [hx]; rfl
  have hle := bytesE_len hx
  have HP := Lib.hid (putE_any x A c _ (hT.below hb00) (Kd.C_below hr hb00))
  unfold PutRes at HP
  rw [HPR] at HP
  have HT2 : Hid (∀ W, Calls Tryd.prog 80 #[.string (strOfNums (bytesE x))] W (TupBelow (text7 (strOfNums (bytesE x))) 0 W)) := Lib.hid (fun W => text_any _ W (by rw [strOfNums_size]; omega))
  have hgl : g < w.heap.size := blk_lt hv
  have hv0 : (w.alloc (.cells (entC x A c) 33)).heap[g]? = some (.cells #[.slice A0 bs.length q0] 23 (0, 0)) := blk_alloc hv _
  have HO0 := Lib.hid (Kd.R_alloc (Kd.R_lower ho (Nat.le_refl _)) (.cells (entC x A c) 33))
  have HB0 := Lib.hid hb00
  have HTL : Hid ((text7 (strOfNums (bytesE x))).length ≤ 100000) := Lib.hid (by have := text7_len (strOfNums (bytesE x)) (by rw [strOfNums_size]; omega); rw [strOfNums_size] at this; omega)
  have HG := Lib.hid hg
  have HGL := Lib.hid hgl
  have HLL := Lib.hid hl
  clear hT hr hx hv ho hb hb0 hb00 HPR hle hg hl hgl
  go_enter Tryd.func79, Tryd.ntmps79
  go_wp2_with (first | (go_at_call 24; (with_reducible refine (HP.out).mono ?_); rintro e w2 ⟨v, rfl, ho, hb⟩; obtain ⟨Ac, qc, rfl⟩ := Kd.R_slice ho; have hv2 := blk_below hv0 hb; have HO2 := Lib.hid (Kd.R_below HO0.out hb); have hcv := Kd.C_string (P := Tryd.prog) (A := Ac) (c := qc) Tryd.underlying23 Tryd.underlying5 Tryd.underlying9 (Kd.R_reads' ho).2.2; have HB2 := Lib.hid (below_step HB0.out hb); clear ho hb hv0) | (go_at_call 80; (with_reducible refine (HT2.out _).mono ?_); rintro e w3 ⟨v, rfl, ho, hb⟩; obtain ⟨Ad, qd, rfl⟩ := Kd.R_slice ho; have hv3 := blk_below hv2 hb; have HO3 := Lib.hid (Kd.R_below HO2.out hb); have LD := Lib.hid ((Kd.R_reads' ho).2.2); have HB3 := Lib.hid (below_step HB2.out hb); have hc3 := cell_of_one hv3; have hf3 := free_of_one hv3; clear ho hb hv2 hcv) | ((with_reducible refine gate_builtin (b := .append) (xs := #[.tmp 18, .tmp 19]) rfl ?_); at_builtin; refine Kd.R_append_row (Value.int .u8) 0 (w0 := w0) w0.heap.size rfl (.tmp 18) (.tmp 19) 23 5 (.int .u8 0) 1 rfl Tryd.underlying23 info5 rfl (by omega) (.slice A0 bs.length q0) bs (text7 (strOfNums (bytesE x))) Ad _ qd (fun _ => True) rfl rfl (fun _ _ => trivial) HO3.out LD.out HB3.out (below_size HB3.out) (by have := HTL.out; have := HLL.out; omega) ?_; intro v4 w4 ho4 hb4 hg4 hat4; obtain ⟨A4, q4, h4⟩ := Kd.R_slice ho4; subst h4; rw [List.length_append] at ho4; have hv4 := blk_grown hv3 hg4 (by intro e; obtain ⟨cells, hc⟩ := own_typed (Kd.own_of_R HO3.out) g e.symm; rw [hv3] at hc; simp at hc); have hc4 := cell_of_one hv4; have hf4 := free_of_one hv4; have HO4 := Lib.hid ho4; have HB4 := Lib.hid hb4; clear ho4 hb4 hg4 hat4 hv3 hc3 hf3))
  go_end0
  exact ⟨rfl, below_set HB4.out HG.out, _, one_setCell hv4, Kd.R_mono (Kd.R_far (p := ⟨g, 0, none⟩) (Kd.R_types HO4.out hv4 (by decide)) (fun _ hk => hk.2) _) (fun _ _ => trivial)⟩
end Go.Proofs.YtojocffjajcdmaaDoor
