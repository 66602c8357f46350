import Derived.Test.YtojocffjajcdmaaDoorRB
namespace Go.Proofs.YtojocffjajcdmaaDoor
open Go.RowKit Go.Proofs.YtojocffjajcdmaaDoorW.PrintWords Go.Proofs.YtojocffjajcdmaaDoorW.PrintLast Go.Proofs.YtojocffjajcdmaaDoorW.PrintMore PChunkAll
set_option linter.unusedVariables false
set_option linter.unusedSimpArgs false

set_option maxHeartbeats 400000 in
theorem num_any (c : Int) (w : World) : Calls Tryd.prog 20 #[.int .i64 c] w fun e w' => e = .returned (.int .i64 c) ∧ w = w' := by
  go_enter Tryd.func20, Tryd.ntmps20
  go_wp2
  go_ret
  exact ⟨rfl, rfl⟩
def lab0 : S112 := ⟨⟨#[97]⟩, ⟨#[120]⟩⟩
def ent0 : S33 := ⟨1, 2, [lab0], ⟨#[]⟩⟩
theorem ent0_right : rightE ent0 = true := by decide +kernel
theorem bytesL0 : bytesL [lab0] = [1, 1, 97, 1, 120] := by
  simp [bytesL, lab7, lab0, text7, num7_small, bytesOf, ByteArray.size]
theorem bytesE0 : bytesE ent0 = [1, 2, 5, 1, 1, 97, 1, 120, 0] := by
  unfold bytesE
  show [num7 (1 : Int).toNat, num7 (2 : Int).toNat, text7 (strOfNums (bytesL [lab0])), text7 ⟨#[]⟩].flatten = _
  rw [bytesL0]
  simp [text7, num7_small, bytesOf, strOfNums, ByteArray.size]
theorem str0 : strOfNums (bytesE ent0) = ⟨#[1, 2, 5, 1, 1, 97, 1, 120, 0]⟩ := by rw [bytesE0]; rfl
theorem put0 : putE ent0 = (bytesE ent0, 0) := by unfold putE; rw [ent0_right]; rfl
theorem lab0_at (w : World) : Kd.C k112 (w.alloc (.cells #[.string ⟨#[97]⟩, .string ⟨#[120]⟩] 112)) (some ⟨w.heap.size, 0, none⟩) [lab0].length [lab0] := by
  refine ⟨rfl, by decide, fun _ => ⟨_, rfl, fun j p hj => ?_⟩⟩
  have hj0 : j = 0 := by
    have := (List.getElem?_eq_some_iff.1 hj).1
    simp at this
    exact this
  subst hj0
  simp only [List.getElem?_cons_zero, Option.some.injEq] at hj
  subst hj
  refine ⟨[.string ⟨#[97]⟩, .string ⟨#[120]⟩], rfl, k112_mk _ lab0, fun i u hu => ?_⟩
  rw [addr_add, blk_cell (heap_alloc_new w _)]
  have e1 : 0 + (0 * k112.sz + i) = i := by omega
  rw [e1]
  simpa using hu
set_option maxHeartbeats 1000000 in
theorem knows_any (w : World) (hT : Tabs w) : Calls Tryd.prog 21 #[] w (BoolBelow true w) := by
  have hb0 : Below w.heap.size w (w.alloc (.cells #[.string ⟨#[97]⟩, .string ⟨#[120]⟩] 112)) := below_alloc (Below.refl _ _) _
  have HP := Lib.hid (putE_any ent0 _ 1 _ (hT.below hb0) (lab0_at w))
  rw [put0] at HP
  have HB0 := Lib.hid hb0
  have HBF : Hid (∀ W, Calls Tryd.prog 51 #[.agg #[.int .i64 0, .int .i64 1, .slice none 0 0, .string ⟨#[]⟩], .agg #[.int .i64 0, .int .i64 2, .slice none 0 0, .string ⟨#[]⟩]] W fun e w' => e = .returned (.bool true) ∧ Below W.heap.size W w') := Lib.hid (fun W => before_any 0 1 0 2 _ _ _ _ W)
  clear hT hb0
  go_enter Tryd.func21, Tryd.ntmps21
  go_wp2_with (first | (go_at_call 24; refine (HP.out).mono ?_; rintro e w2 ⟨v, rfl, ho, hb⟩; obtain ⟨Ac, qc, rfl⟩ := Kd.R_slice ho; have hcv := Kd.C_string (P := Tryd.prog) (A := Ac) (c := qc) Tryd.underlying23 Tryd.underlying5 Tryd.underlying9 (Kd.R_reads' ho).2.2; rw [str0] at hcv; have HB2 := Lib.hid (below_step HB0.out hb); clear ho hb) | (go_at_call 20; (with_reducible refine (num_any _ _).mono ?_); rintro e w3 ⟨rfl, rfl⟩) | (go_at_call 51; (with_reducible refine (HBF.out _).mono ?_); rintro e w4 ⟨rfl, hb⟩; have HB4 := Lib.hid (below_step HB2.out hb); clear hb))
  go_ret
  exact ⟨rfl, HB4.out⟩
end Go.Proofs.YtojocffjajcdmaaDoor
