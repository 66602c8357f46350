/- The law RecordEntries answers true for every entry and all bytes, and the arguments read behind the call as before. No condition. -/
import Derived.Test.YtojocffjajcdmaaDoorME
import Derived.Test.YtojocffjajcdmaaDoorRecordEntriesF
import Derived.Test.YtojocffjajcdmaaDoorRG
namespace Go.Proofs.YtojocffjajcdmaaDoor
open Go.Shelf Go.ChangeShapes Go.WideShapes Go.ChangeAt Go.RowKit Go.Lib
set_option linter.unusedVariables false

theorem recordEntries_witness (os : Os) {H : Type} (enc : TypeId × Value → H) :
    (OpenSpec.ofChange Rows.recordEntriesSpec).preRow enc Tryd.prog Tryd.f4 Rows.recordEntriesRow.domain false Rows.recordEntriesRow.laid ((laidWorld os).forCall (fun _ _ => 0) ⟨#[], #[.agg #[.int .i64 0, .int .i64 0, .slice none 0 0, .string ⟨#[]⟩], .slice none 0 0], []⟩).memory #[.agg #[.int .i64 0, .int .i64 0, .slice none 0 0, .string ⟨#[]⟩], .slice none 0 0] := by
  have hw : (DataW.whole enc Tryd.prog ((laidWorld os).forCall (fun _ _ => 0) ⟨#[], #[.agg #[.int .i64 0, .int .i64 0, .slice none 0 0, .string ⟨#[]⟩], .slice none 0 0], []⟩).memory Tryd.f4.params.toList (OpenSpec.ofChange Rows.recordEntriesSpec).vars false #[Value.agg #[.int .i64 0, .int .i64 0, .slice none 0 0, .string ⟨#[]⟩], Value.slice none 0 0].toList 8).map (fun x => (x.1, x.2.1)) =
      some ([.agg [.lit (.int .i64 0), .lit (.int .i64 0), .nil, .lit (.string [])], .nil], []) := by kernel_rfl
  obtain ⟨⟨x1, x2, x3⟩, hx, hx1⟩ := Option.map_eq_some_iff.1 hw
  simp only [Prod.mk.injEq] at hx1
  obtain ⟨rfl, rfl⟩ := hx1
  exact OpenSpec.preRow_of_cond 8 hx (by kernel_rfl) (fun k hk => by cases hk) (by kernel_rfl) (laid_met os _)

set_option maxRecDepth 100000 in
set_option maxHeartbeats 2000000 in
theorem recordEntries_lifted (os : Os) (started : os.Started) (H : Type) (enc : TypeId × Value → H) (F : Stop.Interp) :
    ReturnsInHanded {} Tryd.checked os 4 .any ((OpenSpec.ofChange Rows.recordEntriesSpec).preRow enc Tryd.prog Tryd.f4 Rows.recordEntriesRow.domain false Rows.recordEntriesRow.laid) (((OpenSpec.ofChange Rows.recordEntriesSpec).at F).post enc Tryd.prog Tryd.f4 false true false false) := by
  refine returnsInHanded_of_row (C := Tryd.checked) (s := OpenSpec.ofChange Rows.recordEntriesSpec) ownKnob_none started (by kernel_rfl) Tryd.func4
    (witness_row_atRef (enc := enc) (C := Tryd.checked) false (laidWorld os) #[.agg #[.int .i64 0, .int .i64 0, .slice none 0 0, .string ⟨#[]⟩], .slice none 0 0] rfl (by kernel_rfl) (by kernel_rfl) (by kernel_rfl) (recordEntries_witness os enc)) ?_
  intro W base args ds gs before hval0 hW _ _ hsz0 hL _ _
  have hval : ∀ (j : Nat) t v, Tryd.f4.params[j]? = some t → args[j]? = some v → Value.okWide Tryd.prog W .any base t v := hval0
  have hsz : (DataW.weightsEach Tryd.prog (Tryd.f4.params.toList ++ (OpenSpec.ofChange Rows.recordEntriesSpec).bare.plain.varTypes Tryd.prog) (ds ++ gs)).all (· ≤ reachBytes) = true := hsz0
  have hW' := hW
  obtain ⟨p, q, hA0, hV0, rfl, _, _⟩ := hW
  have hA : DataW.TrodAll enc Tryd.prog W 0 (fun _ => true) true Tryd.f4.params.toList args.toList ds p := hA0
  rw [Tryd.params4] at hA hval hsz
  obtain ⟨v0, v1, d0, d1, p0, p1, rfl, rfl, rfl, h0, h1⟩ := trodAll_two hA
  obtain ⟨rfl, rfl⟩ := trodVars_none hV0
  obtain ⟨a1, len1, cap1, rfl⟩ := okWide_slice Tryd.underlying23 (hval 1 23 v1 rfl rfl)
  have hz : ∀ k ∈ d0.weights Tryd.prog 33, k ≤ reachBytes := fun k hk => by
    have := List.all_eq_true.1 hsz k (DataW.weights_mem_each (j := 0) rfl rfl k hk)
    simpa using this
  have hz1 : ∀ k ∈ d1.weights Tryd.prog 23, k ≤ reachBytes := fun k hk => by
    have := List.all_eq_true.1 hsz k (DataW.weights_mem_each (j := 1) rfl rfl k hk)
    simpa using this
  obtain ⟨x, A, c, hv, hr, hc, hxl, hs⟩ := open_entA (hval 0 33 v0 rfl rfl) h0 hz
  obtain ⟨fuel1, hf1⟩ := h1
  obtain ⟨B, cb, bs, hvb, hrb, hcb, hlb, hB⟩ := open_bytes (x := (d1, p1)) hf1 hz1
  have hre : reachBytes = 140737488351232 := rfl
  rw [hv, hvb]
  refine (entries_any x A c B cb bs W (tabs_of hL) hr hc hxl hs hrb (by omega) hB).mono fun e W' ⟨he, hb⟩ => ?_
  subst he
  rw [← hv, ← hvb]
  exact ⟨_, rfl, law_post (tb := 4) laidOut hW' rfl (fun t ht => by
    rw [Tryd.params4] at ht
    simp at ht
    rcases ht with rfl | rfl
    · exact ⟨by kernel_rfl, of_decide_eq_true (by kernel_rfl)⟩
    · exact ⟨by kernel_rfl, of_decide_eq_true (by kernel_rfl)⟩) hb (by kernel_rfl) Tryd.underlying4 rfl⟩

theorem recordEntries_row : Rows.RecordEntriesSaid :=
  OpenClaim.holds_of_cond 4 Tryd.f4 rfl rfl rfl rfl rfl rfl rfl ⟨rfl, rfl, rfl, rfl, rfl⟩ rfl rfl rfl rfl rfl re_named Tryd.func4 re_facts
    re_inst re_wrap
    (fun os started H enc _ F0 => by rw [OpenClaim.pre_eq_preRow]; exact recordEntries_lifted os started H enc F0)

theorem re_text : Rows.recordEntriesRow.wfByText (OpenSpec.ofChange Rows.recordEntriesSpec) = true := by kernel_rfl
theorem stand33 : Tryd.prog.wantsStandIn 33 = false := by kernel_rfl
theorem stand23 : Tryd.prog.wantsStandIn 23 = false := by kernel_rfl
theorem re_goes : false = Rows.recordEntriesRow.goesBy Tryd.pinned.checked.prog := by kernel_rfl
theorem recordEntries_holds : Rows.RecordEntriesCardSaid :=
  Claim7.holds_tied_plain_at .later [] [.data, .pinned] true (true, "966f1954de8a40f6c8b706870ccb74a6a1949f7358d105c82c1d61f20c05dc41") false
    recordEntries_row (fun _ h => by cases h) re_text (fun _ h => by cases h) recordEntries_row_tie rfl ⟨rfl, rfl⟩ seat_main rfl
    (fun f fn hf hfn => by
      obtain rfl : f = 4 := Option.some.inj (re_named.symm.trans hf) |>.symm
      obtain rfl : fn = Tryd.f4 := (Option.some.inj (Tryd.func4.symm.trans hfn)).symm
      exact ⟨seat_looks, fun j t ht => by
        rw [Tryd.params4] at ht
        have h3 : t = 33 ∨ t = 23 := by
          rcases j with _ | _ | j
          · left; simpa using ht.symm
          · right; simpa using ht.symm
          · simp at ht
        rcases h3 with rfl | rfl
        · exact stand33
        · exact stand23⟩)
    re_goes
#print axioms recordEntries_holds
end Go.Proofs.YtojocffjajcdmaaDoor
