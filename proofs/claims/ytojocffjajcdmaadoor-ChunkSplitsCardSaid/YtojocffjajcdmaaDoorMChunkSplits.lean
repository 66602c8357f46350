/- The law ChunkSplits answers true for every chunk and all numbers, and the arguments read behind the call as before. No condition. -/
import Derived.Test.YtojocffjajcdmaaDoorMD
import Derived.Test.YtojocffjajcdmaaDoorMSP
import Derived.Test.YtojocffjajcdmaaDoorMO
import Derived.Test.YtojocffjajcdmaaDoorChunkSplitsF
import Derived.Test.YtojocffjajcdmaaDoorRG
namespace Go.Proofs.YtojocffjajcdmaaDoor
open Go.Shelf Go.ChangeShapes Go.WideShapes Go.ChangeAt Go.RowKit Go.Lib Go.Proofs.YtojocffjajcdmaaDoor.RF
set_option linter.unusedVariables false

theorem chunkSplits_witness (os : Os) {H : Type} (enc : TypeId × Value → H) :
    (OpenSpec.ofChange Rows.chunkSplitsSpec).preRow enc Tryd.prog Tryd.f7 Rows.chunkSplitsRow.domain false Rows.chunkSplitsRow.laid ((laidWorld os).forCall (fun _ _ => 0) ⟨#[], #[.agg #[.slice none 0 0, .slice none 0 0], .int .i64 0], []⟩).memory #[.agg #[.slice none 0 0, .slice none 0 0], .int .i64 0] := by
  have hw : (DataW.whole enc Tryd.prog ((laidWorld os).forCall (fun _ _ => 0) ⟨#[], #[.agg #[.slice none 0 0, .slice none 0 0], .int .i64 0], []⟩).memory Tryd.f7.params.toList (OpenSpec.ofChange Rows.chunkSplitsSpec).vars false (#[Value.agg #[.slice none 0 0, .slice none 0 0], Value.int .i64 0]).toList 8).map (fun x => (x.1, x.2.1)) =
      some ([.agg [.nil, .nil], .lit (.int .i64 0)], []) := by kernel_rfl
  obtain ⟨⟨x1, x2, x3⟩, hx, hx1⟩ := Option.map_eq_some_iff.1 hw
  simp only [Prod.mk.injEq] at hx1
  obtain ⟨rfl, rfl⟩ := hx1
  exact OpenSpec.preRow_of_cond 8 hx (by kernel_rfl) (fun k hk => by cases hk) (by kernel_rfl) (laid_met os _)

set_option maxRecDepth 100000 in
set_option maxHeartbeats 2000000 in
theorem chunkSplits_lifted (os : Os) (started : os.Started) (H : Type) (enc : TypeId × Value → H) (F : Stop.Interp) :
    ReturnsInHanded {} Tryd.checked os 7 .any ((OpenSpec.ofChange Rows.chunkSplitsSpec).preRow enc Tryd.prog Tryd.f7 Rows.chunkSplitsRow.domain false Rows.chunkSplitsRow.laid) (((OpenSpec.ofChange Rows.chunkSplitsSpec).at F).post enc Tryd.prog Tryd.f7 false true false false) := by
  refine returnsInHanded_of_row (C := Tryd.checked) (s := OpenSpec.ofChange Rows.chunkSplitsSpec) ownKnob_none started (by kernel_rfl) Tryd.func7
    (witness_row_atRef (enc := enc) (C := Tryd.checked) false (laidWorld os) #[.agg #[.slice none 0 0, .slice none 0 0], .int .i64 0] rfl (by kernel_rfl) (by kernel_rfl) (by kernel_rfl) (chunkSplits_witness os enc)) ?_
  intro W base args ds gs before hval0 hW _ _ hsz0 hL _ _
  have hval : ∀ (j : Nat) t v, Tryd.f7.params[j]? = some t → args[j]? = some v → Value.okWide Tryd.prog W .any base t v := hval0
  have hsz : (DataW.weightsEach Tryd.prog (Tryd.f7.params.toList ++ (OpenSpec.ofChange Rows.chunkSplitsSpec).bare.plain.varTypes Tryd.prog) (ds ++ gs)).all (· ≤ reachBytes) = true := hsz0
  have hW' := hW
  obtain ⟨p, q, hA0, hV0, rfl, _, _⟩ := hW
  have hA : DataW.TrodAll enc Tryd.prog W 0 (fun _ => true) true Tryd.f7.params.toList args.toList ds p := hA0
  rw [Tryd.params7] at hA hval hsz
  obtain ⟨v0, v1, d0, d1, p0, p1, rfl, rfl, rfl, h0, h1⟩ := trodAll_two hA
  obtain ⟨rfl, rfl⟩ := trodVars_none hV0
  obtain ⟨z1, rfl, rfl, rfl, w1⟩ := open_int Tryd.underlying3 (hval 1 3 v1 rfl rfl) h1
  have hz : ∀ k ∈ d0.weights Tryd.prog 50, k ≤ reachBytes := fun k hk => by
    have := List.all_eq_true.1 hsz k (DataW.weights_mem_each (j := 0) rfl rfl k hk)
    simpa using this
  obtain ⟨A1, c1, ls, A2, c2, rows, hv, hL1, hc1, hn1, hsz1, hR2, hc2, hn2, hw0, hw1, hA1, hA2⟩ := open_chunk (hval 0 50 v0 rfl rfl) h0 hz
  rw [hv]
  refine (splits_any A1 c1 ls A2 c2 rows z1 W (tabs_of hL) hn1 hn2 hsz1 hL1 hA1 hc1 hR2 hc2 hw0).mono fun e W' ⟨he, hb⟩ => ?_
  subst he
  rw [← hv]
  exact ⟨_, rfl, law_post (tb := 4) laidOut hW' rfl (fun t ht => by
    rw [Tryd.params7] at ht
    simp at ht
    rcases ht with rfl | rfl
    · exact ⟨by kernel_rfl, of_decide_eq_true (by kernel_rfl)⟩
    · exact ⟨by kernel_rfl, of_decide_eq_true (by kernel_rfl)⟩) hb (by kernel_rfl) Tryd.underlying4 rfl⟩

theorem chunkSplits_row : Rows.ChunkSplitsSaid :=
  OpenClaim.holds_of_cond 7 Tryd.f7 rfl rfl rfl rfl rfl rfl rfl ⟨rfl, rfl, rfl, rfl, rfl⟩ rfl rfl rfl rfl rfl cs_named Tryd.func7 cs_facts
    cs_inst cs_wrap
    (fun os started H enc _ F0 => by rw [OpenClaim.pre_eq_preRow]; exact chunkSplits_lifted os started H enc F0)

theorem cs_text : Rows.chunkSplitsRow.wfByText (OpenSpec.ofChange Rows.chunkSplitsSpec) = true := by kernel_rfl
theorem cs_goes : false = Rows.chunkSplitsRow.goesBy Tryd.pinned.checked.prog := by kernel_rfl
theorem cs_stand50 : Tryd.prog.wantsStandIn 50 = false := by kernel_rfl
theorem cs_stand3 : Tryd.prog.wantsStandIn 3 = false := by kernel_rfl
theorem chunkSplits_holds : Rows.ChunkSplitsCardSaid :=
  Claim7.holds_tied_plain_at .later [] [.data, .pinned] true (true, "966f1954de8a40f6c8b706870ccb74a6a1949f7358d105c82c1d61f20c05dc41") false
    chunkSplits_row (fun _ h => by cases h) cs_text (fun _ h => by cases h) chunkSplits_row_tie rfl ⟨rfl, rfl⟩ seat_main rfl
    (fun f fn hf hfn => by
      obtain rfl : f = 7 := Option.some.inj (cs_named.symm.trans hf) |>.symm
      obtain rfl : fn = Tryd.f7 := (Option.some.inj (Tryd.func7.symm.trans hfn)).symm
      exact ⟨seat_looks, fun j t ht => by
        rw [Tryd.params7] at ht
        have h3 : t = 50 ∨ t = 3 := by
          rcases j with _ | _ | j
          · left; simpa using ht.symm
          · right; simpa using ht.symm
          · simp at ht
        rcases h3 with rfl | rfl
        · exact cs_stand50
        · exact cs_stand3⟩)
    cs_goes
#print axioms chunkSplits_holds
end Go.Proofs.YtojocffjajcdmaaDoor
