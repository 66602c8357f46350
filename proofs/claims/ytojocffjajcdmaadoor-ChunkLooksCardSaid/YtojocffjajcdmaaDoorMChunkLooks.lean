/- The law ChunkLooks answers true for every chunk and all numbers, and the arguments read behind the call as before. No condition. -/
import Derived.Test.YtojocffjajcdmaaDoorMD
import Derived.Test.YtojocffjajcdmaaDoorMCL
import Derived.Test.YtojocffjajcdmaaDoorMO
import Derived.Test.YtojocffjajcdmaaDoorChunkLooksF
import Derived.Test.YtojocffjajcdmaaDoorRG
namespace Go.Proofs.YtojocffjajcdmaaDoor
open Go.Shelf Go.ChangeShapes Go.WideShapes Go.ChangeAt Go.RowKit Go.Lib Go.Proofs.YtojocffjajcdmaaDoor.RF
set_option linter.unusedVariables false

theorem chunkLooks_witness (os : Os) {H : Type} (enc : TypeId × Value → H) :
    (OpenSpec.ofChange Rows.chunkLooksSpec).preRow enc Tryd.prog Tryd.f5 Rows.chunkLooksRow.domain false Rows.chunkLooksRow.laid ((laidWorld os).forCall (fun _ _ => 0) ⟨#[], #[.agg #[.slice none 0 0, .slice none 0 0], .int .i64 0, .int .i64 0], []⟩).memory #[.agg #[.slice none 0 0, .slice none 0 0], .int .i64 0, .int .i64 0] := by
  have hw : (DataW.whole enc Tryd.prog ((laidWorld os).forCall (fun _ _ => 0) ⟨#[], #[.agg #[.slice none 0 0, .slice none 0 0], .int .i64 0, .int .i64 0], []⟩).memory Tryd.f5.params.toList (OpenSpec.ofChange Rows.chunkLooksSpec).vars false (#[Value.agg #[.slice none 0 0, .slice none 0 0], Value.int .i64 0, Value.int .i64 0]).toList 8).map (fun x => (x.1, x.2.1)) =
      some ([.agg [.nil, .nil], .lit (.int .i64 0), .lit (.int .i64 0)], []) := by kernel_rfl
  obtain ⟨⟨x1, x2, x3⟩, hx, hx1⟩ := Option.map_eq_some_iff.1 hw
  simp only [Prod.mk.injEq] at hx1
  obtain ⟨rfl, rfl⟩ := hx1
  exact OpenSpec.preRow_of_cond 8 hx (by kernel_rfl) (fun k hk => by cases hk) (by kernel_rfl) (laid_met os _)

set_option maxRecDepth 100000 in
set_option maxHeartbeats 2000000 in
theorem chunkLooks_lifted (os : Os) (started : os.Started) (H : Type) (enc : TypeId × Value → H) (F : Stop.Interp) :
    ReturnsInHanded {} Tryd.checked os 5 .any ((OpenSpec.ofChange Rows.chunkLooksSpec).preRow enc Tryd.prog Tryd.f5 Rows.chunkLooksRow.domain false Rows.chunkLooksRow.laid) (((OpenSpec.ofChange Rows.chunkLooksSpec).at F).post enc Tryd.prog Tryd.f5 false true false false) := by
  refine returnsInHanded_of_row (C := Tryd.checked) (s := OpenSpec.ofChange Rows.chunkLooksSpec) ownKnob_none started (by kernel_rfl) Tryd.func5
    (witness_row_atRef (enc := enc) (C := Tryd.checked) false (laidWorld os) #[.agg #[.slice none 0 0, .slice none 0 0], .int .i64 0, .int .i64 0] rfl (by kernel_rfl) (by kernel_rfl) (by kernel_rfl) (chunkLooks_witness os enc)) ?_
  intro W base args ds gs before hval0 hW _ _ hsz0 hL _ _
  have hval : ∀ (j : Nat) t v, Tryd.f5.params[j]? = some t → args[j]? = some v → Value.okWide Tryd.prog W .any base t v := hval0
  have hsz : (DataW.weightsEach Tryd.prog (Tryd.f5.params.toList ++ (OpenSpec.ofChange Rows.chunkLooksSpec).bare.plain.varTypes Tryd.prog) (ds ++ gs)).all (· ≤ reachBytes) = true := hsz0
  have hW' := hW
  obtain ⟨p, q, hA0, hV0, rfl, _, _⟩ := hW
  have hA : DataW.TrodAll enc Tryd.prog W 0 (fun _ => true) true Tryd.f5.params.toList args.toList ds p := hA0
  rw [Tryd.params5] at hA hval hsz
  obtain ⟨v0, v1, v2, d0, d1, d2, p0, p1, p2, rfl, rfl, rfl, h0, h1, h2⟩ := trodAll_three hA
  obtain ⟨rfl, rfl⟩ := trodVars_none hV0
  obtain ⟨z1, rfl, rfl, rfl, w1⟩ := open_int Tryd.underlying3 (hval 1 3 v1 rfl rfl) h1
  obtain ⟨z2, rfl, rfl, rfl, w2⟩ := open_int Tryd.underlying3 (hval 2 3 v2 rfl rfl) h2
  have hz : ∀ k ∈ d0.weights Tryd.prog 50, k ≤ reachBytes := fun k hk => by
    have := List.all_eq_true.1 hsz k (DataW.weights_mem_each (j := 0) rfl rfl k hk)
    simpa using this
  obtain ⟨A1, c1, ls, A2, c2, rows, hv, hL1, hc1, hn1, hsz1, hR2, hc2, hn2, hw0, hw1, hA1, hA2⟩ := open_chunk (hval 0 50 v0 rfl rfl) h0 hz
  rw [hv]
  refine (looks_any A1 c1 ls A2 c2 rows z1 z2 W (tabs_of hL) hn1 hn2 hsz1 hL1 hA1 hc1 hR2 hc2 hw0).mono fun e W' ⟨he, hb⟩ => ?_
  subst he
  rw [← hv]
  exact ⟨_, rfl, law_post (tb := 4) laidOut hW' rfl (fun t ht => by
    rw [Tryd.params5] at ht
    simp at ht
    rcases ht with rfl | rfl
    · exact ⟨by kernel_rfl, of_decide_eq_true (by kernel_rfl)⟩
    · exact ⟨by kernel_rfl, of_decide_eq_true (by kernel_rfl)⟩) hb (by kernel_rfl) Tryd.underlying4 rfl⟩

theorem chunkLooks_row : Rows.ChunkLooksSaid :=
  OpenClaim.holds_of_cond 5 Tryd.f5 rfl rfl rfl rfl rfl rfl rfl ⟨rfl, rfl, rfl, rfl, rfl⟩ rfl rfl rfl rfl rfl cl_named Tryd.func5 cl_facts
    cl_inst cl_wrap
    (fun os started H enc _ F0 => by rw [OpenClaim.pre_eq_preRow]; exact chunkLooks_lifted os started H enc F0)

theorem cl_text : Rows.chunkLooksRow.wfByText (OpenSpec.ofChange Rows.chunkLooksSpec) = true := by kernel_rfl
theorem cl_goes : false = Rows.chunkLooksRow.goesBy Tryd.pinned.checked.prog := by kernel_rfl
theorem cl_stand50 : Tryd.prog.wantsStandIn 50 = false := by kernel_rfl
theorem cl_stand3 : Tryd.prog.wantsStandIn 3 = false := by kernel_rfl
theorem chunkLooks_holds : Rows.ChunkLooksCardSaid :=
  Claim7.holds_tied_plain_at .later [] [.data, .pinned] true (true, "966f1954de8a40f6c8b706870ccb74a6a1949f7358d105c82c1d61f20c05dc41") false
    chunkLooks_row (fun _ h => by cases h) cl_text (fun _ h => by cases h) chunkLooks_row_tie rfl ⟨rfl, rfl⟩ seat_main rfl
    (fun f fn hf hfn => by
      obtain rfl : f = 5 := Option.some.inj (cl_named.symm.trans hf) |>.symm
      obtain rfl : fn = Tryd.f5 := (Option.some.inj (Tryd.func5.symm.trans hfn)).symm
      exact ⟨seat_looks, fun j t ht => by
        rw [Tryd.params5] at ht
        have h3 : t = 50 ∨ t = 3 := by
          rcases j with _ | _ | _ | j
          · left; simpa using ht.symm
          · right; simpa using ht.symm
          · right; simpa using ht.symm
          · simp at ht
        rcases h3 with rfl | rfl
        · exact cl_stand50
        · exact cl_stand3⟩)
    cl_goes
#print axioms chunkLooks_holds
end Go.Proofs.YtojocffjajcdmaaDoor
