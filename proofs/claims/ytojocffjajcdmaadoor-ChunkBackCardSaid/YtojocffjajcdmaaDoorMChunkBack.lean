/- The law ChunkBack answers true for every chunk, and the argument reads behind the call as before. No condition. -/
import Derived.Test.YtojocffjajcdmaaDoorMD
import Derived.Test.YtojocffjajcdmaaDoorMBK
import Derived.Test.YtojocffjajcdmaaDoorMO
import Derived.Test.YtojocffjajcdmaaDoorChunkBackF
import Derived.Test.YtojocffjajcdmaaDoorRG
namespace Go.Proofs.YtojocffjajcdmaaDoor
open Go.Shelf Go.ChangeShapes Go.WideShapes Go.ChangeAt Go.RowKit Go.Lib Go.Proofs.YtojocffjajcdmaaDoor.RF
set_option linter.unusedVariables false

theorem chunkBack_witness (os : Os) {H : Type} (enc : TypeId × Value → H) :
    (OpenSpec.ofChange Rows.chunkBackSpec).preRow enc Tryd.prog Tryd.f13 Rows.chunkBackRow.domain false Rows.chunkBackRow.laid ((laidWorld os).forCall (fun _ _ => 0) ⟨#[], #[.agg #[.slice none 0 0, .slice none 0 0]], []⟩).memory #[.agg #[.slice none 0 0, .slice none 0 0]] := by
  have hw : (DataW.whole enc Tryd.prog ((laidWorld os).forCall (fun _ _ => 0) ⟨#[], #[.agg #[.slice none 0 0, .slice none 0 0]], []⟩).memory Tryd.f13.params.toList (OpenSpec.ofChange Rows.chunkBackSpec).vars false (#[Value.agg #[.slice none 0 0, .slice none 0 0]]).toList 8).map (fun x => (x.1, x.2.1)) =
      some ([.agg [.nil, .nil]], []) := by kernel_rfl
  obtain ⟨⟨x1, x2, x3⟩, hx, hx1⟩ := Option.map_eq_some_iff.1 hw
  simp only [Prod.mk.injEq] at hx1
  obtain ⟨rfl, rfl⟩ := hx1
  exact OpenSpec.preRow_of_cond 8 hx (by kernel_rfl) (fun k hk => by cases hk) (by kernel_rfl) (laid_met os _)

set_option maxRecDepth 100000 in
set_option maxHeartbeats 2000000 in
theorem chunkBack_lifted (os : Os) (started : os.Started) (H : Type) (enc : TypeId × Value → H) (F : Stop.Interp) :
    ReturnsInHanded {} Tryd.checked os 13 .any ((OpenSpec.ofChange Rows.chunkBackSpec).preRow enc Tryd.prog Tryd.f13 Rows.chunkBackRow.domain false Rows.chunkBackRow.laid) (((OpenSpec.ofChange Rows.chunkBackSpec).at F).post enc Tryd.prog Tryd.f13 false true false false) := by
  refine returnsInHanded_of_row (C := Tryd.checked) (s := OpenSpec.ofChange Rows.chunkBackSpec) ownKnob_none started (by kernel_rfl) Tryd.func13
    (witness_row_atRef (enc := enc) (C := Tryd.checked) false (laidWorld os) #[.agg #[.slice none 0 0, .slice none 0 0]] rfl (by kernel_rfl) (by kernel_rfl) (by kernel_rfl) (chunkBack_witness os enc)) ?_
  intro W base args ds gs before hval0 hW _ _ hsz0 hL _ _
  have hval : ∀ (j : Nat) t v, Tryd.f13.params[j]? = some t → args[j]? = some v → Value.okWide Tryd.prog W .any base t v := hval0
  have hsz : (DataW.weightsEach Tryd.prog (Tryd.f13.params.toList ++ (OpenSpec.ofChange Rows.chunkBackSpec).bare.plain.varTypes Tryd.prog) (ds ++ gs)).all (· ≤ reachBytes) = true := hsz0
  have hW' := hW
  obtain ⟨p, q, hA0, hV0, rfl, _, _⟩ := hW
  have hA : DataW.TrodAll enc Tryd.prog W 0 (fun _ => true) true Tryd.f13.params.toList args.toList ds p := hA0
  rw [Tryd.params13] at hA hval hsz
  obtain ⟨v0, d0, rfl, rfl, h0⟩ := trodAll_one hA
  obtain ⟨rfl, rfl⟩ := trodVars_none hV0

  have hz : ∀ k ∈ d0.weights Tryd.prog 50, k ≤ reachBytes := fun k hk => by
    have := List.all_eq_true.1 hsz k (DataW.weights_mem_each (j := 0) rfl rfl k hk)
    simpa using this
  obtain ⟨A1, c1, ls, A2, c2, rows, hv, hL1, hc1, hn1, hsz1, hR2, hc2, hn2, hw0, hw1, hA1, hA2⟩ := open_chunk (hval 0 50 v0 rfl rfl) h0 hz
  rw [hv]
  refine (cback_any A1 c1 ls A2 c2 rows W (tabs_of hL) hn1 hn2 hsz1 hL1 hc1 hR2 hc2 hw0).mono fun e W' ⟨he, hb⟩ => ?_
  subst he
  rw [← hv]
  exact ⟨_, rfl, law_post (tb := 4) laidOut hW' rfl (fun t ht => by
    rw [Tryd.params13] at ht
    simp at ht
    subst ht
    exact ⟨by kernel_rfl, of_decide_eq_true (by kernel_rfl)⟩) hb (by kernel_rfl) Tryd.underlying4 rfl⟩

theorem chunkBack_row : Rows.ChunkBackSaid :=
  OpenClaim.holds_of_cond 13 Tryd.f13 rfl rfl rfl rfl rfl rfl rfl ⟨rfl, rfl, rfl, rfl, rfl⟩ rfl rfl rfl rfl rfl cbk_named Tryd.func13 cbk_facts
    cbk_inst cbk_wrap
    (fun os started H enc _ F0 => by rw [OpenClaim.pre_eq_preRow]; exact chunkBack_lifted os started H enc F0)

theorem cbk_text : Rows.chunkBackRow.wfByText (OpenSpec.ofChange Rows.chunkBackSpec) = true := by kernel_rfl
theorem cbk_goes : false = Rows.chunkBackRow.goesBy Tryd.pinned.checked.prog := by kernel_rfl
theorem cbk_stand50 : Tryd.prog.wantsStandIn 50 = false := by kernel_rfl
theorem chunkBack_holds : Rows.ChunkBackCardSaid :=
  Claim7.holds_tied_plain_at .later [] [.data, .pinned] true (true, "966f1954de8a40f6c8b706870ccb74a6a1949f7358d105c82c1d61f20c05dc41") false
    chunkBack_row (fun _ h => by cases h) cbk_text (fun _ h => by cases h) chunkBack_row_tie rfl ⟨rfl, rfl⟩ seat_main rfl
    (fun f fn hf hfn => by
      obtain rfl : f = 13 := Option.some.inj (cbk_named.symm.trans hf) |>.symm
      obtain rfl : fn = Tryd.f13 := (Option.some.inj (Tryd.func13.symm.trans hfn)).symm
      exact ⟨seat_looks, fun j t ht => by
        rw [Tryd.params13] at ht
        have h3 : t = 50 := by
          rcases j with _ | j
          · simpa using ht.symm
          · simp at ht
        subst h3
        exact cbk_stand50⟩)
    cbk_goes
#print axioms chunkBack_holds
end Go.Proofs.YtojocffjajcdmaaDoor
