/- The law ChunkBytes answers true for every chunk and all bytes, and the arguments read behind the call as before. No condition. -/
import Derived.Test.YtojocffjajcdmaaDoorKD
import Derived.Test.YtojocffjajcdmaaDoorKM
import Derived.Test.YtojocffjajcdmaaDoorKO
import Derived.Test.YtojocffjajcdmaaDoorChunkBytesF
import Derived.Test.YtojocffjajcdmaaDoorRG
namespace Go.Proofs.YtojocffjajcdmaaDoor
open Go.Shelf Go.ChangeShapes Go.WideShapes Go.ChangeAt Go.RowKit Go.Lib Go.Proofs.YtojocffjajcdmaaDoor.RF
set_option linter.unusedVariables false

theorem chunkBytes_witness (os : Os) {H : Type} (enc : TypeId × Value → H) :
    (OpenSpec.ofChange Rows.chunkBytesSpec).preRow enc Tryd.prog Tryd.f12 Rows.chunkBytesRow.domain false Rows.chunkBytesRow.laid ((laidWorld os).forCall (fun _ _ => 0) ⟨#[], #[.agg #[.slice none 0 0, .slice none 0 0], .slice none 0 0], []⟩).memory #[.agg #[.slice none 0 0, .slice none 0 0], .slice none 0 0] := by
  have hw : (DataW.whole enc Tryd.prog ((laidWorld os).forCall (fun _ _ => 0) ⟨#[], #[.agg #[.slice none 0 0, .slice none 0 0], .slice none 0 0], []⟩).memory Tryd.f12.params.toList (OpenSpec.ofChange Rows.chunkBytesSpec).vars false (#[Value.agg #[.slice none 0 0, .slice none 0 0], Value.slice none 0 0]).toList 8).map (fun x => (x.1, x.2.1)) =
      some ([.agg [.nil, .nil], .nil], []) := by kernel_rfl
  obtain ⟨⟨x1, x2, x3⟩, hx, hx1⟩ := Option.map_eq_some_iff.1 hw
  simp only [Prod.mk.injEq] at hx1
  obtain ⟨rfl, rfl⟩ := hx1
  exact OpenSpec.preRow_of_cond 8 hx (by kernel_rfl) (fun k hk => by cases hk) (by kernel_rfl) (laid_met os _)

set_option maxRecDepth 100000 in
set_option maxHeartbeats 2000000 in
theorem chunkBytes_lifted (os : Os) (started : os.Started) (H : Type) (enc : TypeId × Value → H) (F : Stop.Interp) :
    ReturnsInHanded {} Tryd.checked os 12 .any ((OpenSpec.ofChange Rows.chunkBytesSpec).preRow enc Tryd.prog Tryd.f12 Rows.chunkBytesRow.domain false Rows.chunkBytesRow.laid) (((OpenSpec.ofChange Rows.chunkBytesSpec).at F).post enc Tryd.prog Tryd.f12 false true false false) := by
  refine returnsInHanded_of_row (C := Tryd.checked) (s := OpenSpec.ofChange Rows.chunkBytesSpec) ownKnob_none started (by kernel_rfl) Tryd.func12
    (witness_row_atRef (enc := enc) (C := Tryd.checked) false (laidWorld os) #[.agg #[.slice none 0 0, .slice none 0 0], .slice none 0 0] rfl (by kernel_rfl) (by kernel_rfl) (by kernel_rfl) (chunkBytes_witness os enc)) ?_
  intro W base args ds gs before hval0 hW _ _ hsz0 hL _ _
  have hval : ∀ (j : Nat) t v, Tryd.f12.params[j]? = some t → args[j]? = some v → Value.okWide Tryd.prog W .any base t v := hval0
  have hsz : (DataW.weightsEach Tryd.prog (Tryd.f12.params.toList ++ (OpenSpec.ofChange Rows.chunkBytesSpec).bare.plain.varTypes Tryd.prog) (ds ++ gs)).all (· ≤ reachBytes) = true := hsz0
  have hW' := hW
  obtain ⟨p, q, hA0, hV0, rfl, _, _⟩ := hW
  have hA : DataW.TrodAll enc Tryd.prog W 0 (fun _ => true) true Tryd.f12.params.toList args.toList ds p := hA0
  rw [Tryd.params12] at hA hval hsz
  obtain ⟨v0, v1, d0, d1, p0, p1, rfl, rfl, rfl, h0, h1⟩ := trodAll_two hA
  obtain ⟨rfl, rfl⟩ := trodVars_none hV0
  obtain ⟨a1, len1, cap1, rfl⟩ := okWide_slice Tryd.underlying23 (hval 1 23 v1 rfl rfl)
  have hz1 : ∀ k ∈ d1.weights Tryd.prog 23, k ≤ reachBytes := fun k hk => by
    have := List.all_eq_true.1 hsz k (DataW.weights_mem_each (j := 1) rfl rfl k hk)
    simpa using this
  obtain ⟨fuel1, hf1⟩ := h1
  obtain ⟨B, cb, bs, hvb, hrb, hcb, hlb, hB⟩ := open_bytes (x := (d1, p1)) hf1 hz1
  have hre : reachBytes = 140737488351232 := rfl
  have hz : ∀ k ∈ d0.weights Tryd.prog 50, k ≤ reachBytes := fun k hk => by
    have := List.all_eq_true.1 hsz k (DataW.weights_mem_each (j := 0) rfl rfl k hk)
    simpa using this
  obtain ⟨A1, c1, ls, A2, c2, rows, hv, hL1, hc1, hn1, hsz1, hR2, hc2, hn2, hw0, hw1, hA1, hA2⟩ := open_chunk (hval 0 50 v0 rfl rfl) h0 hz
  rw [hv, hvb]
  refine (cbytes_any A1 c1 ls A2 c2 rows B cb bs W (tabs_of hL) hn1 hn2 hsz1 hL1 hc1 hR2 hc2 hw0 hrb (by omega) hB).mono fun e W' ⟨he, hb⟩ => ?_
  subst he
  rw [← hv, ← hvb]
  exact ⟨_, rfl, law_post (tb := 4) laidOut hW' rfl (fun t ht => by
    rw [Tryd.params12] at ht
    simp at ht
    rcases ht with rfl | rfl
    · exact ⟨by kernel_rfl, of_decide_eq_true (by kernel_rfl)⟩
    · exact ⟨by kernel_rfl, of_decide_eq_true (by kernel_rfl)⟩) hb (by kernel_rfl) Tryd.underlying4 rfl⟩

theorem chunkBytes_row : Rows.ChunkBytesSaid :=
  OpenClaim.holds_of_cond 12 Tryd.f12 rfl rfl rfl rfl rfl rfl rfl ⟨rfl, rfl, rfl, rfl, rfl⟩ rfl rfl rfl rfl rfl cby_named Tryd.func12 cby_facts
    cby_inst cby_wrap
    (fun os started H enc _ F0 => by rw [OpenClaim.pre_eq_preRow]; exact chunkBytes_lifted os started H enc F0)

theorem cby_text : Rows.chunkBytesRow.wfByText (OpenSpec.ofChange Rows.chunkBytesSpec) = true := by kernel_rfl
theorem cby_goes : false = Rows.chunkBytesRow.goesBy Tryd.pinned.checked.prog := by kernel_rfl
theorem cby_stand50 : Tryd.prog.wantsStandIn 50 = false := by kernel_rfl
theorem cby_stand23 : Tryd.prog.wantsStandIn 23 = false := by kernel_rfl
theorem chunkBytes_holds : Rows.ChunkBytesCardSaid :=
  Claim7.holds_tied_plain_at .later [] [.data, .pinned] true (true, "966f1954de8a40f6c8b706870ccb74a6a1949f7358d105c82c1d61f20c05dc41") false
    chunkBytes_row (fun _ h => by cases h) cby_text (fun _ h => by cases h) chunkBytes_row_tie rfl ⟨rfl, rfl⟩ seat_main rfl
    (fun f fn hf hfn => by
      obtain rfl : f = 12 := Option.some.inj (cby_named.symm.trans hf) |>.symm
      obtain rfl : fn = Tryd.f12 := (Option.some.inj (Tryd.func12.symm.trans hfn)).symm
      exact ⟨seat_looks, fun j t ht => by
        rw [Tryd.params12] at ht
        have h3 : t = 50 ∨ t = 23 := by
          rcases j with _ | _ | j
          · left; simpa using ht.symm
          · right; simpa using ht.symm
          · simp at ht
        rcases h3 with rfl | rfl
        · exact cby_stand50
        · exact cby_stand23⟩)
    cby_goes
#print axioms chunkBytes_holds
end Go.Proofs.YtojocffjajcdmaaDoor
