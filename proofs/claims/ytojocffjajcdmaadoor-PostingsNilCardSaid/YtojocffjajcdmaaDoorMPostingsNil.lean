/- The law PostingsNil answers true for every operation, and the argument reads behind the call as before. No condition. -/
import Derived.Test.YtojocffjajcdmaaDoorMNB
import Derived.Test.YtojocffjajcdmaaDoorPostingsNilF
import Derived.Test.YtojocffjajcdmaaDoorRG
namespace Go.Proofs.YtojocffjajcdmaaDoor.PN
open Go.Shelf Go.ChangeShapes Go.WideShapes Go.ChangeAt Go.RowKit Go.Lib
set_option linter.unusedVariables false

theorem postingsNil_witness (os : Os) {H : Type} (enc : TypeId × Value → H) :
    (OpenSpec.ofChange Rows.postingsNilSpec).preRow enc Tryd.prog Tryd.f17 Rows.postingsNilRow.domain false Rows.postingsNilRow.laid ((laidWorld os).forCall (fun _ _ => 0) ⟨#[], #[.agg #[.int .i64 0, .int .i64 0, .slice none 0 0, .string ⟨#[]⟩, .string ⟨#[]⟩]], []⟩).memory #[.agg #[.int .i64 0, .int .i64 0, .slice none 0 0, .string ⟨#[]⟩, .string ⟨#[]⟩]] := by
  have hw : (DataW.whole enc Tryd.prog ((laidWorld os).forCall (fun _ _ => 0) ⟨#[], #[.agg #[.int .i64 0, .int .i64 0, .slice none 0 0, .string ⟨#[]⟩, .string ⟨#[]⟩]], []⟩).memory Tryd.f17.params.toList (OpenSpec.ofChange Rows.postingsNilSpec).vars false #[Value.agg #[.int .i64 0, .int .i64 0, .slice none 0 0, .string ⟨#[]⟩, .string ⟨#[]⟩]].toList 8).map (fun x => (x.1, x.2.1)) =
      some ([.agg [.lit (.int .i64 0), .lit (.int .i64 0), .nil, .lit (.string []), .lit (.string [])]], []) := by kernel_rfl
  obtain ⟨⟨x1, x2, x3⟩, hx, hx1⟩ := Option.map_eq_some_iff.1 hw
  simp only [Prod.mk.injEq] at hx1
  obtain ⟨rfl, rfl⟩ := hx1
  exact OpenSpec.preRow_of_cond 8 hx (by kernel_rfl) (fun k hk => by cases hk) (by kernel_rfl) (laid_met os _)

set_option maxRecDepth 100000 in
set_option maxHeartbeats 2000000 in
theorem postingsNil_lifted (os : Os) (started : os.Started) (H : Type) (enc : TypeId × Value → H) (F : Stop.Interp) :
    ReturnsInHanded {} Tryd.checked os 17 .any ((OpenSpec.ofChange Rows.postingsNilSpec).preRow enc Tryd.prog Tryd.f17 Rows.postingsNilRow.domain false Rows.postingsNilRow.laid) (((OpenSpec.ofChange Rows.postingsNilSpec).at F).post enc Tryd.prog Tryd.f17 false true false false) := by
  refine returnsInHanded_of_row (C := Tryd.checked) (s := OpenSpec.ofChange Rows.postingsNilSpec) ownKnob_none started (by kernel_rfl) Tryd.func17
    (witness_row_atRef (enc := enc) (C := Tryd.checked) false (laidWorld os) #[.agg #[.int .i64 0, .int .i64 0, .slice none 0 0, .string ⟨#[]⟩, .string ⟨#[]⟩]] rfl (by kernel_rfl) (by kernel_rfl) (by kernel_rfl) (postingsNil_witness os enc)) ?_
  intro W base args ds gs before hval0 hW _ _ hsz0 hL _ _
  have hval : ∀ (j : Nat) t v, Tryd.f17.params[j]? = some t → args[j]? = some v → Value.okWide Tryd.prog W .any base t v := hval0
  have hsz : (DataW.weightsEach Tryd.prog (Tryd.f17.params.toList ++ (OpenSpec.ofChange Rows.postingsNilSpec).bare.plain.varTypes Tryd.prog) (ds ++ gs)).all (· ≤ reachBytes) = true := hsz0
  have hW' := hW
  obtain ⟨p, q, hA0, hV0, rfl, _, _⟩ := hW
  have hA : DataW.TrodAll enc Tryd.prog W 0 (fun _ => true) true Tryd.f17.params.toList args.toList ds p := hA0
  rw [Tryd.params17] at hA hval hsz
  obtain ⟨v0, d0, rfl, rfl, h0⟩ := trodAll_one hA
  obtain ⟨rfl, rfl⟩ := trodVars_none hV0
  obtain ⟨kd, id, A, n, c, nm, vl, hv⟩ := open_op (hval 0 102 v0 rfl rfl) h0
  rw [hv]
  refine (nil_any kd id A n c nm vl W).mono fun e W' ⟨he, hb⟩ => ?_
  subst he
  rw [← hv]
  exact ⟨_, rfl, law_post (tb := 4) laidOut hW' rfl (fun t ht => by
    rw [Tryd.params17] at ht
    simp at ht
    subst ht
    exact ⟨by kernel_rfl, of_decide_eq_true (by kernel_rfl)⟩) hb (by kernel_rfl) Tryd.underlying4 rfl⟩

theorem postingsNil_row : Rows.PostingsNilSaid :=
  OpenClaim.holds_of_cond 17 Tryd.f17 rfl rfl rfl rfl rfl rfl rfl ⟨rfl, rfl, rfl, rfl, rfl⟩ rfl rfl rfl rfl rfl pn_named Tryd.func17 pn_facts
    pn_inst pn_wrap
    (fun os started H enc _ F0 => by rw [OpenClaim.pre_eq_preRow]; exact postingsNil_lifted os started H enc F0)

theorem pn_text : Rows.postingsNilRow.wfByText (OpenSpec.ofChange Rows.postingsNilSpec) = true := by kernel_rfl
theorem stand102 : Tryd.prog.wantsStandIn 102 = false := by kernel_rfl
theorem pn_goes : false = Rows.postingsNilRow.goesBy Tryd.pinned.checked.prog := by kernel_rfl
theorem postingsNil_holds : Rows.PostingsNilCardSaid :=
  Claim7.holds_tied_plain_at .later [] [.data, .pinned] true (true, "966f1954de8a40f6c8b706870ccb74a6a1949f7358d105c82c1d61f20c05dc41") false
    postingsNil_row (fun _ h => by cases h) pn_text (fun _ h => by cases h) postingsNil_row_tie rfl ⟨rfl, rfl⟩ seat_main rfl
    (fun f fn hf hfn => by
      obtain rfl : f = 17 := Option.some.inj (pn_named.symm.trans hf) |>.symm
      obtain rfl : fn = Tryd.f17 := (Option.some.inj (Tryd.func17.symm.trans hfn)).symm
      exact ⟨seat_looks, fun j t ht => by
        rw [Tryd.params17] at ht
        have h3 : t = 102 := by
          rcases j with _ | j
          · simpa using ht.symm
          · simp at ht
        subst h3
        exact stand102⟩)
    pn_goes
#print axioms postingsNil_holds
end Go.Proofs.YtojocffjajcdmaaDoor.PN
