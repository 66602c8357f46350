/- The law MergeBoth answers true for every list of entries, and every way to deal them, and every argument reads behind the call as before. No condition. -/
import Derived.Test.YtjfggmkfnofldaaT2
import Derived.Test.YtjfggmkfnofldaaO3
namespace Go.Proofs.Ytjfggmkfnofldaa
open Go.ChangeShapes Go.WideShapes Go.ChangeAt Go.RowKit
set_option linter.unusedVariables false

theorem ownKnob_none : ownKnob Try.prog.godebug = none := by kernel_rfl
theorem laidOut : laidOutB Try.prog = true := by kernel_rfl
theorem aok_of {w : World} {A : Option Addr} {es : List Ent} {xs : List AEnt} (h : RowA w A es xs) (k : ∀ e ∈ es, EntOk w e) : ∀ a ∈ xs, AOk a := by
  intro a ha
  obtain ⟨i, hi, rfl⟩ := List.getElem_of_mem ha
  have hi2 : i < es.length := by rw [h.len]; exact hi
  have h1 := h.ents i hi2 hi
  have h2 := k _ (List.getElem_mem hi2)
  exact ⟨by rw [← h1.s]; exact h2.1, by rw [← h1.t]; exact h2.2.1⟩

set_option maxRecDepth 100000 in
theorem mergeBoth_lifted (os : Os) (started : os.Started) (H : Type) (enc : TypeId × Value → H) :
    ReturnsInHanded {} Try.checked os 10 .any (Rows.mergeBothSpec.pre6 enc Try.prog Try.f10 Rows.mergeBothRow.domain false) (Rows.mergeBothSpec.post enc Try.prog Try.f10 false true false false) := by
  refine returnsInHanded_of_change_sized (C := Try.checked) ownKnob_none started (by kernel_rfl) Try.func10
    (ChangeSpec.witness6 (enc := enc) (C := Try.checked) false ⟨#[], #[.slice none 0 0, .slice none 0 0], []⟩ 8 (by kernel_rfl) (by kernel_rfl) (by kernel_rfl) (by kernel_rfl)) ?_
  intro W base args ds gs before hval0 hW hcnd hsz0 _
  have hval : ∀ (j : Nat) t v, Try.f10.params[j]? = some t → args[j]? = some v → Value.okWide Try.prog W .any base t v := hval0
  have hsz : (DataW.weightsEach Try.prog (Try.f10.params.toList ++ Rows.mergeBothSpec.plain.varTypes Try.prog) (ds ++ gs)).all (· ≤ reachBytes) = true := hsz0
  have hW' := hW
  obtain ⟨p, q, hA0, hV, rfl, hfz, hnd⟩ := hW
  have hA : DataW.TrodAll enc Try.prog W 0 (fun _ => true) true Try.f10.params.toList args.toList ds p := hA0
  rw [Try.params10] at hA hval hsz
  obtain ⟨v0, v1, d0, d1, p0, p1, rfl, rfl, rfl, h0, h1⟩ := trodAll_two hA
  obtain ⟨rfl, rfl⟩ := trodVars_none hV
  obtain ⟨a0, len, cap, rfl⟩ := okWide_slice Try.underlying24 (hval 0 24 v0 rfl rfl)
  obtain ⟨fuel, hf⟩ := h0
  obtain ⟨a1, len1, cap1, rfl⟩ := okWide_slice Try.underlying37 (hval 1 37 v1 rfl rfl)
  obtain ⟨fuel1, hf1⟩ := h1
  have hz : ∀ k ∈ d0.weights Try.prog 24, k ≤ reachBytes := fun k hk => by
    have := List.all_eq_true.1 hsz k (DataW.weights_mem_each (j := 0) rfl rfl k hk)
    simpa using this
  obtain ⟨A, c, es, xs, hv, hr, hok, _, _, hs, _⟩ := open_ents (x := (d0, p0)) hf hz
  obtain ⟨B, d, ts, hv1, hto, htw, _, _, htl⟩ := open_ilist (x := (d1, p1)) hf1
  rw [hv, hv1]
  refine (mergeBoth_any A c es xs B d ts W hr (aok_of hr hok) hto htw htl).mono fun e W' ⟨he, hb⟩ => ?_
  subst he
  rw [← hv, ← hv1]
  exact ⟨_, rfl, law_post (tb := 4) laidOut hW' rfl (fun t ht => by
    rw [Try.params10] at ht
    simp at ht
    rcases ht with rfl | rfl
    · exact ⟨by kernel_rfl, of_decide_eq_true (by kernel_rfl)⟩
    · exact ⟨by kernel_rfl, of_decide_eq_true (by kernel_rfl)⟩) hb (by kernel_rfl) Try.underlying4 rfl⟩

theorem mergeBoth_holds : Rows.MergeBothSaid :=
  OpenClaim.holds_of_wide 10 Try.f10 rfl rfl rfl rfl rfl rfl rfl ⟨rfl, rfl, rfl, rfl, rfl⟩ rfl rfl rfl rfl rfl (by kernel_rfl) Try.func10 (by kernel_rfl)
    (of_decide_eq_true (by kernel_rfl)) (by unfold Func.isWrapper; first | (rw [if_pos (by decide +kernel)]; kernel_rfl) | (rw [if_neg (by decide +kernel)]; exact ⟨rfl, rfl⟩))
    (fun os started H enc _ => mergeBoth_lifted os started H enc)
end Go.Proofs.Ytjfggmkfnofldaa
