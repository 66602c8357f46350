import Derived.Test.YtojocffjajcdmaaMP
import Derived.Test.YtojocffjajcdmaaRows
import Derived.ProofKit
import Derived.OpenShut
import Derived.JoinedCond
import Derived.ChangeSlices
import Derived.Deep.CondSized
namespace Go.Proofs.Ytojocffjajcdmaa
open Go.RowKit Go.Maps Go.Proofs.YtojocffjajcdmaaW.PrintWords Go.Proofs.YtojocffjajcdmaaW.PrintLast Go.Proofs.YtojocffjajcdmaaW.PrintMore PPostingsLists
set_option linter.unusedVariables false
set_option linter.unusedSimpArgs false

theorem own_has {N b : Nat} {w : World} {v : Value} {l : List Int} (h : KI.R 3 w b (fun _ => True) v l) (hw : WfL l) (hl : l.length ≤ N) : ∃ A c, v = .slice A l.length c ∧ Rs N w (A, c, l) := by
  obtain ⟨A, c, he, hc, hC⟩ := Kd.R_reads h
  exact ⟨A, c, he, hC, hc, hw, hl⟩
theorem made_R (w : World) (base : Nat) (hb : base ≤ w.heap.size) : KI.R 3 (w.alloc (.cells #[] 3)) base (fun _ => True) (.slice (some ⟨w.heap.size, 0, none⟩) 0 0) [] :=
  Kd.R_of_own (h1 := fun _ => rfl) (ok := fun _ => True) (own_made' hb rfl) (fun _ _ => trivial)

set_option maxHeartbeats 4000000 in
set_option maxRecDepth 100000 in
theorem lists_any (A B : Option Addr) (ca cb : Nat) (a b : List Int) (w : World) (ha : Rs 1048576 w (A, ca, a)) (hb : Rs 1048576 w (B, cb, b)) :
    Calls Try.prog 3 #[.slice A a.length ca, .slice B b.length cb] w (Bl true w) := by
  have hla := ha.len
  have hlb := hb.len
  simp only at hla hlb
  have hL0 : Has 1048576 w [(A, ca, a), (B, cb, b)] := fun t ht => by
    simp only [List.mem_cons, List.not_mem_nil, or_false] at ht
    rcases ht with rfl | rfl
    · exact ha
    · exact hb
  have HL0 := Lib.hid hL0
  obtain ⟨r, hr1, hr2⟩ := right_ex hL0 (by omega) (.head _)
  have HR1 := Lib.hid hr1
  have HR2 := Lib.hid hr2
  have HW1 := Lib.hid ha.wf
  have HW2 := Lib.hid hb.wf
  clear ha hb hL0 hr1 hr2
  go_enter Try.func3, Try.ntmps3
  go_wp2_with (first
    | ((with_reducible refine gate_dst (N := 10) rfl ?_); refine Kd.R_append_rows KI (w0 := w) w.heap.size rfl (.tmp 8) (.tmp 9) 22 3 (.int .i64 0) 8 rfl Try.underlying22 info3 rfl (by decide) (by omega) (.slice (some ⟨w.heap.size, 0, none⟩) 0 0) [] a _ _ _ (fun _ => True) (fun _ => False) rfl rfl (made_R w _ (Nat.le_refl _)) (HL0.out.below (below_alloc (Below.refl _ _) _) _ (.head _)).C (fun _ _ h => h) (fun _ h => h.elim) (fun _ _ => trivial) (below_alloc (Below.refl _ _) _) (by simp) (by simp only [List.length_nil]; omega) ?_
       intro v1 w1 ho1 hb1 hg1 hat1
       obtain ⟨A1, c1, rfl, hR1⟩ := own_has (N := 1048576) ho1 HW1.out (by simpa using hla)
       have HL1 := Lib.hid ((HL0.out.below hb1).cons hR1)
       have HB1 := Lib.hid hb1
       clear ho1 hb1 hg1 hat1 hR1
       simp only [List.nil_append] at *)
    | ((with_reducible refine gate_dst (N := 13) rfl ?_); refine Kd.R_append_rows KI (w0 := w1) w1.heap.size rfl (.tmp 11) (.tmp 12) 22 3 (.int .i64 0) 8 rfl Try.underlying22 info3 rfl (by decide) (by omega) (.slice (some ⟨w1.heap.size, 0, none⟩) 0 0) [] b _ _ _ (fun _ => True) (fun _ => False) rfl rfl (made_R w1 _ (Nat.le_refl _)) (HL1.out.below (below_alloc (Below.refl _ _) _) _ (.tail _ (.tail _ (.head _)))).C (fun _ _ h => h) (fun _ h => h.elim) (fun _ _ => trivial) (below_alloc (Below.refl _ _) _) (by simp) (by simp only [List.length_nil]; omega) ?_
       intro v2 w2 ho2 hb2 hg2 hat2
       obtain ⟨A2, c2, rfl, hR2⟩ := own_has (N := 1048576) ho2 HW2.out (by simpa using hlb)
       have HL2 := Lib.hid ((HL1.out.below hb2).cons hR2)
       have HB2 := Lib.hid (bel HB1.out hb2)
       clear ho2 hb2 hg2 hat2 hR2
       simp only [List.nil_append] at *)
    | (go_at_call 6; (with_reducible refine (right_any A1 c1 a r HR2.out HL2.out (List.mem_cons_of_mem _ List.mem_cons_self)).mono ?_); rintro e w3 ⟨rfl, hl, hb⟩; have HL3 := Lib.hid hl; have HB3 := Lib.hid (bel HB2.out hb); clear hl hb)
    | (go_at_call 7; (with_reducible refine (rright_any A ca a r HR1.out HL3.out (List.mem_cons_of_mem _ (List.mem_cons_of_mem _ List.mem_cons_self))).mono ?_); rintro e w4 ⟨rfl, hl, hb⟩; have HL4 := Lib.hid hl; have HB4 := Lib.hid (bel HB3.out hb); clear hl hb)
    | (go_at_call 9; (with_reducible refine (and_any A1 A2 c1 c2 a b HL4.out (by omega) (List.mem_cons_of_mem _ List.mem_cons_self) List.mem_cons_self).mono ?_); rintro e w5 ⟨A5, c5, r5, rfl, hp, hl, hb⟩; have HP5 := Lib.hid hp; have HL5 := Lib.hid hl; have HB5 := Lib.hid (bel HB4.out hb); clear hp hl hb)
    | (go_at_call 10; (with_reducible refine (rand_has A B ca cb a b HL5.out (by omega) (by omega) (List.mem_cons_of_mem _ (List.mem_cons_of_mem _ (List.mem_cons_of_mem _ List.mem_cons_self))) (List.mem_cons_of_mem _ (List.mem_cons_of_mem _ (List.mem_cons_of_mem _ (List.mem_cons_of_mem _ List.mem_cons_self))))).mono ?_); rintro e w6 ⟨A6, c6, r6, rfl, hp, hl, hb⟩; have HP6 := Lib.hid (pick_unique HP5.out hp); have HL6 := Lib.hid hl; have HB6 := Lib.hid (bel HB5.out hb); clear hp hl hb)
    | (go_at_call 8; (with_reducible refine (ints_any A5 A6 c5 c6 r5 r6 HL6.out (by omega) (List.mem_cons_of_mem _ List.mem_cons_self) List.mem_cons_self).mono ?_); rintro e w7 ⟨rfl, hl, hb⟩; rw [decide_eq_true HP6.out]; have HL7 := Lib.hid hl; have HB7 := Lib.hid (bel HB6.out hb); clear hl hb)
    | (go_at_call 11; (with_reducible refine (or_any A1 A2 c1 c2 a b HL7.out (by omega) (List.mem_cons_of_mem _ (List.mem_cons_of_mem _ (List.mem_cons_of_mem _ List.mem_cons_self))) (List.mem_cons_of_mem _ (List.mem_cons_of_mem _ List.mem_cons_self))).mono ?_); rintro e w8 ⟨A8, c8, r8, rfl, hp, hl, hb⟩; have HP8 := Lib.hid hp; have HL8 := Lib.hid hl; have HB8 := Lib.hid (bel HB7.out hb); clear hp hl hb)
    | (go_at_call 12; (with_reducible refine (ror_has A B ca cb a b HL8.out (by omega) (by omega) (List.mem_cons_of_mem _ (List.mem_cons_of_mem _ (List.mem_cons_of_mem _ (List.mem_cons_of_mem _ (List.mem_cons_of_mem _ List.mem_cons_self))))) (List.mem_cons_of_mem _ (List.mem_cons_of_mem _ (List.mem_cons_of_mem _ (List.mem_cons_of_mem _ (List.mem_cons_of_mem _ (List.mem_cons_of_mem _ List.mem_cons_self))))))).mono ?_); rintro e w9 ⟨A9, c9, r9, rfl, hp, hl, hb⟩; have HP9 := Lib.hid (pick_unique HP8.out hp); have HL9 := Lib.hid hl; have HB9 := Lib.hid (bel HB8.out hb); clear hp hl hb)
    | (go_at_call 8; (with_reducible refine (ints_any A8 A9 c8 c9 r8 r9 HL9.out (by omega) (List.mem_cons_of_mem _ List.mem_cons_self) List.mem_cons_self).mono ?_); rintro e w10 ⟨rfl, hl, hb⟩; rw [decide_eq_true HP9.out]; have HL10 := Lib.hid hl; have HB10 := Lib.hid (bel HB9.out hb); clear hl hb)
    | (go_at_call 13; (with_reducible refine (not_any A1 A2 c1 c2 a b HL10.out (by omega) (List.mem_cons_of_mem _ (List.mem_cons_of_mem _ (List.mem_cons_of_mem _ (List.mem_cons_of_mem _ (List.mem_cons_of_mem _ List.mem_cons_self))))) (List.mem_cons_of_mem _ (List.mem_cons_of_mem _ (List.mem_cons_of_mem _ (List.mem_cons_of_mem _ List.mem_cons_self))))).mono ?_); rintro e w11 ⟨A11, c11, r11, rfl, hp, hl, hb⟩; have HP11 := Lib.hid hp; have HL11 := Lib.hid hl; have HB11 := Lib.hid (bel HB10.out hb); clear hp hl hb)
    | (go_at_call 14; (with_reducible refine (rnot_has A B ca cb a b HL11.out (by omega) (by omega) (List.mem_cons_of_mem _ (List.mem_cons_of_mem _ (List.mem_cons_of_mem _ (List.mem_cons_of_mem _ (List.mem_cons_of_mem _ (List.mem_cons_of_mem _ (List.mem_cons_of_mem _ List.mem_cons_self))))))) (List.mem_cons_of_mem _ (List.mem_cons_of_mem _ (List.mem_cons_of_mem _ (List.mem_cons_of_mem _ (List.mem_cons_of_mem _ (List.mem_cons_of_mem _ (List.mem_cons_of_mem _ (List.mem_cons_of_mem _ List.mem_cons_self))))))))).mono ?_); rintro e w12 ⟨A12, c12, r12, rfl, hp, hl, hb⟩; have HP12 := Lib.hid (pick_unique HP11.out hp); have HL12 := Lib.hid hl; have HB12 := Lib.hid (bel HB11.out hb); clear hp hl hb)
    | (go_at_call 8; (with_reducible refine (ints_any A11 A12 c11 c12 r11 r12 HL12.out (by omega) (List.mem_cons_of_mem _ List.mem_cons_self) List.mem_cons_self).mono ?_); rintro e w13 ⟨rfl, hl, hb⟩; rw [decide_eq_true HP12.out]; have HL13 := Lib.hid hl; have HB13 := Lib.hid (bel HB12.out hb); clear hl hb)
    | (go_at_call 8; (with_reducible refine (ints_any A1 A c1 ca a a HL13.out (by omega) (List.mem_cons_of_mem _ (List.mem_cons_of_mem _ (List.mem_cons_of_mem _ (List.mem_cons_of_mem _ (List.mem_cons_of_mem _ (List.mem_cons_of_mem _ (List.mem_cons_of_mem _ List.mem_cons_self))))))) (List.mem_cons_of_mem _ (List.mem_cons_of_mem _ (List.mem_cons_of_mem _ (List.mem_cons_of_mem _ (List.mem_cons_of_mem _ (List.mem_cons_of_mem _ (List.mem_cons_of_mem _ (List.mem_cons_of_mem _ List.mem_cons_self))))))))).mono ?_); rintro e w14 ⟨rfl, hl, hb⟩; rw [decide_eq_true rfl]; have HL14 := Lib.hid hl; have HB14 := Lib.hid (bel HB13.out hb); clear hl hb)
    | (go_at_call 8; (with_reducible refine (ints_any A2 B c2 cb b b HL14.out (by omega) (List.mem_cons_of_mem _ (List.mem_cons_of_mem _ (List.mem_cons_of_mem _ (List.mem_cons_of_mem _ (List.mem_cons_of_mem _ (List.mem_cons_of_mem _ List.mem_cons_self)))))) (List.mem_cons_of_mem _ (List.mem_cons_of_mem _ (List.mem_cons_of_mem _ (List.mem_cons_of_mem _ (List.mem_cons_of_mem _ (List.mem_cons_of_mem _ (List.mem_cons_of_mem _ (List.mem_cons_of_mem _ (List.mem_cons_of_mem _ List.mem_cons_self)))))))))).mono ?_); rintro e w15 ⟨rfl, hl, hb⟩; rw [decide_eq_true rfl]; have HB15 := Lib.hid (bel HB14.out hb); clear hl hb)
    | (go_at_call 15; (with_reducible refine (knows_any _).mono ?_); rintro e w16 ⟨rfl, hb⟩; have HB16 := Lib.hid (bel HB15.out hb); clear hb))
  go_ret
  exact ⟨rfl, HB16.out⟩
end Go.Proofs.Ytojocffjajcdmaa
namespace Go.Proofs.Ytojocffjajcdmaa
open Go.ChangeShapes Go.WideShapes Go.ChangeAt Go.RowKit Go.Proofs.YtojocffjajcdmaaW.PrintWords
set_option linter.unusedVariables false

/-- The arguments read behind the call as before, where below the old heap nothing has turned. -/
theorem args_stay {H : Type} {enc : TypeId × Value → H} {P : Program} (hl : laidOutB P = true) {W W' : World} {sp : Nat → Bool} (hb : Below W.heap.size W W') :
    ∀ {ts : List TypeId} {vs : List Value} {ds : List (DataW H)} {ps : List MemPlace}, (∀ t ∈ ts, P.readableRec t = true ∧ t < P.types.size) → (∀ x ∈ ps, x.block < W.heap.size ∧ sp x.block = true) →
      DataW.TrodAll enc P W 0 (fun _ => true) true ts vs ds ps → DataW.TrodAll enc P W' 0 sp true ts vs ds ps
  | [], vs, ds, ps, ht, hx, h => by
    obtain ⟨rfl, rfl, rfl⟩ := trodAll_nil h
    exact trodAll_mk0
  | t :: ts, vs, ds, ps, ht, hx, h => by
    obtain ⟨v, vs1, d, ds1, a, b, rfl, rfl, rfl, h1, h2⟩ := trodAll_cons h
    have h0 := ht t List.mem_cons_self
    refine ⟨a, b, WideElems.Trod_stays hl h0.1 h0.2 h1 (fun x hm => hb.same (hx x (List.mem_append_left _ hm)).1) (fun x hm => (hx x (List.mem_append_left _ hm)).2), args_stay hl hb (fun t' h' => ht t' (List.mem_cons_of_mem _ h')) (fun x hm => hx x (List.mem_append_right _ hm)) h2, rfl⟩

/-- What a law's row asks behind a call that answered true and turned nothing that was there. -/
theorem law_post {H : Type} {enc : TypeId × Value → H} {P : Program} {f : Func} {s : ChangeSpec} {W W' : World} {args : Array Value} {ds gs : List (DataW H)} {before : List MemPlace} {tb : TypeId}
    (hl : laidOutB P = true) (hW : DataW.Whole enc P f.params.toList s.vars false W args.toList ds gs before) (hv : s.vars = []) (hp : ∀ t ∈ f.params.toList, P.readableRec t = true ∧ t < P.types.size)
    (hb : Below W.heap.size W W') (hres : f.resultTypes = #[tb]) (htb : P.underlying tb = some .bool) (hfn : s.fn H (ds ++ gs) = { results := [.lit (.bool true)], args := ds }) :
    s.post enc P f false true false false W args (.bool true) W' := by
  have hlt := fun x (hx : x ∈ before) => hW.lt x hx
  have hW0 := hW
  obtain ⟨p, q, hA, hV, rfl, hfz, hnd⟩ := hW
  rw [hv] at hV
  obtain ⟨rfl, rfl⟩ := trodVars_none hV
  refine ⟨ds, [], p ++ [], [], p, [], hW0, ?_, ?_, ?_, World.keptBut_mono (fun x hx => ⟨hx, .inr (.inl (by simpa using hx))⟩) (hb.frame (· ∈ p ++ [])), fun h => by cases h⟩
  · rw [hfn, hres]
    exact trodAll_mk1 (shut_bool htb true)
  · rw [hfn]
    exact args_stay hl hb hp (fun x hx => ⟨by simpa using hlt x (by simpa using hx), by simpa using hlt x (by simpa using hx)⟩) hA
  · rw [hfn, hv]
    rfl

theorem cells3 : Try.prog.cellsOf 3 = 1 := by kernel_rfl
theorem bulk_one {H : Type} (d : DataW H) : 1 ≤ Rows.uptoBulk d := by
  cases d with
  | lit l => cases l <;> simp [Rows.uptoBulk]
  | _ => simp [Rows.uptoBulk]
theorem bulk_length {H : Type} (l : List (DataW H)) : l.length ≤ Rows.uptoBulkAll l := by
  induction l with
  | nil => simp
  | cons x r ih => have := bulk_one x; simp only [Rows.uptoBulkAll, List.length_cons]; omega
section
variable {H : Type} {enc : TypeId × Value → H} {w : World} {held : Bool}
/-- A list of numbers read. -/
theorem open_il {n : Nat} {v : Value} {x : DataW H × List MemPlace} (h : DataW.trod enc Try.prog w 0 (fun _ => true) held n 22 [v] = some x) :
    ∃ (A : Option Addr) (c : Nat) (l : List Int), v = .slice A l.length c ∧ ∀ N, Rows.uptoBulk x.1 ≤ N → Rs N w (A, c, l) := by
  rcases open_ints Try.underlying22 Try.underlying3 cells3 h with ⟨hcs, hx⟩ | ⟨a, len, cap, zs, hcs, _, hl, hm, hlen, hx, hcell, hwf⟩
  · injection hcs with hcs
    subst hcs
    exact ⟨none, 0, [], rfl, fun N hN => ⟨Kd.C_nil _ _, Nat.le_refl _, fun x hx => by simp at hx, by simp⟩⟩
  · injection hcs with hcs
    subst hcs
    simp only [if_true] at hlen
    have hz : (zs.take len).length = len := by rw [List.length_take]; omega
    refine ⟨some a, cap, zs.take len, by rw [hz], fun N hN => ⟨?_, by simp only; omega, fun y hy => ?_, ?_⟩⟩
    · refine Kd.C_of_reads (enc := Value.int .i64) (d := (0 : Int)) (h1 := fun _ => rfl) ⟨rfl, by simp only [hz]; unfold maxLen at hm; omega, fun hp => ⟨a, rfl, fun j hj => ?_⟩⟩
      simp only [hz] at hj
      rw [hcell j (by omega)]
      congr 2
      simp [List.getD_eq_getElem?_getD, List.getElem?_take, hj]
    · have h1 := hwf y (List.mem_of_mem_take hy)
      have e1 : IntKind.i64.min = -9223372036854775808 := rfl
      have e2 : IntKind.i64.max = 9223372036854775807 := rfl
      simp [Lit.wf, e1, e2] at h1
      exact h1
    · subst hx
      simp only [Rows.uptoBulk] at hN
      have h1 := bulk_length (lits (H := H) .i64 (zs.take len))
      have h2 : (lits (H := H) .i64 (zs.take len)).length = len := by unfold lits; rw [List.length_map, hz]
      simp only [hz]
      omega
end
theorem ownKnob_none : ownKnob Try.prog.godebug = none := by kernel_rfl
theorem laidOut : laidOutB Try.prog = true := by kernel_rfl
end Go.Proofs.Ytojocffjajcdmaa
