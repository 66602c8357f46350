import Derived.Test.YtojocffjajcdmaaDoorR7
namespace Go.Proofs.YtojocffjajcdmaaDoor
open Go.RowKit Go.Proofs.YtojocffjajcdmaaDoorW.PrintWords Go.Proofs.YtojocffjajcdmaaDoorW.PrintLast Go.Proofs.YtojocffjajcdmaaDoorW.PrintMore PChunkAll
set_option linter.unusedVariables false
set_option linter.unusedSimpArgs false

def NumBelow (n : Int) (w : World) (e : Ending) (w' : World) : Prop := e = .returned (.int .i64 n) ∧ Below w.heap.size w w'
set_option maxHeartbeats 1000000 in
theorem size_any (x : S33) (A : Option Addr) (c : Nat) (w : World) (hT : Tabs w) (hr : Kd.C k112 w A x.f2.length x.f2) : Calls Tryd.prog 22 #[entA x A c] w (NumBelow ((putE x).1.length : Int) w) := by
  have hb0 : Below w.heap.size w (w.alloc (.cells (entC x A c) 33)) := below_alloc (Below.refl _ _) _
  have HP := Lib.hid (putE_any x A c _ (hT.below hb0) (Kd.C_alloc hr (.cells (entC x A c) 33)))
  obtain ⟨bs, hbs⟩ : ∃ b, b = (putE x).1 := ⟨_, rfl⟩
  obtain ⟨er, her⟩ : ∃ b, b = (putE x).2 := ⟨_, rfl⟩
  unfold PutRes at HP
  rw [← hbs, ← her] at HP
  rw [← hbs]
  have HB0 := Lib.hid hb0
  clear hT hr hbs her hb0
  go_enter Tryd.func22, Tryd.ntmps22
  go_wp2_with (first | (go_at_call 24; (with_reducible refine (HP.out).mono ?_); rintro e w2 ⟨v, rfl, ho, hb⟩; obtain ⟨Aa, qa, rfl⟩ := Kd.R_slice ho))
  go_ret
  exact ⟨rfl, below_then HB0.out HB0.out.size hb⟩

/-- Where entries lie. -/
def EntAt (w : World) (b o i : Nat) (x : S33) : Prop := ∃ A2 c2, w.cell? ⟨b, o + i * 4, none⟩ = some (.int .i64 x.f0) ∧ w.cell? ⟨b, o + i * 4 + 1, none⟩ = some (.int .i64 x.f1) ∧ w.cell? ⟨b, o + i * 4 + 2, none⟩ = some (.slice A2 x.f2.length c2) ∧ w.cell? ⟨b, o + i * 4 + 3, none⟩ = some (.string x.f3) ∧ x.f2.length ≤ c2 ∧ Kd.C k112 w A2 x.f2.length x.f2
theorem EntAt.below {w w' : World} {b o i : Nat} {x : S33} (h : EntAt w b o i x) (hb : Below w.heap.size w w') : EntAt w' b o i x := by
  obtain ⟨A2, c2, h0, h1, h2, h3, h4, h5⟩ := h
  exact ⟨A2, c2, pw_cell_below hb h0, pw_cell_below hb h1, pw_cell_below hb h2, pw_cell_below hb h3, h4, Kd.C_below h5 hb⟩
theorem ents_at {w : World} {A : Option Addr} {l : List S33} (h : Kd.C k33 w A l.length l) (hp : 0 < l.length) : ∃ b o, A = some ⟨b, o, none⟩ ∧ ∀ i, i < l.length → EntAt w b o i (l.getD i z33) := by
  obtain ⟨ad, A2, c2, e, h0, _⟩ := at_T33 h 0 (by omega) (by omega)
  have hsp := spot_none (a := ad) (by have h1 : ad.add ((0 : Int).toNat * 4) = ad := by { show ad.add 0 = ad; rfl }; rw [h1] at h0; exact h0)
  refine ⟨ad.block, ad.off, by rw [← hsp]; exact e, fun i hi => ?_⟩
  obtain ⟨ad', A2', c2', e', h0', h1', h2', h3', h4', h5'⟩ := at_T33 h (i : Int) (by omega) (by omega)
  rw [e] at e'
  injection e' with e'
  subst e'
  rw [hsp] at h0' h1' h2' h3'
  rw [addr_add] at h0' h1' h2' h3'
  exact ⟨A2', c2', h0', h1', h2', h3', h4', h5'⟩

/-- Entries whose numbers follow each other; p is the number ahead. -/
def folB (p : Option Int) (x : S33) : Bool := match p with
  | none => true
  | some q => x.f0 == q + 1
def entB (p : Option Int) (x : S33) : Bool := rightE x && folB p x
def entsB : Option Int → List S33 → Bool
  | _, [] => true
  | p, x :: l => entB p x && entsB (some x.f0) l
def batchB (l : List S33) : Bool := entsB none l && (decide (1 ≤ l.length) && decide (l.length ≤ 16))
def aheadE (l : List S33) (k : Nat) : Option Int := if k = 0 then none else some (l.getD (k - 1) z33).f0
theorem entsB_at (l : List S33) (k : Nat) (h : k < l.length) : entsB (aheadE l k) (l.drop k) = (entB (aheadE l k) (l.getD k z33) && entsB (aheadE l (k + 1)) (l.drop (k + 1))) := by
  rw [List.drop_eq_getElem_cons h, entsB]
  have e : l.getD k z33 = l[k] := by simp [h]
  have e2 : aheadE l (k + 1) = some l[k].f0 := by simp [aheadE, h]
  rw [e, e2]
theorem four_at (w : World) (x : S33) (A : Option Addr) (c i : Nat) (v : Value) (h : (entC x A c)[i]? = some v) : (w.alloc (.cells (entC x A c) 33)).cell? ⟨w.heap.size, i, none⟩ = some v := by
  rw [blk_cell (heap_alloc_new w _)]; exact h
def BatRel (l : List S33) (w : World) (v7 : Value) (wr : World) : Prop :=
  ∃ k : Nat, v7 = .int .i64 k ∧ k ≤ l.length ∧ entsB none l = entsB (aheadE l k) (l.drop k) ∧ Below w.heap.size w wr

set_option maxHeartbeats 4000000 in
theorem batch_any (A : Option Addr) (c : Nat) (l : List S33) (w : World) (hT : Tabs w) (hr : Kd.C k33 w A l.length l) (hseq : ∀ k, k < l.length → -9223372036854775808 ≤ (l.getD k z33).f0 ∧ (l.getD k z33).f0 ≤ 9223372036854775807) : Calls Tryd.prog 77 #[.slice A l.length c] w (BoolBelow (batchB l) w) := by
  have hmax := Kd.C_max hr
  have HR := Lib.hid hr
  have HT := Lib.hid hT
  have HSQ := Lib.hid hseq
  clear hr hT hseq
  go_enter Tryd.func77, Tryd.ntmps77
  go_wp2
  go_loopw [7] (fun v7 wr => BatRel l w v7 wr) (fun v7 _ => l.length - (intOf v7).toNat)
  case atStart => exact ⟨0, rfl, Nat.zero_le _, rfl, Below.refl _ _⟩
  case round =>
    obtain ⟨k, rfl, hk, heq, hb⟩ := hrel
    have HEQ := Lib.hid heq
    clear heq
    by_cases hlt : k < l.length
    · have hki : (k : Int) < (l.length : Int) := by omega
      obtain ⟨b, o, rfl, hx⟩ := ents_at HR.out (by omega)
      have HX := Lib.hid hx
      obtain ⟨A2, c2, hx0, hx1, hx2, hx3, hx4, hx5⟩ := (hx k hlt).below hb
      clear hx
      generalize hxe : l.getD k z33 = x at *
      go_wp2_with fail
      obtain ⟨W, hW⟩ : ∃ W, W = wr.alloc (.cells (entC x A2 c2) 33) := ⟨_, rfl⟩
      rw [← hW]
      have c0 : W.cell? ⟨wr.heap.size, 0, none⟩ = some (.int .i64 x.f0) := by rw [hW]; exact four_at wr x A2 c2 0 _ rfl
      have c1 : W.cell? ⟨wr.heap.size, 1, none⟩ = some (.int .i64 x.f1) := by rw [hW]; exact four_at wr x A2 c2 1 _ rfl
      have c2' : W.cell? ⟨wr.heap.size, 2, none⟩ = some (.slice A2 x.f2.length c2) := by rw [hW]; exact four_at wr x A2 c2 2 _ rfl
      have c3 : W.cell? ⟨wr.heap.size, 3, none⟩ = some (.string x.f3) := by rw [hW]; exact four_at wr x A2 c2 3 _ rfl
      have hbW : Below w.heap.size w W := by rw [hW]; exact below_alloc hb _
      have HXW : Hid (∀ i, i < l.length → W.cell? ⟨b, o + i * 4, none⟩ = some (.int .i64 (l.getD i z33).f0)) := Lib.hid (fun i hi => by
        obtain ⟨_, _, h0, _⟩ := HX.out i hi
        rw [hW]; exact pw_cell_below (below_alloc (Below.refl _ _) _) (pw_cell_below hb h0))
      have HTW := Lib.hid (HT.out.below hbW)
      have HCW : Hid (Kd.C k112 W A2 x.f2.length x.f2) := Lib.hid (by rw [hW]; exact Kd.C_alloc hx5 _)
      have HST : Hid (entsB none l = (entB (aheadE l k) x && entsB (aheadE l (k + 1)) (l.drop (k + 1)))) := Lib.hid (by rw [HEQ.out, entsB_at l k hlt, hxe])
      obtain ⟨gb, hgb⟩ : ∃ g, g = wr.heap.size := ⟨_, rfl⟩
      rw [← hgb] at c0 c1 c2' c3 ⊢
      clear hx0 hx1 hx2 hx3 hx4 hx5 hxe hW hgb hb HX
      have C0 := fun d os => cell_regrown c0 d os
      have C1 := fun d os => cell_regrown c1 d os
      have C2 := fun d os => cell_regrown c2' d os
      have C3 := fun d os => cell_regrown c3 d os
      cases hn : rightE x with
      | false =>
        have HNM : Hid (∀ W', Below W.heap.size W W' → Calls Tryd.prog 29 #[entA x A2 c2] W' (BoolBelow false W')) := Lib.hid (fun W' hb' => by have := rightE_any x A2 c2 W' (HTW.out.below hb') (Kd.C_below HCW.out hb'); rwa [hn] at this)
        have HF : Hid (batchB l = false) := Lib.hid (by unfold batchB; rw [HST.out, entB, hn]; simp)
        clear hn
        have cN := fun d os => Calls.regrown_of (HNM.out (Go.Sort.grow (redrawn W d) os) (below_regrown W d os))
        refine wp_region_quiet_below (by kernel_rfl) (by kernel_rfl) ?_
        repeat (first | go_big_quiet_step ((exact cN _ _)) | quiet_step ((exact cN _ _)))
        refine wpQuiet_nil ?_
        intro _ hw'
        obtain ⟨⟨dq, osq⟩, hw''⟩ := hw'
        subst hw''
        go_wp2
        go_ret
        exact ⟨by rw [HF.out]; rfl, hbW.trans ((below_regrown W dq osq).mono hbW.size)⟩
      | true =>
        have HNM : Hid (∀ W', Below W.heap.size W W' → Calls Tryd.prog 29 #[entA x A2 c2] W' (BoolBelow true W')) := Lib.hid (fun W' hb' => by have := rightE_any x A2 c2 W' (HTW.out.below hb') (Kd.C_below HCW.out hb'); rwa [hn] at this)
        have HEB : Hid (entB (aheadE l k) x = folB (aheadE l k) x) := Lib.hid (by rw [entB, hn]; simp)
        have hx1 := (rightE_get hn).1
        have hx2 := (rightE_get hn).2.1
        clear hn
        have cN := fun d os => Calls.regrown_of (HNM.out (Go.Sort.grow (redrawn W d) os) (below_regrown W d os))
        by_cases hk0 : k = 0
        · have hkz : decide ((0 : Int) < (k : Int)) = false := decide_eq_false (by omega)
          have hkz2 : decide (0 < k) = false := decide_eq_false (by omega)
          have HN : Hid (entsB none l = entsB (aheadE l (k + 1)) (l.drop (k + 1))) := Lib.hid (by rw [HST.out, HEB.out, hk0]; simp [aheadE, folB])
          clear hk0 hx1 hx2
          refine wp_region_quiet_below (by kernel_rfl) (by kernel_rfl) ?_
          repeat (first | go_big_quiet_step ((exact cN _ _)) | quiet_step ((exact cN _ _)))
          refine wpQuiet_nil ?_
          intro _ hw'
          obtain ⟨⟨dq, osq⟩, hw''⟩ := hw'
          subst hw''
          go_wp2_with fail
          go_roundw
          case rel => exact ⟨k + 1, by go_num, by omega, HN.out, hbW.trans ((below_regrown W dq osq).mono hbW.size)⟩
          case measure => simp [intOf]; omega
        · obtain ⟨m, rfl⟩ : ∃ m, k = m + 1 := ⟨k - 1, by omega⟩
          have hcast : ((m + 1 : Nat) : Int) = (m : Int) + 1 := by omega
          have cP := HXW.out m (by omega)
          have HRS : Hid (folB (aheadE l (m + 1)) x = (x.f0 == (l.getD m z33).f0 + 1)) := Lib.hid (by simp [aheadE, folB])
          have hq := HSQ.out m (by omega)
          generalize (l.getD m z33).f0 = q at *
          have CP := fun d os => cell_regrown cP d os
          have hkz : decide ((0 : Int) < (m : Int) + 1) = true := decide_eq_true (by omega)
          have hw1 : IntKind.i64.wrap ((m : Int) + 1 - 1) = (m : Int) := by rw [IntWalk.i64_in _ ⟨by omega, by omega⟩]; omega
          have hm0 : (0 : Int) ≤ (m : Int) := by omega
          have hml : (m : Int) < (l.length : Int) := by omega
          have HW2 : Hid (x.f0 = IntKind.i64.wrap (q + 1) ↔ x.f0 = q + 1) := Lib.hid (by
            by_cases hqm : q = 9223372036854775807
            · subst hqm
              have : IntKind.i64.wrap (9223372036854775807 + 1) = -9223372036854775808 := by decide
              rw [this]
              omega
            · rw [IntWalk.i64_in _ ⟨by omega, by omega⟩])
          generalize hA : IntKind.i64.wrap (q + 1) = Aq at *
          clear hk0 hki hx1 hx2 hq
          rw [hcast]
          clear hcast
          by_cases he : x.f0 = Aq
          · have HN : Hid (entsB none l = entsB (aheadE l (m + 1 + 1)) (l.drop (m + 1 + 1))) := Lib.hid (by rw [HST.out, HEB.out, HRS.out]; have := HW2.out.1 he; simp [this])
            have e1 : (x.f0 == Aq) = true := by simp [he]
            have e2 : (x.f0 != Aq) = false := by simp [he]
            have e3 : decide (x.f0 = Aq) = true := decide_eq_true he
            clear he
            refine wp_region_quiet_below (by kernel_rfl) (by kernel_rfl) ?_
            repeat (first | go_big_quiet_step ((exact cN _ _)) | quiet_step ((exact cN _ _)))
            refine wpQuiet_nil ?_
            intro _ hw'
            obtain ⟨⟨dq, osq⟩, hw''⟩ := hw'
            subst hw''
            go_wp2_with fail
            go_roundw
            case rel => exact ⟨m + 1 + 1, by go_num, by omega, HN.out, hbW.trans ((below_regrown W dq osq).mono hbW.size)⟩
            case measure => simp [intOf]; omega
          · have HF : Hid (batchB l = false) := Lib.hid (by unfold batchB; rw [HST.out, HEB.out, HRS.out]; have : ¬ x.f0 = q + 1 := fun e => he (HW2.out.2 e); simp [this])
            have e1 : (x.f0 == Aq) = false := by simp [he]
            have e2 : (x.f0 != Aq) = true := by simp [he]
            have e3 : decide (x.f0 = Aq) = false := decide_eq_false he
            clear he
            refine wp_region_quiet_below (by kernel_rfl) (by kernel_rfl) ?_
            repeat (first | go_big_quiet_step ((exact cN _ _)) | quiet_step ((exact cN _ _)))
            refine wpQuiet_nil ?_
            intro _ hw'
            obtain ⟨⟨dq, osq⟩, hw''⟩ := hw'
            subst hw''
            go_wp2
            go_ret
            exact ⟨by rw [HF.out]; rfl, hbW.trans ((below_regrown W dq osq).mono hbW.size)⟩
    · have HB := Lib.hid hb
      have HA : Hid (entsB none l = true) := Lib.hid (by rw [HEQ.out, List.drop_eq_nil_of_le (by omega)]; rfl)
      clear hb
      by_cases h1 : 1 ≤ l.length
      · have h1i : decide ((1 : Int) ≤ (l.length : Int)) = true := decide_eq_true (by omega)
        by_cases h2 : l.length ≤ 16
        · have h2i : decide ((l.length : Int) ≤ 16) = true := decide_eq_true (by omega)
          have HF : Hid (batchB l = true) := Lib.hid (by unfold batchB; rw [HA.out]; simp [h1, h2])
          go_wp2
          go_ret
          exact ⟨by rw [HF.out]; rfl, HB.out⟩
        · have h2i : decide ((l.length : Int) ≤ 16) = false := decide_eq_false (by omega)
          have HF : Hid (batchB l = false) := Lib.hid (by unfold batchB; rw [decide_eq_false h2]; simp)
          go_wp2
          go_ret
          exact ⟨by rw [HF.out]; rfl, HB.out⟩
      · have h1i : decide ((1 : Int) ≤ (l.length : Int)) = false := decide_eq_false (by omega)
        have HF : Hid (batchB l = false) := Lib.hid (by unfold batchB; rw [decide_eq_false h1]; simp)
        go_wp2
        go_ret
        exact ⟨by rw [HF.out]; rfl, HB.out⟩
end Go.Proofs.YtojocffjajcdmaaDoor
