import Derived.Test.YtojocffjajcdmaaDoorR1
import Derived.Test.YtojocffjajcdmaaDoorV0
import Derived.Deep.RegionHeld3
import Derived.Deep.QuietTactic
import Derived.BigQuiet
import Derived.Lib.QuietBelow
namespace Go.Proofs.YtojocffjajcdmaaDoor
open Go.RowKit Go.Proofs.YtojocffjajcdmaaDoorW.PrintWords Go.Proofs.YtojocffjajcdmaaDoorW.PrintLast Go.Proofs.YtojocffjajcdmaaDoorW.PrintMore PChunkAll
set_option linter.unusedVariables false
set_option linter.unusedSimpArgs false

theorem Tabs.below {w w' : World} (h : Tabs w) (hb : Below w.heap.size w w') : Tabs w' :=
  ⟨fun c hc => pw_cell_below hb (h.1 c hc), fun i hi => ⟨pw_cell_below hb (h.2 i hi).1, pw_cell_below hb (h.2 i hi).2⟩⟩
def valI (s : ByteArray) : Bool := (decide (1 ≤ s.size) && decide (s.size ≤ 128)) && Lib.validD s.data.toList

set_option maxHeartbeats 1000000 in
theorem value_any (s : ByteArray) (w : World) (hT : Tabs w) : Calls Tryd.prog 144 #[.string s] w (BoolBelow (valI s) w) := by
  by_cases h1 : 1 ≤ s.size
  · have h1i : decide ((1 : Int) ≤ (s.size : Int)) = true := decide_eq_true (by omega)
    by_cases h2 : s.size ≤ 128
    · have h2i : decide ((s.size : Int) ≤ 128) = true := decide_eq_true (by omega)
      have HV := Lib.hid (valid_string s w (by omega) hT)
      have HN : Hid (valI s = Lib.validD s.data.toList) := Lib.hid (by unfold valI; simp [h1, h2])
      rw [HN.out]
      generalize Lib.validD s.data.toList = vd at *
      go_enter Tryd.func144, Tryd.ntmps144
      go_wp2_with (go_at_call 172; refine (HV.out).mono ?_; rintro e w2 ⟨rfl, hb⟩)
      go_ret
      exact ⟨rfl, hb⟩
    · have h2i : decide ((s.size : Int) ≤ 128) = false := decide_eq_false (by omega)
      have HN : Hid (valI s = false) := Lib.hid (by unfold valI; rw [decide_eq_false h2]; simp)
      go_enter Tryd.func144, Tryd.ntmps144
      go_wp2
      go_ret
      exact ⟨by rw [HN.out]; rfl, Below.refl _ _⟩
  · have h1i : decide ((1 : Int) ≤ (s.size : Int)) = false := decide_eq_false (by omega)
    have HN : Hid (valI s = false) := Lib.hid (by unfold valI; rw [decide_eq_false h1]; simp)
    go_enter Tryd.func144, Tryd.ntmps144
    go_wp2
    go_ret
    exact ⟨by rw [HN.out]; rfl, Below.refl _ _⟩

theorem spot_none {w : World} {a : Addr} {v : Value} (h : w.cell? a = some v) : a = ⟨a.block, a.off, none⟩ := by
  obtain ⟨b, o, e⟩ := a
  cases e with
  | none => rfl
  | some x =>
    exfalso
    unfold World.cell? at h
    split at h <;> simp at h
theorem addr_add (b o j : Nat) : (⟨b, o, none⟩ : Addr).add j = ⟨b, o + j, none⟩ := by unfold Addr.add; split <;> simp_all
/-- Where labels lie. -/
theorem labs_at {w : World} {A : Option Addr} {l : List S112} (h : Kd.C k112 w A l.length l) (hp : 0 < l.length) : ∃ b o, A = some ⟨b, o, none⟩ ∧ ∀ i, i < l.length → w.cell? ⟨b, o + i * 2, none⟩ = some (.string (l.getD i z112).f0) ∧ w.cell? ⟨b, o + i * 2 + 1, none⟩ = some (.string (l.getD i z112).f1) := by
  obtain ⟨ad, e, h0, _⟩ := at_T112 h 0 (by omega) (by omega)
  have hsp := spot_none (a := ad) (by have h1 : ad.add ((0 : Int).toNat * 2) = ad := by { show ad.add 0 = ad; rfl }; rw [h1] at h0; exact h0)
  refine ⟨ad.block, ad.off, by rw [← hsp]; exact e, fun i hi => ?_⟩
  obtain ⟨ad', e', h0', h1'⟩ := at_T112 h (i : Int) (by omega) (by omega)
  rw [e] at e'
  injection e' with e'
  subst e'
  rw [hsp] at h0' h1'
  rw [addr_add] at h0' h1'
  exact ⟨h0', h1'⟩
/-- Labels that rise: p is the name ahead. -/
def risesB (p : Option ByteArray) (x : S112) : Bool := match p with
  | none => true
  | some q => Op.bytesLess q.toList x.f0.toList
def labB (p : Option ByteArray) (x : S112) : Bool := (nameI x.f0 && valI x.f1) && risesB p x
def labsB : Option ByteArray → List S112 → Bool
  | _, [] => true
  | p, x :: l => labB p x && labsB (some x.f0) l
def rightL (l : List S112) : Bool := labsB none l && (decide (1 ≤ l.length) && decide (l.length ≤ 16))
def ahead (l : List S112) (k : Nat) : Option ByteArray := if k = 0 then none else some (l.getD (k - 1) z112).f0
theorem labsB_at (l : List S112) (k : Nat) (h : k < l.length) : labsB (ahead l k) (l.drop k) = (labB (ahead l k) (l.getD k z112) && labsB (ahead l (k + 1)) (l.drop (k + 1))) := by
  rw [List.drop_eq_getElem_cons h, labsB]
  have e : l.getD k z112 = l[k] := by simp [h]
  have e2 : ahead l (k + 1) = some l[k].f0 := by simp [ahead, h]
  rw [e, e2]
theorem bl_flip : ∀ (x y : List UInt8), (Op.bytesLess y x || y == x) = !Op.bytesLess x y
  | [], [] => by simp [Op.bytesLess]
  | [], b :: y => by simp [Op.bytesLess]
  | a :: x, [] => by simp [Op.bytesLess]
  | a :: x, b :: y => by
    have ih := bl_flip x y
    rcases Nat.lt_trichotomy a.toNat b.toNat with h | h | h
    · have h1 : a < b := UInt8.lt_iff_toNat_lt.2 h
      have h2 : ¬ b < a := fun e => by have := UInt8.lt_iff_toNat_lt.1 e; omega
      have h3 : ¬ b = a := fun e => by rw [e] at h; omega
      simp [Op.bytesLess, h1, h2, h3]
    · have h0 : a = b := UInt8.toNat_inj.1 h
      subst h0
      have h1 : ¬ a < a := fun e => by have := UInt8.lt_iff_toNat_lt.1 e; omega
      simp [Op.bytesLess, h1]
      simpa using ih
    · have h1 : b < a := UInt8.lt_iff_toNat_lt.2 h
      have h2 : ¬ a < b := fun e => by have := UInt8.lt_iff_toNat_lt.1 e; omega
      have h3 : ¬ a = b := fun e => by rw [e] at h; omega
      simp [Op.bytesLess, h1, h2, h3]
theorem two_at (w : World) (a b : Value) (t i : Nat) (v : Value) (h : (#[a, b] : Array Value)[i]? = some v) : (w.alloc (.cells #[a, b] t)).cell? ⟨w.heap.size, i, none⟩ = some v := by
  rw [blk_cell (heap_alloc_new w _)]; exact h
def RightRel (l : List S112) (w : World) (v7 : Value) (wr : World) : Prop :=
  ∃ k : Nat, v7 = .int .i64 k ∧ k ≤ l.length ∧ labsB none l = labsB (ahead l k) (l.drop k) ∧ Below w.heap.size w wr

set_option maxHeartbeats 2000000 in
theorem right_any (A : Option Addr) (c : Nat) (l : List S112) (w : World) (hT : Tabs w) (hr : Kd.C k112 w A l.length l) : Calls Tryd.prog 95 #[.slice A l.length c] w (BoolBelow (rightL l) w) := by
  have hmax := Kd.C_max hr
  have HR := Lib.hid hr
  have HT := Lib.hid hT
  clear hr hT
  go_enter Tryd.func95, Tryd.ntmps95
  go_wp2
  go_loopw [7] (fun v7 wr => RightRel l w v7 wr) (fun v7 _ => l.length - (intOf v7).toNat)
  case atStart => exact ⟨0, rfl, Nat.zero_le _, rfl, Below.refl _ _⟩
  case round =>
    obtain ⟨k, rfl, hk, heq, hb⟩ := hrel
    have HEQ := Lib.hid heq
    clear heq
    by_cases hlt : k < l.length
    · have hki : (k : Int) < (l.length : Int) := by omega
      obtain ⟨b, o, rfl, hx⟩ := labs_at HR.out (by omega)
      have hx0 := pw_cell_below hb (hx k hlt).1
      have hx1 := pw_cell_below hb (hx k hlt).2
      have HX := Lib.hid hx
      clear hx
      generalize hxe : l.getD k z112 = x at *
      go_wp2_with fail
      obtain ⟨W, hW⟩ : ∃ W, W = wr.alloc (.cells #[.string x.f0, .string x.f1] 112) := ⟨_, rfl⟩
      rw [← hW]
      have c0 : W.cell? ⟨wr.heap.size, 0, none⟩ = some (.string x.f0) := by rw [hW]; exact two_at wr _ _ 112 0 _ rfl
      have c1 : W.cell? ⟨wr.heap.size, 1, none⟩ = some (.string x.f1) := by rw [hW]; exact two_at wr _ _ 112 1 _ rfl
      have hbW : Below w.heap.size w W := by rw [hW]; exact below_alloc hb _
      have HXW : Hid (∀ i, i < l.length → W.cell? ⟨b, o + i * 2, none⟩ = some (.string (l.getD i z112).f0)) := Lib.hid (fun i hi => by
        rw [hW]; exact pw_cell_below (below_alloc (Below.refl _ _) _) (pw_cell_below hb (HX.out i hi).1))
      have HTW := Lib.hid (HT.out.below hbW)
      have HST : Hid (labsB none l = (labB (ahead l k) x && labsB (ahead l (k + 1)) (l.drop (k + 1)))) := Lib.hid (by rw [HEQ.out, labsB_at l k hlt, hxe])
      obtain ⟨gb, hgb⟩ : ∃ g, g = wr.heap.size := ⟨_, rfl⟩
      rw [← hgb] at c0 c1 ⊢
      clear hx0 hx1 hxe hW hgb hb
      cases hn : nameI x.f0 with
      | false =>
        have HNM : Hid (∀ W', Calls Tryd.prog 143 #[.string x.f0] W' (BoolBelow false W')) := Lib.hid (fun W' => by have := name_any x.f0 W'; rwa [hn] at this)
        have HF : Hid (rightL l = false) := Lib.hid (by unfold rightL; rw [HST.out, labB, hn]; simp)
        clear hn
        have C0 := fun d os => cell_regrown c0 d os
        have C1 := fun d os => cell_regrown c1 d os
        have cN := fun d os => Calls.regrown_of (HNM.out (Go.Sort.grow (redrawn W d) os))
        refine wp_region_quiet_below (by kernel_rfl) (by kernel_rfl) ?_
        repeat (first | go_big_quiet_step ((exact cN _ _)) | quiet_step ((exact cN _ _)))
        refine wpQuiet_nil ?_
        intro _ hw'
        obtain ⟨⟨dq, osq⟩, hw''⟩ := hw'
        subst hw''
        go_wp2
        go_ret
        exact ⟨by rw [HF.out]; rfl, hbW.trans ((below_regrown W dq osq).mono hbW.size)⟩
      | true =>
        have HNM : Hid (∀ W', Calls Tryd.prog 143 #[.string x.f0] W' (BoolBelow true W')) := Lib.hid (fun W' => by have := name_any x.f0 W'; rwa [hn] at this)
        have C0 := fun d os => cell_regrown c0 d os
        have C1 := fun d os => cell_regrown c1 d os
        have cN := fun d os => Calls.regrown_of (HNM.out (Go.Sort.grow (redrawn W d) os))
        cases hv : valI x.f1 with
        | false =>
          have HVM : Hid (∀ W', Tabs W' → Calls Tryd.prog 144 #[.string x.f1] W' (BoolBelow false W')) := Lib.hid (fun W' h => by have := value_any x.f1 W' h; rwa [hv] at this)
          have cV := fun d os => Calls.regrown_of (HVM.out (Go.Sort.grow (redrawn W d) os) (HTW.out.below (below_regrown W d os)))
          have HF : Hid (rightL l = false) := Lib.hid (by unfold rightL; rw [HST.out, labB, hv]; simp)
          clear hn hv
          refine wp_region_quiet_below (by kernel_rfl) (by kernel_rfl) ?_
          repeat (first | go_big_quiet_step ((first | exact cN _ _ | exact cV _ _)) | quiet_step ((first | exact cN _ _ | exact cV _ _)))
          refine wpQuiet_nil ?_
          intro _ hw'
          obtain ⟨⟨dq, osq⟩, hw''⟩ := hw'
          subst hw''
          go_wp2
          go_ret
          exact ⟨by rw [HF.out]; rfl, hbW.trans ((below_regrown W dq osq).mono hbW.size)⟩
        | true =>
          have HVM : Hid (∀ W', Tabs W' → Calls Tryd.prog 144 #[.string x.f1] W' (BoolBelow true W')) := Lib.hid (fun W' h => by have := value_any x.f1 W' h; rwa [hv] at this)
          have cV := fun d os => Calls.regrown_of (HVM.out (Go.Sort.grow (redrawn W d) os) (HTW.out.below (below_regrown W d os)))
          have HLB : Hid (labB (ahead l k) x = risesB (ahead l k) x) := Lib.hid (by rw [labB, hn, hv]; simp)
          clear hn hv
          by_cases hk0 : k = 0
          · have hkz : decide ((0 : Int) < (k : Int)) = false := decide_eq_false (by omega)
            have hkz2 : decide (0 < k) = false := decide_eq_false (by omega)
            have HN : Hid (labsB none l = labsB (ahead l (k + 1)) (l.drop (k + 1))) := Lib.hid (by rw [HST.out, HLB.out, hk0]; simp [ahead, risesB])
            clear hk0
            refine wp_region_quiet_below (by kernel_rfl) (by kernel_rfl) ?_
            repeat (first | go_big_quiet_step ((first | exact cN _ _ | exact cV _ _)) | quiet_step ((first | exact cN _ _ | exact cV _ _)))
            refine wpQuiet_nil ?_
            intro _ hw'
            obtain ⟨⟨dq, osq⟩, hw''⟩ := hw'
            subst hw''
            go_wp2_with fail
            go_roundw
            case rel => exact ⟨k + 1, by go_num, by omega, HN.out, hbW.trans ((below_regrown W dq osq).mono hbW.size)⟩
            case measure => simp [intOf]; omega
          · obtain ⟨m, rfl⟩ : ∃ m, k = m + 1 := ⟨k - 1, by omega⟩
            have hcast : ((m + 1 : Nat) : Int) = (m : Int) + 1 := by omega
            have c2 := HXW.out m (by omega)
            have HRS : Hid (risesB (ahead l (m + 1)) x = Op.bytesLess (l.getD m z112).f0.toList x.f0.toList) := Lib.hid (by simp [ahead, risesB])
            generalize (l.getD m z112).f0 = q at *
            have C2 := fun d os => cell_regrown c2 d os
            have hkz : decide ((0 : Int) < (m : Int) + 1) = true := decide_eq_true (by omega)
            have hw1 : IntKind.i64.wrap ((m : Int) + 1 - 1) = (m : Int) := by rw [IntWalk.i64_in _ ⟨by omega, by omega⟩]; omega
            have hm0 : (0 : Int) ≤ (m : Int) := by omega
            have hml : (m : Int) < (l.length : Int) := by omega
            clear hk0 hki
            rw [hcast]
            clear hcast
            cases hle : Op.bytesLess q.toList x.f0.toList with
            | true =>
              have HN : Hid (labsB none l = labsB (ahead l (m + 1 + 1)) (l.drop (m + 1 + 1))) := Lib.hid (by rw [HST.out, HLB.out, HRS.out, hle]; simp)
              have hfl := bl_flip q.toList x.f0.toList
              rw [hle] at hfl
              have hA : Op.bytesLess x.f0.toList q.toList = false := by cases h : Op.bytesLess x.f0.toList q.toList <;> simp_all
              have hB : (x.f0.toList == q.toList) = false := by cases h : (x.f0.toList == q.toList) <;> simp_all
              clear hfl
              refine wp_region_quiet_below (by kernel_rfl) (by kernel_rfl) ?_
              repeat (first | go_big_quiet_step ((first | exact cN _ _ | exact cV _ _)) | quiet_step ((first | exact cN _ _ | exact cV _ _)))
              refine wpQuiet_nil ?_
              intro _ hw'
              obtain ⟨⟨dq, osq⟩, hw''⟩ := hw'
              subst hw''
              go_wp2_with fail
              go_roundw
              case rel => exact ⟨m + 1 + 1, by go_num, by omega, HN.out, hbW.trans ((below_regrown W dq osq).mono hbW.size)⟩
              case measure => simp [intOf]; omega
            | false =>
              have HF : Hid (rightL l = false) := Lib.hid (by unfold rightL; rw [HST.out, HLB.out, HRS.out, hle]; simp)
              have hfl := bl_flip q.toList x.f0.toList
              rw [hle] at hfl
              cases hA : Op.bytesLess x.f0.toList q.toList
              · have hB : (x.f0.toList == q.toList) = true := by rw [hA] at hfl; simpa using hfl
                clear hfl
                refine wp_region_quiet_below (by kernel_rfl) (by kernel_rfl) ?_
                repeat (first | go_big_quiet_step ((first | exact cN _ _ | exact cV _ _)) | quiet_step ((first | exact cN _ _ | exact cV _ _)))
                refine wpQuiet_nil ?_
                intro _ hw'
                obtain ⟨⟨dq, osq⟩, hw''⟩ := hw'
                subst hw''
                go_wp2
                go_ret
                exact ⟨by rw [HF.out]; rfl, hbW.trans ((below_regrown W dq osq).mono hbW.size)⟩
              · clear hfl
                refine wp_region_quiet_below (by kernel_rfl) (by kernel_rfl) ?_
                repeat (first | go_big_quiet_step ((first | exact cN _ _ | exact cV _ _)) | quiet_step ((first | exact cN _ _ | exact cV _ _)))
                refine wpQuiet_nil ?_
                intro _ hw'
                obtain ⟨⟨dq, osq⟩, hw''⟩ := hw'
                subst hw''
                go_wp2
                go_ret
                exact ⟨by rw [HF.out]; rfl, hbW.trans ((below_regrown W dq osq).mono hbW.size)⟩
    · have HB := Lib.hid hb
      have HA : Hid (labsB none l = true) := Lib.hid (by rw [HEQ.out, List.drop_eq_nil_of_le (by omega)]; rfl)
      clear hb
      by_cases h1 : 1 ≤ l.length
      · have h1i : decide ((1 : Int) ≤ (l.length : Int)) = true := decide_eq_true (by omega)
        by_cases h2 : l.length ≤ 16
        · have h2i : decide ((l.length : Int) ≤ 16) = true := decide_eq_true (by omega)
          have HF : Hid (rightL l = true) := Lib.hid (by unfold rightL; rw [HA.out]; simp [h1, h2])
          go_wp2
          go_ret
          exact ⟨by rw [HF.out]; rfl, HB.out⟩
        · have h2i : decide ((l.length : Int) ≤ 16) = false := decide_eq_false (by omega)
          have HF : Hid (rightL l = false) := Lib.hid (by unfold rightL; rw [decide_eq_false h2]; simp)
          go_wp2
          go_ret
          exact ⟨by rw [HF.out]; rfl, HB.out⟩
      · have h1i : decide ((1 : Int) ≤ (l.length : Int)) = false := decide_eq_false (by omega)
        have HF : Hid (rightL l = false) := Lib.hid (by unfold rightL; rw [decide_eq_false h1]; simp)
        go_wp2
        go_ret
        exact ⟨by rw [HF.out]; rfl, HB.out⟩
end Go.Proofs.YtojocffjajcdmaaDoor
