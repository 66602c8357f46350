import Derived.Test.YtojocffjajcdmaaDoorKR
import Derived.BigQuiet
import Derived.Deep.QuietTactic
import Derived.Test.YtojocffjajcdmaaDoorKB
namespace Go.Proofs.YtojocffjajcdmaaDoor
open Go.RowKit Go.Proofs.YtojocffjajcdmaaDoorW.PrintWords Go.Proofs.YtojocffjajcdmaaDoorW.PrintLast Go.Proofs.YtojocffjajcdmaaDoorW.PrintMore PChunkAll
set_option linter.unusedVariables false
set_option linter.unusedSimpArgs false

def g1 (bs : List Int) : Int × List Int × Int := numS bs 0
def g2 (bs : List Int) : Int × List Int × Int := numS (g1 bs).2.1 (g1 bs).2.2
def g3 (bs : List Int) : ByteArray × List Int × Int := textS (g2 bs).2.1 (g2 bs).2.2
def g4 (bs : List Int) : List S112 × Int := readL (bytesOf (g3 bs).1)
end Go.Proofs.YtojocffjajcdmaaDoor
namespace Go.Proofs.YtojocffjajcdmaaDoor
open Go.RowKit Go.Proofs.YtojocffjajcdmaaDoorW.PrintWords Go.Proofs.YtojocffjajcdmaaDoorW.PrintLast Go.Proofs.YtojocffjajcdmaaDoorW.PrintMore PChunkAll
set_option linter.unusedVariables false
set_option linter.unusedSimpArgs false

/-- The reference's number at place p of all. -/
def rnumG (all : List Int) (p : Nat) : Int × Int × Int := ((numG (all.drop p)).1, if (numG (all.drop p)).2.2 = 0 then ((p + (numG (all.drop p)).2.1 : Nat) : Int) else 0, (numG (all.drop p)).2.2)
theorem wrap_u64_small (x : Int) (h0 : 0 ≤ x) (h1 : x < 1000) : IntKind.u64.wrap x = x := by
  have h2 : x % 18446744073709551616 = x := Int.emod_eq_of_lt h0 (by omega)
  simp [IntKind.wrap, IntKind.bits, IntKind.signed, h2]
theorem num_bnd (acc Z P M : Nat) (h1 : acc < P) (h2 : Z ≤ 127 * P) (h3 : P ≤ 562949953421312) (hM : M = acc + Z) : Z < 9223372036854775808 ∧ M < 9223372036854775808 := by omega
theorem wrap64_byte (b : Int) (h : 0 ≤ b ∧ b < 256) : wrap64 b = b := by unfold wrap64; omega
theorem wrap64_two (p i : Nat) (h : p + i < 9223372036854775808) : wrap64 ((p : Int) + (i : Int)) = (p : Int) + (i : Int) := by unfold wrap64; omega
def RNumRel (bs : List Int) (w : World) (v2 v6 : Value) (wr : World) : Prop :=
  ∃ i acc : Nat, v2 = .int .i64 (acc : Int) ∧ v6 = .int .i64 (i : Int) ∧ i ≤ 8 ∧ acc < 128 ^ i ∧ numG bs = numA (8 - i) i acc (bs.drop i) ∧ wr = w

set_option maxHeartbeats 4000000 in
set_option maxRecDepth 100000 in
theorem rnumber_in (A : Option Addr) (c : Nat) (all : List Int) (p : Nat) (w : World) (hr : Kd.C KB w A all.length all) (hB : Byt all) (hp : p ≤ all.length) (hlb : all.length ≤ 140737488355328) : Calls Tryd.prog 140 #[.slice A all.length c, .int .i64 (p : Int)] w fun e w' => e = .returned (.tuple #[.int .i64 (rnumG all p).1, .int .i64 (rnumG all p).2.1, .int .i64 (rnumG all p).2.2]) ∧ w = w' := by
  have hmax := Kd.C_max hr
  have hpp : p ≤ all.length := hp
  have HRG : Hid (rnumG all p = ((numG (all.drop p)).1, if (numG (all.drop p)).2.2 = 0 then ((p + (numG (all.drop p)).2.1 : Nat) : Int) else 0, (numG (all.drop p)).2.2)) := Lib.hid rfl
  obtain ⟨bs, hbs⟩ : ∃ bs, bs = all.drop p := ⟨_, rfl⟩
  have HBL : Hid (bs.length = all.length - p) := Lib.hid (by rw [hbs, List.length_drop])
  have HBG : Hid (∀ i, bs.getD i 0 = all.getD (p + i) 0) := Lib.hid (fun i => by rw [hbs]; simp [List.getD_eq_getElem?_getD, List.getElem?_drop])
  have HBB : Hid (Byt bs) := Lib.hid (by rw [hbs]; exact hB.drop p)
  rw [← hbs] at HRG
  have HR := Lib.hid hr
  have HBY := Lib.hid hB
  have HLB := Lib.hid hlb
  clear hr hB hp hbs hlb
  go_enter Tryd.func140, Tryd.ntmps140
  go_wp2
  go_loopw [7, 8] (fun v2 v6 wr => RNumRel bs w v2 v6 wr) (fun _ v6 _ => 8 - (intOf v6).toNat)
  case atStart => exact ⟨0, 0, rfl, rfl, by omega, by decide, rfl, rfl⟩
  case round =>
    obtain ⟨i, acc, rfl, rfl, hi8, hacc, hnum, rfl⟩ := hrel
    have HN := Lib.hid hnum
    have HA := Lib.hid hacc
    clear hnum hacc
    by_cases hlt : i < 8
    · have HBLo := HBL.out
      obtain ⟨k, hk⟩ : ∃ k, 8 - i = k + 1 := ⟨7 - i, by omega⟩
      rw [hk] at HN
      have hki : (i : Int) < 8 := by omega
      have hw0 : wrap64 ((p : Int) + (i : Int)) = (p : Int) + (i : Int) := wrap64_two p i (by have := HLB.out; omega)
      by_cases hl : i < bs.length
      · have hli : ¬ (all.length : Int) ≤ (p : Int) + (i : Int) := by omega
        obtain ⟨ad, rfl, hc⟩ := byte_at HR.out (p + i) (by omega)
        have hb := HBB.out.get i hl
        rw [← HBG.out i] at hc
        rw [drop_at' bs i hl, numA] at HN
        generalize bs.getD i 0 = b at *
        obtain ⟨q, hq⟩ : ∃ q : Nat, q = (b % 128).toNat := ⟨_, rfl⟩
        have hqb : (q : Int) = b % 128 := by omega
        have hq128 : q < 128 := by omega
        rw [← hq] at HN
        have hp : 128 ^ i ≤ 128 ^ 7 := Nat.pow_le_pow_right (by decide) (by omega)
        have hp2 : (128 : Nat) ^ 7 = 562949953421312 := by decide
        have hpw : (2 : Int) ^ (7 * (i : Int)).toNat = ((128 ^ i : Nat) : Int) := by
          rw [show (7 * (i : Int)).toNat = 7 * i by omega, Int.pow_mul]; norm_cast
        have htm : Int.tmod b 128 = (q : Int) := by rw [hqb]; exact Int.tmod_eq_emod_of_nonneg hb.1
        have hacc' : acc + q * 128 ^ i < 128 ^ (i + 1) := by
          have := HA.out
          have hm : q * 128 ^ i ≤ 127 * 128 ^ i := Nat.mul_le_mul_right _ (by omega)
          rw [Nat.pow_succ]
          omega
        have hm : q * 128 ^ i ≤ 127 * 128 ^ i := Nat.mul_le_mul_right _ (by omega)
        generalize hP : 128 ^ i = P at *
        have hcv : IntKind.i64.wrap b = b := by rw [IntWalk.i64_in _ ⟨by omega, by omega⟩]
        have hcv2 : wrap64 b = b := wrap64_byte b hb
        have hu7 : IntKind.u64.wrap (7 * (i : Int)) = 7 * (i : Int) := wrap_u64_small _ (by omega) (by omega)
        have h7 : IntKind.i64.wrap (7 * (i : Int)) = 7 * (i : Int) := by rw [IntWalk.i64_in _ ⟨by omega, by omega⟩]
        have hs0 : 0 ≤ 7 * (i : Int) := by omega
        have hs1 : 7 * (i : Int) ≤ 64 := by omega
        obtain ⟨Z, hZ⟩ : ∃ Z : Nat, Z = q * P := ⟨_, rfl⟩
        rw [← hZ] at hacc' hm HN
        obtain ⟨M, hM⟩ : ∃ M : Nat, M = acc + Z := ⟨_, rfl⟩
        have hbnd := num_bnd acc Z P M HA.out hm (by rw [← hp2]; exact hp) hM
        have hsum : wrap64 ((acc : Int) + (Z : Int)) = (M : Int) := by rw [show (acc : Int) + (Z : Int) = (M : Int) by rw [hM]; norm_cast]; exact wrap64_nat M hbnd.2
        rw [← hM] at hacc' HN
        have hsh : wrap64 ((q : Int) * (P : Int)) = (Z : Int) := by
          rw [show (q : Int) * (P : Int) = (Z : Int) by rw [hZ]; norm_cast]
          exact wrap64_nat Z hbnd.1
        have HQ := Lib.hid hq
        have HAC := Lib.hid hacc'
        have HK := Lib.hid hk
        clear hq hqb hZ hM hm hacc' hk hp hp2 hP hbnd
        by_cases hb128 : b < 128
        · rw [if_pos hb128] at HN
          have d1 : decide (b < 128) = true := decide_eq_true hb128
          clear hb128
          by_cases hi0 : i = 0
          · have HE : Hid (numG bs = ((M : Int), i + 1, 0)) := Lib.hid (by rw [HN.out, if_neg (by omega)])
            have d2 : decide ((0 : Int) < (i : Int)) = false := decide_eq_false (by omega)
            have d3 : decide (0 < i) = false := decide_eq_false (by omega)
            clear hb HN hi0
            go_wp2
            all_goals go_ret3
            all_goals exact ⟨by rw [HRG.out, HE.out]; first | rfl | (simp; done) | (simp; omega), rfl⟩
          · have d2 : decide ((0 : Int) < (i : Int)) = true := decide_eq_true (by omega)
            have d3 : decide (0 < i) = true := decide_eq_true (by omega)
            by_cases hb0 : b = 0
            · have HE : Hid (numG bs = (0, 0, 21)) := Lib.hid (by rw [HN.out, if_pos ⟨by omega, hb0⟩])
              have e1 : (b == 0) = true := by simp [hb0]
              have e2 : decide (b = 0) = true := decide_eq_true hb0
              clear hb0 hb HN
              go_wp2
              go_ret3
              exact ⟨by rw [HRG.out, HE.out]; first | rfl | (simp; done), rfl⟩
            · have HE : Hid (numG bs = ((M : Int), i + 1, 0)) := Lib.hid (by rw [HN.out, if_neg (fun h => hb0 h.2)])
              have e1 : (b == 0) = false := by simp [hb0]
              have e2 : decide (b = 0) = false := decide_eq_false hb0
              clear hb0 hb HN
              go_wp2
              go_ret3
              exact ⟨by rw [HRG.out, HE.out]; first | rfl | (simp; done) | (simp; omega), rfl⟩
        · rw [if_neg hb128] at HN
          have d1 : decide (b < 128) = false := decide_eq_false hb128
          clear hb128 hb
          go_wp2
          go_roundw
          case rel => exact ⟨i + 1, M, by first | rfl | rw [hsum], by go_num, by omega, HAC.out, by rw [HN.out, show 8 - (i + 1) = k by have := HK.out; omega], rfl⟩
          case measure => simp [intOf]; omega
      · have hli : (all.length : Int) ≤ (p : Int) + (i : Int) := by omega
        have HE : Hid (numG bs = (0, 0, 20)) := Lib.hid (by rw [HN.out, List.drop_eq_nil_of_le (by omega)]; rfl)
        go_wp2
        go_ret3
        exact ⟨by rw [HRG.out, HE.out]; first | rfl | (simp; done), rfl⟩
    · have hki : ¬ (i : Int) < 8 := by omega
      have HE : Hid (numG bs = (0, 0, 21)) := Lib.hid (by rw [HN.out, show 8 - i = 0 by omega]; rfl)
      go_wp2
      go_ret3
      exact ⟨by rw [HRG.out, HE.out]; first | rfl | (simp; done), rfl⟩
end Go.Proofs.YtojocffjajcdmaaDoor
namespace Go.Proofs.YtojocffjajcdmaaDoor
open Go.RowKit Go.Proofs.YtojocffjajcdmaaDoorW.PrintWords Go.Proofs.YtojocffjajcdmaaDoorW.PrintLast Go.Proofs.YtojocffjajcdmaaDoorW.PrintMore PChunkAll
set_option linter.unusedVariables false
set_option linter.unusedSimpArgs false

theorem numA_err (k i acc : Nat) (bs : List Int) (h : (numA k i acc bs).2.2 ≠ 0) : (numA k i acc bs).1 = 0 ∧ (numA k i acc bs).2.1 = 0 := by
  induction k generalizing i acc bs with
  | zero => exact ⟨rfl, rfl⟩
  | succ k ih =>
    cases bs with
    | nil => exact ⟨rfl, rfl⟩
    | cons b bs =>
      rw [numA] at h ⊢
      split
      · split
        · exact ⟨rfl, rfl⟩
        · rename_i h1 h2
          rw [if_pos h1, if_neg h2] at h
          exact absurd rfl h
      · rename_i h1
        rw [if_neg h1] at h
        exact ih _ _ _ h
theorem numG_err (bs : List Int) (h : (numG bs).2.2 ≠ 0) : (numG bs).1 = 0 ∧ (numG bs).2.1 = 0 := numA_err 8 0 0 bs h

/-! ### The reference's decoder: a block of three cells: all bytes, the place, the fault -/
def RefAt (w : World) (g : Nat) (bs : List Int) (er : Int) : Prop :=
  ∃ A c all, ∃ p : Nat, w.heap[g]? = some (.cells #[.slice A all.length c, .int .i64 (p : Int), .int .i64 er] 162 (0, 0)) ∧ p ≤ all.length ∧ all.drop p = bs ∧ all.length ≤ c ∧ Kd.C KB w A all.length all ∧ (∀ ad, A = some ad → ad.block < g) ∧ Byt all ∧ all.length ≤ 140737488355328
/-- .. with the bytes and the place by name. -/
def RefIn (w : World) (g : Nat) (A : Option Addr) (c : Nat) (all : List Int) (p : Nat) (er : Int) : Prop :=
  w.heap[g]? = some (.cells #[.slice A all.length c, .int .i64 (p : Int), .int .i64 er] 162 (0, 0)) ∧ p ≤ all.length ∧ all.length ≤ c ∧ Kd.C KB w A all.length all ∧ (∀ ad, A = some ad → ad.block < g) ∧ Byt all ∧ all.length ≤ 140737488355328
theorem RefIn.at {w : World} {g : Nat} {A : Option Addr} {c : Nat} {all : List Int} {p : Nat} {er : Int} (h : RefIn w g A c all p er) : RefAt w g (all.drop p) er := by
  obtain ⟨h1, h2, h4, h5, h6, h7, h8⟩ := h
  exact ⟨A, c, all, p, h1, h2, rfl, h4, h5, h6, h7, h8⟩
theorem RefAt.lt {w : World} {g : Nat} {bs : List Int} {er : Int} (h : RefAt w g bs er) : g < w.heap.size := by
  obtain ⟨A, c, all, p, h1, _⟩ := h
  exact blk_lt h1
theorem RefAt.below {w w' : World} {g : Nat} {bs : List Int} {er : Int} (h : RefAt w g bs er) (hb : Below w.heap.size w w') : RefAt w' g bs er := by
  obtain ⟨A, c, all, p, h1, h2, h3, h4, h5, h6⟩ := h
  exact ⟨A, c, all, p, blk_below h1 hb, h2, h3, h4, Kd.C_below h5 hb, h6⟩
theorem RefAt.low {w w' : World} {g : Nat} {bs : List Int} {er : Int} (h : RefAt w g bs er) (hb : Below (g + 1) w w') : RefAt w' g bs er := by
  obtain ⟨A, c, all, p, h1, h2, h3, h4, h5, h6, h7⟩ := h
  exact ⟨A, c, all, p, (hb.block g (by omega)).trans h1, h2, h3, h4, C_old h5 h6 (fun k hk => hb.block k (by omega)), h6, h7⟩
theorem RefAt.grown {w w' : World} {g e : Nat} {bs : List Int} {er : Int} (h : RefAt w g bs er) (hg : w.grownBy w' (some e)) (he : g < e) : RefAt w' g bs er := by
  obtain ⟨A, c, all, p, h1, h2, h3, h4, h5, h6, h7⟩ := h
  have hlt := blk_lt h1
  have hk : ∀ k, k ≤ g → w'.heap[k]? = w.heap[k]? := fun k hk => hg.block k (by omega) (by intro x; injection x with x; omega)
  exact ⟨A, c, all, p, (hk g (Nat.le_refl _)).trans h1, h2, h3, h4, C_old h5 h6 (fun k h => hk k (by omega)), h6, h7⟩
theorem RefAt.set {w : World} {g E i : Nat} {bs : List Int} {er : Int} {u : Value} (h : RefAt w g bs er) (hE : g < E) : RefAt (w.setCell ⟨E, i, none⟩ u) g bs er := h.grown (set_grown (World.grownBy.refl w (some E)) i u) hE
/-- The block anew: another place, another fault. -/
theorem ref_end {w W : World} {g : Nat} {A : Option Addr} {c p : Nat} {all : List Int} {e : Int} (hg : g < w.heap.size) (hp : p ≤ all.length) (h4 : all.length ≤ c) (h5 : Kd.C KB w A all.length all) (h6 : ∀ ad, A = some ad → ad.block < g) (h7 : Byt all) (h8 : all.length ≤ 140737488355328)
    (hb : W.heap[g]? = some (.cells #[.slice A all.length c, .int .i64 (p : Int), .int .i64 e] 162 (0, 0))) (hgr : w.grownBy W (some g)) : RefIn W g A c all p e ∧ w.grownBy W (some g) := by
  refine ⟨⟨hb, hp, h4, C_old h5 h6 (fun k hk => hgr.block k ?_ ?_), h6, h7, h8⟩, hgr⟩
  · exact Nat.lt_trans hk hg
  · intro x; injection x with x; omega
theorem drewN_grown {w W : World} {r : Option Nat} (h : w.grownBy W r) (n : Nat) : w.grownBy (W.drewN n) r := ⟨h.os, h.tape, h.output, h.size, h.block⟩
def RNewBelow (bs : List Int) (w : World) (e : Ending) (w' : World) : Prop := ∃ g, e = .returned (.pointer (some ⟨g, 0, none⟩)) ∧ w.heap.size ≤ g ∧ RefAt w' g bs 0 ∧ Below w.heap.size w w'
set_option maxHeartbeats 2000000 in
set_option maxRecDepth 100000 in
theorem rnew_any (A : Option Addr) (c : Nat) (bs : List Int) (w : World) (hr : Kd.C KB w A bs.length bs) (hl : bs.length ≤ 140737488355328) (hB : Byt bs) : Calls Tryd.prog 90 #[.slice A bs.length c] w (RNewBelow bs w) := by
  have HR := Lib.hid hr
  have HL := Lib.hid hl
  have HBY := Lib.hid hB
  clear hr hl hB
  go_enter Tryd.func90, Tryd.ntmps90
  go_wp2_with (first | ((with_reducible refine gate_dst (N := 3) rfl ?_); refine Kd.R_lit KB (w0 := w) w.heap.size 5 ?hg (N := 3) ?hd (xs := ([] : List Int)) (inner := []) (ok := fun _ => True) (okp := fun _ => True) ?hr ?hp (fun _ hk => hk) trivial (Below.refl _ _) (Nat.le_refl _) (by simp) ?_; (case hd => rfl); (case hg => rfl); (case hr => first | (go_simp; done) | (go_simp; rfl)); (case hp => exact (Reps.none _ _)); intro v1 w1 ho1 hb1 hg1 hn1; obtain ⟨A1, c1, h1⟩ := Kd.R_slice ho1; subst h1; have HO1 := Lib.hid ho1; have HB1 := Lib.hid hb1; have HR1 := Lib.hid (Kd.C_below HR.out hb1); clear ho1 hb1 hg1 hn1) | ((with_reducible refine gate_builtin (b := .append) (xs := #[.tmp 3, .tmp 4]) rfl ?_); at_builtin; refine Kd.R_append_row (Value.int .u8) 0 (w0 := w) w.heap.size rfl (.tmp 3) (.tmp 4) 23 5 (.int .u8 0) 1 rfl Tryd.underlying23 info5 rfl (by omega) _ [] bs A bs.length c (fun _ => True) rfl rfl (fun _ _ => trivial) HO1.out HR1.out HB1.out (below_size HB1.out) (by have := HL.out; simp; omega) ?_; intro v4 w4 ho4 hb4 hg4 hat4; obtain ⟨A4, c4, h4⟩ := Kd.R_slice ho4; subst h4; rw [List.nil_append] at ho4; have HO4 := Lib.hid ho4; have HB4 := Lib.hid hb4; clear ho4 hb4 hg4 hat4))
  go_ret
  refine ⟨w4.heap.size, rfl, HB4.out.size, ⟨A4, c4, bs, 0, heap_alloc_new w4 _, Nat.zero_le _, rfl, (Kd.R_reads' HO4.out).2.1, Kd.C_alloc (Kd.R_reads' HO4.out).2.2 _, fun ad e => ?_, HBY.out, HL.out⟩, below_alloc HB4.out _⟩
  subst e
  exact own_lt (Kd.own_of_R HO4.out) ad.block (by simp [Value.ownBlock])
set_option maxHeartbeats 4000000 in
set_option maxRecDepth 100000 in
theorem rnum_in (g : Nat) (A : Option Addr) (c : Nat) (all : List Int) (p : Nat) (er : Int) (w : World) (h : RefIn w g A c all p er) : Calls Tryd.prog 91 #[.pointer (some ⟨g, 0, none⟩)] w fun e w' => e = .returned (.int .i64 (numS (all.drop p) er).1) ∧ (∃ p', (numS (all.drop p) er).2.1 = all.drop p' ∧ RefIn w' g A c all p' (numS (all.drop p) er).2.2) ∧ w.grownBy w' (some g) := by
  have HD := Lib.hid h
  obtain ⟨h1, h2, h4, h5, h6, h7, h8⟩ := h
  obtain ⟨bs, h3⟩ : ∃ bs, all.drop p = bs := ⟨_, rfl⟩
  have HP3 := Lib.hid h3
  rw [h3]
  have k0 : w.cell? ⟨g, 0, none⟩ = some (.slice A all.length c) := by rw [blk_cell h1]; rfl
  have k1 : w.cell? ⟨g, 1, none⟩ = some (.int .i64 (p : Int)) := by rw [blk_cell h1]; rfl
  have k2 : w.cell? ⟨g, 2, none⟩ = some (.int .i64 er) := by rw [blk_cell h1]; rfl
  have f1 := blk_frozen h1 1
  have f2 := blk_frozen h1 2
  by_cases h0 : er = 0
  · subst h0
    have HS : Hid (numS bs 0 = ((numG bs).1, bs.drop (numG bs).2.1, (numG bs).2.2)) := Lib.hid (by simp [numS])
    have HI : Hid (∀ W, Below w.heap.size w W → Calls Tryd.prog 140 #[.slice A all.length c, .int .i64 (p : Int)] W fun e w' => e = .returned (.tuple #[.int .i64 (rnumG all p).1, .int .i64 (rnumG all p).2.1, .int .i64 (rnumG all p).2.2]) ∧ W = w') := Lib.hid (fun W hb => rnumber_in A c all p W (Kd.C_below h5 hb) h7 h2 h8)
    have HEND : Hid (∀ (p' : Nat) (e : Int) (W : World), p' ≤ all.length → W.heap[g]? = some (.cells #[.slice A all.length c, .int .i64 (p' : Int), .int .i64 e] 162 (0, 0)) → w.grownBy W (some g) → RefIn W g A c all p' e ∧ w.grownBy W (some g)) := Lib.hid (fun p' e W hp hb hgr => ref_end (blk_lt h1) hp h4 h5 h6 h7 h8 hb hgr)
    have H1 := Lib.hid h1
    have HRG : Hid (rnumG all p = ((numG bs).1, if (numG bs).2.2 = 0 then ((p + (numG bs).2.1 : Nat) : Int) else 0, (numG bs).2.2)) := Lib.hid (by rw [← h3]; rfl)
    have hbd := numG_bounds bs
    have herr := numG_err bs
    have HDP : Hid (∀ u, bs.drop u = all.drop (p + u)) := Lib.hid (fun u => by rw [← h3, List.drop_drop])
    have hlen : bs.length = all.length - p := by rw [← h3, List.length_drop]
    rw [HRG.out] at HI
    rw [HS.out]
    generalize numG bs = r at *
    obtain ⟨v, u, e⟩ := r
    simp only at hbd herr HI ⊢
    have hpu : p + u ≤ all.length := by omega
    clear h1 h3 h4 h5 h6 h7 h8 HS HRG hbd
    by_cases he : e = 0
    · subst he
      rw [if_pos rfl] at HI
      have hcast : ((p + u : Nat) : Int) = (p : Int) + (u : Int) := by omega
      obtain ⟨q, hq⟩ : ∃ q : Nat, q = p + u := ⟨_, rfl⟩
      rw [← hq] at HI hpu
      have HQ : Hid (bs.drop u = all.drop q) := Lib.hid (by rw [HDP.out, hq])
      clear hq hcast herr HDP h2
      go_enter Tryd.func91, Tryd.ntmps91
      go_wp2_with fail
      go_quiet ((go_at_call 140; exact Calls.quiet_of_same ((HI.out _ (pw_below_drewN (Below.refl _ _) _)).mono (fun _ _ h => ⟨h.1, h.2.symm⟩))))
      go_wp2
      go_ret
      obtain ⟨hA, hB⟩ := HEND.out q 0 _ hpu (blk_put (blk_drewN H1.out _) 1 (.int .i64 (q : Int)) rfl) (set_grown (drewN_grown (World.grownBy.refl w (some g)) nq) 1 (.int .i64 (q : Int)))
      exact ⟨rfl, ⟨q, HQ.out, hA⟩, hB⟩
    · rw [if_neg he] at HI
      obtain ⟨hv, hu⟩ := herr he
      subst hv hu
      have hne : (e != 0) = true := by simp [he]
      have HQ : Hid (bs.drop 0 = all.drop p) := Lib.hid (by rw [HDP.out, Nat.add_zero])
      clear herr HDP he hpu hlen
      go_enter Tryd.func91, Tryd.ntmps91
      go_wp2_with fail
      go_quiet ((go_at_call 140; exact Calls.quiet_of_same ((HI.out _ (pw_below_drewN (Below.refl _ _) _)).mono (fun _ _ h => ⟨h.1, h.2.symm⟩))))
      go_wp2
      go_ret
      obtain ⟨hA, hB⟩ := HEND.out p e _ h2 (blk_put (blk_drewN H1.out _) 2 (.int .i64 e) rfl) (set_grown (drewN_grown (World.grownBy.refl w (some g)) nq) 2 (.int .i64 e))
      exact ⟨rfl, ⟨p, HQ.out, hA⟩, hB⟩
  · have HS : Hid (numS bs er = (0, bs, er)) := Lib.hid (by simp [numS, h0])
    rw [HS.out]
    have e1 : (er != 0) = true := by simp [h0]
    clear h1 h2 h3 h4 h5 h6 h7 h8 h0
    go_enter Tryd.func91, Tryd.ntmps91
    go_wp2
    go_ret
    exact ⟨rfl, ⟨p, HP3.out.symm, HD.out⟩, World.grownBy.refl w _⟩
theorem rnum_any (g : Nat) (bs : List Int) (er : Int) (w : World) (h : RefAt w g bs er) : Calls Tryd.prog 91 #[.pointer (some ⟨g, 0, none⟩)] w fun e w' => e = .returned (.int .i64 (numS bs er).1) ∧ RefAt w' g (numS bs er).2.1 (numS bs er).2.2 ∧ w.grownBy w' (some g) := by
  obtain ⟨A, c, all, p, h1, h2, rfl, h4, h5, h6, h7, h8⟩ := h
  refine (rnum_in g A c all p er w ⟨h1, h2, h4, h5, h6, h7, h8⟩).mono ?_
  rintro e w' ⟨rfl, ⟨p', hp', hR⟩, hg⟩
  exact ⟨rfl, by rw [hp']; exact hR.at, hg⟩
end Go.Proofs.YtojocffjajcdmaaDoor
namespace Go.Proofs.YtojocffjajcdmaaDoor
open Go.RowKit Go.Proofs.YtojocffjajcdmaaDoorW.PrintWords Go.Proofs.YtojocffjajcdmaaDoorW.PrintLast Go.Proofs.YtojocffjajcdmaaDoorW.PrintMore PChunkAll
set_option linter.unusedVariables false
set_option linter.unusedSimpArgs false

theorem RefIn.drewN {w : World} {g : Nat} {A : Option Addr} {c : Nat} {all : List Int} {p : Nat} {er : Int} (h : RefIn w g A c all p er) (n : Nat) : RefIn (w.drewN n) g A c all p er := by
  obtain ⟨h1, h2, h4, h5, h6⟩ := h
  exact ⟨blk_drewN h1 n, h2, h4, Kd.C_below h5 (pw_below_drewN (Below.refl _ _) n), h6⟩
set_option maxHeartbeats 2000000 in
set_option maxRecDepth 100000 in
theorem left_any (g : Nat) (A : Option Addr) (c : Nat) (all : List Int) (p : Nat) (er : Int) (w : World) (h : RefIn w g A c all p er) : Calls Tryd.prog 142 #[.pointer (some ⟨g, 0, none⟩)] w fun e w' => e = .returned (.int .i64 ((all.drop p).length : Int)) ∧ ∃ n, w' = w.drewN n := by
  obtain ⟨h1, h2, h4, h5, h6, h7, h8⟩ := h
  have k0 : w.cell? ⟨g, 0, none⟩ = some (.slice A all.length c) := by rw [blk_cell h1]; rfl
  have k1 : w.cell? ⟨g, 1, none⟩ = some (.int .i64 (p : Int)) := by rw [blk_cell h1]; rfl
  have hw : wrap64 ((all.length : Int) - (p : Int)) = (all.length : Int) - (p : Int) := by
    rw [show (all.length : Int) - (p : Int) = ((all.length - p : Nat) : Int) by omega]; exact wrap64_nat _ (by omega)
  have HL : Hid (((all.drop p).length : Int) = (all.length : Int) - (p : Int)) := Lib.hid (by rw [List.length_drop]; omega)
  clear h1 h4 h5 h6 h7
  go_enter Tryd.func142, Tryd.ntmps142
  go_wp2_with fail
  go_quiet (fail)
  go_wp2
  go_ret
  exact ⟨by rw [HL.out]; rfl, _, rfl⟩
set_option maxHeartbeats 2000000 in
set_option maxRecDepth 100000 in
theorem rdone_any (g : Nat) (bs : List Int) (er : Int) (w : World) (h : RefAt w g bs er) : Calls Tryd.prog 94 #[.pointer (some ⟨g, 0, none⟩)] w fun e w' => e = .returned (.int .i64 (doneG bs er)) ∧ ∃ n, w' = w.drewN n := by
  obtain ⟨A, c, all, p, h1, h2, h3, h4, h5, h6, h7, h8⟩ := h
  have HL := Lib.hid (left_any g A c all p er w ⟨h1, h2, h4, h5, h6, h7, h8⟩)
  have k2 : w.cell? ⟨g, 2, none⟩ = some (.int .i64 er) := by rw [blk_cell h1]; rfl
  rw [h3] at HL
  clear h1 h2 h3 h4 h5 h6 h7 h8
  by_cases h0 : er = 0
  · subst h0
    by_cases hp : 0 < bs.length
    · have hpi : decide ((0 : Int) < (bs.length : Int)) = true := decide_eq_true (by omega)
      have HD : Hid (doneG bs 0 = 21) := Lib.hid (by simp [doneG, hp])
      go_enter Tryd.func94, Tryd.ntmps94
      go_wp2_with (first | (go_at_call 142; (with_reducible refine (HL.out).mono ?_); rintro e w2 ⟨rfl, n, rfl⟩))
      go_ret
      exact ⟨by rw [HD.out]; rfl, _, rfl⟩
    · have hpi : decide ((0 : Int) < (bs.length : Int)) = false := decide_eq_false (by omega)
      have HD : Hid (doneG bs 0 = 0) := Lib.hid (by unfold doneG; rw [if_neg (by simp), if_neg hp])
      go_enter Tryd.func94, Tryd.ntmps94
      go_wp2_with (first | (go_at_call 142; (with_reducible refine (HL.out).mono ?_); rintro e w2 ⟨rfl, n, rfl⟩))
      go_ret
      exact ⟨by rw [HD.out]; rfl, _, rfl⟩
  · have HD : Hid (doneG bs er = er) := Lib.hid (by simp [doneG, h0])
    have e1 : (er == 0) = false := by simp [h0]
    have e2 : decide (er = 0) = false := decide_eq_false h0
    clear h0
    go_enter Tryd.func94, Tryd.ntmps94
    go_wp2
    go_ret
    exact ⟨by rw [HD.out]; rfl, 0, rfl⟩
end Go.Proofs.YtojocffjajcdmaaDoor
namespace Go.Proofs.YtojocffjajcdmaaDoor
open Go.RowKit Go.Proofs.YtojocffjajcdmaaDoorW.PrintWords Go.Proofs.YtojocffjajcdmaaDoorW.PrintLast Go.Proofs.YtojocffjajcdmaaDoorW.PrintMore PChunkAll
set_option linter.unusedVariables false
set_option linter.unusedSimpArgs false

set_option maxHeartbeats 4000000 in
set_option maxRecDepth 100000 in
theorem rtext_in (g : Nat) (A : Option Addr) (c : Nat) (all : List Int) (p : Nat) (er : Int) (w : World) (h : RefIn w g A c all p er) : Calls Tryd.prog 93 #[.pointer (some ⟨g, 0, none⟩)] w fun e w' => e = .returned (.string (textS (all.drop p) er).1) ∧ RefAt w' g (textS (all.drop p) er).2.1 (textS (all.drop p) er).2.2 ∧ w.grownBy w' (some g) := by
  have HU := Lib.hid (rnum_in g A c all p er w h)
  have HIN := Lib.hid h
  obtain ⟨h1, h2, h4, h5, h6, h7, h8⟩ := h
  have k1 : w.cell? ⟨g, 1, none⟩ = some (.int .i64 (p : Int)) := by rw [blk_cell h1]; rfl
  have hv := numS_val (all.drop p) er
  have hlt := blk_lt h1
  have HBACK : Hid (∀ (W : World) (q : Nat) (e : Int), q ≤ all.length → W.heap[g]? = some (.cells #[.slice A all.length c, .int .i64 (q : Int), .int .i64 e] 162 (0, 0)) → w.grownBy W (some g) → RefAt W g (all.drop q) e ∧ w.grownBy W (some g)) := Lib.hid (fun W q e hq hb hgr => by
    obtain ⟨hA, hB⟩ := ref_end hlt hq h4 h5 h6 h7 h8 hb hgr
    exact ⟨hA.at, hB⟩)
  have HP := Lib.hid h2
  have HL8 := Lib.hid h8
  have HC4 := Lib.hid h4
  clear h1 h2 h4 h5 h6 h7 h8 hlt
  have HS : Hid (textS (all.drop p) er = if (numS (all.drop p) er).2.2 ≠ 0 then (noStr, all.drop p, (numS (all.drop p) er).2.2)
    else if 65536 < (numS (all.drop p) er).1 then (noStr, all.drop p, 21)
    else if ((numS (all.drop p) er).2.1.length : Int) < (numS (all.drop p) er).1 then (noStr, all.drop p, 20)
    else (strOfNums ((numS (all.drop p) er).2.1.take (numS (all.drop p) er).1.toNat), (numS (all.drop p) er).2.1.drop (numS (all.drop p) er).1.toNat, 0)) := Lib.hid rfl
  generalize numS (all.drop p) er = r at *
  obtain ⟨n, b1, e1⟩ := r
  simp only at HU hv HS
  obtain ⟨hv0, hv1⟩ := hv
  by_cases he : e1 = 0
  · subst he
    by_cases hn : 65536 < n
    · have HT : Hid (textS (all.drop p) er = (noStr, all.drop p, 21)) := Lib.hid (by rw [HS.out, if_neg (by simp), if_pos hn])
      rw [HT.out]
      have d1 : decide (65536 < n) = true := decide_eq_true hn
      clear HS
      go_enter Tryd.func93, Tryd.ntmps93
      go_wp2_with (first | (go_at_call 91; (with_reducible refine (HU.out).mono ?_); rintro e w2 ⟨rfl, ⟨p', hp', hR⟩, hgr⟩; have HRI := Lib.hid hR; have b1' := hR.1; have m0 : w2.cell? ⟨g, 0, none⟩ = some (.slice A all.length c) := (by rw [blk_cell b1']; rfl); have m1 : w2.cell? ⟨g, 1, none⟩ = some (.int .i64 (p' : Int)) := (by rw [blk_cell b1']; rfl); have m2 : w2.cell? ⟨g, 2, none⟩ = some (.int .i64 0) := (by rw [blk_cell b1']; rfl); have f1 := blk_frozen b1' 1; have f2 := blk_frozen b1' 2; have B1 := Lib.hid b1'; have HGR := Lib.hid hgr;  have HPP := Lib.hid hp'; clear b1' hgr hR hp'))
      go_ret
      exact ⟨rfl, HBACK.out _ p 21 HP.out (blk_put (blk_put B1.out 2 _ rfl) 1 _ rfl) (set_grown (set_grown HGR.out 2 _) 1 _)⟩
    · by_cases hl : (b1.length : Int) < n
      · have HT : Hid (textS (all.drop p) er = (noStr, all.drop p, 20)) := Lib.hid (by rw [HS.out, if_neg (by simp), if_neg hn, if_pos hl])
        rw [HT.out]
        have d1 : decide (65536 < n) = false := decide_eq_false hn
        have d2 : decide ((b1.length : Int) < n) = true := decide_eq_true hl
        clear HS
        go_enter Tryd.func93, Tryd.ntmps93
        go_wp2_with (first | (go_at_call 91; (with_reducible refine (HU.out).mono ?_); rintro e w2 ⟨rfl, ⟨p', hp', hR⟩, hgr⟩; have HRI := Lib.hid hR; have b1' := hR.1; have m0 : w2.cell? ⟨g, 0, none⟩ = some (.slice A all.length c) := (by rw [blk_cell b1']; rfl); have m1 : w2.cell? ⟨g, 1, none⟩ = some (.int .i64 (p' : Int)) := (by rw [blk_cell b1']; rfl); have m2 : w2.cell? ⟨g, 2, none⟩ = some (.int .i64 0) := (by rw [blk_cell b1']; rfl); have f1 := blk_frozen b1' 1; have f2 := blk_frozen b1' 2; have B1 := Lib.hid b1'; have HGR := Lib.hid hgr; have HLE := Lib.hid (left_any g A c all p' 0 w2 hR); rw [← hp'] at HLE; have HPP := Lib.hid hp'; clear b1' hgr hR hp') | (go_at_call 142; (with_reducible refine (HLE.out).mono ?_); rintro e w3 ⟨rfl, nl, rfl⟩; have m0' : (w2.drewN nl).cell? ⟨g, 0, none⟩ = some (.slice A all.length c) := m0; have m1' : (w2.drewN nl).cell? ⟨g, 1, none⟩ = some (.int .i64 (p' : Int)) := m1; have m2' : (w2.drewN nl).cell? ⟨g, 2, none⟩ = some (.int .i64 0) := m2; have f1' : (w2.drewN nl).frozen? ⟨g, 1, none⟩ = false := f1; have f2' : (w2.drewN nl).frozen? ⟨g, 2, none⟩ = false := f2))
        go_ret
        exact ⟨rfl, HBACK.out _ p 20 HP.out (blk_put (blk_put (blk_drewN B1.out _) 2 _ rfl) 1 _ rfl) (set_grown (set_grown (drewN_grown HGR.out _) 2 _) 1 _)⟩
      · have HT : Hid (textS (all.drop p) er = (strOfNums (b1.take n.toNat), b1.drop n.toNat, 0)) := Lib.hid (by rw [HS.out, if_neg (by simp), if_neg hn, if_neg hl])
        rw [HT.out]
        obtain ⟨m, rfl⟩ := Int.eq_ofNat_of_zero_le hv0
        have hml : m ≤ b1.length := by omega
        have d1 : decide (65536 < (m : Int)) = false := decide_eq_false hn
        have d1' : decide (65536 < m) = false := decide_eq_false (by omega)
        have d2 : decide ((b1.length : Int) < (m : Int)) = false := decide_eq_false hl
        have d2' : decide (b1.length < m) = false := decide_eq_false (by omega)
        clear HS hv0 hv1 hl hn
        go_enter Tryd.func93, Tryd.ntmps93
        go_wp2_with (first | (go_at_call 91; (with_reducible refine (HU.out).mono ?_); rintro e w2 ⟨rfl, ⟨p', hp', hR⟩, hgr⟩; have HRI := Lib.hid hR; have b1' := hR.1; have m0 : w2.cell? ⟨g, 0, none⟩ = some (.slice A all.length c) := (by rw [blk_cell b1']; rfl); have m1 : w2.cell? ⟨g, 1, none⟩ = some (.int .i64 (p' : Int)) := (by rw [blk_cell b1']; rfl); have m2 : w2.cell? ⟨g, 2, none⟩ = some (.int .i64 0) := (by rw [blk_cell b1']; rfl); have f1 := blk_frozen b1' 1; have f2 := blk_frozen b1' 2; have B1 := Lib.hid b1'; have HGR := Lib.hid hgr; have HLE := Lib.hid (left_any g A c all p' 0 w2 hR); rw [← hp'] at HLE;have hbl : b1.length = all.length - p' := (by rw [hp', List.length_drop]); have hpm : p' + m ≤ all.length := (by have := hR.2.1; omega); have hw0 : wrap64 ((p' : Int) + (m : Int)) = (p' : Int) + (m : Int) := wrap64_two p' m (by have := HL8.out; omega); have HPM := Lib.hid hpm; clear hbl hpm; have HPP := Lib.hid hp'; clear b1' hgr hR hp') | (go_at_call 142; (with_reducible refine (HLE.out).mono ?_); rintro e w3 ⟨rfl, nl, rfl⟩; have m0' : (w2.drewN nl).cell? ⟨g, 0, none⟩ = some (.slice A all.length c) := m0; have m1' : (w2.drewN nl).cell? ⟨g, 1, none⟩ = some (.int .i64 (p' : Int)) := m1; have m2' : (w2.drewN nl).cell? ⟨g, 2, none⟩ = some (.int .i64 0) := m2; have f1' : (w2.drewN nl).frozen? ⟨g, 1, none⟩ = false := f1; have f2' : (w2.drewN nl).frozen? ⟨g, 2, none⟩ = false := f2))
        obtain ⟨W0, hW0⟩ : ∃ W0, W0 = (w2.drewN nl).setCell ⟨g, 1, none⟩ (.int .i64 ((p' : Int) + (m : Int))) := ⟨_, rfl⟩
        rw [← hW0]
        have hcast : ((p' + m : Nat) : Int) = (p' : Int) + (m : Int) := by omega
        have hblk : W0.heap[g]? = some (.cells #[.slice A all.length c, .int .i64 ((p' : Int) + (m : Int)), .int .i64 0] 162 (0, 0)) := by rw [hW0]; exact blk_put (blk_drewN B1.out _) 1 _ rfl
        have hgw : w2.grownBy W0 (some g) := by rw [hW0]; exact set_grown (drewN_grown (World.grownBy.refl w2 _) _) 1 _
        have hgw2 : w.grownBy W0 (some g) := by rw [hW0]; exact set_grown (drewN_grown HGR.out _) 1 _
        obtain ⟨hA, hB⟩ := HBACK.out W0 (p' + m) 0 HPM.out (by rw [hcast]; exact hblk) hgw2
        have hC0 : Kd.C KB W0 A all.length all := C_old HRI.out.2.2.2.1 HRI.out.2.2.2.2.1 (fun k hk => hgw.block k (Nat.lt_trans hk (blk_lt HRI.out.1)) (by intro x; injection x with x; omega))
        have hCm := Kd.C_mid (k := KB) (c := c) (lo := p') (hi := p' + m) hC0 (by omega) HPM.out HC4.out
        have hlm : ((all.take (p' + m)).drop p').length = m := by rw [List.length_drop, List.length_take]; have := HPM.out; omega
        have hbm : (all.take (p' + m)).drop p' = b1.take m := by rw [HPP.out, List.drop_take]; congr 1; omega
        rw [hlm, hbm, show p' * KB.sz = p' from Nat.mul_one p'] at hCm
        obtain ⟨i5, hi5, _, hsz5, _⟩ := info_parts info5
        have hmid := cut_mid (P := Tryd.prog) 23 5 .i64 .i64 Tryd.underlying23 hi5 1 hsz5 A all.length c (p' : Int) ((p' : Int) + (m : Int)) (by omega) (by omega) (by have := HPM.out; omega) HC4.out
        rw [show ((p' : Int) + (m : Int)).toNat = p' + m by omega, Int.toNat_natCast, show p' + m - p' = m by omega, Nat.mul_one] at hmid
        generalize (if c = p' then A else Option.map (fun x => x.add p') A) = A' at *
        generalize c - p' = c' at *
        have hcv := fun k => Kd.C_string (P := Tryd.prog) (c := c') Tryd.underlying23 Tryd.underlying5 Tryd.underlying9 (Kd.C_below hCm (pw_below_drewN (Below.refl _ _) k))
        have c0 : W0.cell? ⟨g, 0, none⟩ = some (.slice A all.length c) := by rw [blk_cell hblk]; rfl
        have c1 : W0.cell? ⟨g, 1, none⟩ = some (.int .i64 ((p' : Int) + (m : Int))) := by rw [blk_cell hblk]; rfl
        have hws : wrap64 ((p' : Int) + (m : Int) - (m : Int)) = (p' : Int) := by rw [show (p' : Int) + (m : Int) - (m : Int) = (p' : Int) by omega]; exact wrap64_nat p' (by have := HL8.out; have := HPM.out; omega)
        have hws2 : wrap64 (p' : Int) = (p' : Int) := wrap64_nat p' (by have := HL8.out; have := HPM.out; omega)
        have HA := Lib.hid hA
        have HB := Lib.hid hB
        have HDR : Hid (b1.drop m = all.drop (p' + m)) := Lib.hid (by rw [HPP.out, List.drop_drop])
        clear hA hB hC0 hCm hlm hbm hgw hgw2 hblk hW0 hcast m0 m1 m2 m0' m1' m2'
        go_quiet (fail)
        go_wp2
        go_ret
        refine ⟨by rw [Int.toNat_natCast]; rfl, ?_, drewN_grown HB.out _⟩
        rw [Int.toNat_natCast, HDR.out]
        exact HA.out.below (pw_below_drewN (Below.refl _ _) _)
  · have HT : Hid (textS (all.drop p) er = (noStr, all.drop p, e1)) := Lib.hid (by rw [HS.out, if_pos he])
    rw [HT.out]
    have hne : (e1 != 0) = true := by simp [he]
    have heq : (e1 == 0) = false := by simp [he]
    have hde : decide (e1 = 0) = false := decide_eq_false he
    clear HS he hv0 hv1
    go_enter Tryd.func93, Tryd.ntmps93
    go_wp2_with (first | (go_at_call 91; (with_reducible refine (HU.out).mono ?_); rintro e w2 ⟨rfl, ⟨p', hp', hR⟩, hgr⟩; have HRI := Lib.hid hR; have b1' := hR.1; have m0 : w2.cell? ⟨g, 0, none⟩ = some (.slice A all.length c) := (by rw [blk_cell b1']; rfl); have m1 : w2.cell? ⟨g, 1, none⟩ = some (.int .i64 (p' : Int)) := (by rw [blk_cell b1']; rfl); have m2 : w2.cell? ⟨g, 2, none⟩ = some (.int .i64 e1) := (by rw [blk_cell b1']; rfl); have f1 := blk_frozen b1' 1; have f2 := blk_frozen b1' 2; have B1 := Lib.hid b1'; have HGR := Lib.hid hgr;  have HPP := Lib.hid hp'; clear b1' hgr hR hp'))
    go_ret
    exact ⟨rfl, HBACK.out _ p e1 HP.out (blk_put B1.out 1 _ rfl) (set_grown HGR.out 1 _)⟩
theorem rtext_any (g : Nat) (bs : List Int) (er : Int) (w : World) (h : RefAt w g bs er) : Calls Tryd.prog 93 #[.pointer (some ⟨g, 0, none⟩)] w fun e w' => e = .returned (.string (textS bs er).1) ∧ RefAt w' g (textS bs er).2.1 (textS bs er).2.2 ∧ w.grownBy w' (some g) := by
  obtain ⟨A, c, all, p, h1, h2, rfl, h4, h5, h6, h7, h8⟩ := h
  exact rtext_in g A c all p er w ⟨h1, h2, h4, h5, h6, h7, h8⟩
end Go.Proofs.YtojocffjajcdmaaDoor
namespace Go.Proofs.YtojocffjajcdmaaDoor
open Go.RowKit Go.Proofs.YtojocffjajcdmaaDoorW.PrintWords Go.Proofs.YtojocffjajcdmaaDoorW.PrintLast Go.Proofs.YtojocffjajcdmaaDoorW.PrintMore PChunkAll
set_option linter.unusedVariables false
set_option linter.unusedSimpArgs false

theorem labs_ref {ok : Nat → Prop} {w w' : World} {g base : Nat} {bs : List Int} {er : Int} {v : Value} {ls : List S112} (h : Kd.R k112 112 w base ok v ls) (hd : RefAt w g bs er) (hg : w.grownBy w' (some g)) : Kd.R k112 112 w' base ok v ls := by
  obtain ⟨A, c, all, p, h1, _⟩ := hd
  exact Kd.R_mono (Kd.R_grown (Kd.R_types h h1 (by decide)) hg (fun k hk e => by injection e with e; exact hk.2 e)) (fun _ hk => hk.1)
theorem alloc_grown {w W : World} {r : Option Nat} (h : w.grownBy W r) (o : Obj) : w.grownBy (W.alloc o) r :=
  ⟨h.os, h.tape, h.output, Nat.le_trans h.size (by simp), fun k hk hr => (Below.heap_alloc W o k (Nat.lt_of_lt_of_le hk h.size)).trans (h.block k hk hr)⟩
/-- Labels of one's own know nothing of a block that comes later. -/
theorem labs_late {w : World} {base : Nat} {v : Value} {ls : List S112} (h : Kd.R k112 112 w base (fun _ => True) v ls) : Kd.R k112 112 w base (fun k => k ≠ w.heap.size) v ls :=
  Kd.R_mono (Kd.R_bound h) (fun k hk e => by have := hk.2.2.1; omega)
/-- A block that is no label row's is written below g's. -/
theorem low_grown {w W W' : World} {g : Nat} (h : w.grownBy W (some g)) (hb : Below w.heap.size W W') : w.grownBy W' (some g) :=
  ⟨hb.os.trans h.os, hb.tape.trans h.tape, hb.output.trans h.output, Nat.le_trans h.size hb.size, fun k hk hr => (hb.block k hk).trans (h.block k hk hr)⟩
theorem setCell_size (W : World) (a : Addr) (v : Value) : (W.setCell a v).heap.size = W.heap.size := by simp [World.setCell]
theorem below_set' {W : World} {B e i : Nat} {u : Value} (he : B ≤ e) : Below B W (W.setCell ⟨e, i, none⟩ u) := (Below.refl B W).setCell he u
theorem low_grown2 {w W W' : World} {g : Nat} (h : w.grownBy W (some g)) (hb : Below w.heap.size W W') : w.grownBy W' (some g) := low_grown h hb
def FrRel (b1 : List Int) (e1 : Int) (m : Nat) (g : Nat) (w : World) (v4 v5 : Value) (wr : World) : Prop :=
  ∃ k : Nat, v5 = .int .i64 (k : Int) ∧ k ≤ m ∧ RefAt wr g (labsS b1 e1 k).2.1 (labsS b1 e1 k).2.2 ∧ Kd.R k112 112 wr w.heap.size (fun _ => True) v4 (labsS b1 e1 k).1 ∧ w.grownBy wr (some g)

set_option maxHeartbeats 8000000 in
set_option maxRecDepth 100000 in
theorem from_any (g : Nat) (bs : List Int) (w : World) (h : RefAt w g bs 0) : Calls Tryd.prog 141 #[.pointer (some ⟨g, 0, none⟩)] w fun e w' => ∃ v, e = .returned v ∧ Kd.R k112 112 w' w.heap.size (fun _ => True) v (readS bs).1 ∧ RefAt w' g (readS bs).2.1 (readS bs).2.2 ∧ w.grownBy w' (some g) := by
  have HG := Lib.hid h.lt
  have HRS : Hid (readS bs = labsS (numS bs 0).2.1 (numS bs 0).2.2 (cnt (numS bs 0).1)) := Lib.hid rfl
  have HDN := Lib.hid (rnum_any g bs 0 w h)
  have hv := numS_val bs 0
  clear h
  obtain ⟨n, hn⟩ : ∃ n, n = (numS bs 0).1 := ⟨_, rfl⟩
  obtain ⟨b1, hb1⟩ : ∃ n, n = (numS bs 0).2.1 := ⟨_, rfl⟩
  obtain ⟨e1, he1⟩ : ∃ n, n = (numS bs 0).2.2 := ⟨_, rfl⟩
  rw [← hn, ← hb1, ← he1] at HRS HDN
  rw [← hn] at hv
  obtain ⟨m, hm⟩ : ∃ m : Nat, m = cnt n := ⟨_, rfl⟩
  rw [← hm] at HRS
  have HMN : Hid (m ≤ 17 ∧ (m : Int) ≤ n ∧ ((m : Int) = n ∨ m = 17)) := Lib.hid (by rw [hm]; unfold cnt; omega)
  clear hn hb1 he1 hm
  go_enter Tryd.func141, Tryd.ntmps141
  go_wp2_with (first | (go_at_call 91; (with_reducible refine (HDN.out).mono ?_); rintro e w3 ⟨rfl, hd, hgr⟩; have HD3 := Lib.hid hd; have HB3 := Lib.hid hgr; clear hd hgr))
  go_loopw [4, 5] (fun v4 v5 wr => FrRel b1 e1 m g w v4 v5 wr) (fun _ v5 _ => m - (intOf v5).toNat)
  case atStart => exact ⟨0, rfl, Nat.zero_le _, HD3.out, Kd.R_nil _ _ _ _ _, HB3.out⟩
  case round =>
    obtain ⟨k, rfl, hk, hd, ho, hb⟩ := hrel
    obtain ⟨Ao, co, hso⟩ := Kd.R_slice ho
    subst hso
    by_cases hlt : k < m
    · have hmn := HMN.out
      have d1 : decide ((k : Int) < n) = true := decide_eq_true (by omega)
      have d2 : decide ((k : Int) ≤ 16) = true := decide_eq_true (by omega)
      have d3 : decide (k ≤ 16) = true := decide_eq_true (by omega)
      have hm17 := hmn.1
      clear hmn
      have HS : Hid (labsS b1 e1 (k + 1) = ((labsS b1 e1 k).1 ++ [⟨(textS (labsS b1 e1 k).2.1 (labsS b1 e1 k).2.2).1, (textS (textS (labsS b1 e1 k).2.1 (labsS b1 e1 k).2.2).2.1 (textS (labsS b1 e1 k).2.1 (labsS b1 e1 k).2.2).2.2).1⟩],
        (textS (textS (labsS b1 e1 k).2.1 (labsS b1 e1 k).2.2).2.1 (textS (labsS b1 e1 k).2.1 (labsS b1 e1 k).2.2).2.2).2)) := Lib.hid rfl
      have hll := labsS_len b1 e1 k
      generalize labsS b1 e1 k = S at *
      obtain ⟨ls, b2, e2⟩ := S
      simp only at hd ho HS hll
      have hl17 : ls.length ≤ 17 := by have := HMN.out; omega
      clear hll
      have HTX := Lib.hid (fun W (h : RefAt W g b2 e2) => rtext_any g b2 e2 W h)
      generalize textS b2 e2 = T at *
      obtain ⟨s1, b3, e3⟩ := T
      simp only at HTX HS
      have HTY := Lib.hid (fun W (h : RefAt W g b3 e3) => rtext_any g b3 e3 W h)
      generalize textS b3 e3 = T at *
      obtain ⟨s2, b4, e4⟩ := T
      simp only at HTY HS
      have HD4 := Lib.hid hd
      have HO4 := Lib.hid ho
      have HB4 := Lib.hid hb
      clear hd ho hb
      go_wp2_with (first | (go_at_call 93; (with_reducible refine (HTX.out _ HD4.out).mono ?_); rintro e w5 ⟨rfl, hd, hgr⟩; have HD5 := Lib.hid (hd.below (below_alloc (Below.refl _ _) (.cells #[.string s1, .string ⟨#[]⟩] 112))); have HG5 := Lib.hid hd.lt; have HO5 := Lib.hid (Kd.R_alloc (labs_late (labs_ref HO4.out HD4.out hgr)) (.cells #[.string s1, .string ⟨#[]⟩] 112)); have HB5 := Lib.hid (alloc_grown (grown_trans HB4.out hgr) (.cells #[.string s1, .string ⟨#[]⟩] 112)); have HLB := Lib.hid (heap_alloc_new w5 (.cells #[.string s1, .string ⟨#[]⟩] 112)); have HSZ : Hid (w.heap.size ≤ w5.heap.size) := Lib.hid (grown_trans HB4.out hgr).size; clear hd hgr) | (go_at_call 93; (with_reducible refine (HTY.out _ HD5.out).mono ?_); rintro e w6 ⟨rfl, hd, hgr⟩; have HL6 := Lib.hid (blk_grown HLB.out hgr (by intro x; injection x with x; have := HG5.out; omega)); have f6 := blk_frozen HL6.out 1; have x6 := (blk_cell HL6.out 1).trans (rfl : _ = some (Value.string ⟨#[]⟩)); have HL7 := Lib.hid (blk_put HL6.out 1 (.string s2) (cs' := #[.string s1, .string s2]) rfl); have y0 := (blk_cell HL7.out 0).trans (rfl : _ = some (Value.string s1)); have y1 := (blk_cell HL7.out 1).trans (rfl : _ = some (Value.string s2)); have HD6 := Lib.hid (hd.set (i := 1) (u := .string s2) HG5.out); have HO6 := Lib.hid (Kd.R_mono (ok' := fun _ => True) (Kd.R_far (p := ⟨w5.heap.size, 1, none⟩) (labs_ref HO5.out HD5.out hgr) (fun _ hk => hk) (.string s2)) (fun _ _ => trivial)); have HB6 := Lib.hid (low_grown (grown_trans HB5.out hgr) (below_set' (W := w6) (e := w5.heap.size) (i := 1) (u := .string s2) HSZ.out)); clear hd hgr) | ((with_reducible refine gate_builtin (b := .append) (xs := #[.tmp 24, .tmp 26]) rfl ?_); at_builtin; refine Kd.R_append k112 (w0 := w6.setCell ⟨w5.heap.size, 1, none⟩ (.string s2)) (W := w6.setCell ⟨w5.heap.size, 1, none⟩ (.string s2)) w.heap.size rfl (.tmp 24) (.tmp 26) 31 112 (.agg #[(.string ⟨#[]⟩), (.string ⟨#[]⟩)]) 32 rfl Tryd.underlying31 info112 rfl (by decide) (by omega) (.slice Ao ls.length co) ls ⟨s1, s2⟩ [.string s1, .string s2] (fun _ => True) (fun _ => False) rfl (by rw [setCell_size]; rfl) ?aP (fun _ hk => hk.elim) (fun _ _ => trivial) HO6.out (Below.refl _ _) HB6.out.size (by omega) ?_; (case aP => exact k112_mkM _ _ _ ⟨s1, s2⟩); intro v7 w7 ho7 hb7 hg7 hat7; have HO7 := Lib.hid ho7; have HD7 := Lib.hid (HD6.out.low (hb7.mono (Nat.succ_le_of_lt HG.out))); have HB7 := Lib.hid (low_grown2 HB6.out hb7); clear ho7 hb7 hg7 hat7))
      go_roundw
      case rel => exact ⟨k + 1, by go_num, by omega, by rw [HS.out]; exact HD7.out, by rw [HS.out]; exact HO7.out, HB7.out⟩
      case measure => simp [intOf]; omega
    · have hkm : k = m := by omega
      subst hkm
      have HD4 := Lib.hid hd
      have HO4 := Lib.hid ho
      have HB4 := Lib.hid hb
      have hmn := HMN.out
      clear hd ho hb hlt
      by_cases hkn : (k : Int) < n
      · have d1 : decide ((k : Int) < n) = true := decide_eq_true hkn
        have d2 : decide ((k : Int) ≤ 16) = false := decide_eq_false (by omega)
        have d3 : decide (k ≤ 16) = false := decide_eq_false (by omega)
        clear hmn hkn
        go_wp2
        go_ret
        exact ⟨_, rfl, by rw [HRS.out]; exact HO4.out, by rw [HRS.out]; exact HD4.out, HB4.out⟩
      · have d1 : decide ((k : Int) < n) = false := decide_eq_false hkn
        clear hmn hkn
        go_wp2
        go_ret
        exact ⟨_, rfl, by rw [HRS.out]; exact HO4.out, by rw [HRS.out]; exact HD4.out, HB4.out⟩
end Go.Proofs.YtojocffjajcdmaaDoor
namespace Go.Proofs.YtojocffjajcdmaaDoor
open Go.RowKit Go.Proofs.YtojocffjajcdmaaDoorW.PrintWords Go.Proofs.YtojocffjajcdmaaDoorW.PrintLast Go.Proofs.YtojocffjajcdmaaDoorW.PrintMore PChunkAll
set_option linter.unusedVariables false
set_option linter.unusedSimpArgs false

theorem wrap_u8_in (x : Int) (h0 : 0 ≤ x) (h1 : x < 256) : IntKind.u8.wrap x = x := by rw [IntKind.wrap_u8]; exact Int.emod_eq_of_lt h0 h1
theorem rb_y (x y : Nat) (hy : y = x % 128 + 128) : IntKind.u8.wrap ((x : Int) % 128 + 128) = (y : Int) := by rw [wrap_u8_in _ (by omega) (by omega)]; omega
theorem rb_z (x z : Nat) (hz : z = x / 128) : Int.tdiv (x : Int) 128 = (z : Int) := by rw [Int.tdiv_eq_ediv_of_nonneg (by omega)]; omega
theorem rb_m (x : Nat) : Int.tmod (x : Int) 128 = (x : Int) % 128 := Int.tmod_eq_emod_of_nonneg (by omega)
theorem rb_lt (x z : Nat) (hz : z = x / 128) (h : 127 < x) (hx : x < 72057594037927936) : z < x ∧ z < 9223372036854775808 := by omega
theorem rb_meas (x z : Nat) (h : z < x) : (intOf (Value.int .i64 (z : Int))).toNat < (intOf (Value.int .i64 (x : Int))).toNat := by
  show (z : Int).toNat < (x : Int).toNat
  simpa using h
def RBRel (n : Nat) (w : World) (v0 v3 : Value) (wr : World) : Prop :=
  ∃ x : Nat, ∃ acc : List Int, v0 = .int .i64 (x : Int) ∧ x ≤ n ∧ OwnB wr w.heap.size v3 acc ∧ num7 n = acc ++ num7 x ∧ Below w.heap.size w wr

set_option maxHeartbeats 4000000 in
set_option maxRecDepth 100000 in
theorem rbytes_any (n : Nat) (w : World) (h : n < 72057594037927936) : Calls Tryd.prog 107 #[.int .i64 (n : Int)] w (BytesBelow (num7 n) w) := by
  have HN := Lib.hid h
  have HL : Hid ((num7 n).length ≤ 9) := Lib.hid (num7_len n 8 (by omega)).2
  clear h
  go_enter Tryd.func107, Tryd.ntmps107
  go_wp2
  go_loopw [0, 3] (fun v0 v3 wr => RBRel n w v0 v3 wr) (fun v0 _ _ => (intOf v0).toNat)
  case atStart => exact ⟨n, [], rfl, Nat.le_refl _, Kd.R_nil _ _ _ _ _, rfl, Below.refl _ _⟩
  case round =>
    obtain ⟨x, acc, rfl, hx, ho, heq, hb⟩ := hrel
    obtain ⟨Ao, co, hso⟩ := Kd.R_slice ho
    subst hso
    have HO := Lib.hid ho
    have HB := Lib.hid hb
    have hxn : x < 72057594037927936 := by have := HN.out; omega
    have HAL : Hid (acc.length ≤ 9) := Lib.hid (by have := HL.out; rw [heq, List.length_append] at this; omega)
    have HEQ := Lib.hid heq
    have HXN := Lib.hid hx
    clear ho hb heq hx
    by_cases hb127 : 127 < x
    · have d1 : decide ((127 : Int) < (x : Int)) = true := decide_eq_true (by omega)
      have d2 : decide (127 < x) = true := decide_eq_true hb127
      obtain ⟨y, hy⟩ : ∃ y : Nat, y = x % 128 + 128 := ⟨_, rfl⟩
      obtain ⟨z, hz⟩ : ∃ z : Nat, z = x / 128 := ⟨_, rfl⟩
      have hm := rb_m x
      have hy8 := rb_y x y hy
      have hdv := rb_z x z hz
      have hlt2 := rb_lt x z hz hb127 hxn
      have HST : Hid (num7 n = (acc ++ [(y : Int)]) ++ num7 z) := Lib.hid (by rw [HEQ.out, num7_big x hb127, hy, hz]; simp)
      have HZX := Lib.hid hlt2.1
      have hzw : wrap64 (z : Int) = (z : Int) := wrap64_nat z hlt2.2
      clear hy hz hlt2
      go_wp2_with (first | ((with_reducible refine gate_builtin (b := .append) (xs := #[.tmp 6, .tmp 11]) rfl ?_); at_builtin; refine Kd.R_append KB (w0 := w) (W := wr) w.heap.size rfl (.tmp 6) (.tmp 11) 23 5 (.int .u8 0) 1 rfl Tryd.underlying23 info5 rfl (by decide) (by omega) (.slice Ao acc.length co) acc (y : Int) [.int .u8 (y : Int)] (fun _ => True) (fun _ => False) rfl rfl rfl (fun _ hk => hk.elim) (fun _ _ => trivial) HO.out HB.out (below_size HB.out) (by have := HAL.out; omega) ?_; intro v7 w7 ho7 hb7 hg7 hat7; have HO7 := Lib.hid ho7; have HB7 := Lib.hid hb7; clear ho7 hb7 hg7 hat7))
      go_roundw
      case rel => exact ⟨z, acc ++ [(y : Int)], by first | rfl | rw [hzw] | rw [hdv], Nat.le_trans (Nat.le_of_lt HZX.out) HXN.out, HO7.out, HST.out, HB7.out⟩
      case measure => rw [hzw]; exact rb_meas x z HZX.out
    · have d1 : decide ((127 : Int) < (x : Int)) = false := decide_eq_false (by omega)
      have d2 : decide (127 < x) = false := decide_eq_false hb127
      have hx8 : IntKind.u8.wrap (x : Int) = (x : Int) := wrap_u8_in _ (by omega) (by omega)
      have HST : Hid (num7 n = acc ++ [(x : Int)]) := Lib.hid (by rw [HEQ.out, num7_small x hb127])
      clear hb127
      go_wp2_with (first | ((with_reducible refine gate_builtin (b := .append) (xs := #[.tmp 15, .tmp 18]) rfl ?_); at_builtin; refine Kd.R_append KB (w0 := w) (W := wr) w.heap.size rfl (.tmp 15) (.tmp 18) 23 5 (.int .u8 0) 1 rfl Tryd.underlying23 info5 rfl (by decide) (by omega) (.slice Ao acc.length co) acc (x : Int) [.int .u8 (x : Int)] (fun _ => True) (fun _ => False) rfl rfl rfl (fun _ hk => hk.elim) (fun _ _ => trivial) HO.out HB.out (below_size HB.out) (by have := HAL.out; omega) ?_; intro v7 w7 ho7 hb7 hg7 hat7; have HO7 := Lib.hid ho7; have HB7 := Lib.hid hb7; clear ho7 hb7 hg7 hat7))
      go_ret
      exact ⟨_, rfl, by rw [HST.out]; exact HO7.out, HB7.out⟩
end Go.Proofs.YtojocffjajcdmaaDoor
namespace Go.Proofs.YtojocffjajcdmaaDoor
open Go.RowKit Go.Proofs.YtojocffjajcdmaaDoorW.PrintWords Go.Proofs.YtojocffjajcdmaaDoorW.PrintLast Go.Proofs.YtojocffjajcdmaaDoorW.PrintMore PChunkAll
set_option linter.unusedVariables false
set_option linter.unusedSimpArgs false

set_option maxHeartbeats 4000000 in
set_option maxRecDepth 100000 in
theorem rtextb_any (s : ByteArray) (w : World) (h : s.size ≤ 65536) : Calls Tryd.prog 108 #[.string s] w (BytesBelow (text7 s) w) := by
  have HT : Hid (text7 s = num7 s.size ++ bytesOf s) := Lib.hid rfl
  have HL : Hid ((num7 s.size).length + s.size ≤ 140737488355327) := Lib.hid (by have := (num7_len s.size 8 (by omega)).2; omega)
  have HB : Hid (∀ W, Calls Tryd.prog 107 #[.int .i64 (s.size : Int)] W (BytesBelow (num7 s.size) W)) := Lib.hid (fun W => rbytes_any s.size W (by omega))
  clear h
  go_enter Tryd.func108, Tryd.ntmps108
  go_wp2_with (first | (go_at_call 107; (with_reducible refine (HB.out _).mono ?_); rintro e w5 ⟨v, rfl, ho, hb⟩; obtain ⟨A5, c5, h5⟩ := Kd.R_slice ho; subst h5; have HO5 := Lib.hid ho; have HB5 := Lib.hid hb; clear ho hb) | (at_builtin; refine print_append_str (w0 := w) w.heap.size rfl (.tmp 5) _ 23 9 5 rfl Tryd.underlying23 Tryd.underlying9 info5 (.slice A5 (num7 s.size).length c5) (num7 s.size) s rfl rfl (Kd.own_of_R HO5.out) HB5.out (below_size HB5.out) (by have := HL.out; omega) ?_; intro v6 w6 ho0 hb6 hg6; have ho := Kd.R_of_own (h1 := fun _ => rfl) (ok := fun _ => True) ho0 (fun _ _ => trivial); have HO6 := Lib.hid ho; have HB6 := Lib.hid hb6; clear ho ho0 hb6 hg6))
  go_ret
  exact ⟨_, rfl, by rw [HT.out]; exact HO6.out, HB6.out⟩
end Go.Proofs.YtojocffjajcdmaaDoor
namespace Go.Proofs.YtojocffjajcdmaaDoor
open Go.RowKit Go.Proofs.YtojocffjajcdmaaDoorW.PrintWords Go.Proofs.YtojocffjajcdmaaDoorW.PrintLast Go.Proofs.YtojocffjajcdmaaDoorW.PrintMore PChunkAll
set_option linter.unusedVariables false
set_option linter.unusedSimpArgs false

/-- Bytes lent: two more lie behind them. -/
def LentBelow (bs : List Int) (w : World) (e : Ending) (w' : World) : Prop :=
  ∃ A' c', e = .returned (.slice A' bs.length c') ∧ OwnB w' w.heap.size (.slice A' (bs.length + 2) c') (bs ++ [77, 78]) ∧ Below w.heap.size w w'

set_option maxHeartbeats 4000000 in
set_option maxRecDepth 100000 in
theorem lent_any (A : Option Addr) (c : Nat) (bs : List Int) (w : World) (hr : Kd.C KB w A bs.length bs) (hl : bs.length + 2 ≤ 140737488355328) : Calls Tryd.prog 25 #[.slice A bs.length c] w (LentBelow bs w) := by
  have HR := Lib.hid hr
  have HL := Lib.hid hl
  obtain ⟨i5, hi5, _, hsz5, _⟩ := info_parts info5
  clear hr hl
  go_enter Tryd.func25, Tryd.ntmps25
  go_wp2_with (first | ((with_reducible refine gate_dst (N := 4) rfl ?_); refine Kd.R_lit KB (w0 := w) w.heap.size 5 ?hg (N := 4) ?hd (xs := ([] : List Int)) (inner := []) (ok := fun _ => True) (okp := fun _ => True) ?hr ?hp (fun _ hk => hk) trivial (Below.refl _ _) (Nat.le_refl _) (by simp) ?_; (case hd => rfl); (case hg => rfl); (case hr => first | (go_simp; done) | (go_simp; rfl)); (case hp => exact (Reps.none _ _)); intro v1 w1 ho1 hb1 hg1 hn1; obtain ⟨A1, c1, h1⟩ := Kd.R_slice ho1; subst h1; have HO1 := Lib.hid ho1; have HB1 := Lib.hid hb1; have HR1 := Lib.hid (Kd.C_below HR.out hb1); clear ho1 hb1 hg1 hn1) | ((with_reducible refine gate_builtin (b := .append) (xs := #[.tmp 4, .tmp 5]) rfl ?_); at_builtin; refine Kd.R_append_row (Value.int .u8) 0 (w0 := w) w.heap.size rfl (.tmp 4) (.tmp 5) 23 5 (.int .u8 0) 1 rfl Tryd.underlying23 info5 rfl (by omega) _ [] bs A bs.length c (fun _ => True) rfl rfl (fun _ _ => trivial) HO1.out HR1.out HB1.out (below_size HB1.out) (by have := HL.out; simp; omega) ?_; intro v4 w4 ho4 hb4 hg4 hat4; obtain ⟨A4, c4, h4⟩ := Kd.R_slice ho4; subst h4; rw [List.nil_append] at ho4; have HO4 := Lib.hid ho4; have HB4 := Lib.hid hb4; clear ho4 hb4 hg4 hat4) | ((with_reducible refine gate_dst (N := 8) rfl ?_); refine Kd.R_lit KB (w0 := w) w.heap.size 5 ?hg (N := 8) ?hd (xs := ([77, 78] : List Int)) (inner := [.int .u8 77, .int .u8 78]) (ok := fun _ => True) (okp := fun _ => True) ?hr ?hp (fun _ hk => hk) trivial HB4.out HB4.out.size (by simp) ?_; (case hd => rfl); (case hg => rfl); (case hr => first | (go_simp; done) | (go_simp; rfl)); (case hp => exact (Reps.one (show Kd.M KB _ _ _ 77 [.int .u8 77] from rfl) (Reps.one (show Kd.M KB _ _ _ 78 [.int .u8 78] from rfl) (Reps.none _ _)))); intro v8 w8 ho8 hb8 hg8 hn8; obtain ⟨A8, c8, h8⟩ := Kd.R_slice ho8; subst h8; have HO8 := Lib.hid (Kd.R_reads' ho8).2.2; have HB8 := Lib.hid hb8; have HO9 := Lib.hid (Kd.R_grown HO4.out hg8 (fun _ _ e => by cases e)); clear ho8 hb8 hg8 hn8) | ((with_reducible refine gate_builtin (b := .append) (xs := #[.tmp 7, .tmp 8]) rfl ?_); at_builtin; refine Kd.R_append_row (Value.int .u8) 0 (w0 := w) w.heap.size rfl (.tmp 7) (.tmp 8) 23 5 (.int .u8 0) 1 rfl Tryd.underlying23 info5 rfl (by omega) _ bs [77, 78] A8 2 c8 (fun _ => True) rfl rfl (fun _ _ => trivial) HO9.out HO8.out HB8.out (below_size HB8.out) (by have := HL.out; omega) ?_; intro v9 w9 ho9 hb9 hg9 hat9; obtain ⟨A9, c9, h9⟩ := Kd.R_slice ho9; subst h9; have hle := (Kd.R_reads' ho9).2.1; rw [List.length_append] at ho9 hle; change bs.length + 2 ≤ c9 at hle; change Kd.R _ 5 _ _ _ (.slice A9 (bs.length + 2) c9) _ at ho9; have hto := cut_to (P := Tryd.prog) 23 5 .i64 Tryd.underlying23 hi5 A9 (bs.length + 2) c9 (bs.length : Int) (by omega) (by omega) hle; rw [Int.toNat_natCast] at hto; have HO10 := Lib.hid ho9; have HB10 := Lib.hid hb9; clear ho9 hb9 hg9 hat9 hle))
  go_ret
  exact ⟨A9, c9, rfl, HO10.out, HB10.out⟩
end Go.Proofs.YtojocffjajcdmaaDoor
namespace Go.Proofs.YtojocffjajcdmaaDoor
open Go.RowKit Go.Proofs.YtojocffjajcdmaaDoorW.PrintWords Go.Proofs.YtojocffjajcdmaaDoorW.PrintLast Go.Proofs.YtojocffjajcdmaaDoorW.PrintMore PChunkAll
set_option linter.unusedVariables false
set_option linter.unusedSimpArgs false

theorem cut_cap {P : Program} (t e : TypeId) (kh : IntKind) {i : TypeInfo} (ht : P.underlying t = some (.slice e)) (hi : P.info? e = some i) (A : Option Addr) (n c : Nat) (j : Int) (h0 : 0 ≤ j) (hm : j ≤ c) :
    ∀ W : World, (Instr.slice t (.slice A n c) none (some (.int kh j)) none).run P W = .ok (.slice A j.toNat c) W := by
  intro W
  have hel : P.elem t = e := by simp [Program.elem, ht]
  have hu : P.underlying t = some (.slice (P.elem t)) := by rw [hel]; exact ht
  have ha : (A.map fun x => x.add 0) = A := by cases A <;> simp [Addr.add]
  rw [run_slice_h W t A n c hu kh j h0 (by omega), hel]
  simp [sizeOf, typeInfo, hi, sliced, Result.andThen, ha]
/-! ### Stays: what was lent is as it was, and the two bytes behind it -/
set_option maxHeartbeats 4000000 in
set_option maxRecDepth 100000 in
theorem stays_any (A' A : Option Addr) (c' c : Nat) (bs : List Int) (w : World) (hl : Kd.C KB w A' (bs ++ [77, 78]).length (bs ++ [77, 78])) (hc : bs.length + 2 ≤ c') (hr : Kd.C KB w A bs.length bs) (hm : bs.length + 2 ≤ 140737488355328) : Calls Tryd.prog 33 #[.slice A' bs.length c', .slice A bs.length c] w fun e w' => e = .returned (.bool true) ∧ ∃ n, w' = w.drewN n := by
  obtain ⟨i5, hi5, _, hsz5, _⟩ := info_parts info5
  have hlen : (bs ++ [(77 : Int), 78]).length = bs.length + 2 := by simp
  have hto1 := cut_cap (P := Tryd.prog) 23 5 .i64 Tryd.underlying23 hi5 A' bs.length c' ((bs.length : Int) + 2) (by omega) (by omega)
  rw [show ((bs.length : Int) + 2).toNat = bs.length + 2 by omega] at hto1
  have hto2 := cut_to (P := Tryd.prog) 23 5 .i64 Tryd.underlying23 hi5 A' (bs.length + 2) c' (bs.length : Int) (by omega) (by omega) hc
  rw [Int.toNat_natCast] at hto2
  have hCt := take_C (u := bs.length) hl (by omega)
  rw [show (bs ++ [(77 : Int), 78]).take bs.length = bs by simp] at hCt
  have hcv1 := fun k => Kd.C_string (P := Tryd.prog) (c := c') Tryd.underlying23 Tryd.underlying5 Tryd.underlying9 (Kd.C_below hCt (pw_below_drewN (Below.refl _ _) k))
  have hcv2 := fun k => Kd.C_string (P := Tryd.prog) (c := c) Tryd.underlying23 Tryd.underlying5 Tryd.underlying9 (Kd.C_below hr (pw_below_drewN (Below.refl _ _) k))
  obtain ⟨ad, rfl, k0⟩ := byte_at hl bs.length (by omega)
  obtain ⟨ad', he, k1⟩ := byte_at hl (bs.length + 1) (by omega)
  injection he with he
  subst he
  rw [show (bs ++ [(77 : Int), 78]).getD bs.length 0 = 77 by simp [List.getD_eq_getElem?_getD]] at k0
  rw [show (bs ++ [(77 : Int), 78]).getD (bs.length + 1) 0 = 78 by simp [List.getD_eq_getElem?_getD]] at k1
  have hw2 : wrap64 ((bs.length : Int) + 2) = (bs.length : Int) + 2 := wrap64_two bs.length 2 (by omega)
  obtain ⟨M, hM⟩ : ∃ M : Nat, M = bs.length + 1 := ⟨_, rfl⟩
  rw [← hM] at k1
  have hw1 : wrap64 ((bs.length : Int) + 1) = (M : Int) := by rw [show (bs.length : Int) + 1 = (M : Int) by omega]; exact wrap64_nat M (by omega)
  obtain ⟨N, hN⟩ : ∃ N : Nat, N = bs.length + 2 := ⟨_, rfl⟩
  rw [← hN] at hto1 hto2
  have hnn : (0 : Int) ≤ (bs.length : Int) := by omega
  have hi0n : bs.length < N := by omega
  have hi0 : (bs.length : Int) < (N : Int) := by omega
  have hi1 : (M : Int) < (N : Int) := by omega
  have hM0 : (0 : Int) ≤ (M : Int) := by omega
  clear hl hr hCt hlen hN hM hm hc
  go_enter Tryd.func33, Tryd.ntmps33
  go_wp2_with fail
  go_quiet (fail)
  go_wp2
  go_ret
  exact ⟨by simp, _, rfl⟩
end Go.Proofs.YtojocffjajcdmaaDoor
namespace Go.Proofs.YtojocffjajcdmaaDoor
open Go.RowKit Go.Proofs.YtojocffjajcdmaaDoorW.PrintWords Go.Proofs.YtojocffjajcdmaaDoorW.PrintLast Go.Proofs.YtojocffjajcdmaaDoorW.PrintMore PChunkAll
set_option linter.unusedVariables false
set_option linter.unusedSimpArgs false
theorem labsS_sz (bs : List Int) (er : Int) (k : Nat) : ∀ x ∈ (labsS bs er k).1, x.f0.size ≤ 65536 := by
  induction k with
  | zero => intro x hx; cases hx
  | succ k ih =>
    intro x hx
    rw [labsS] at hx
    rcases List.mem_append.1 hx with h | h
    · exact ih x h
    · simp only [List.mem_singleton] at h
      subst h
      exact textS_size _ _
theorem sz_mem {l : List S112} (h : ∀ x ∈ l, x.f0.size ≤ 65536) : SzOk l := fun k hk => by
  have e : l.getD k z112 = l[k] := by simp [hk]
  rw [e]
  have := h _ (List.getElem_mem hk)
  omega
theorem readS_sz (bs : List Int) : SzOk (readS bs).1 := sz_mem (labsS_sz _ _ _)
theorem readL_sz (bs : List Int) : SzOk (readL bs).1 := by
  unfold readL
  split
  · intro k hk; exact absurd hk (Nat.not_lt_zero _)
  · exact readS_sz bs

set_option maxHeartbeats 4000000 in
set_option maxRecDepth 100000 in
/-- The reference's Read. -/
theorem rread_any (A : Option Addr) (c : Nat) (bs : List Int) (w : World) (hr : Kd.C KB w A bs.length bs) (hl : bs.length ≤ 140737488355328) (hB : Byt bs) : Calls Tryd.prog 92 #[.slice A bs.length c] w (LabsBelow (readL bs).1 (readL bs).2 w) := by
  have HNW := Lib.hid (rnew_any A c bs w hr hl hB)
  have HSZ := Lib.hid (readS_sz bs)
  have HFR := Lib.hid (fun g W (h : RefAt W g bs 0) => from_any g bs W h)
  have HRL : Hid (readL bs = if doneG (readS bs).2.1 (readS bs).2.2 ≠ 0 ∨ rightL (readS bs).1 = false then ([], 21) else ((readS bs).1, 0)) := Lib.hid rfl
  clear hr hl hB
  generalize readS bs = S at *
  obtain ⟨ls, b2, e2⟩ := S
  simp only at HFR HRL HSZ
  have HDN := Lib.hid (fun g W (h : RefAt W g b2 e2) => rdone_any g b2 e2 W h)
  generalize doneG b2 e2 = dn at *
  by_cases h0 : dn = 0
  · subst h0
    cases hRL : rightL ls with
    | true =>
      have HE : Hid (readL bs = (ls, 0)) := Lib.hid (by rw [HRL.out, if_neg (by simp [hRL])])
      have HRX : Hid (∀ A c W, Kd.C k112 W A ls.length ls → Calls Tryd.prog 96 #[.slice A ls.length c] W (BoolBelow true W)) := Lib.hid (fun A c W h => by have := rright_any A c ls W h HSZ.out; rwa [hRL] at this)
      clear hRL HRL
      go_enter Tryd.func92, Tryd.ntmps92
      go_wp2_with (first | (go_at_call 90; (with_reducible refine (HNW.out).mono ?_); rintro e w2 ⟨g, rfl, hg, hd, hb⟩; have HD := Lib.hid hd; have HB := Lib.hid hb; have HG := Lib.hid hg; clear hd hb hg) | (go_at_call 141; (with_reducible refine (HFR.out _ _ HD.out).mono ?_); rintro e w3 ⟨v, rfl, ho, hd, hgr⟩; obtain ⟨Al, cl, hv⟩ := Kd.R_slice ho; subst hv; have HD3 := Lib.hid hd; have HO3 := Lib.hid (Kd.R_lower ho HB.out.size); have HB3 := Lib.hid (pw_below_grown HB.out (some g) HB.out.size hgr (fun k hk => by injection hk with hk; rw [← hk]; exact HG.out)); clear ho hd hgr) | (go_at_call 94; (with_reducible refine (HDN.out _ _ HD3.out).mono ?_); rintro e w4 ⟨rfl, n, rfl⟩) | (go_at_call 96; (with_reducible refine (HRX.out _ _ _ (Kd.C_below (Kd.R_reads' HO3.out).2.2 (pw_below_drewN (Below.refl _ _) n))).mono ?_); rintro e w6 ⟨rfl, hb6⟩; have HB6 := Lib.hid (below_step (below_step HB3.out (pw_below_drewN (Below.refl _ _) n)) hb6); have HO6 := Lib.hid (Kd.R_below (Kd.R_below HO3.out (pw_below_drewN (Below.refl _ _) n)) hb6); clear hb6))
      go_ret2
      exact ⟨_, by rw [HE.out]; rfl, by rw [HE.out]; exact HO6.out, HB6.out⟩
    | false =>
      have HE : Hid (readL bs = ([], 21)) := Lib.hid (by rw [HRL.out, if_pos (.inr hRL)])
      have HRX : Hid (∀ A c W, Kd.C k112 W A ls.length ls → Calls Tryd.prog 96 #[.slice A ls.length c] W (BoolBelow false W)) := Lib.hid (fun A c W h => by have := rright_any A c ls W h HSZ.out; rwa [hRL] at this)
      clear hRL HRL
      go_enter Tryd.func92, Tryd.ntmps92
      go_wp2_with (first | (go_at_call 90; (with_reducible refine (HNW.out).mono ?_); rintro e w2 ⟨g, rfl, hg, hd, hb⟩; have HD := Lib.hid hd; have HB := Lib.hid hb; have HG := Lib.hid hg; clear hd hb hg) | (go_at_call 141; (with_reducible refine (HFR.out _ _ HD.out).mono ?_); rintro e w3 ⟨v, rfl, ho, hd, hgr⟩; obtain ⟨Al, cl, hv⟩ := Kd.R_slice ho; subst hv; have HD3 := Lib.hid hd; have HO3 := Lib.hid (Kd.R_lower ho HB.out.size); have HB3 := Lib.hid (pw_below_grown HB.out (some g) HB.out.size hgr (fun k hk => by injection hk with hk; rw [← hk]; exact HG.out)); clear ho hd hgr) | (go_at_call 94; (with_reducible refine (HDN.out _ _ HD3.out).mono ?_); rintro e w4 ⟨rfl, n, rfl⟩) | (go_at_call 96; (with_reducible refine (HRX.out _ _ _ (Kd.C_below (Kd.R_reads' HO3.out).2.2 (pw_below_drewN (Below.refl _ _) n))).mono ?_); rintro e w6 ⟨rfl, hb6⟩; have HB6 := Lib.hid (below_step (below_step HB3.out (pw_below_drewN (Below.refl _ _) n)) hb6); clear hb6))
      go_ret2
      exact ⟨_, by rw [HE.out]; rfl, by rw [HE.out]; exact Kd.R_nil _ _ _ _ _, HB6.out⟩
  · have HE : Hid (readL bs = ([], 21)) := Lib.hid (by rw [HRL.out, if_pos (.inl h0)])
    have hne : (dn != 0) = true := by simp [h0]
    clear h0 HRL
    go_enter Tryd.func92, Tryd.ntmps92
    go_wp2_with (first | (go_at_call 90; (with_reducible refine (HNW.out).mono ?_); rintro e w2 ⟨g, rfl, hg, hd, hb⟩; have HD := Lib.hid hd; have HB := Lib.hid hb; have HG := Lib.hid hg; clear hd hb hg) | (go_at_call 141; (with_reducible refine (HFR.out _ _ HD.out).mono ?_); rintro e w3 ⟨v, rfl, ho, hd, hgr⟩; obtain ⟨Al, cl, hv⟩ := Kd.R_slice ho; subst hv; have HD3 := Lib.hid hd; have HB3 := Lib.hid (pw_below_grown HB.out (some g) HB.out.size hgr (fun k hk => by injection hk with hk; rw [← hk]; exact HG.out)); clear ho hd hgr) | (go_at_call 94; (with_reducible refine (HDN.out _ _ HD3.out).mono ?_); rintro e w4 ⟨rfl, n, rfl⟩))
    go_ret2
    exact ⟨_, by rw [HE.out]; rfl, by rw [HE.out]; exact Kd.R_nil _ _ _ _ _, below_step HB3.out (pw_below_drewN (Below.refl _ _) n)⟩
end Go.Proofs.YtojocffjajcdmaaDoor
