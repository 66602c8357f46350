import Derived.Test.YtojocffjajcdmaaPPostingsListsx8
import Derived.Lib.Varint
import Derived.Lib.Hide
import Derived.Lib.VarintBits
import Derived.Lib.SliceRun
import Derived.BigQuiet
import Derived.Deep.QuietTactic
import Derived.Test.YtojocffjajcdmaaMP
namespace Go.Proofs.Ytojocffjajcdmaa.PB
open Go.RowKit Go.Proofs.YtojocffjajcdmaaW.PrintWords Go.Proofs.YtojocffjajcdmaaW.PrintLast Go.Proofs.YtojocffjajcdmaaW.PrintMore Go.Proofs.Ytojocffjajcdmaa.PPostingsLists
set_option linter.unusedVariables false
set_option linter.unusedSimpArgs false
set_option maxRecDepth 100000

abbrev KB := Kd.int .u8
/-- Bytes of one's own, made since base. -/
abbrev OwnB (w : World) (base : Nat) (v : Value) (bs : List Int) : Prop := Kd.R KB 5 w base (fun _ => True) v bs
def BytesBelow (bs : List Int) (w : World) (e : Ending) (w' : World) : Prop := ∃ v, e = .returned v ∧ OwnB w' w.heap.size v bs ∧ Below w.heap.size w w'
/-! ### Bytes in plain words -/
/-- A number in sevens, the low ones first. -/
def num7 (n : Nat) : List Int := if h : 127 < n then ((n % 128 + 128 : Nat) : Int) :: num7 (n / 128) else [(n : Int)]
termination_by n
decreasing_by omega
theorem num7_big (n : Nat) (h : 127 < n) : num7 n = ((n % 128 + 128 : Nat) : Int) :: num7 (n / 128) := by rw [num7, dif_pos h]
theorem num7_small (n : Nat) (h : ¬ 127 < n) : num7 n = [(n : Int)] := by rw [num7, dif_neg h]
theorem num7_len (n : Nat) (k : Nat) (h : n < 128 ^ (k + 1)) : 1 ≤ (num7 n).length ∧ (num7 n).length ≤ k + 1 := by
  induction k generalizing n with
  | zero => rw [num7_small n (by simp at h; omega)]; simp
  | succ k ih =>
    by_cases hn : 127 < n
    · have := ih (n / 128) (by rw [Nat.div_lt_iff_lt_mul (by decide)]; rw [Nat.pow_succ] at h; exact h)
      rw [num7_big n hn, List.length_cons]
      omega
    · rw [num7_small n hn]; simp
theorem seven_l0 (k : Nat) (n : Nat) (acc : List Int) (h : n < 128 ^ (k + 1)) (ha : acc.length + k < 140737488355328) : codec_seven_int.l0 (k + 1) (n : Int) acc = some (acc ++ num7 n) := by
  induction k generalizing n acc with
  | zero =>
    have hn : ¬ 127 < n := by simp at h; omega
    rw [num7_small n hn, codec_seven_int.l0, if_neg (by omega), if_pos (by omega)]
    rw [show (n : Int) % 256 = (n : Int) by omega]
  | succ k ih =>
    rw [codec_seven_int.l0]
    by_cases hn : 127 < n
    · rw [if_pos (by omega), if_pos (by omega), Lib.u8_or128_any _ (by omega) (by omega)]
      rw [show (n : Int) / 128 = ((n / 128 : Nat) : Int) by omega, ih (n / 128) _ (by rw [Nat.div_lt_iff_lt_mul (by decide)]; rw [Nat.pow_succ] at h; exact h) (by simp; omega), num7_big n hn]
      rw [show (n : Int) % 256 % 128 + 128 = ((n % 128 + 128 : Nat) : Int) by omega]
      simp
    · rw [if_neg (by omega), if_pos (by omega), num7_small n hn]
      rw [show (n : Int) % 256 = (n : Int) by omega]
def TupBelow (bs : List Int) (c : Int) (w : World) (e : Ending) (w' : World) : Prop := ∃ v, e = .returned (.tuple #[v, .int .i64 c]) ∧ OwnB w' w.heap.size v bs ∧ Below w.heap.size w w'
theorem number_any (n : Nat) (w : World) (h : n < 72057594037927936) : Calls Try.prog 29 #[.int .i64 (n : Int)] w (TupBelow (num7 n) 0 w) :=
  codec_Number.calls 9 (n : Int) (num7 n) 0 w (by
    unfold codec_Number.f codec_seven_int.f
    rw [if_neg (by omega), if_neg (by omega), seven_l0 8 n [] (by omega) (by simp)]
    rfl)
theorem take_C {w : World} {A : Option Addr} {bs : List Int} {u : Nat} (h : Kd.C KB w A bs.length bs) (hu : u ≤ bs.length) : Kd.C KB w A u (bs.take u) := by
  have := Kd.C_take h hu
  rw [List.length_take, Nat.min_eq_left hu] at this
  exact this
def Lies (w : World) (v : Value) (bs : List Int) : Prop := ∃ A c, v = .slice A bs.length c ∧ bs.length ≤ c ∧ Kd.C KB w A bs.length bs
theorem OwnB.lies {w : World} {b : Nat} {v : Value} {bs : List Int} (h : OwnB w b v bs) : Lies w v bs := by
  obtain ⟨A, c, rfl⟩ := Kd.R_slice h
  exact ⟨A, c, rfl, (Kd.R_reads' h).2.1, (Kd.R_reads' h).2.2⟩
theorem Lies.below {w w' : World} {v : Value} {bs : List Int} (h : Lies w v bs) (hb : Below w.heap.size w w') : Lies w' v bs := by
  obtain ⟨A, c, e, h1, h2⟩ := h
  exact ⟨A, c, e, h1, Kd.C_below h2 hb⟩
end Go.Proofs.Ytojocffjajcdmaa.PB
namespace Go.Proofs.Ytojocffjajcdmaa.PB
open Go.RowKit Go.Proofs.YtojocffjajcdmaaW.PrintWords Go.Proofs.YtojocffjajcdmaaW.PrintLast Go.Proofs.YtojocffjajcdmaaW.PrintMore Go.Proofs.Ytojocffjajcdmaa.PPostingsLists
set_option linter.unusedVariables false
set_option linter.unusedSimpArgs false

/-! ### Numbers read -/
/-- k bytes may still be read, i have been, which said acc. -/
def numA : Nat → Nat → Nat → List Int → Int × Nat × Int
  | 0, _, _, _ => (0, 0, 21)
  | _ + 1, _, _, [] => (0, 0, 20)
  | k + 1, i, acc, b :: bs => if b < 128 then (if 0 < i ∧ b = 0 then (0, 0, 21) else (((acc + (b % 128).toNat * 128 ^ i : Nat) : Int), i + 1, 0)) else numA k (i + 1) (acc + (b % 128).toNat * 128 ^ i) bs
def numG (bs : List Int) : Int × Nat × Int := numA 8 0 0 bs
def Byt (bs : List Int) : Prop := ∀ x ∈ bs, 0 ≤ x ∧ x < 256
theorem Byt.drop {bs : List Int} (h : Byt bs) (k : Nat) : Byt (bs.drop k) := fun x hx => h x (List.mem_of_mem_drop hx)
theorem Byt.take {bs : List Int} (h : Byt bs) (k : Nat) : Byt (bs.take k) := fun x hx => h x (List.mem_of_mem_take hx)
theorem Byt.get {bs : List Int} (h : Byt bs) (k : Nat) (hk : k < bs.length) : 0 ≤ bs.getD k 0 ∧ bs.getD k 0 < 256 := by
  have e : bs.getD k 0 = bs[k] := by simp [hk]
  rw [e]; exact h _ (List.getElem_mem hk)
theorem drop_at' (bs : List Int) (k : Nat) (h : k < bs.length) : bs.drop k = bs.getD k 0 :: bs.drop (k + 1) := by
  rw [List.drop_eq_getElem_cons h]
  have e : bs.getD k 0 = bs[k] := by simp [h]
  rw [e]
theorem i64_or_nat (a b : Nat) (ha : a < 9223372036854775808) (hb : b < 9223372036854775808) : bits .or .i64 (a : Int) (b : Int) = ((a ||| b : Nat) : Int) := by
  have h := (bits_nat .i64 63 (by decide) (fun n h0 h1 => by rw [IntKind.wrap_i64]; omega) a b (by simpa using ha) (by simpa using hb)).2
  simpa using h
theorem byte_at {w : World} {A : Option Addr} {n : Nat} {bs : List Int} (h : Kd.C KB w A n bs) (i : Nat) (hi : i < n) : ∃ ad, A = some ad ∧ w.cell? (ad.add i) = some (.int .u8 (bs.getD i 0)) := by
  obtain ⟨ad, c, e, hl, hK, hc⟩ := Kd.C_get h 0 (i : Int) (by omega) (by omega)
  have hk : c = [.int .u8 (bs.getD (i : Int).toNat 0)] := hK
  subst hk
  have := hc 0 _ rfl
  rw [Int.toNat_natCast] at this
  refine ⟨ad, e, ?_⟩
  have e2 : i * KB.sz + 0 = i := by show i * 1 + 0 = i; omega
  rw [e2] at this
  exact this
theorem or_add (i acc q : Nat) (ha : acc < 128 ^ i) (hq : q < 128) (hi : i < 8) : bits .or .i64 (acc : Int) ((q * 128 ^ i : Nat) : Int) = ((acc + q * 128 ^ i : Nat) : Int) := by
  have hp : 128 ^ i ≤ 128 ^ 7 := Nat.pow_le_pow_right (by decide) (by omega)
  have hp2 : (128 : Nat) ^ 7 = 562949953421312 := by decide
  have hm : q * 128 ^ i ≤ 127 * 128 ^ i := Nat.mul_le_mul_right _ (by omega)
  rw [i64_or_nat _ _ (by omega) (by omega)]
  congr 1
  have e : 128 ^ i = 2 ^ (7 * i) := by rw [Nat.pow_mul]
  rw [e] at ha ⊢
  have := Nat.shiftLeft_add_eq_or_of_lt ha q
  rw [Nat.shiftLeft_eq] at this
  rw [Nat.or_comm, ← this, Nat.add_comm]
def NumRel (bs : List Int) (w : World) (v2 v6 : Value) (wr : World) : Prop :=
  ∃ i acc : Nat, v2 = .int .i64 (acc : Int) ∧ v6 = .int .i64 (i : Int) ∧ i ≤ 8 ∧ acc < 128 ^ i ∧ numG bs = numA (8 - i) i acc (bs.drop i) ∧ wr = w

set_option maxHeartbeats 4000000 in
theorem number_in (A : Option Addr) (c : Nat) (bs : List Int) (w : World) (hr : Kd.C KB w A bs.length bs) (hB : Byt bs) : Calls Try.prog 46 #[.slice A bs.length c] w fun e w' => e = .returned (.tuple #[.int .i64 (numG bs).1, .int .i64 ((numG bs).2.1 : Int), .int .i64 (numG bs).2.2]) ∧ w = w' := by
  have hmax := Kd.C_max hr
  have HR := Lib.hid hr
  have HBY := Lib.hid hB
  clear hr hB
  go_enter Try.func46, Try.ntmps46
  go_wp2
  go_loopw [2, 6] (fun v2 v6 wr => NumRel bs w v2 v6 wr) (fun _ v6 _ => 8 - (intOf v6).toNat)
  case atStart => exact ⟨0, 0, rfl, rfl, by omega, by decide, rfl, rfl⟩
  case round =>
    obtain ⟨i, acc, rfl, rfl, hi8, hacc, hnum, rfl⟩ := hrel
    have HN := Lib.hid hnum
    have HA := Lib.hid hacc
    clear hnum hacc
    by_cases hlt : i < 8
    · obtain ⟨k, hk⟩ : ∃ k, 8 - i = k + 1 := ⟨7 - i, by omega⟩
      rw [hk] at HN
      have hki : (i : Int) < 8 := by omega
      by_cases hl : i < bs.length
      · have hli : ¬ (bs.length : Int) ≤ (i : Int) := by omega
        obtain ⟨ad, rfl, hc⟩ := byte_at HR.out i hl
        have hb := HBY.out.get i hl
        rw [drop_at' bs i hl, numA] at HN
        generalize bs.getD i 0 = b at *
        obtain ⟨q, hq⟩ : ∃ q : Nat, q = (b % 128).toNat := ⟨_, rfl⟩
        have hqb : (q : Int) = b % 128 := by omega
        have hq128 : q < 128 := by omega
        rw [← hq] at HN
        have hp : 128 ^ i ≤ 128 ^ 7 := Nat.pow_le_pow_right (by decide) (by omega)
        have hp2 : (128 : Nat) ^ 7 = 562949953421312 := by decide
        have hpw : (2 : Int) ^ (7 * (i : Int)).toNat = ((128 ^ i : Nat) : Int) := by
          rw [show (7 * (i : Int)).toNat = 7 * i by omega, Int.pow_mul]; norm_cast
        have hor := or_add i acc q HA.out hq128 hlt
        have h127 : bits .and .u8 b 127 = (q : Int) := by rw [hqb]; apply u8_and127 <;> omega
        have hacc' : acc + q * 128 ^ i < 128 ^ (i + 1) := by
          have := HA.out
          have hm : q * 128 ^ i ≤ 127 * 128 ^ i := Nat.mul_le_mul_right _ (by omega)
          rw [Nat.pow_succ]
          omega
        have hm : q * 128 ^ i ≤ 127 * 128 ^ i := Nat.mul_le_mul_right _ (by omega)
        generalize hP : 128 ^ i = P at *
        have hcv : IntKind.i64.wrap (q : Int) = (q : Int) := by rw [IntWalk.i64_in _ ⟨by omega, by omega⟩]
        have h7 : IntKind.i64.wrap (7 * (i : Int)) = 7 * (i : Int) := by rw [IntWalk.i64_in _ ⟨by omega, by omega⟩]
        have hs0 : 0 ≤ 7 * (i : Int) := by omega
        have hs1 : 7 * (i : Int) ≤ 64 := by omega
        obtain ⟨Z, hZ⟩ : ∃ Z : Nat, Z = q * P := ⟨_, rfl⟩
        rw [← hZ] at hor hacc' hm HN
        obtain ⟨M, hM⟩ : ∃ M : Nat, M = acc + Z := ⟨_, rfl⟩
        rw [← hM] at hor hacc' HN
        have hsh : wrap64 ((q : Int) * (P : Int)) = (Z : Int) := by
          rw [show (q : Int) * (P : Int) = (Z : Int) by rw [hZ]; norm_cast]
          unfold wrap64; omega
        have HQ := Lib.hid hq
        have HAC := Lib.hid hacc'
        have HK := Lib.hid hk
        clear hq hqb hZ hM hm hacc' hk hp hp2 hP
        by_cases hb128 : b < 128
        · rw [if_pos hb128] at HN
          have d1 : decide (b < 128) = true := decide_eq_true hb128
          clear hb128
          by_cases hi0 : i = 0
          · have HE : Hid (numG bs = ((M : Int), i + 1, 0)) := Lib.hid (by rw [HN.out, if_neg (by omega)])
            have d2 : decide ((0 : Int) < (i : Int)) = false := decide_eq_false (by omega)
            have d3 : decide (0 < i) = false := decide_eq_false (by omega)
            clear hb HN hi0
            go_wp2
            go_ret3
            exact ⟨by rw [HE.out]; simp, rfl⟩
          · have d2 : decide ((0 : Int) < (i : Int)) = true := decide_eq_true (by omega)
            have d3 : decide (0 < i) = true := decide_eq_true (by omega)
            by_cases hb0 : b = 0
            · have HE : Hid (numG bs = (0, 0, 21)) := Lib.hid (by rw [HN.out, if_pos ⟨by omega, hb0⟩])
              have e1 : (b == 0) = true := by simp [hb0]
              have e2 : decide (b = 0) = true := decide_eq_true hb0
              clear hb0 hb HN
              go_wp2
              go_ret3
              exact ⟨by rw [HE.out]; rfl, rfl⟩
            · have HE : Hid (numG bs = ((M : Int), i + 1, 0)) := Lib.hid (by rw [HN.out, if_neg (fun h => hb0 h.2)])
              have e1 : (b == 0) = false := by simp [hb0]
              have e2 : decide (b = 0) = false := decide_eq_false hb0
              clear hb0 hb HN
              go_wp2
              go_ret3
              exact ⟨by rw [HE.out]; simp, rfl⟩
        · rw [if_neg hb128] at HN
          have d1 : decide (b < 128) = false := decide_eq_false hb128
          clear hb128 hb
          go_wp2
          go_roundw
          case rel => exact ⟨i + 1, M, rfl, by go_num, by omega, HAC.out, by rw [HN.out, show 8 - (i + 1) = k by have := HK.out; omega], rfl⟩
          case measure => simp [intOf]; omega
      · have hli : (bs.length : Int) ≤ (i : Int) := by omega
        have HE : Hid (numG bs = (0, 0, 20)) := Lib.hid (by rw [HN.out, List.drop_eq_nil_of_le (by omega)]; rfl)
        go_wp2
        go_ret3
        exact ⟨by rw [HE.out]; rfl, rfl⟩
    · have hki : ¬ (i : Int) < 8 := by omega
      have HE : Hid (numG bs = (0, 0, 21)) := Lib.hid (by rw [HN.out, show 8 - i = 0 by omega]; rfl)
      go_wp2
      go_ret3
      exact ⟨by rw [HE.out]; rfl, rfl⟩
end Go.Proofs.Ytojocffjajcdmaa.PB
namespace Go.Proofs.Ytojocffjajcdmaa.PB
open Go.RowKit Go.Proofs.YtojocffjajcdmaaW.PrintWords Go.Proofs.YtojocffjajcdmaaW.PrintLast Go.Proofs.YtojocffjajcdmaaW.PrintMore Go.Proofs.Ytojocffjajcdmaa.PPostingsLists
set_option linter.unusedVariables false
set_option linter.unusedSimpArgs false

theorem nil23 : ∀ (w : World) (a : Option Addr) (n c n' c' : Nat), (binOp .eql 28 (.slice a n c) (.slice none n' c')).run Try.prog w = .ok (.bool a.isNone) w := fun w a n c n' c' => Lib.run_eql_slice_nil w _ _ a n c n' c' Try.underlying28
set_option maxHeartbeats 2000000 in
set_option maxRecDepth 100000 in
theorem clone_any (A : Option Addr) (c : Nat) (bs : List Int) (w : World) (hr : Kd.C KB w A bs.length bs) (hl : bs.length ≤ 140737488355328) : Calls Try.prog 44 #[.slice A bs.length c] w (BytesBelow bs w) := by
  have hnil := nil23
  cases A with
  | none =>
    have h0 : bs.length = 0 := by
      rcases Nat.eq_zero_or_pos bs.length with h | h
      · exact h
      · obtain ⟨ad, e, _⟩ := hr.2.2 h
        cases e
    obtain rfl : bs = [] := List.eq_nil_of_length_eq_zero h0
    clear hr hl h0
    go_enter Try.func44, Try.ntmps44
    go_wp2
    go_ret
    exact ⟨_, rfl, Kd.R_nil _ _ _ _ _, Below.refl _ _⟩
  | some ad =>
    have HR := Lib.hid hr
    have HL := Lib.hid hl
    clear hr hl
    go_enter Try.func44, Try.ntmps44
    go_wp2_with (first | ((with_reducible refine gate_dst (N := 5) rfl ?_); refine Kd.R_lit KB (w0 := w) w.heap.size 5 ?hg (N := 5) ?hd (xs := ([] : List Int)) (inner := []) (ok := fun _ => True) (okp := fun _ => True) ?hr ?hp (fun _ hk => hk) trivial (Below.refl _ _) (Nat.le_refl _) (by simp) ?_; (case hd => rfl); (case hg => rfl); (case hr => first | (go_simp; done) | (go_simp; rfl)); (case hp => exact (Reps.none _ _)); intro v1 w1 ho1 hb1 hg1 hn1; obtain ⟨A1, c1, h1⟩ := Kd.R_slice ho1; subst h1; have HO1 := Lib.hid ho1; have HB1 := Lib.hid hb1; have HR1 := Lib.hid (Kd.C_below HR.out hb1); clear ho1 hb1 hg1 hn1) | ((with_reducible refine gate_builtin (b := .append) (xs := #[.tmp 5, .tmp 6]) rfl ?_); at_builtin; refine Kd.R_append_row (Value.int .u8) 0 (w0 := w) w.heap.size rfl (.tmp 5) (.tmp 6) 28 5 (.int .u8 0) 1 rfl Try.underlying28 info5 rfl (by omega) _ [] bs (some ad) bs.length c (fun _ => True) rfl rfl (fun _ _ => trivial) HO1.out HR1.out HB1.out (below_size HB1.out) (by have := HL.out; simp; omega) ?_; intro v4 w4 ho4 hb4 hg4 hat4; have HO4 := Lib.hid ho4; have HB4 := Lib.hid hb4; clear ho4 hb4 hg4 hat4))
    go_ret
    exact ⟨_, rfl, HO4.out, HB4.out⟩

/-! ### The decoder: a block of three cells -/
/-- What is left is bs, er the fault so far. -/
def DecAt (w : World) (g : Nat) (bs : List Int) (er : Int) : Prop :=
  ∃ A c, w.heap[g]? = some (.cells #[.slice A bs.length c, .int .i64 er, .bool true] 66 (0, 0)) ∧ bs.length ≤ c ∧ Kd.C KB w A bs.length bs ∧ (∀ ad, A = some ad → ad.block < g) ∧ Byt bs
theorem DecAt.lt {w : World} {g : Nat} {bs : List Int} {er : Int} (h : DecAt w g bs er) : g < w.heap.size := by
  obtain ⟨A, c, h1, _⟩ := h
  exact blk_lt h1
theorem DecAt.below {w w' : World} {g : Nat} {bs : List Int} {er : Int} (h : DecAt w g bs er) (hb : Below w.heap.size w w') : DecAt w' g bs er := by
  obtain ⟨A, c, h1, h2, h3, h4, h5⟩ := h
  exact ⟨A, c, blk_below h1 hb, h2, Kd.C_below h3 hb, h4, h5⟩
/-- What is read of a row below g stays, where of the old blocks only those from g on turn. -/
theorem C_old {w w' : World} {A : Option Addr} {n g : Nat} {bs : List Int} (h : Kd.C KB w A n bs) (hA : ∀ ad, A = some ad → ad.block < g) (hw : ∀ k, k < g → w'.heap[k]? = w.heap[k]?) : Kd.C KB w' A n bs := by
  refine ⟨h.1, h.2.1, fun hn => ?_⟩
  obtain ⟨ad, e, hc⟩ := h.2.2 hn
  refine ⟨ad, e, fun j p hj => ?_⟩
  obtain ⟨c, hl, hK, hcell⟩ := hc j p hj
  refine ⟨c, hl, hK, fun i u hu => ?_⟩
  have h1 := hcell i u hu
  have hbk : (ad.add (j * KB.sz + i)).block = ad.block := by unfold Addr.add; split <;> rfl
  have hw1 := hw ad.block (hA ad e)
  unfold World.cell? at h1 ⊢
  rw [hbk] at h1 ⊢
  rw [hw1]
  exact h1
/-- A block behind the decoder's turns. -/
theorem DecAt.grown {w w' : World} {g e : Nat} {bs : List Int} {er : Int} (h : DecAt w g bs er) (hg : w.grownBy w' (some e)) (he : g < e) : DecAt w' g bs er := by
  obtain ⟨A, c, h1, h2, h3, h4, h5⟩ := h
  have hlt := blk_lt h1
  have hk : ∀ k, k ≤ g → w'.heap[k]? = w.heap[k]? := fun k hk => hg.block k (by omega) (by intro x; injection x with x; omega)
  exact ⟨A, c, (hk g (Nat.le_refl _)).trans h1, h2, C_old h3 h4 (fun k h => hk k (by omega)), h4, h5⟩
/-- The decoder's own cells are written. -/
theorem dec_set {w : World} {g : Nat} {A : Option Addr} {c : Nat} {bs : List Int} {er : Int}
    (h : w.heap[g]? = some (.cells #[.slice A bs.length c, .int .i64 er, .bool true] 66 (0, 0))) (h2 : bs.length ≤ c) (h3 : Kd.C KB w A bs.length bs) (h4 : ∀ ad, A = some ad → ad.block < g) (h5 : Byt bs) : DecAt w g bs er := ⟨A, c, h, h2, h3, h4, h5⟩

def NewBelow (bs : List Int) (w : World) (e : Ending) (w' : World) : Prop := ∃ g, e = .returned (.pointer (some ⟨g, 0, none⟩)) ∧ w.heap.size ≤ g ∧ DecAt w' g bs 0 ∧ Below w.heap.size w w'
set_option maxHeartbeats 2000000 in
theorem new_any (A : Option Addr) (c : Nat) (bs : List Int) (w : World) (hr : Kd.C KB w A bs.length bs) (hl : bs.length ≤ 140737488355328) (hB : Byt bs) : Calls Try.prog 31 #[.slice A bs.length c] w (NewBelow bs w) := by
  have HC := Lib.hid (clone_any A c bs w hr hl)
  have HBY := Lib.hid hB
  clear hr hl hB
  go_enter Try.func31, Try.ntmps31
  go_wp2_with (first | (go_at_call 44; (with_reducible refine (HC.out).mono ?_); rintro e w2 ⟨v, rfl, ho, hb⟩; obtain ⟨A1, c1, h1⟩ := Kd.R_slice ho; subst h1; have HO := Lib.hid ho; have HB := Lib.hid hb; clear ho hb))
  go_ret
  refine ⟨w2.heap.size, rfl, HB.out.size, dec_set (heap_alloc_new w2 _) (Kd.R_reads' HO.out).2.1 (Kd.C_alloc (Kd.R_reads' HO.out).2.2 _) (fun ad e => ?_) HBY.out, below_alloc HB.out _⟩
  subst e
  exact own_lt (Kd.own_of_R HO.out) ad.block (by simp [Value.ownBlock])
set_option maxHeartbeats 2000000 in
theorem none_any (g : Nat) (bs : List Int) (er : Int) (w : World) (h : DecAt w g bs er) : Calls Try.prog 45 #[.pointer (some ⟨g, 0, none⟩)] w fun e w' => e = .returned (.bool false) ∧ w = w' := by
  obtain ⟨A, c, h1, _⟩ := h
  have k2 : w.cell? ⟨g, 2, none⟩ = some (.bool true) := by rw [blk_cell h1]; rfl
  clear h1
  go_enter Try.func45, Try.ntmps45
  go_wp2
  go_ret
  exact ⟨rfl, rfl⟩
set_option maxHeartbeats 2000000 in
theorem err_any (g : Nat) (bs : List Int) (er : Int) (w : World) (h : DecAt w g bs er) : Calls Try.prog 33 #[.pointer (some ⟨g, 0, none⟩)] w fun e w' => e = .returned (.int .i64 er) ∧ w = w' := by
  have HN := Lib.hid (none_any g bs er w h)
  obtain ⟨A, c, h1, _⟩ := h
  have k1 : w.cell? ⟨g, 1, none⟩ = some (.int .i64 er) := by rw [blk_cell h1]; rfl
  clear h1
  go_enter Try.func33, Try.ntmps33
  go_wp2_with (first | (go_at_call 45; (with_reducible refine (HN.out).mono ?_); rintro e w2 ⟨rfl, rfl⟩))
  go_ret
  exact ⟨rfl, rfl⟩
/-- What a decoder's end says. -/
def doneG (bs : List Int) (er : Int) : Int := if er ≠ 0 then er else if 0 < bs.length then 21 else 0
set_option maxHeartbeats 2000000 in
theorem done_any (g : Nat) (bs : List Int) (er : Int) (w : World) (h : DecAt w g bs er) : Calls Try.prog 34 #[.pointer (some ⟨g, 0, none⟩)] w fun e w' => e = .returned (.int .i64 (doneG bs er)) ∧ w = w' := by
  have HN := Lib.hid (err_any g bs er w h)
  obtain ⟨A, c, h1, _⟩ := h
  have k0 : w.cell? ⟨g, 0, none⟩ = some (.slice A bs.length c) := by rw [blk_cell h1]; rfl
  clear h1
  by_cases h0 : er = 0
  · subst h0
    by_cases hp : 0 < bs.length
    · have hpi : decide ((0 : Int) < (bs.length : Int)) = true := decide_eq_true (by omega)
      have HD : Hid (doneG bs 0 = 21) := Lib.hid (by simp [doneG, hp])
      go_enter Try.func34, Try.ntmps34
      go_wp2_with (first | (go_at_call 33; (with_reducible refine (HN.out).mono ?_); rintro e w2 ⟨rfl, rfl⟩))
      go_ret
      exact ⟨by rw [HD.out]; rfl, rfl⟩
    · have hpi : decide ((0 : Int) < (bs.length : Int)) = false := decide_eq_false (by omega)
      have HD : Hid (doneG bs 0 = 0) := Lib.hid (by unfold doneG; rw [if_neg (by simp), if_neg hp])
      go_enter Try.func34, Try.ntmps34
      go_wp2_with (first | (go_at_call 33; (with_reducible refine (HN.out).mono ?_); rintro e w2 ⟨rfl, rfl⟩))
      go_ret
      exact ⟨by rw [HD.out]; rfl, rfl⟩
  · have HD : Hid (doneG bs er = er) := Lib.hid (by simp [doneG, h0])
    have e1 : (er != 0) = true := by simp [h0]
    clear h0
    go_enter Try.func34, Try.ntmps34
    go_wp2_with (first | (go_at_call 33; (with_reducible refine (HN.out).mono ?_); rintro e w2 ⟨rfl, rfl⟩))
    go_ret
    exact ⟨by rw [HD.out]; rfl, rfl⟩
end Go.Proofs.Ytojocffjajcdmaa.PB
namespace Go.Proofs.Ytojocffjajcdmaa.PB
open Go.RowKit Go.Proofs.YtojocffjajcdmaaW.PrintWords Go.Proofs.YtojocffjajcdmaaW.PrintLast Go.Proofs.YtojocffjajcdmaaW.PrintMore Go.Proofs.Ytojocffjajcdmaa.PPostingsLists
set_option linter.unusedVariables false
set_option linter.unusedSimpArgs false

theorem numA_bounds (k i acc : Nat) (bs : List Int) (ha : acc < 128 ^ i) : 0 ≤ (numA k i acc bs).1 ∧ (numA k i acc bs).1 < 128 ^ (i + k) ∧ (numA k i acc bs).2.1 ≤ i + bs.length ∧ ((numA k i acc bs).2.2 = 0 ∨ (numA k i acc bs).2.2 = 20 ∨ (numA k i acc bs).2.2 = 21) := by
  induction k generalizing i acc bs with
  | zero =>
    have : (0 : Int) < 128 ^ (i + 0) := Int.pow_pos (by decide)
    simp [numA]
    omega
  | succ k ih =>
    cases bs with
    | nil =>
      have : (0 : Int) < 128 ^ (i + (k + 1)) := Int.pow_pos (by decide)
      simp [numA]
      omega
    | cons b bs =>
      rw [numA]
      have hm : (b % 128).toNat * 128 ^ i ≤ 127 * 128 ^ i := Nat.mul_le_mul_right _ (by omega)
      have hs : acc + (b % 128).toNat * 128 ^ i < 128 ^ (i + 1) := by rw [Nat.pow_succ]; omega
      split
      · split
        · have : (0 : Int) < 128 ^ (i + (k + 1)) := Int.pow_pos (by decide)
          simp
          omega
        · have h1 : 128 ^ (i + 1) ≤ 128 ^ (i + (k + 1)) := Nat.pow_le_pow_right (by decide) (by omega)
          refine ⟨by simp only; omega, ?_, by simp only [List.length_cons]; omega, .inl rfl⟩
          simp only
          have h2 : ((acc + (b % 128).toNat * 128 ^ i : Nat) : Int) < ((128 ^ (i + (k + 1)) : Nat) : Int) := by omega
          have h3 : ((128 ^ (i + (k + 1)) : Nat) : Int) = (128 : Int) ^ (i + (k + 1)) := by norm_cast
          rw [h3] at h2
          exact h2
      · have := ih (i + 1) _ bs hs
        rw [show i + 1 + k = i + (k + 1) by omega] at this
        simp only [List.length_cons]
        omega
theorem numG_bounds (bs : List Int) : 0 ≤ (numG bs).1 ∧ (numG bs).1 < 72057594037927936 ∧ (numG bs).2.1 ≤ bs.length ∧ ((numG bs).2.2 = 0 ∨ (numG bs).2.2 = 20 ∨ (numG bs).2.2 = 21) := by
  have := numA_bounds 8 0 0 bs (by decide)
  unfold numG
  simpa using this
def numS (bs : List Int) (er : Int) : Int × List Int × Int := if er ≠ 0 then (0, bs, er) else ((numG bs).1, bs.drop (numG bs).2.1, (numG bs).2.2)

theorem set_grown {w W : World} {g : Nat} (h : w.grownBy W (some g)) (i : Nat) (v : Value) : w.grownBy (W.setCell ⟨g, i, none⟩ v) (some g) :=
  ⟨h.os, h.tape, h.output, by have := h.size; simpa [World.setCell] using this, fun k hk hr => (Below.heap_setCell W _ v k (fun e => hr (by rw [e]))).trans (h.block k hk hr)⟩
theorem drew_grown {w W : World} {r : Option Nat} (h : w.grownBy W r) : w.grownBy W.drew r := ⟨h.os, h.tape, h.output, h.size, h.block⟩
/-- The rest behind u bytes, as the slice says it. -/
theorem rest_C {w : World} {A : Option Addr} {bs : List Int} {c u : Nat} (h : Kd.C KB w A bs.length bs) (hu : u ≤ bs.length) (hc : bs.length ≤ c) : Kd.C KB w (if c = u then A else A.map (fun x => x.add u)) (bs.drop u).length (bs.drop u) := by
  have := Kd.C_drop (m := u) h hu hc
  rw [show u * KB.sz = u from Nat.mul_one u] at this
  exact this
theorem rest_lt {A : Option Addr} {c u g : Nat} (h : ∀ ad, A = some ad → ad.block < g) : ∀ ad, (if c = u then A else A.map (fun x => x.add u)) = some ad → ad.block < g := by
  intro ad e
  split at e
  · exact h ad e
  · cases A with
    | none => cases e
    | some a =>
      simp at e
      subst e
      have hbk : (a.add u).block = a.block := by unfold Addr.add; split <;> rfl
      rw [hbk]
      exact h a rfl
theorem dec_end {w W : World} {g : Nat} {A' : Option Addr} {c' u : Nat} {bs : List Int} {er e : Int} (h : DecAt w g bs er) (h2 : bs.length - u ≤ c') (h3 : Kd.C KB w A' (bs.drop u).length (bs.drop u)) (h4 : ∀ ad, A' = some ad → ad.block < g)
    (hb : W.heap[g]? = some (.cells #[.slice A' (bs.length - u) c', .int .i64 e, .bool true] 66 (0, 0))) (hgr : w.grownBy W (some g)) : DecAt W g (bs.drop u) e ∧ w.grownBy W (some g) := by
  refine ⟨?_, hgr⟩
  have hlen : (bs.drop u).length = bs.length - u := List.length_drop
  refine ⟨A', c', by rw [hlen]; exact hb, by rw [hlen]; omega, C_old h3 h4 (fun k hk => hgr.block k ?_ ?_), h4, ?_⟩
  · exact Nat.lt_trans hk h.lt
  · intro x; injection x with x; omega
  · obtain ⟨_, _, _, _, _, _, hby⟩ := h
    exact hby.drop u
set_option maxHeartbeats 4000000 in
set_option maxRecDepth 100000 in
theorem dnum_any (g : Nat) (bs : List Int) (er : Int) (w : World) (h : DecAt w g bs er) : Calls Try.prog 32 #[.pointer (some ⟨g, 0, none⟩)] w fun e w' => e = .returned (.int .i64 (numS bs er).1) ∧ DecAt w' g (numS bs er).2.1 (numS bs er).2.2 ∧ w.grownBy w' (some g) := by
  have HN := Lib.hid (none_any g bs er w h)
  have HD := Lib.hid h
  obtain ⟨A, c, h1, h2, h3, h4, h5⟩ := h
  have k0 : w.cell? ⟨g, 0, none⟩ = some (.slice A bs.length c) := by rw [blk_cell h1]; rfl
  have k1 : w.cell? ⟨g, 1, none⟩ = some (.int .i64 er) := by rw [blk_cell h1]; rfl
  have f0 := blk_frozen h1 0
  have f1 := blk_frozen h1 1
  by_cases h0 : er = 0
  · subst h0
    have HS : Hid (numS bs 0 = ((numG bs).1, bs.drop (numG bs).2.1, (numG bs).2.2)) := Lib.hid (by simp [numS])
    have HI := Lib.hid (number_in A c bs w h3 h5)
    have hbd := numG_bounds bs
    rw [HS.out]
    generalize hr : numG bs = r at *
    obtain ⟨v, u, e⟩ := r
    obtain ⟨_, _, hu, _⟩ := hbd
    simp only at hu HI ⊢
    have hui : (u : Int) ≤ (bs.length : Int) := by omega
    obtain ⟨i5, hi5, _, hsz5, _⟩ := info_parts info5
    have hcut := cut_from (P := Try.prog) 28 5 .i64 Try.underlying28 hi5 1 hsz5 A bs.length c (u : Int) (by omega) hui
    rw [Int.toNat_natCast, Nat.mul_one] at hcut
    have H3 := Lib.hid (rest_C h3 hu h2)
    have H4 := Lib.hid (rest_lt (c := c) (u := u) h4)
    have H2 : Hid (bs.length - u ≤ c - u) := Lib.hid (by omega)
    generalize (if c = u then A else Option.map (fun x => x.add u) A) = A' at *
    generalize c - u = c' at *
    have H1 := Lib.hid h1
    clear h1 h3 h4 h5 h2 hr HS
    go_enter Try.func32, Try.ntmps32
    go_wp2_with (first | (go_at_call 45; (with_reducible refine (HN.out).mono ?_); rintro e w2 ⟨rfl, rfl⟩) | (go_at_call 46; (with_reducible refine (HI.out).mono ?_); rintro e w2 ⟨rfl, rfl⟩))
    go_region
    all_goals go_wp2
    all_goals go_ret
    all_goals refine ⟨rfl, dec_end HD.out H2.out H3.out H4.out ?_ ?_⟩
    all_goals first
      | exact blk_drew (blk_put (blk_put H1.out 1 (.int .i64 e) (cs' := #[.slice A bs.length c, .int .i64 e, .bool true]) rfl) 0 _ rfl)
      | exact blk_drew (blk_put (blk_put H1.out 0 (.slice A' (bs.length - u) c') (cs' := #[.slice A' (bs.length - u) c', .int .i64 0, .bool true]) rfl) 1 _ rfl)
      | exact drew_grown (set_grown (set_grown (World.grownBy.refl w (some g)) _ _) _ _)
  · have HS : Hid (numS bs er = (0, bs, er)) := Lib.hid (by simp [numS, h0])
    rw [HS.out]
    have e1 : (er != 0) = true := by simp [h0]
    clear h1 h2 h3 h4 h5 h0
    go_enter Try.func32, Try.ntmps32
    go_wp2_with (first | (go_at_call 45; (with_reducible refine (HN.out).mono ?_); rintro e w2 ⟨rfl, rfl⟩))
    go_ret
    exact ⟨rfl, HD.out, World.grownBy.refl w _⟩
end Go.Proofs.Ytojocffjajcdmaa.PB
namespace Go.Proofs.Ytojocffjajcdmaa.PB
open Go.RowKit Go.Proofs.YtojocffjajcdmaaW.PrintWords Go.Proofs.YtojocffjajcdmaaW.PrintLast Go.Proofs.YtojocffjajcdmaaW.PrintMore Go.Proofs.Ytojocffjajcdmaa.PPostingsLists
set_option linter.unusedVariables false
set_option linter.unusedSimpArgs false

/-- The reference's number at place p of all. -/
def rnumG (all : List Int) (p : Nat) : Int × Int × Int := ((numG (all.drop p)).1, if (numG (all.drop p)).2.2 = 0 then ((p + (numG (all.drop p)).2.1 : Nat) : Int) else 0, (numG (all.drop p)).2.2)
theorem wrap_u64_small (x : Int) (h0 : 0 ≤ x) (h1 : x < 1000) : IntKind.u64.wrap x = x := by
  have h2 : x % 18446744073709551616 = x := Int.emod_eq_of_lt h0 (by omega)
  simp [IntKind.wrap, IntKind.bits, IntKind.signed, h2]
theorem wrap64_nat (n : Nat) (h : n < 9223372036854775808) : wrap64 (n : Int) = (n : Int) := by unfold wrap64; omega
theorem num_bnd (acc Z P M : Nat) (h1 : acc < P) (h2 : Z ≤ 127 * P) (h3 : P ≤ 562949953421312) (hM : M = acc + Z) : Z < 9223372036854775808 ∧ M < 9223372036854775808 := by omega
theorem wrap64_byte (b : Int) (h : 0 ≤ b ∧ b < 256) : wrap64 b = b := by unfold wrap64; omega
theorem wrap64_two (p i : Nat) (h : p + i < 9223372036854775808) : wrap64 ((p : Int) + (i : Int)) = (p : Int) + (i : Int) := by unfold wrap64; omega
def RNumRel (bs : List Int) (w : World) (v2 v6 : Value) (wr : World) : Prop :=
  ∃ i acc : Nat, v2 = .int .i64 (acc : Int) ∧ v6 = .int .i64 (i : Int) ∧ i ≤ 8 ∧ acc < 128 ^ i ∧ numG bs = numA (8 - i) i acc (bs.drop i) ∧ wr = w

set_option maxHeartbeats 4000000 in
set_option maxRecDepth 100000 in
theorem rnumber_in (A : Option Addr) (c : Nat) (all : List Int) (p : Nat) (w : World) (hr : Kd.C KB w A all.length all) (hB : Byt all) (hp : p ≤ all.length) (hlb : all.length ≤ 140737488355328) : Calls Try.prog 52 #[.slice A all.length c, .int .i64 (p : Int)] w fun e w' => e = .returned (.tuple #[.int .i64 (rnumG all p).1, .int .i64 (rnumG all p).2.1, .int .i64 (rnumG all p).2.2]) ∧ w = w' := by
  have hmax := Kd.C_max hr
  have hpp : p ≤ all.length := hp
  have HRG : Hid (rnumG all p = ((numG (all.drop p)).1, if (numG (all.drop p)).2.2 = 0 then ((p + (numG (all.drop p)).2.1 : Nat) : Int) else 0, (numG (all.drop p)).2.2)) := Lib.hid rfl
  obtain ⟨bs, hbs⟩ : ∃ bs, bs = all.drop p := ⟨_, rfl⟩
  have HBL : Hid (bs.length = all.length - p) := Lib.hid (by rw [hbs, List.length_drop])
  have HBG : Hid (∀ i, bs.getD i 0 = all.getD (p + i) 0) := Lib.hid (fun i => by rw [hbs]; simp [List.getD_eq_getElem?_getD, List.getElem?_drop])
  have HBB : Hid (Byt bs) := Lib.hid (by rw [hbs]; exact hB.drop p)
  rw [← hbs] at HRG
  have HR := Lib.hid hr
  have HBY := Lib.hid hB
  have HLB := Lib.hid hlb
  clear hr hB hp hbs hlb
  go_enter Try.func52, Try.ntmps52
  go_wp2
  go_loopw [7, 8] (fun v2 v6 wr => RNumRel bs w v2 v6 wr) (fun _ v6 _ => 8 - (intOf v6).toNat)
  case atStart => exact ⟨0, 0, rfl, rfl, by omega, by decide, rfl, rfl⟩
  case round =>
    obtain ⟨i, acc, rfl, rfl, hi8, hacc, hnum, rfl⟩ := hrel
    have HN := Lib.hid hnum
    have HA := Lib.hid hacc
    clear hnum hacc
    by_cases hlt : i < 8
    · have HBLo := HBL.out
      obtain ⟨k, hk⟩ : ∃ k, 8 - i = k + 1 := ⟨7 - i, by omega⟩
      rw [hk] at HN
      have hki : (i : Int) < 8 := by omega
      have hw0 : wrap64 ((p : Int) + (i : Int)) = (p : Int) + (i : Int) := wrap64_two p i (by have := HLB.out; omega)
      by_cases hl : i < bs.length
      · have hli : ¬ (all.length : Int) ≤ (p : Int) + (i : Int) := by omega
        obtain ⟨ad, rfl, hc⟩ := byte_at HR.out (p + i) (by omega)
        have hb := HBB.out.get i hl
        rw [← HBG.out i] at hc
        rw [drop_at' bs i hl, numA] at HN
        generalize bs.getD i 0 = b at *
        obtain ⟨q, hq⟩ : ∃ q : Nat, q = (b % 128).toNat := ⟨_, rfl⟩
        have hqb : (q : Int) = b % 128 := by omega
        have hq128 : q < 128 := by omega
        rw [← hq] at HN
        have hp : 128 ^ i ≤ 128 ^ 7 := Nat.pow_le_pow_right (by decide) (by omega)
        have hp2 : (128 : Nat) ^ 7 = 562949953421312 := by decide
        have hpw : (2 : Int) ^ (7 * (i : Int)).toNat = ((128 ^ i : Nat) : Int) := by
          rw [show (7 * (i : Int)).toNat = 7 * i by omega, Int.pow_mul]; norm_cast
        have htm : Int.tmod b 128 = (q : Int) := by rw [hqb]; exact Int.tmod_eq_emod_of_nonneg hb.1
        have hacc' : acc + q * 128 ^ i < 128 ^ (i + 1) := by
          have := HA.out
          have hm : q * 128 ^ i ≤ 127 * 128 ^ i := Nat.mul_le_mul_right _ (by omega)
          rw [Nat.pow_succ]
          omega
        have hm : q * 128 ^ i ≤ 127 * 128 ^ i := Nat.mul_le_mul_right _ (by omega)
        generalize hP : 128 ^ i = P at *
        have hcv : IntKind.i64.wrap b = b := by rw [IntWalk.i64_in _ ⟨by omega, by omega⟩]
        have hcv2 : wrap64 b = b := wrap64_byte b hb
        have hu7 : IntKind.u64.wrap (7 * (i : Int)) = 7 * (i : Int) := wrap_u64_small _ (by omega) (by omega)
        have h7 : IntKind.i64.wrap (7 * (i : Int)) = 7 * (i : Int) := by rw [IntWalk.i64_in _ ⟨by omega, by omega⟩]
        have hs0 : 0 ≤ 7 * (i : Int) := by omega
        have hs1 : 7 * (i : Int) ≤ 64 := by omega
        obtain ⟨Z, hZ⟩ : ∃ Z : Nat, Z = q * P := ⟨_, rfl⟩
        rw [← hZ] at hacc' hm HN
        obtain ⟨M, hM⟩ : ∃ M : Nat, M = acc + Z := ⟨_, rfl⟩
        have hbnd := num_bnd acc Z P M HA.out hm (by rw [← hp2]; exact hp) hM
        have hsum : wrap64 ((acc : Int) + (Z : Int)) = (M : Int) := by rw [show (acc : Int) + (Z : Int) = (M : Int) by rw [hM]; norm_cast]; exact wrap64_nat M hbnd.2
        rw [← hM] at hacc' HN
        have hsh : wrap64 ((q : Int) * (P : Int)) = (Z : Int) := by
          rw [show (q : Int) * (P : Int) = (Z : Int) by rw [hZ]; norm_cast]
          exact wrap64_nat Z hbnd.1
        have HQ := Lib.hid hq
        have HAC := Lib.hid hacc'
        have HK := Lib.hid hk
        clear hq hqb hZ hM hm hacc' hk hp hp2 hP hbnd
        by_cases hb128 : b < 128
        · rw [if_pos hb128] at HN
          have d1 : decide (b < 128) = true := decide_eq_true hb128
          clear hb128
          by_cases hi0 : i = 0
          · have HE : Hid (numG bs = ((M : Int), i + 1, 0)) := Lib.hid (by rw [HN.out, if_neg (by omega)])
            have d2 : decide ((0 : Int) < (i : Int)) = false := decide_eq_false (by omega)
            have d3 : decide (0 < i) = false := decide_eq_false (by omega)
            clear hb HN hi0
            go_wp2
            all_goals go_ret3
            all_goals exact ⟨by rw [HRG.out, HE.out]; first | rfl | (simp; done) | (simp; omega), rfl⟩
          · have d2 : decide ((0 : Int) < (i : Int)) = true := decide_eq_true (by omega)
            have d3 : decide (0 < i) = true := decide_eq_true (by omega)
            by_cases hb0 : b = 0
            · have HE : Hid (numG bs = (0, 0, 21)) := Lib.hid (by rw [HN.out, if_pos ⟨by omega, hb0⟩])
              have e1 : (b == 0) = true := by simp [hb0]
              have e2 : decide (b = 0) = true := decide_eq_true hb0
              clear hb0 hb HN
              go_wp2
              go_ret3
              exact ⟨by rw [HRG.out, HE.out]; first | rfl | (simp; done), rfl⟩
            · have HE : Hid (numG bs = ((M : Int), i + 1, 0)) := Lib.hid (by rw [HN.out, if_neg (fun h => hb0 h.2)])
              have e1 : (b == 0) = false := by simp [hb0]
              have e2 : decide (b = 0) = false := decide_eq_false hb0
              clear hb0 hb HN
              go_wp2
              go_ret3
              exact ⟨by rw [HRG.out, HE.out]; first | rfl | (simp; done) | (simp; omega), rfl⟩
        · rw [if_neg hb128] at HN
          have d1 : decide (b < 128) = false := decide_eq_false hb128
          clear hb128 hb
          go_wp2
          go_roundw
          case rel => exact ⟨i + 1, M, by first | rfl | rw [hsum], by go_num, by omega, HAC.out, by rw [HN.out, show 8 - (i + 1) = k by have := HK.out; omega], rfl⟩
          case measure => simp [intOf]; omega
      · have hli : (all.length : Int) ≤ (p : Int) + (i : Int) := by omega
        have HE : Hid (numG bs = (0, 0, 20)) := Lib.hid (by rw [HN.out, List.drop_eq_nil_of_le (by omega)]; rfl)
        go_wp2
        go_ret3
        exact ⟨by rw [HRG.out, HE.out]; first | rfl | (simp; done), rfl⟩
    · have hki : ¬ (i : Int) < 8 := by omega
      have HE : Hid (numG bs = (0, 0, 21)) := Lib.hid (by rw [HN.out, show 8 - i = 0 by omega]; rfl)
      go_wp2
      go_ret3
      exact ⟨by rw [HRG.out, HE.out]; first | rfl | (simp; done), rfl⟩
end Go.Proofs.Ytojocffjajcdmaa.PB
namespace Go.Proofs.Ytojocffjajcdmaa.PB
open Go.RowKit Go.Proofs.YtojocffjajcdmaaW.PrintWords Go.Proofs.YtojocffjajcdmaaW.PrintLast Go.Proofs.YtojocffjajcdmaaW.PrintMore Go.Proofs.Ytojocffjajcdmaa.PPostingsLists
set_option linter.unusedVariables false
set_option linter.unusedSimpArgs false

theorem numA_err (k i acc : Nat) (bs : List Int) (h : (numA k i acc bs).2.2 ≠ 0) : (numA k i acc bs).1 = 0 ∧ (numA k i acc bs).2.1 = 0 := by
  induction k generalizing i acc bs with
  | zero => exact ⟨rfl, rfl⟩
  | succ k ih =>
    cases bs with
    | nil => exact ⟨rfl, rfl⟩
    | cons b bs =>
      rw [numA] at h ⊢
      split
      · split
        · exact ⟨rfl, rfl⟩
        · rename_i h1 h2
          rw [if_pos h1, if_neg h2] at h
          exact absurd rfl h
      · rename_i h1
        rw [if_neg h1] at h
        exact ih _ _ _ h
theorem numG_err (bs : List Int) (h : (numG bs).2.2 ≠ 0) : (numG bs).1 = 0 ∧ (numG bs).2.1 = 0 := numA_err 8 0 0 bs h

/-! ### The reference's decoder: a block of three cells: all bytes, the place, the fault -/
def RefAt (w : World) (g : Nat) (bs : List Int) (er : Int) : Prop :=
  ∃ A c all, ∃ p : Nat, w.heap[g]? = some (.cells #[.slice A all.length c, .int .i64 (p : Int), .int .i64 er] 70 (0, 0)) ∧ p ≤ all.length ∧ all.drop p = bs ∧ all.length ≤ c ∧ Kd.C KB w A all.length all ∧ (∀ ad, A = some ad → ad.block < g) ∧ Byt all ∧ all.length ≤ 140737488355328
/-- .. with the bytes and the place by name. -/
def RefIn (w : World) (g : Nat) (A : Option Addr) (c : Nat) (all : List Int) (p : Nat) (er : Int) : Prop :=
  w.heap[g]? = some (.cells #[.slice A all.length c, .int .i64 (p : Int), .int .i64 er] 70 (0, 0)) ∧ p ≤ all.length ∧ all.length ≤ c ∧ Kd.C KB w A all.length all ∧ (∀ ad, A = some ad → ad.block < g) ∧ Byt all ∧ all.length ≤ 140737488355328
theorem RefIn.at {w : World} {g : Nat} {A : Option Addr} {c : Nat} {all : List Int} {p : Nat} {er : Int} (h : RefIn w g A c all p er) : RefAt w g (all.drop p) er := by
  obtain ⟨h1, h2, h4, h5, h6, h7, h8⟩ := h
  exact ⟨A, c, all, p, h1, h2, rfl, h4, h5, h6, h7, h8⟩
theorem RefAt.lt {w : World} {g : Nat} {bs : List Int} {er : Int} (h : RefAt w g bs er) : g < w.heap.size := by
  obtain ⟨A, c, all, p, h1, _⟩ := h
  exact blk_lt h1
theorem RefAt.below {w w' : World} {g : Nat} {bs : List Int} {er : Int} (h : RefAt w g bs er) (hb : Below w.heap.size w w') : RefAt w' g bs er := by
  obtain ⟨A, c, all, p, h1, h2, h3, h4, h5, h6⟩ := h
  exact ⟨A, c, all, p, blk_below h1 hb, h2, h3, h4, Kd.C_below h5 hb, h6⟩
theorem RefAt.low {w w' : World} {g : Nat} {bs : List Int} {er : Int} (h : RefAt w g bs er) (hb : Below (g + 1) w w') : RefAt w' g bs er := by
  obtain ⟨A, c, all, p, h1, h2, h3, h4, h5, h6, h7⟩ := h
  exact ⟨A, c, all, p, (hb.block g (by omega)).trans h1, h2, h3, h4, C_old h5 h6 (fun k hk => hb.block k (by omega)), h6, h7⟩
theorem RefAt.grown {w w' : World} {g e : Nat} {bs : List Int} {er : Int} (h : RefAt w g bs er) (hg : w.grownBy w' (some e)) (he : g < e) : RefAt w' g bs er := by
  obtain ⟨A, c, all, p, h1, h2, h3, h4, h5, h6, h7⟩ := h
  have hlt := blk_lt h1
  have hk : ∀ k, k ≤ g → w'.heap[k]? = w.heap[k]? := fun k hk => hg.block k (by omega) (by intro x; injection x with x; omega)
  exact ⟨A, c, all, p, (hk g (Nat.le_refl _)).trans h1, h2, h3, h4, C_old h5 h6 (fun k h => hk k (by omega)), h6, h7⟩
theorem RefAt.set {w : World} {g E i : Nat} {bs : List Int} {er : Int} {u : Value} (h : RefAt w g bs er) (hE : g < E) : RefAt (w.setCell ⟨E, i, none⟩ u) g bs er := h.grown (set_grown (World.grownBy.refl w (some E)) i u) hE
/-- The block anew: another place, another fault. -/
theorem ref_end {w W : World} {g : Nat} {A : Option Addr} {c p : Nat} {all : List Int} {e : Int} (hg : g < w.heap.size) (hp : p ≤ all.length) (h4 : all.length ≤ c) (h5 : Kd.C KB w A all.length all) (h6 : ∀ ad, A = some ad → ad.block < g) (h7 : Byt all) (h8 : all.length ≤ 140737488355328)
    (hb : W.heap[g]? = some (.cells #[.slice A all.length c, .int .i64 (p : Int), .int .i64 e] 70 (0, 0))) (hgr : w.grownBy W (some g)) : RefIn W g A c all p e ∧ w.grownBy W (some g) := by
  refine ⟨⟨hb, hp, h4, C_old h5 h6 (fun k hk => hgr.block k ?_ ?_), h6, h7, h8⟩, hgr⟩
  · exact Nat.lt_trans hk hg
  · intro x; injection x with x; omega
theorem drewN_grown {w W : World} {r : Option Nat} (h : w.grownBy W r) (n : Nat) : w.grownBy (W.drewN n) r := ⟨h.os, h.tape, h.output, h.size, h.block⟩
def RNewBelow (bs : List Int) (w : World) (e : Ending) (w' : World) : Prop := ∃ g, e = .returned (.pointer (some ⟨g, 0, none⟩)) ∧ w.heap.size ≤ g ∧ RefAt w' g bs 0 ∧ Below w.heap.size w w'
set_option maxHeartbeats 2000000 in
set_option maxRecDepth 100000 in
theorem rnew_any (A : Option Addr) (c : Nat) (bs : List Int) (w : World) (hr : Kd.C KB w A bs.length bs) (hl : bs.length ≤ 140737488355328) (hB : Byt bs) : Calls Try.prog 35 #[.slice A bs.length c] w (RNewBelow bs w) := by
  have HR := Lib.hid hr
  have HL := Lib.hid hl
  have HBY := Lib.hid hB
  clear hr hl hB
  go_enter Try.func35, Try.ntmps35
  go_wp2_with (first | ((with_reducible refine gate_dst (N := 3) rfl ?_); refine Kd.R_lit KB (w0 := w) w.heap.size 5 ?hg (N := 3) ?hd (xs := ([] : List Int)) (inner := []) (ok := fun _ => True) (okp := fun _ => True) ?hr ?hp (fun _ hk => hk) trivial (Below.refl _ _) (Nat.le_refl _) (by simp) ?_; (case hd => rfl); (case hg => rfl); (case hr => first | (go_simp; done) | (go_simp; rfl)); (case hp => exact (Reps.none _ _)); intro v1 w1 ho1 hb1 hg1 hn1; obtain ⟨A1, c1, h1⟩ := Kd.R_slice ho1; subst h1; have HO1 := Lib.hid ho1; have HB1 := Lib.hid hb1; have HR1 := Lib.hid (Kd.C_below HR.out hb1); clear ho1 hb1 hg1 hn1) | ((with_reducible refine gate_builtin (b := .append) (xs := #[.tmp 3, .tmp 4]) rfl ?_); at_builtin; refine Kd.R_append_row (Value.int .u8) 0 (w0 := w) w.heap.size rfl (.tmp 3) (.tmp 4) 28 5 (.int .u8 0) 1 rfl Try.underlying28 info5 rfl (by omega) _ [] bs A bs.length c (fun _ => True) rfl rfl (fun _ _ => trivial) HO1.out HR1.out HB1.out (below_size HB1.out) (by have := HL.out; simp; omega) ?_; intro v4 w4 ho4 hb4 hg4 hat4; obtain ⟨A4, c4, h4⟩ := Kd.R_slice ho4; subst h4; rw [List.nil_append] at ho4; have HO4 := Lib.hid ho4; have HB4 := Lib.hid hb4; clear ho4 hb4 hg4 hat4))
  go_ret
  refine ⟨w4.heap.size, rfl, HB4.out.size, ⟨A4, c4, bs, 0, heap_alloc_new w4 _, Nat.zero_le _, rfl, (Kd.R_reads' HO4.out).2.1, Kd.C_alloc (Kd.R_reads' HO4.out).2.2 _, fun ad e => ?_, HBY.out, HL.out⟩, below_alloc HB4.out _⟩
  subst e
  exact own_lt (Kd.own_of_R HO4.out) ad.block (by simp [Value.ownBlock])
set_option maxHeartbeats 4000000 in
set_option maxRecDepth 100000 in
theorem rnum_in (g : Nat) (A : Option Addr) (c : Nat) (all : List Int) (p : Nat) (er : Int) (w : World) (h : RefIn w g A c all p er) : Calls Try.prog 47 #[.pointer (some ⟨g, 0, none⟩)] w fun e w' => e = .returned (.int .i64 (numS (all.drop p) er).1) ∧ (∃ p', (numS (all.drop p) er).2.1 = all.drop p' ∧ RefIn w' g A c all p' (numS (all.drop p) er).2.2) ∧ w.grownBy w' (some g) := by
  have HD := Lib.hid h
  obtain ⟨h1, h2, h4, h5, h6, h7, h8⟩ := h
  obtain ⟨bs, h3⟩ : ∃ bs, all.drop p = bs := ⟨_, rfl⟩
  have HP3 := Lib.hid h3
  rw [h3]
  have k0 : w.cell? ⟨g, 0, none⟩ = some (.slice A all.length c) := by rw [blk_cell h1]; rfl
  have k1 : w.cell? ⟨g, 1, none⟩ = some (.int .i64 (p : Int)) := by rw [blk_cell h1]; rfl
  have k2 : w.cell? ⟨g, 2, none⟩ = some (.int .i64 er) := by rw [blk_cell h1]; rfl
  have f1 := blk_frozen h1 1
  have f2 := blk_frozen h1 2
  by_cases h0 : er = 0
  · subst h0
    have HS : Hid (numS bs 0 = ((numG bs).1, bs.drop (numG bs).2.1, (numG bs).2.2)) := Lib.hid (by simp [numS])
    have HI : Hid (∀ W, Below w.heap.size w W → Calls Try.prog 52 #[.slice A all.length c, .int .i64 (p : Int)] W fun e w' => e = .returned (.tuple #[.int .i64 (rnumG all p).1, .int .i64 (rnumG all p).2.1, .int .i64 (rnumG all p).2.2]) ∧ W = w') := Lib.hid (fun W hb => rnumber_in A c all p W (Kd.C_below h5 hb) h7 h2 h8)
    have HEND : Hid (∀ (p' : Nat) (e : Int) (W : World), p' ≤ all.length → W.heap[g]? = some (.cells #[.slice A all.length c, .int .i64 (p' : Int), .int .i64 e] 70 (0, 0)) → w.grownBy W (some g) → RefIn W g A c all p' e ∧ w.grownBy W (some g)) := Lib.hid (fun p' e W hp hb hgr => ref_end (blk_lt h1) hp h4 h5 h6 h7 h8 hb hgr)
    have H1 := Lib.hid h1
    have HRG : Hid (rnumG all p = ((numG bs).1, if (numG bs).2.2 = 0 then ((p + (numG bs).2.1 : Nat) : Int) else 0, (numG bs).2.2)) := Lib.hid (by rw [← h3]; rfl)
    have hbd := numG_bounds bs
    have herr := numG_err bs
    have HDP : Hid (∀ u, bs.drop u = all.drop (p + u)) := Lib.hid (fun u => by rw [← h3, List.drop_drop])
    have hlen : bs.length = all.length - p := by rw [← h3, List.length_drop]
    rw [HRG.out] at HI
    rw [HS.out]
    generalize numG bs = r at *
    obtain ⟨v, u, e⟩ := r
    simp only at hbd herr HI ⊢
    have hpu : p + u ≤ all.length := by omega
    clear h1 h3 h4 h5 h6 h7 h8 HS HRG hbd
    by_cases he : e = 0
    · subst he
      rw [if_pos rfl] at HI
      have hcast : ((p + u : Nat) : Int) = (p : Int) + (u : Int) := by omega
      obtain ⟨q, hq⟩ : ∃ q : Nat, q = p + u := ⟨_, rfl⟩
      rw [← hq] at HI hpu
      have HQ : Hid (bs.drop u = all.drop q) := Lib.hid (by rw [HDP.out, hq])
      clear hq hcast herr HDP h2
      go_enter Try.func47, Try.ntmps47
      go_wp2_with fail
      go_quiet ((go_at_call 52; exact Calls.quiet_of_same ((HI.out _ (pw_below_drewN (Below.refl _ _) _)).mono (fun _ _ h => ⟨h.1, h.2.symm⟩))))
      go_wp2
      go_ret
      obtain ⟨hA, hB⟩ := HEND.out q 0 _ hpu (blk_put (blk_drewN H1.out _) 1 (.int .i64 (q : Int)) rfl) (set_grown (drewN_grown (World.grownBy.refl w (some g)) nq) 1 (.int .i64 (q : Int)))
      exact ⟨rfl, ⟨q, HQ.out, hA⟩, hB⟩
    · rw [if_neg he] at HI
      obtain ⟨hv, hu⟩ := herr he
      subst hv hu
      have hne : (e != 0) = true := by simp [he]
      have HQ : Hid (bs.drop 0 = all.drop p) := Lib.hid (by rw [HDP.out, Nat.add_zero])
      clear herr HDP he hpu hlen
      go_enter Try.func47, Try.ntmps47
      go_wp2_with fail
      go_quiet ((go_at_call 52; exact Calls.quiet_of_same ((HI.out _ (pw_below_drewN (Below.refl _ _) _)).mono (fun _ _ h => ⟨h.1, h.2.symm⟩))))
      go_wp2
      go_ret
      obtain ⟨hA, hB⟩ := HEND.out p e _ h2 (blk_put (blk_drewN H1.out _) 2 (.int .i64 e) rfl) (set_grown (drewN_grown (World.grownBy.refl w (some g)) nq) 2 (.int .i64 e))
      exact ⟨rfl, ⟨p, HQ.out, hA⟩, hB⟩
  · have HS : Hid (numS bs er = (0, bs, er)) := Lib.hid (by simp [numS, h0])
    rw [HS.out]
    have e1 : (er != 0) = true := by simp [h0]
    clear h1 h2 h3 h4 h5 h6 h7 h8 h0
    go_enter Try.func47, Try.ntmps47
    go_wp2
    go_ret
    exact ⟨rfl, ⟨p, HP3.out.symm, HD.out⟩, World.grownBy.refl w _⟩
theorem rnum_any (g : Nat) (bs : List Int) (er : Int) (w : World) (h : RefAt w g bs er) : Calls Try.prog 47 #[.pointer (some ⟨g, 0, none⟩)] w fun e w' => e = .returned (.int .i64 (numS bs er).1) ∧ RefAt w' g (numS bs er).2.1 (numS bs er).2.2 ∧ w.grownBy w' (some g) := by
  obtain ⟨A, c, all, p, h1, h2, rfl, h4, h5, h6, h7, h8⟩ := h
  refine (rnum_in g A c all p er w ⟨h1, h2, h4, h5, h6, h7, h8⟩).mono ?_
  rintro e w' ⟨rfl, ⟨p', hp', hR⟩, hg⟩
  exact ⟨rfl, by rw [hp']; exact hR.at, hg⟩
end Go.Proofs.Ytojocffjajcdmaa.PB
namespace Go.Proofs.Ytojocffjajcdmaa.PB
open Go.RowKit Go.Proofs.YtojocffjajcdmaaW.PrintWords Go.Proofs.YtojocffjajcdmaaW.PrintLast Go.Proofs.YtojocffjajcdmaaW.PrintMore Go.Proofs.Ytojocffjajcdmaa.PPostingsLists
set_option linter.unusedVariables false
set_option linter.unusedSimpArgs false

theorem RefIn.drewN {w : World} {g : Nat} {A : Option Addr} {c : Nat} {all : List Int} {p : Nat} {er : Int} (h : RefIn w g A c all p er) (n : Nat) : RefIn (w.drewN n) g A c all p er := by
  obtain ⟨h1, h2, h4, h5, h6⟩ := h
  exact ⟨blk_drewN h1 n, h2, h4, Kd.C_below h5 (pw_below_drewN (Below.refl _ _) n), h6⟩
set_option maxHeartbeats 2000000 in
set_option maxRecDepth 100000 in
theorem left_any (g : Nat) (A : Option Addr) (c : Nat) (all : List Int) (p : Nat) (er : Int) (w : World) (h : RefIn w g A c all p er) : Calls Try.prog 48 #[.pointer (some ⟨g, 0, none⟩)] w fun e w' => e = .returned (.int .i64 ((all.drop p).length : Int)) ∧ ∃ n, w' = w.drewN n := by
  obtain ⟨h1, h2, h4, h5, h6, h7, h8⟩ := h
  have k0 : w.cell? ⟨g, 0, none⟩ = some (.slice A all.length c) := by rw [blk_cell h1]; rfl
  have k1 : w.cell? ⟨g, 1, none⟩ = some (.int .i64 (p : Int)) := by rw [blk_cell h1]; rfl
  have hw : wrap64 ((all.length : Int) - (p : Int)) = (all.length : Int) - (p : Int) := by
    rw [show (all.length : Int) - (p : Int) = ((all.length - p : Nat) : Int) by omega]; exact wrap64_nat _ (by omega)
  have HL : Hid (((all.drop p).length : Int) = (all.length : Int) - (p : Int)) := Lib.hid (by rw [List.length_drop]; omega)
  clear h1 h4 h5 h6 h7
  go_enter Try.func48, Try.ntmps48
  go_wp2_with fail
  go_quiet (fail)
  go_wp2
  go_ret
  exact ⟨by rw [HL.out]; rfl, _, rfl⟩
set_option maxHeartbeats 2000000 in
set_option maxRecDepth 100000 in
theorem rdone_any (g : Nat) (bs : List Int) (er : Int) (w : World) (h : RefAt w g bs er) : Calls Try.prog 37 #[.pointer (some ⟨g, 0, none⟩)] w fun e w' => e = .returned (.int .i64 (doneG bs er)) ∧ ∃ n, w' = w.drewN n := by
  obtain ⟨A, c, all, p, h1, h2, h3, h4, h5, h6, h7, h8⟩ := h
  have HL := Lib.hid (left_any g A c all p er w ⟨h1, h2, h4, h5, h6, h7, h8⟩)
  have k2 : w.cell? ⟨g, 2, none⟩ = some (.int .i64 er) := by rw [blk_cell h1]; rfl
  rw [h3] at HL
  clear h1 h2 h3 h4 h5 h6 h7 h8
  by_cases h0 : er = 0
  · subst h0
    by_cases hp : 0 < bs.length
    · have hpi : decide ((0 : Int) < (bs.length : Int)) = true := decide_eq_true (by omega)
      have HD : Hid (doneG bs 0 = 21) := Lib.hid (by simp [doneG, hp])
      go_enter Try.func37, Try.ntmps37
      go_wp2_with (first | (go_at_call 48; (with_reducible refine (HL.out).mono ?_); rintro e w2 ⟨rfl, n, rfl⟩))
      go_ret
      exact ⟨by rw [HD.out]; rfl, _, rfl⟩
    · have hpi : decide ((0 : Int) < (bs.length : Int)) = false := decide_eq_false (by omega)
      have HD : Hid (doneG bs 0 = 0) := Lib.hid (by unfold doneG; rw [if_neg (by simp), if_neg hp])
      go_enter Try.func37, Try.ntmps37
      go_wp2_with (first | (go_at_call 48; (with_reducible refine (HL.out).mono ?_); rintro e w2 ⟨rfl, n, rfl⟩))
      go_ret
      exact ⟨by rw [HD.out]; rfl, _, rfl⟩
  · have HD : Hid (doneG bs er = er) := Lib.hid (by simp [doneG, h0])
    have e1 : (er == 0) = false := by simp [h0]
    have e2 : decide (er = 0) = false := decide_eq_false h0
    clear h0
    go_enter Try.func37, Try.ntmps37
    go_wp2
    go_ret
    exact ⟨by rw [HD.out]; rfl, 0, rfl⟩
end Go.Proofs.Ytojocffjajcdmaa.PB
namespace Go.Proofs.Ytojocffjajcdmaa.PB
open Go.RowKit Go.Proofs.YtojocffjajcdmaaW.PrintWords Go.Proofs.YtojocffjajcdmaaW.PrintLast Go.Proofs.YtojocffjajcdmaaW.PrintMore Go.Proofs.Ytojocffjajcdmaa.PPostingsLists
set_option linter.unusedVariables false
set_option linter.unusedSimpArgs false

theorem wrap_u8_in (x : Int) (h0 : 0 ≤ x) (h1 : x < 256) : IntKind.u8.wrap x = x := by rw [IntKind.wrap_u8]; exact Int.emod_eq_of_lt h0 h1
theorem rb_y (x y : Nat) (hy : y = x % 128 + 128) : IntKind.u8.wrap ((x : Int) % 128 + 128) = (y : Int) := by rw [wrap_u8_in _ (by omega) (by omega)]; omega
theorem rb_z (x z : Nat) (hz : z = x / 128) : Int.tdiv (x : Int) 128 = (z : Int) := by rw [Int.tdiv_eq_ediv_of_nonneg (by omega)]; omega
theorem rb_m (x : Nat) : Int.tmod (x : Int) 128 = (x : Int) % 128 := Int.tmod_eq_emod_of_nonneg (by omega)
theorem rb_lt (x z : Nat) (hz : z = x / 128) (h : 127 < x) (hx : x < 72057594037927936) : z < x ∧ z < 9223372036854775808 := by omega
theorem rb_meas (x z : Nat) (h : z < x) : (intOf (Value.int .i64 (z : Int))).toNat < (intOf (Value.int .i64 (x : Int))).toNat := by
  show (z : Int).toNat < (x : Int).toNat
  simpa using h
def RBRel (n : Nat) (w : World) (v0 v3 : Value) (wr : World) : Prop :=
  ∃ x : Nat, ∃ acc : List Int, v0 = .int .i64 (x : Int) ∧ x ≤ n ∧ OwnB wr w.heap.size v3 acc ∧ num7 n = acc ++ num7 x ∧ Below w.heap.size w wr

set_option maxHeartbeats 4000000 in
set_option maxRecDepth 100000 in
theorem rbytes_any (n : Nat) (w : World) (h : n < 72057594037927936) : Calls Try.prog 43 #[.int .i64 (n : Int)] w (BytesBelow (num7 n) w) := by
  have HN := Lib.hid h
  have HL : Hid ((num7 n).length ≤ 9) := Lib.hid (num7_len n 8 (by omega)).2
  clear h
  go_enter Try.func43, Try.ntmps43
  go_wp2
  go_loopw [0, 3] (fun v0 v3 wr => RBRel n w v0 v3 wr) (fun v0 _ _ => (intOf v0).toNat)
  case atStart => exact ⟨n, [], rfl, Nat.le_refl _, Kd.R_nil _ _ _ _ _, rfl, Below.refl _ _⟩
  case round =>
    obtain ⟨x, acc, rfl, hx, ho, heq, hb⟩ := hrel
    obtain ⟨Ao, co, hso⟩ := Kd.R_slice ho
    subst hso
    have HO := Lib.hid ho
    have HB := Lib.hid hb
    have hxn : x < 72057594037927936 := by have := HN.out; omega
    have HAL : Hid (acc.length ≤ 9) := Lib.hid (by have := HL.out; rw [heq, List.length_append] at this; omega)
    have HEQ := Lib.hid heq
    have HXN := Lib.hid hx
    clear ho hb heq hx
    by_cases hb127 : 127 < x
    · have d1 : decide ((127 : Int) < (x : Int)) = true := decide_eq_true (by omega)
      have d2 : decide (127 < x) = true := decide_eq_true hb127
      obtain ⟨y, hy⟩ : ∃ y : Nat, y = x % 128 + 128 := ⟨_, rfl⟩
      obtain ⟨z, hz⟩ : ∃ z : Nat, z = x / 128 := ⟨_, rfl⟩
      have hm := rb_m x
      have hy8 := rb_y x y hy
      have hdv := rb_z x z hz
      have hlt2 := rb_lt x z hz hb127 hxn
      have HST : Hid (num7 n = (acc ++ [(y : Int)]) ++ num7 z) := Lib.hid (by rw [HEQ.out, num7_big x hb127, hy, hz]; simp)
      have HZX := Lib.hid hlt2.1
      have hzw : wrap64 (z : Int) = (z : Int) := wrap64_nat z hlt2.2
      clear hy hz hlt2
      go_wp2_with (first | ((with_reducible refine gate_builtin (b := .append) (xs := #[.tmp 6, .tmp 11]) rfl ?_); at_builtin; refine Kd.R_append KB (w0 := w) (W := wr) w.heap.size rfl (.tmp 6) (.tmp 11) 28 5 (.int .u8 0) 1 rfl Try.underlying28 info5 rfl (by decide) (by omega) (.slice Ao acc.length co) acc (y : Int) [.int .u8 (y : Int)] (fun _ => True) (fun _ => False) rfl rfl rfl (fun _ hk => hk.elim) (fun _ _ => trivial) HO.out HB.out (below_size HB.out) (by have := HAL.out; omega) ?_; intro v7 w7 ho7 hb7 hg7 hat7; have HO7 := Lib.hid ho7; have HB7 := Lib.hid hb7; clear ho7 hb7 hg7 hat7))
      go_roundw
      case rel => exact ⟨z, acc ++ [(y : Int)], by first | rfl | rw [hzw] | rw [hdv], Nat.le_trans (Nat.le_of_lt HZX.out) HXN.out, HO7.out, HST.out, HB7.out⟩
      case measure => rw [hzw]; exact rb_meas x z HZX.out
    · have d1 : decide ((127 : Int) < (x : Int)) = false := decide_eq_false (by omega)
      have d2 : decide (127 < x) = false := decide_eq_false hb127
      have hx8 : IntKind.u8.wrap (x : Int) = (x : Int) := wrap_u8_in _ (by omega) (by omega)
      have HST : Hid (num7 n = acc ++ [(x : Int)]) := Lib.hid (by rw [HEQ.out, num7_small x hb127])
      clear hb127
      go_wp2_with (first | ((with_reducible refine gate_builtin (b := .append) (xs := #[.tmp 15, .tmp 18]) rfl ?_); at_builtin; refine Kd.R_append KB (w0 := w) (W := wr) w.heap.size rfl (.tmp 15) (.tmp 18) 28 5 (.int .u8 0) 1 rfl Try.underlying28 info5 rfl (by decide) (by omega) (.slice Ao acc.length co) acc (x : Int) [.int .u8 (x : Int)] (fun _ => True) (fun _ => False) rfl rfl rfl (fun _ hk => hk.elim) (fun _ _ => trivial) HO.out HB.out (below_size HB.out) (by have := HAL.out; omega) ?_; intro v7 w7 ho7 hb7 hg7 hat7; have HO7 := Lib.hid ho7; have HB7 := Lib.hid hb7; clear ho7 hb7 hg7 hat7))
      go_ret
      exact ⟨_, rfl, by rw [HST.out]; exact HO7.out, HB7.out⟩
end Go.Proofs.Ytojocffjajcdmaa.PB
namespace Go.Proofs.Ytojocffjajcdmaa.PB
open Go.RowKit Go.Proofs.YtojocffjajcdmaaW.PrintWords Go.Proofs.YtojocffjajcdmaaW.PrintLast Go.Proofs.YtojocffjajcdmaaW.PrintMore Go.Proofs.Ytojocffjajcdmaa.PPostingsLists
set_option linter.unusedVariables false
set_option linter.unusedSimpArgs false

/-- Bytes lent: two more lie behind them. -/
def LentBelow (bs : List Int) (w : World) (e : Ending) (w' : World) : Prop :=
  ∃ A' c', e = .returned (.slice A' bs.length c') ∧ OwnB w' w.heap.size (.slice A' (bs.length + 2) c') (bs ++ [77, 78]) ∧ Below w.heap.size w w'

set_option maxHeartbeats 4000000 in
set_option maxRecDepth 100000 in
theorem lent_any (A : Option Addr) (c : Nat) (bs : List Int) (w : World) (hr : Kd.C KB w A bs.length bs) (hl : bs.length + 2 ≤ 140737488355328) : Calls Try.prog 16 #[.slice A bs.length c] w (LentBelow bs w) := by
  have HR := Lib.hid hr
  have HL := Lib.hid hl
  obtain ⟨i5, hi5, _, hsz5, _⟩ := info_parts info5
  clear hr hl
  go_enter Try.func16, Try.ntmps16
  go_wp2_with (first | ((with_reducible refine gate_dst (N := 4) rfl ?_); refine Kd.R_lit KB (w0 := w) w.heap.size 5 ?hg (N := 4) ?hd (xs := ([] : List Int)) (inner := []) (ok := fun _ => True) (okp := fun _ => True) ?hr ?hp (fun _ hk => hk) trivial (Below.refl _ _) (Nat.le_refl _) (by simp) ?_; (case hd => rfl); (case hg => rfl); (case hr => first | (go_simp; done) | (go_simp; rfl)); (case hp => exact (Reps.none _ _)); intro v1 w1 ho1 hb1 hg1 hn1; obtain ⟨A1, c1, h1⟩ := Kd.R_slice ho1; subst h1; have HO1 := Lib.hid ho1; have HB1 := Lib.hid hb1; have HR1 := Lib.hid (Kd.C_below HR.out hb1); clear ho1 hb1 hg1 hn1) | ((with_reducible refine gate_builtin (b := .append) (xs := #[.tmp 4, .tmp 5]) rfl ?_); at_builtin; refine Kd.R_append_row (Value.int .u8) 0 (w0 := w) w.heap.size rfl (.tmp 4) (.tmp 5) 28 5 (.int .u8 0) 1 rfl Try.underlying28 info5 rfl (by omega) _ [] bs A bs.length c (fun _ => True) rfl rfl (fun _ _ => trivial) HO1.out HR1.out HB1.out (below_size HB1.out) (by have := HL.out; simp; omega) ?_; intro v4 w4 ho4 hb4 hg4 hat4; obtain ⟨A4, c4, h4⟩ := Kd.R_slice ho4; subst h4; rw [List.nil_append] at ho4; have HO4 := Lib.hid ho4; have HB4 := Lib.hid hb4; clear ho4 hb4 hg4 hat4) | ((with_reducible refine gate_dst (N := 8) rfl ?_); refine Kd.R_lit KB (w0 := w) w.heap.size 5 ?hg (N := 8) ?hd (xs := ([77, 78] : List Int)) (inner := [.int .u8 77, .int .u8 78]) (ok := fun _ => True) (okp := fun _ => True) ?hr ?hp (fun _ hk => hk) trivial HB4.out HB4.out.size (by simp) ?_; (case hd => rfl); (case hg => rfl); (case hr => first | (go_simp; done) | (go_simp; rfl)); (case hp => exact (Reps.one (show Kd.M KB _ _ _ 77 [.int .u8 77] from rfl) (Reps.one (show Kd.M KB _ _ _ 78 [.int .u8 78] from rfl) (Reps.none _ _)))); intro v8 w8 ho8 hb8 hg8 hn8; obtain ⟨A8, c8, h8⟩ := Kd.R_slice ho8; subst h8; have HO8 := Lib.hid (Kd.R_reads' ho8).2.2; have HB8 := Lib.hid hb8; have HO9 := Lib.hid (Kd.R_grown HO4.out hg8 (fun _ _ e => by cases e)); clear ho8 hb8 hg8 hn8) | ((with_reducible refine gate_builtin (b := .append) (xs := #[.tmp 7, .tmp 8]) rfl ?_); at_builtin; refine Kd.R_append_row (Value.int .u8) 0 (w0 := w) w.heap.size rfl (.tmp 7) (.tmp 8) 28 5 (.int .u8 0) 1 rfl Try.underlying28 info5 rfl (by omega) _ bs [77, 78] A8 2 c8 (fun _ => True) rfl rfl (fun _ _ => trivial) HO9.out HO8.out HB8.out (below_size HB8.out) (by have := HL.out; omega) ?_; intro v9 w9 ho9 hb9 hg9 hat9; obtain ⟨A9, c9, h9⟩ := Kd.R_slice ho9; subst h9; have hle := (Kd.R_reads' ho9).2.1; rw [List.length_append] at ho9 hle; change bs.length + 2 ≤ c9 at hle; change Kd.R _ 5 _ _ _ (.slice A9 (bs.length + 2) c9) _ at ho9; have hto := cut_to (P := Try.prog) 28 5 .i64 Try.underlying28 hi5 A9 (bs.length + 2) c9 (bs.length : Int) (by omega) (by omega) hle; rw [Int.toNat_natCast] at hto; have HO10 := Lib.hid ho9; have HB10 := Lib.hid hb9; clear ho9 hb9 hg9 hat9 hle))
  go_ret
  exact ⟨A9, c9, rfl, HO10.out, HB10.out⟩
end Go.Proofs.Ytojocffjajcdmaa.PB
namespace Go.Proofs.Ytojocffjajcdmaa.PB
open Go.RowKit Go.Proofs.YtojocffjajcdmaaW.PrintWords Go.Proofs.YtojocffjajcdmaaW.PrintLast Go.Proofs.YtojocffjajcdmaaW.PrintMore Go.Proofs.Ytojocffjajcdmaa.PPostingsLists
set_option linter.unusedVariables false
set_option linter.unusedSimpArgs false

theorem cut_cap {P : Program} (t e : TypeId) (kh : IntKind) {i : TypeInfo} (ht : P.underlying t = some (.slice e)) (hi : P.info? e = some i) (A : Option Addr) (n c : Nat) (j : Int) (h0 : 0 ≤ j) (hm : j ≤ c) :
    ∀ W : World, (Instr.slice t (.slice A n c) none (some (.int kh j)) none).run P W = .ok (.slice A j.toNat c) W := by
  intro W
  have hel : P.elem t = e := by simp [Program.elem, ht]
  have hu : P.underlying t = some (.slice (P.elem t)) := by rw [hel]; exact ht
  have ha : (A.map fun x => x.add 0) = A := by cases A <;> simp [Addr.add]
  rw [run_slice_h W t A n c hu kh j h0 (by omega), hel]
  simp [sizeOf, typeInfo, hi, sliced, Result.andThen, ha]
/-! ### Stays: what was lent is as it was, and the two bytes behind it -/
set_option maxHeartbeats 4000000 in
set_option maxRecDepth 100000 in
theorem stays_any (A' A : Option Addr) (c' c : Nat) (bs : List Int) (w : World) (hl : Kd.C KB w A' (bs ++ [77, 78]).length (bs ++ [77, 78])) (hc : bs.length + 2 ≤ c') (hr : Kd.C KB w A bs.length bs) (hm : bs.length + 2 ≤ 140737488355328) : Calls Try.prog 22 #[.slice A' bs.length c', .slice A bs.length c] w fun e w' => e = .returned (.bool true) ∧ ∃ n, w' = w.drewN n := by
  obtain ⟨i5, hi5, _, hsz5, _⟩ := info_parts info5
  have hlen : (bs ++ [(77 : Int), 78]).length = bs.length + 2 := by simp
  have hto1 := cut_cap (P := Try.prog) 28 5 .i64 Try.underlying28 hi5 A' bs.length c' ((bs.length : Int) + 2) (by omega) (by omega)
  rw [show ((bs.length : Int) + 2).toNat = bs.length + 2 by omega] at hto1
  have hto2 := cut_to (P := Try.prog) 28 5 .i64 Try.underlying28 hi5 A' (bs.length + 2) c' (bs.length : Int) (by omega) (by omega) hc
  rw [Int.toNat_natCast] at hto2
  have hCt := take_C (u := bs.length) hl (by omega)
  rw [show (bs ++ [(77 : Int), 78]).take bs.length = bs by simp] at hCt
  have hcv1 := fun k => Kd.C_string (P := Try.prog) (c := c') Try.underlying28 Try.underlying5 Try.underlying9 (Kd.C_below hCt (pw_below_drewN (Below.refl _ _) k))
  have hcv2 := fun k => Kd.C_string (P := Try.prog) (c := c) Try.underlying28 Try.underlying5 Try.underlying9 (Kd.C_below hr (pw_below_drewN (Below.refl _ _) k))
  obtain ⟨ad, rfl, k0⟩ := byte_at hl bs.length (by omega)
  obtain ⟨ad', he, k1⟩ := byte_at hl (bs.length + 1) (by omega)
  injection he with he
  subst he
  rw [show (bs ++ [(77 : Int), 78]).getD bs.length 0 = 77 by simp [List.getD_eq_getElem?_getD]] at k0
  rw [show (bs ++ [(77 : Int), 78]).getD (bs.length + 1) 0 = 78 by simp [List.getD_eq_getElem?_getD]] at k1
  have hw2 : wrap64 ((bs.length : Int) + 2) = (bs.length : Int) + 2 := wrap64_two bs.length 2 (by omega)
  obtain ⟨M, hM⟩ : ∃ M : Nat, M = bs.length + 1 := ⟨_, rfl⟩
  rw [← hM] at k1
  have hw1 : wrap64 ((bs.length : Int) + 1) = (M : Int) := by rw [show (bs.length : Int) + 1 = (M : Int) by omega]; exact wrap64_nat M (by omega)
  obtain ⟨N, hN⟩ : ∃ N : Nat, N = bs.length + 2 := ⟨_, rfl⟩
  rw [← hN] at hto1 hto2
  have hnn : (0 : Int) ≤ (bs.length : Int) := by omega
  have hi0n : bs.length < N := by omega
  have hi0 : (bs.length : Int) < (N : Int) := by omega
  have hi1 : (M : Int) < (N : Int) := by omega
  have hM0 : (0 : Int) ≤ (M : Int) := by omega
  clear hl hr hCt hlen hN hM hm hc
  go_enter Try.func22, Try.ntmps22
  go_wp2_with fail
  go_quiet (fail)
  go_wp2
  go_ret
  exact ⟨by simp, _, rfl⟩
end Go.Proofs.Ytojocffjajcdmaa.PB
namespace Go.Proofs.Ytojocffjajcdmaa.PB
open Go.RowKit Go.Proofs.YtojocffjajcdmaaW.PrintWords Go.Proofs.YtojocffjajcdmaaW.PrintLast Go.Proofs.YtojocffjajcdmaaW.PrintMore Go.Proofs.Ytojocffjajcdmaa.PPostingsLists
set_option linter.unusedVariables false
set_option linter.unusedSimpArgs false

/-! ### May a list be, and its bytes, in plain words -/
def rightB (l : List Int) : Bool := (icehouseref05_Right.f (l.length + 1) l).getD false
def InB (l : List Int) (j : Nat) : Prop := 0 ≤ l.getD j 0 ∧ l.getD j 0 < 1099511627776 ∧ (0 < j → l.getD (j - 1) 0 < l.getD j 0)
theorem right_in (l : List Int) (hN : l.length ≤ 17592186044416) : ∀ m j : Nat, m + j = l.length → icehouseref05_Right.l0 (m + 1) l (j : Int) = some true → (∀ i, j ≤ i → i < l.length → InB l i) ∧ l.length ≤ 65536 := by
  intro m
  induction m with
  | zero =>
    intro j hj h
    rw [icehouseref05_Right.l0, if_neg (by omega)] at h
    simp at h
    exact ⟨fun i h1 h2 => by omega, by omega⟩
  | succ m ih =>
    intro j hj h
    rw [icehouseref05_Right.l0, if_pos (by omega), if_pos (by omega)] at h
    have er : rd l (j : Int) = l.getD j 0 := rfl
    rw [er] at h
    by_cases h1 : l.getD j 0 < 0
    · rw [if_pos h1] at h; simp at h
    · rw [if_neg h1] at h
      by_cases h2 : l.getD j 0 ≥ 1099511627776
      · rw [if_pos h2] at h; simp at h
      · rw [if_neg h2] at h
        have hw : wrap64 ((j : Int) + 1) = ((j + 1 : Nat) : Int) := by rw [w64 (by omega) (by omega)]; omega
        by_cases h3 : (j : Int) > 0
        · have e : wrap64 ((j : Int) - 1) = ((j - 1 : Nat) : Int) := by rw [w64 (by omega) (by omega)]; omega
          rw [if_pos h3, e, if_pos (by omega), if_pos (by omega)] at h
          have er2 : rd l ((j - 1 : Nat) : Int) = l.getD (j - 1) 0 := rfl
          rw [er2] at h
          by_cases h4 : l.getD j 0 ≤ l.getD (j - 1) 0
          · rw [if_pos h4] at h; simp at h
          · rw [if_neg h4, hw] at h
            obtain ⟨k1, k2⟩ := ih (j + 1) (by omega) h
            refine ⟨fun i hi hil => ?_, k2⟩
            by_cases hij : i = j
            · subst hij; exact ⟨by omega, by omega, fun _ => by omega⟩
            · exact k1 i (by omega) hil
        · rw [if_neg h3, hw] at h
          obtain ⟨k1, k2⟩ := ih (j + 1) (by omega) h
          refine ⟨fun i hi hil => ?_, k2⟩
          by_cases hij : i = j
          · subst hij; exact ⟨by omega, by omega, fun h => by omega⟩
          · exact k1 i (by omega) hil
theorem rightB_some (l : List Int) (hN : l.length ≤ 17592186044416) : icehouseref05_Right.f (l.length + 1) l = some (rightB l) ∧ postings_Right.f (l.length + 1) l = some (rightB l) := by
  obtain ⟨r, hr⟩ := right_ends l hN l.length 0 rfl
  have h1 : icehouseref05_Right.f (l.length + 1) l = some r := hr
  have e : rightB l = r := by unfold rightB; rw [h1]; rfl
  rw [e]
  refine ⟨h1, ?_⟩
  unfold postings_Right.f
  rw [right_eq]
  exact hr
theorem rightB_get (l : List Int) (hN : l.length ≤ 17592186044416) (h : rightB l = true) : (∀ i, i < l.length → InB l i) ∧ l.length ≤ 65536 := by
  have h1 := (rightB_some l hN).1
  rw [h] at h1
  obtain ⟨k1, k2⟩ := right_in l hN l.length 0 rfl h1
  exact ⟨fun i hi => k1 i (Nat.zero_le _) hi, k2⟩
def gapsB : Int → List Int → List Int
  | _, [] => []
  | was, x :: r => num7 (x - was - 1).toNat ++ gapsB x r
def putBytes (l : List Int) : List Int := num7 l.length ++ gapsB (-1) l
def putI (l : List Int) : List Int × Int := if rightB l = true then (putBytes l, 0) else ([], 1)
theorem number_f (k n : Nat) (hk : 8 ≤ k) (hk2 : k < 1000000) (h : n < 72057594037927936) : codec_Number.f (k + 1) (n : Int) = some (num7 n, 0) := by
  have hp : n < 128 ^ (k + 1) := Nat.lt_of_lt_of_le (show n < 128 ^ 9 by omega) (Nat.pow_le_pow_right (by decide) (by omega))
  unfold codec_Number.f codec_seven_int.f
  rw [if_neg (by omega), if_neg (by omega), seven_l0 k n [] hp (by simp; omega)]
  rfl
/-- The one ahead. -/
def wasAt (l : List Int) (j : Nat) : Int := if j = 0 then -1 else l.getD (j - 1) 0
theorem gapsB_at (l : List Int) (j : Nat) (h : j < l.length) : gapsB (wasAt l j) (l.drop j) = num7 (l.getD j 0 - wasAt l j - 1).toNat ++ gapsB (wasAt l (j + 1)) (l.drop (j + 1)) := by
  rw [List.drop_eq_getElem_cons h, gapsB]
  have e : l.getD j 0 = l[j] := by simp [h]
  have e2 : wasAt l (j + 1) = l[j] := by unfold wasAt; rw [if_neg (by omega)]; simp [h]
  rw [e, e2]
theorem gap_bnd (l : List Int) (j : Nat) (h : InB l j) (h2 : 0 < j → InB l (j - 1)) : 0 ≤ l.getD j 0 - wasAt l j - 1 ∧ l.getD j 0 - wasAt l j - 1 < 1099511627776 ∧ -1 ≤ wasAt l j ∧ wasAt l j < 1099511627776 := by
  obtain ⟨a1, a2, a3⟩ := h
  unfold wasAt
  split
  · omega
  · have b := h2 (by omega)
    have := a3 (by omega)
    obtain ⟨b1, b2, _⟩ := b
    omega
theorem put_l0 (l : List Int) (hl : l.length ≤ 65536) (hI : ∀ i, i < l.length → InB l i) : ∀ m j : Nat, m + j = l.length → ∀ acc : List Int, acc.length ≤ 20 + j * 9 →
    postings_Put.l0 (m + 10) acc (wasAt l j) l (l.length : Int) (j : Int) = some (acc ++ gapsB (wasAt l j) (l.drop j), 0) := by
  intro m
  induction m with
  | zero =>
    intro j hj acc ha
    have e : l.drop j = [] := List.drop_eq_nil_of_le (by omega)
    rw [e, postings_Put.l0, if_neg (by omega)]
    simp [gapsB]
  | succ m ih =>
    intro j hj acc ha
    have hjl : j < l.length := by omega
    obtain ⟨g1, g2, g3, g4⟩ := gap_bnd l j (hI j hjl) (fun _ => hI (j - 1) (by omega))
    rw [gapsB_at l j hjl]
    obtain ⟨i1, i2, i3⟩ := hI j hjl
    rw [show m + 1 + 10 = (m + 10) + 1 by omega, postings_Put.l0, if_pos (by omega), if_pos (by omega), if_pos (by omega)]
    have er : rd l (j : Int) = l.getD j 0 := rfl
    rw [er]
    rw [w64 (x := l.getD j 0 - wasAt l j) (by omega) (by omega), w64 (x := l.getD j 0 - wasAt l j - 1) (by omega) (by omega), w64 (x := (j : Int) + 1) (by omega) (by omega)]
    have hn : l.getD j 0 - wasAt l j - 1 = (((l.getD j 0 - wasAt l j - 1).toNat : Nat) : Int) := by omega
    have hb : (l.getD j 0 - wasAt l j - 1).toNat < 72057594037927936 := by omega
    rw [hn, show m + 10 = (m + 9) + 1 by omega, number_f (m + 9) _ (by omega) (by omega) hb]
    have hlen := (num7_len (l.getD j 0 - wasAt l j - 1).toNat 8 (by omega)).2
    simp only [Option.bind_some, Int.toNat_natCast]
    rw [if_pos (by omega)]
    have hw : l.getD j 0 = wasAt l (j + 1) := by unfold wasAt; rw [if_neg (by omega)]; rfl
    have := ih (j + 1) (by omega) (acc ++ num7 (l.getD j 0 - wasAt l j - 1).toNat) (by rw [List.length_append]; omega)
    rw [show ((j : Int) + 1) = ((j + 1 : Nat) : Int) by omega]
    rw [show m + 9 + 1 = m + 10 by omega]
    rw [← hw] at this
    rw [this, hw, List.append_assoc]
theorem right_up (l : List Int) (r : Bool) (k d : Nat) (h : postings_Right.f k l = some r) : postings_Right.f (k + d) l = some r := by
  induction d with
  | zero => exact h
  | succ d ih => exact postings_Right.mono l (k + d) r ih
theorem wasAt0 (l : List Int) : wasAt l 0 = -1 := rfl
theorem put_f (l : List Int) (hN : l.length ≤ 17592186044416) : postings_Put.f (l.length + 10) l = some (putI l) := by
  have h1 := right_up l (rightB l) (l.length + 1) 9 (rightB_some l hN).2
  unfold postings_Put.f
  rw [show l.length + 10 = l.length + 1 + 9 by omega, h1]
  simp only [Option.bind_some]
  unfold putI
  by_cases hr : rightB l = true
  · rw [if_pos hr, if_pos hr]
    obtain ⟨hI, hl⟩ := rightB_get l hN hr
    rw [show l.length + 1 + 9 = (l.length + 9) + 1 by omega, number_f (l.length + 9) l.length (by omega) (by omega) (by omega)]
    simp only [Option.bind_some]
    have hlen := (num7_len l.length 2 (by omega)).2
    have := put_l0 l hl hI l.length 0 rfl (num7 l.length) (by omega)
    rw [wasAt0] at this
    rw [show (l.length + 9) + 1 = l.length + 10 by omega]
    exact this
  · rw [if_neg hr, if_neg hr]
theorem put_any (A : Option Addr) (c : Nat) (l : List Int) (w : World) (h : Kd.C KI w A l.length l) (hc : l.length ≤ c) (hN : l.length ≤ 17592186044416) : Calls Try.prog 17 #[.slice A l.length c] w (TupBelow (putI l).1 (putI l).2 w) :=
  postings_Put.calls _ A c l _ _ w h hc (put_f l hN)
theorem gapsB_len (l : List Int) (hl : l.length ≤ 65536) (hI : ∀ i, i < l.length → InB l i) : ∀ m j : Nat, m + j = l.length → (gapsB (wasAt l j) (l.drop j)).length ≤ m * 9 := by
  intro m
  induction m with
  | zero =>
    intro j hj
    have e : l.drop j = [] := List.drop_eq_nil_of_le (by omega)
    rw [e]; simp [gapsB]
  | succ m ih =>
    intro j hj
    have hjl : j < l.length := by omega
    obtain ⟨g1, g2, g3, g4⟩ := gap_bnd l j (hI j hjl) (fun _ => hI (j - 1) (by omega))
    rw [gapsB_at l j hjl, List.length_append]
    have hlen := (num7_len (l.getD j 0 - wasAt l j - 1).toNat 8 (by omega)).2
    have := ih (j + 1) (by omega)
    omega

/-! ### The reference's bytes of a list -/
def BtRel (l : List Int) (w : World) (v3 v4 : Value) (wr : World) : Prop := ∃ (j : Nat) (acc : List Int), v4 = .int .i64 (j : Int) ∧ j ≤ l.length ∧ OwnB wr w.heap.size v3 acc ∧ acc.length ≤ 20 + j * 9 ∧ putBytes l = acc ++ gapsB (wasAt l j) (l.drop j) ∧ Below w.heap.size w wr
theorem num_nat (n : Int) (h : 0 ≤ n) (h2 : n < 72057594037927936) (w : World) : Calls Try.prog 43 #[.int .i64 n] w (BytesBelow (num7 n.toNat) w) := by
  have := rbytes_any n.toNat w (by omega)
  rw [show ((n.toNat : Nat) : Int) = n by omega] at this
  exact this
set_option maxHeartbeats 4000000 in
set_option maxRecDepth 100000 in
theorem rbytes_list (A : Option Addr) (c : Nat) (l : List Int) (w : World) (h : Kd.C KI w A l.length l) (hr : rightB l = true) (hN : l.length ≤ 17592186044416) :
    Calls Try.prog 30 #[.slice A l.length c] w (BytesBelow (putBytes l) w) := by
  obtain ⟨hI, hl⟩ := rightB_get l hN hr
  have HC := Lib.hid h
  have HI := Lib.hid hI
  have HLN := Lib.hid (num7_len l.length 2 (by omega)).2
  have HNB := Lib.hid (num_nat (l.length : Int) (by omega) (by omega) w)
  clear h hI hr hN
  go_enter Try.func30, Try.ntmps30
  go_wp2_with (go_at_call 43; (with_reducible refine HNB.out.mono ?_); rintro e w2 ⟨v, rfl, ho, hb⟩; have HO := Lib.hid ho; have HB := Lib.hid hb; clear ho hb)
  go_loopw [3, 4] (fun v3 v4 wr => BtRel l w v3 v4 wr) (fun _ v4 _ => l.length - (intOf v4).toNat)
  case atStart => exact ⟨0, _, rfl, Nat.zero_le _, HO.out, by have := HLN.out; rw [Int.toNat_natCast]; omega, by rw [Int.toNat_natCast]; rfl, HB.out⟩
  case round =>
    obtain ⟨j, acc, rfl, hj, ho, hal, hpe, hb⟩ := hrel
    have HO2 := Lib.hid ho
    have HB2 := Lib.hid hb
    have HPE := Lib.hid hpe
    obtain ⟨A3, c3, rfl⟩ := Kd.R_slice ho
    clear ho hpe hb
    by_cases hlt : j < l.length
    · have hji : (j : Int) < (l.length : Int) := by omega
      obtain ⟨b, o, rfl, hx⟩ := int_at HC.out (by omega)
      have hx0 := pw_cell_below HB2.out (hx j hlt)
      obtain ⟨g1, g2, g3, g4⟩ := gap_bnd l j (HI.out j hlt) (fun _ => HI.out (j - 1) (by omega))
      have HG := Lib.hid (gapsB_at l j hlt)
      have hgl := (num7_len (l.getD j 0 - wasAt l j - 1).toNat 8 (by omega)).2
      obtain ⟨i1, i2, i3⟩ := HI.out j hlt
      rcases Nat.eq_zero_or_pos j with h0 | hj0
      · have hjz1 : decide (0 < (j : Int)) = false := decide_eq_false (by omega)
        have hjz2 : decide (0 < j) = false := decide_eq_false (by omega)
        have hwz : wasAt l j = -1 := by rw [h0]; rfl
        have HNX : Hid (∀ W, Calls Try.prog 43 #[.int .i64 (l.getD j 0)] W (BytesBelow (num7 (l.getD j 0 - wasAt l j - 1).toNat) W)) := Lib.hid (fun W => by
          have := num_nat (l.getD j 0) i1 (by omega) W
          rw [hwz, show l.getD j 0 - -1 - 1 = l.getD j 0 by omega]
          exact this)
        clear hwz h0 g1 g2 g3 g4 i3 hx
        generalize hN : num7 (l.getD j 0 - wasAt l j - 1).toNat = N at *
        generalize l.getD j 0 = x at *
        go_wp2_with (first
          | (go_at_call 43; (with_reducible refine (HNX.out _).mono ?_); rintro e w3 ⟨v3', rfl, ho3, hb3⟩; obtain ⟨A4, c4, rfl⟩ := Kd.R_slice ho3; have HB3 := Lib.hid (below_step HB2.out hb3); have HO3 := Lib.hid (Kd.R_below HO2.out hb3); have HC3 := Lib.hid (Kd.R_reads' ho3).2.2; clear ho3 hb3)
          | ((with_reducible refine gate_dst (N := 35) rfl ?_); refine Kd.R_append_rows KB (w0 := w) (W := w3) w.heap.size rfl (.tmp 32) (.tmp 34) 28 5 (.int .u8 0) 1 rfl Try.underlying28 info5 rfl (by decide) (by omega) (.slice A3 acc.length c3) acc N _ _ _ (fun _ => True) (fun _ => False) rfl rfl HO3.out HC3.out (fun _ _ h => h) (fun _ h => h.elim) (fun _ _ => trivial) HB3.out HB3.out.size (by omega) ?_; intro v5 w5 ho5 hb5 hg5 hat5; have HO5 := Lib.hid ho5; have HB5 := Lib.hid hb5; clear ho5 hb5 hg5 hat5))
        go_roundw
        case rel => exact ⟨j + 1, acc ++ N, by go_num, by omega, HO5.out, by rw [List.length_append]; omega, by rw [HPE.out, HG.out, List.append_assoc], HB5.out⟩
        case measure => simp [intOf]; omega
      · have hj1 : 0 < (j : Int) := by omega
        have hjm0 : (0 : Int) ≤ (j : Int) - 1 := by omega
        have hjm1 : (j : Int) - 1 < (l.length : Int) := by omega
        have hjm2 : ((j : Int) - 1).toNat = j - 1 := by omega
        have hjm3 : (1 : Int) ≤ (j : Int) := by omega
        have hjm4 : (j : Int) < (l.length : Int) + 1 := by omega
        have hjm5 : j < l.length + 1 := by omega
        have hjm6 : 1 ≤ j := by omega
        have hjm7 : j - 1 < l.length := by omega
        have hjm8 : IntKind.i64.wrap ((j : Int) - 1) = (j : Int) - 1 := by rw [IntWalk.i64_in _ ⟨by omega, by omega⟩]
        have hjm9 : 0 < j := by omega
        have hwz : wasAt l j = l.getD (j - 1) 0 := by unfold wasAt; rw [if_neg (by omega)]
        have hx1 := pw_cell_below HB2.out (hx (j - 1) (by omega))
        obtain ⟨y1, y2, _⟩ := HI.out (j - 1) (by omega)
        have HNX : Hid (∀ W, Calls Try.prog 43 #[.int .i64 (l.getD j 0 - l.getD (j - 1) 0 - 1)] W (BytesBelow (num7 (l.getD j 0 - wasAt l j - 1).toNat) W)) := Lib.hid (fun W => by
          rw [hwz]
          exact num_nat _ (by rw [hwz] at g1; exact g1) (by rw [hwz] at g2; omega) W)
        clear hwz g1 g2 g3 g4 i3 hx
        generalize hN : num7 (l.getD j 0 - wasAt l j - 1).toNat = N at *
        generalize l.getD j 0 = x at *
        generalize l.getD (j - 1) 0 = y at *
        go_wp2_with fail
        go_region_held3 (fun w' => w'.cell? ⟨b, o + j, none⟩ = some (.int .i64 x) ∧ w'.cell? ⟨b, o + (j - 1), none⟩ = some (.int .i64 y)) (first | go_keep | exact ⟨hx0, hx1⟩) (fail)
        go_wp2_with (first
          | (go_at_call 43; (with_reducible refine (HNX.out _).mono ?_); rintro e w3 ⟨v3', rfl, ho3, hb3⟩; obtain ⟨A4, c4, rfl⟩ := Kd.R_slice ho3; have HB3 := Lib.hid (below_step (below_drew1 HB2.out) hb3); have HO3 := Lib.hid (Kd.R_below (Kd.R_drew HO2.out) hb3); have HC3 := Lib.hid (Kd.R_reads' ho3).2.2; clear ho3 hb3)
          | ((with_reducible refine gate_dst (N := 35) rfl ?_); refine Kd.R_append_rows KB (w0 := w) (W := w3) w.heap.size rfl (.tmp 32) (.tmp 34) 28 5 (.int .u8 0) 1 rfl Try.underlying28 info5 rfl (by decide) (by omega) (.slice A3 acc.length c3) acc N _ _ _ (fun _ => True) (fun _ => False) rfl rfl HO3.out HC3.out (fun _ _ h => h) (fun _ h => h.elim) (fun _ _ => trivial) HB3.out HB3.out.size (by omega) ?_; intro v5 w5 ho5 hb5 hg5 hat5; have HO5 := Lib.hid ho5; have HB5 := Lib.hid hb5; clear ho5 hb5 hg5 hat5))
        go_roundw
        case rel => exact ⟨j + 1, acc ++ N, by go_num, by omega, HO5.out, by rw [List.length_append]; omega, by rw [HPE.out, HG.out, List.append_assoc], HB5.out⟩
        case measure => simp [intOf]; omega
    · have hji : ¬ (j : Int) < (l.length : Int) := by omega
      obtain rfl : j = l.length := by omega
      go_wp2
      go_ret
      have e : l.drop l.length = [] := List.drop_eq_nil_of_le (by omega)
      have h3 := HPE.out
      rw [e] at h3
      simp only [gapsB, List.append_nil] at h3
      rw [h3]
      exact ⟨_, rfl, HO2.out, HB2.out⟩
end Go.Proofs.Ytojocffjajcdmaa.PB
namespace Go.Proofs.Ytojocffjajcdmaa.PB
open Go.RowKit Go.Proofs.YtojocffjajcdmaaW.PrintWords Go.Proofs.YtojocffjajcdmaaW.PrintLast Go.Proofs.YtojocffjajcdmaaW.PrintMore Go.Proofs.Ytojocffjajcdmaa.PPostingsLists
set_option linter.unusedVariables false
set_option linter.unusedSimpArgs false

set_option maxRecDepth 100000 in
theorem rput_any (A : Option Addr) (c : Nat) (l : List Int) (w : World) (h : Kd.C KI w A l.length l) (hc : l.length ≤ c) (hN : l.length ≤ 17592186044416) : Calls Try.prog 18 #[.slice A l.length c] w (TupBelow (putI l).1 (putI l).2 w) := by
  have HR := Lib.hid (icehouseref05_Right.calls (l.length + 1) A c l (rightB l) w h hc (rightB_some l hN).1)
  have HC := Lib.hid h
  cases hr : rightB l with
  | false =>
    have hp : putI l = ([], 1) := by unfold putI; rw [if_neg (by rw [hr]; simp)]
    rw [hp]
    clear h
    go_enter Try.func18, Try.ntmps18
    go_wp2_with (go_at_call 7; (with_reducible refine HR.out.mono ?_); rintro e w2 ⟨rfl, hd⟩; rw [hr]; have HB := Lib.hid hd.below; clear hd)
    go_ret2
    exact ⟨_, rfl, Kd.R_nil _ _ _ _ _, HB.out⟩
  | true =>
    have hp : putI l = (putBytes l, 0) := by unfold putI; rw [if_pos hr]
    rw [hp]
    have HBY := Lib.hid (fun W (hb : Below w.heap.size w W) => rbytes_list A c l W (Kd.C_below h hb) hr hN)
    clear h
    go_enter Try.func18, Try.ntmps18
    go_wp2_with (first
      | (go_at_call 7; (with_reducible refine HR.out.mono ?_); rintro e w2 ⟨rfl, hd⟩; rw [hr]; have HB := Lib.hid hd.below; clear hd)
      | (go_at_call 30; (with_reducible refine (HBY.out _ HB.out).mono ?_); rintro e w3 ⟨v, rfl, ho, hb⟩; have HO := Lib.hid ho; have HB3 := Lib.hid hb; clear ho hb))
    go_ret2
    exact ⟨_, rfl, Kd.R_lower HO.out HB.out.size, bel HB.out HB3.out⟩

/-! ### A list out of bytes, in plain words -/
def loopG : Nat → Int → List Int → List Int → Int → Option (List Int × List Int × Int)
  | 0, _, l, bs, er => some (l, bs, er)
  | n + 1, a, l, bs, er => if (numS bs er).2.2 ≠ 0 ∨ 1099511627776 ≤ a + ((numS bs er).1 + 1) then none else loopG n (a + ((numS bs er).1 + 1)) (l ++ [a + ((numS bs er).1 + 1)]) (numS bs er).2.1 (numS bs er).2.2
def countG (bs : List Int) : Nat := (min (numS bs 0).1 65537).toNat
def getG (bs : List Int) : List Int × Int :=
  match loopG (countG bs) (-1) [] (numS bs 0).2.1 (numS bs 0).2.2 with
  | none => ([], 21)
  | some (l, r, er) => if doneG r er ≠ 0 then ([], 21) else if rightB l = true then (l, 0) else ([], 21)
theorem DecAt.low {w w' : World} {g : Nat} {bs : List Int} {er : Int} (h : DecAt w g bs er) (hb : Below (g + 1) w w') : DecAt w' g bs er := by
  obtain ⟨A, c, h1, h2, h3, h4, h5⟩ := h
  exact ⟨A, c, (hb.block g (by omega)).trans h1, h2, C_old h3 h4 (fun k hk => hb.block k (by omega)), h4, h5⟩
theorem numS_bnd (bs : List Int) (er : Int) : 0 ≤ (numS bs er).1 ∧ (numS bs er).1 < 72057594037927936 := by
  unfold numS
  split
  · exact ⟨by simp, by simp⟩
  · have := numG_bounds bs; exact ⟨this.1, this.2.1⟩
/-- A row of numbers made since the block g. -/
abbrev OwnI (w : World) (g : Nat) (v : Value) (l : List Int) : Prop := Kd.R KI 3 w (g + 1) (fun k => g < k) v l
def GetBelow (r : List Int × Int) (w : World) (e : Ending) (w' : World) : Prop := ∃ A c, e = .returned (.tuple #[.slice A r.1.length c, .int .i64 r.2]) ∧ Kd.C KI w' A r.1.length r.1 ∧ r.1.length ≤ c ∧ Below w.heap.size w w'
def GRel (w : World) (n g : Nat) (R : Option (List Int × List Int × Int)) (v6 v7 v14 : Value) (wr : World) : Prop :=
  ∃ (i : Nat) (a : Int) (l bs : List Int) (er : Int), v7 = .int .i64 a ∧ v14 = .int .i64 (i : Int) ∧ i ≤ n ∧ -1 ≤ a ∧ a < 1099511627776 ∧ l.length = i ∧ OwnI wr g v6 l ∧ DecAt wr g bs er ∧ R = loopG (n - i) a l bs er ∧ Below w.heap.size w wr

set_option maxHeartbeats 4000000 in
set_option maxRecDepth 100000 in
theorem get_any (A : Option Addr) (c : Nat) (bs : List Int) (w : World) (h : Kd.C KB w A bs.length bs) (hl : bs.length ≤ 140737488355328) (hB : Byt bs) : Calls Try.prog 19 #[.slice A bs.length c] w (GetBelow (getG bs) w) := by
  have HN := Lib.hid (new_any A c bs w h hl hB)
  obtain ⟨nb1, nb2⟩ := numS_bnd bs 0
  have HCN : Hid (((countG bs : Nat) : Int) = min (numS bs 0).1 65537) := Lib.hid (by unfold countG; omega)
  have hcn : countG bs ≤ 65537 := by unfold countG; omega
  have HGD : Hid (getG bs = match loopG (countG bs) (-1) [] (numS bs 0).2.1 (numS bs 0).2.2 with
    | none => ([], 21)
    | some (l, r, er) => if doneG r er ≠ 0 then ([], 21) else if rightB l = true then (l, 0) else ([], 21)) := Lib.hid rfl
  generalize hG : getG bs = G at *
  clear h hl hB hG
  go_enter Try.func19, Try.ntmps19
  go_wp2_with (first
    | (go_at_call 31; (with_reducible refine HN.out.mono ?_); rintro e w2 ⟨g, rfl, hg, hd, hb⟩; have HD := Lib.hid hd; have HB := Lib.hid hb; have HGG := Lib.hid hg; clear hd hb hg)
    | (go_at_call 32; (with_reducible refine (dnum_any _ _ _ _ HD.out).mono ?_); rintro e w3 ⟨rfl, hd, hg3⟩; have HD3 := Lib.hid hd; have HB3 := Lib.hid (below_but HB.out HGG.out HB.out.size hg3); clear hd hg3))
  rw [← HCN.out]
  generalize (numS bs 0).2.1 = B1 at *
  generalize (numS bs 0).2.2 = E1 at *
  generalize countG bs = n at *
  obtain ⟨R, hRR⟩ : ∃ R, R = loopG n (-1) [] B1 E1 := ⟨_, rfl⟩
  rw [← hRR] at HGD
  have HRR := Lib.hid hRR
  clear hRR
  clear HCN nb1 nb2 HN
  go_loopw [6, 7, 14] (fun v6 v7 v14 wr => GRel w n g R v6 v7 v14 wr) (fun _ _ v14 _ => n - (intOf v14).toNat)
  case atStart => exact ⟨0, -1, [], B1, E1, rfl, rfl, Nat.zero_le _, by omega, by omega, rfl, Kd.R_nil _ _ _ _ _, HD3.out, by rw [Nat.sub_zero]; exact HRR.out, HB3.out⟩
  case round =>
    obtain ⟨i, a, l, bq, er, rfl, rfl, hi, ha1, ha2, hll, ho, hd, hR, hb⟩ := hrel
    have HOQ := Lib.hid ho
    have HDQ := Lib.hid hd
    have HBQ := Lib.hid hb
    obtain ⟨A6, c6, rfl⟩ := Kd.R_slice ho
    have HLL := Lib.hid hll
    have hl5 : l.length ≤ 65537 := by omega
    clear ho hd hb hll
    by_cases hlt : i < n
    · have hin : (i : Int) < (n : Int) := by omega
      obtain ⟨x1, x2⟩ := numS_bnd bq er
      obtain ⟨d, hd⟩ : ∃ d, n - i = d + 1 := ⟨n - i - 1, by omega⟩
      rw [hd, loopG] at hR
      have hdn : d = n - (i + 1) := by omega
      obtain ⟨X, hX⟩ : ∃ X, (numS bq er).1 = X := ⟨_, rfl⟩
      obtain ⟨B, hBB⟩ : ∃ B, (numS bq er).2.1 = B := ⟨_, rfl⟩
      obtain ⟨E, hE⟩ : ∃ E, (numS bq er).2.2 = E := ⟨_, rfl⟩
      rw [hX, hBB, hE] at hR
      rw [hX] at x1 x2
      have HX := Lib.hid hX
      have HBB := Lib.hid hBB
      have HE := Lib.hid hE
      clear hX hBB hE hd
      by_cases hE0 : E = 0
      · by_cases hbig : 1099511627776 ≤ a + (X + 1)
        · rw [if_pos (.inr hbig)] at hR
          have HR := Lib.hid hR.symm
          clear hR
          go_wp2_with (first
            | (go_at_call 32; (with_reducible refine (dnum_any _ _ _ _ HDQ.out).mono ?_); rintro e w5 ⟨rfl, hd5, hg5⟩; have HD5 := Lib.hid hd5; have HB5 := Lib.hid (below_but HBQ.out HGG.out HBQ.out.size hg5); have HO5 := Lib.hid (Kd.R_grown HOQ.out hg5 (fun k hk e => by injection e with e; omega)); rw [HX.out]; rw [HE.out, HBB.out] at HD5; clear hd5 hg5)
            | (go_at_call 33; (with_reducible refine (err_any _ _ _ _ HD5.out).mono ?_); rintro e w5' ⟨rfl, rfl⟩))
          go_ret2
          have hG2 := HGD.out
          rw [← HR.out] at hG2
          simp only at hG2
          rw [hG2]
          exact ⟨none, 0, rfl, Kd.C_nil _ _, Nat.le_refl _, HB5.out⟩

        · rw [if_neg (fun h => h.elim (fun h => h hE0) hbig)] at hR
          have HR := Lib.hid hR
          clear hR
          go_wp2_with (first
            | (go_at_call 32; (with_reducible refine (dnum_any _ _ _ _ HDQ.out).mono ?_); rintro e w5 ⟨rfl, hd5, hg5⟩; have HD5 := Lib.hid hd5; have HB5 := Lib.hid (below_but HBQ.out HGG.out HBQ.out.size hg5); have HO5 := Lib.hid (Kd.R_grown HOQ.out hg5 (fun k hk e => by injection e with e; omega)); rw [HX.out]; rw [HE.out, HBB.out] at HD5; clear hd5 hg5)
            | (go_at_call 33; (with_reducible refine (err_any _ _ _ _ HD5.out).mono ?_); rintro e w5' ⟨rfl, rfl⟩)
            | ((with_reducible refine gate_dst (N := 31) rfl ?_); refine Kd.R_append KI (g + 1) rfl (.tmp 28) (.tmp 30) 22 3 (.int .i64 0) 8 rfl Try.underlying22 info3 rfl (by decide) (by omega) (.slice A6 l.length c6) l (a + (X + 1)) [.int .i64 (a + (X + 1))] (fun k => g < k) (fun _ => False) rfl rfl rfl (fun _ hk => hk.elim) (fun k hk => by have := HD5.out.lt; omega) HO5.out (Below.refl _ _) (by have := HD5.out.lt; omega) (by omega) ?_; intro v6 w6 ho6 hb6 hg6 hat6; have HO6 := Lib.hid ho6; have HD6 := Lib.hid (HD5.out.low hb6); have HB6 := Lib.hid (HB5.out.trans (hb6.mono (by have := HGG.out; omega))); clear ho6 hb6 hg6 hat6))
          go_roundw
          case rel => exact ⟨i + 1, a + (X + 1), _, B, E, rfl, by go_num, by omega, by omega, by omega, by rw [List.length_append, HLL.out]; rfl, HO6.out, HD6.out, by rw [← hdn]; exact HR.out, HB6.out⟩
          case measure => simp [intOf]; omega
      · rw [if_pos (.inl hE0)] at hR
        have HR := Lib.hid hR.symm
        clear hR
        have hE1 : (E == 0) = false := beq_eq_false_iff_ne.2 hE0
        have hE2 : (E != 0) = true := bne_iff_ne.2 hE0
        go_wp2_with (first
            | (go_at_call 32; (with_reducible refine (dnum_any _ _ _ _ HDQ.out).mono ?_); rintro e w5 ⟨rfl, hd5, hg5⟩; have HD5 := Lib.hid hd5; have HB5 := Lib.hid (below_but HBQ.out HGG.out HBQ.out.size hg5); have HO5 := Lib.hid (Kd.R_grown HOQ.out hg5 (fun k hk e => by injection e with e; omega)); rw [HX.out]; rw [HE.out, HBB.out] at HD5; clear hd5 hg5)
            | (go_at_call 33; (with_reducible refine (err_any _ _ _ _ HD5.out).mono ?_); rintro e w5' ⟨rfl, rfl⟩))
        go_ret2
        have hG2 := HGD.out
        rw [← HR.out] at hG2
        simp only at hG2
        rw [hG2]
        exact ⟨none, 0, rfl, Kd.C_nil _ _, Nat.le_refl _, HB5.out⟩

    · have hin : ¬ (i : Int) < (n : Int) := by omega
      have hii : i = n := by omega
      rw [hii, Nat.sub_self, loopG] at hR
      have HR := Lib.hid hR.symm
      obtain ⟨_, hcc, hCl⟩ := Kd.R_reads' HOQ.out
      have HCL := Lib.hid hCl
      have HRT := Lib.hid (fun W (hb : Below wr.heap.size wr W) => postings_Right.calls (l.length + 1) A6 c6 l (rightB l) W (Kd.C_below hCl hb) hcc (rightB_some l (by omega)).2)
      have HDN := Lib.hid (done_any g bq er wr HDQ.out)
      have hG2 := HGD.out
      rw [← HR.out] at hG2
      simp only at hG2
      have HG2 := Lib.hid hG2
      clear hR hG2 hCl
      generalize doneG bq er = D at *
      by_cases hD : D = 0
      · subst hD
        cases hrb : rightB l with
        | true =>
          go_wp2_with (first
            | (go_at_call 34; (with_reducible refine HDN.out.mono ?_); rintro e w5 ⟨rfl, rfl⟩)
            | (go_at_call 6; (with_reducible refine (HRT.out _ (Below.refl _ _)).mono ?_); rintro e w6 ⟨rfl, hd6⟩; rw [hrb]; have HB6 := Lib.hid hd6.below; clear hd6))
          go_ret2
          have hG3 := HG2.out
          rw [if_neg (by simp), if_pos hrb] at hG3
          rw [hG3]
          exact ⟨A6, c6, rfl, Kd.C_below HCL.out HB6.out, hcc, bel HBQ.out HB6.out⟩
        | false =>
          go_wp2_with (first
            | (go_at_call 34; (with_reducible refine HDN.out.mono ?_); rintro e w5 ⟨rfl, rfl⟩)
            | (go_at_call 6; (with_reducible refine (HRT.out _ (Below.refl _ _)).mono ?_); rintro e w6 ⟨rfl, hd6⟩; rw [hrb]; have HB6 := Lib.hid hd6.below; clear hd6))
          go_ret2
          have hG3 := HG2.out
          rw [if_neg (by simp), if_neg (by rw [hrb]; simp)] at hG3
          rw [hG3]
          exact ⟨none, 0, rfl, Kd.C_nil _ _, Nat.le_refl _, bel HBQ.out HB6.out⟩
      · have hE1 : (D == 0) = false := beq_eq_false_iff_ne.2 hD
        have hE2 : (D != 0) = true := bne_iff_ne.2 hD
        go_wp2_with (go_at_call 34; (with_reducible refine HDN.out.mono ?_); rintro e w5 ⟨rfl, rfl⟩)
        go_ret2
        have hG3 := HG2.out
        rw [if_pos hD] at hG3
        rw [hG3]
        exact ⟨none, 0, rfl, Kd.C_nil _ _, Nat.le_refl _, HBQ.out⟩
end Go.Proofs.Ytojocffjajcdmaa.PB
namespace Go.Proofs.Ytojocffjajcdmaa.PB
open Go.RowKit Go.Proofs.YtojocffjajcdmaaW.PrintWords Go.Proofs.YtojocffjajcdmaaW.PrintLast Go.Proofs.YtojocffjajcdmaaW.PrintMore Go.Proofs.Ytojocffjajcdmaa.PPostingsLists
set_option linter.unusedVariables false
set_option linter.unusedSimpArgs false

def fromG (bs : List Int) : Option (List Int × List Int × Int) := loopG (countG bs) (-1) [] (numS bs 0).2.1 (numS bs 0).2.2
def FromOk (l r : List Int) (er : Int) (ok : Bool) : Option (List Int × List Int × Int) → Prop
  | none => ok = false
  | some (l', r', er') => l = l' ∧ r = r' ∧ er = er' ∧ ok = (decide (er' = 0) && rightB l')
def FromPost (g : Nat) (bs : List Int) (w : World) (e : Ending) (w' : World) : Prop :=
  ∃ A c l ok r er, e = .returned (.tuple #[.slice A l.length c, .bool ok]) ∧ Kd.C KI w' A l.length l ∧ l.length ≤ c ∧ RefAt w' g r er ∧ w.grownBy w' (some g) ∧
    FromOk l r er ok (fromG bs)
/-- At the round i: alive, or an error met and nothing to come. -/
def FRel (w : World) (n : Int) (cnt g : Nat) (R : Option (List Int × List Int × Int)) (v5 v6 : Value) (wr : World) : Prop :=
  ∃ (i : Nat) (l bs : List Int) (er : Int), v6 = .int .i64 (i : Int) ∧ l.length = i ∧ i ≤ cnt ∧ (∀ j, j < i → -1 ≤ l.getD j 0 ∧ l.getD j 0 < 1099511627776) ∧ Kd.R KI 3 wr w.heap.size (fun k => g < k) v5 l ∧ RefAt wr g bs er ∧ w.grownBy wr (some g) ∧
    ((R = loopG (cnt - i) (wasAt l i) l bs er ∧ (er = 0 ∨ i = cnt)) ∨ (R = none ∧ er ≠ 0))
theorem wasAt_snoc (l : List Int) (x : Int) : wasAt (l ++ [x]) (l.length + 1) = x := by
  unfold wasAt
  rw [if_neg (by omega)]
  simp
theorem refE {w : World} {g : Nat} {bs : List Int} {er : Int} (h : RefAt w g bs er) : w.cell? ⟨g, 2, none⟩ = some (.int .i64 er) := by
  obtain ⟨A, c, all, p, h1, _⟩ := h
  rw [blk_cell h1]; rfl
theorem numS_zero (bs : List Int) (er : Int) (h : (numS bs er).2.2 ≠ 0) : (numS bs er).1 = 0 := by
  unfold numS at *
  split
  · rfl
  · rename_i h0
    rw [if_neg h0] at h
    exact (numG_err bs h).1

theorem grown_low {w wr w' : World} {g : Nat} (hg : w.grownBy wr (some g)) (hb : Below w.heap.size wr w') : w.grownBy w' (some g) :=
  ⟨hb.os.trans hg.os, hb.tape.trans hg.tape, hb.output.trans hg.output, Nat.le_trans hg.size hb.size, fun k hk hr => (hb.block k hk).trans (hg.block k hk hr)⟩
set_option maxHeartbeats 4000000 in
set_option maxRecDepth 100000 in
theorem from_any (g : Nat) (bs : List Int) (w : World) (h : RefAt w g bs 0) : Calls Try.prog 36 #[.pointer (some ⟨g, 0, none⟩)] w (FromPost g bs w) := by
  have HD := Lib.hid h
  obtain ⟨nb1, nb2⟩ := numS_bnd bs 0
  have hcn : (countG bs : Int) ≤ (numS bs 0).1 ∧ countG bs ≤ 65537 := by unfold countG; omega
  have hcn2 : (numS bs 0).1 ≤ (countG bs : Int) ∨ countG bs = 65537 := by unfold countG; omega
  have hz := numS_zero bs 0
  have HFP : Hid (fromG bs = loopG (countG bs) (-1) [] (numS bs 0).2.1 (numS bs 0).2.2) := Lib.hid rfl
  have HNS : Hid (∃ B, (numS bs 0).2.1 = B ∧ ∃ n, (numS bs 0).1 = n ∧ ∃ E, (numS bs 0).2.2 = E) := Lib.hid ⟨_, rfl, _, rfl, _, rfl⟩
  clear h
  go_enter Try.func36, Try.ntmps36
  go_wp2_with (go_at_call 47; (with_reducible refine (rnum_any _ _ _ _ HD.out).mono ?_); rintro e w3 ⟨rfl, hd, hg3⟩; have HD3 := Lib.hid hd; have HG3 := Lib.hid hg3; clear hd hg3)
  have hgl : g < w.heap.size := HD.out.lt
  have HGL := Lib.hid hgl
  generalize (numS bs 0).1 = nn at *
  generalize (numS bs 0).2.1 = B1 at *
  generalize (numS bs 0).2.2 = E1 at *
  generalize countG bs = cnt at *
  obtain ⟨R, hRR⟩ : ∃ R, R = loopG cnt (-1) [] B1 E1 := ⟨_, rfl⟩
  rw [← hRR] at HFP
  have HRR := Lib.hid hRR
  have HZ := Lib.hid hz
  clear hRR hz HNS
  go_loopw [5, 6] (fun v5 v6 wr => FRel w nn cnt g R v5 v6 wr) (fun _ v6 _ => cnt - (intOf v6).toNat)
  case atStart => exact ⟨0, [], B1, E1, rfl, rfl, Nat.zero_le _, fun j hj => by omega, Kd.R_nil _ _ _ _ _, HD3.out, HG3.out, .inl ⟨by rw [Nat.sub_zero]; exact HRR.out, by
    by_cases hE : E1 = 0
    · exact .inl hE
    · right; have := HZ.out hE; omega⟩⟩
  case round =>
    obtain ⟨i, l, bq, er, rfl, hll, hi, hlb, ho, hd, hg, hst⟩ := hrel
    have k2 := refE hd
    have HOQ := Lib.hid ho
    have HDQ := Lib.hid hd
    have HGQ := Lib.hid hg
    have HST := Lib.hid hst
    have HLL := Lib.hid hll
    have hl5 : l.length ≤ 65537 := by omega
    obtain ⟨A6, c6, rfl⟩ := Kd.R_slice ho
    clear ho hd hg hst
    by_cases hgo : i < cnt ∧ er = 0
    · obtain ⟨hlt, her⟩ := hgo
      subst her
      have hin : (i : Int) < nn := by omega
      have hi6 : (i : Int) ≤ 65536 := by omega
      have hR : R = loopG (cnt - i) (wasAt l i) l bq 0 := by
        rcases HST.out with h | h
        · exact h.1
        · exact absurd rfl h.2
      obtain ⟨x1, x2⟩ := numS_bnd bq 0
      obtain ⟨d, hd⟩ : ∃ d, cnt - i = d + 1 := ⟨cnt - i - 1, by omega⟩
      rw [hd, loopG] at hR
      have hdn : d = cnt - (i + 1) := by omega
      have hXE := numS_zero bq 0
      obtain ⟨X, hX⟩ : ∃ X, (numS bq 0).1 = X := ⟨_, rfl⟩
      obtain ⟨B, hBB⟩ : ∃ B, (numS bq 0).2.1 = B := ⟨_, rfl⟩
      obtain ⟨E, hE⟩ : ∃ E, (numS bq 0).2.2 = E := ⟨_, rfl⟩
      rw [hX, hBB, hE] at hR
      rw [hX, hE] at hXE
      rw [hX] at x1 x2
      have HX := Lib.hid hX
      have HBB := Lib.hid hBB
      have HE := Lib.hid hE
      clear hX hBB hE hd
      have HLBB := Lib.hid hlb
      rcases Nat.eq_zero_or_pos i with h0 | hi0
      · have hz1 : decide (0 < (i : Int)) = false := decide_eq_false (by omega)
        have hz2 : decide (0 < i) = false := decide_eq_false (by omega)
        have HV : Hid (X = wasAt l i + (X + 1)) := Lib.hid (by rw [h0, wasAt0]; omega)
        clear h0 hlb hll
        by_cases hbig : 1099511627776 ≤ X
        · have hRn : R = none := by rw [hR, if_pos (.inr (by rw [← HV.out]; exact hbig))]
          have HRN := Lib.hid hRn
          clear hR hRn hXE
          go_wp2_with (first
                      | (go_at_call 47; (with_reducible refine (rnum_any _ _ _ _ HDQ.out).mono ?_); rintro e w5 ⟨rfl, hd5, hg5⟩; have HD5 := Lib.hid hd5; have HG5 := Lib.hid (HGQ.out.andThen hg5 (fun j hj => Or.inr hj)); have HO5 := Lib.hid (Kd.R_grown HOQ.out hg5 (fun k hk e => by injection e with e; omega)); rw [HX.out]; rw [HE.out, HBB.out] at HD5; clear hd5 hg5)
                      | ((with_reducible refine gate_dst (N := 43) rfl ?_); refine Kd.R_append KI w.heap.size rfl (.tmp 40) (.tmp 42) 22 3 (.int .i64 0) 8 rfl Try.underlying22 info3 rfl (by decide) (by omega) _ l (X) [.int .i64 (X)] (fun k => g < k) (fun _ => False) rfl rfl rfl (fun _ hk => hk.elim) (fun k hk => by have := HD5.out.lt; omega) HO5.out (Below.refl _ _) HG5.out.size (by omega) ?_; intro v6 w6 ho6 hb6 hg6 hat6; have HO6 := Lib.hid ho6; have HD6 := Lib.hid (HD5.out.low (hb6.mono (by have := HGL.out; omega))); have HG6 := Lib.hid (grown_low HG5.out hb6); clear ho6 hb6 hg6 hat6))
          go_ret2
          have hF : fromG bs = none := HFP.out.trans HRN.out
          refine ⟨none, 0, [], false, B, E, rfl, Kd.C_nil _ _, Nat.le_refl _, HD5.out, HG5.out, ?_⟩
          rw [hF]; rfl
        · have HR := Lib.hid hR
          clear hR hXE
          go_wp2_with (first
                      | (go_at_call 47; (with_reducible refine (rnum_any _ _ _ _ HDQ.out).mono ?_); rintro e w5 ⟨rfl, hd5, hg5⟩; have HD5 := Lib.hid hd5; have HG5 := Lib.hid (HGQ.out.andThen hg5 (fun j hj => Or.inr hj)); have HO5 := Lib.hid (Kd.R_grown HOQ.out hg5 (fun k hk e => by injection e with e; omega)); rw [HX.out]; rw [HE.out, HBB.out] at HD5; clear hd5 hg5)
                      | ((with_reducible refine gate_dst (N := 43) rfl ?_); refine Kd.R_append KI w.heap.size rfl (.tmp 40) (.tmp 42) 22 3 (.int .i64 0) 8 rfl Try.underlying22 info3 rfl (by decide) (by omega) _ l (X) [.int .i64 (X)] (fun k => g < k) (fun _ => False) rfl rfl rfl (fun _ hk => hk.elim) (fun k hk => by have := HD5.out.lt; omega) HO5.out (Below.refl _ _) HG5.out.size (by omega) ?_; intro v6 w6 ho6 hb6 hg6 hat6; have HO6 := Lib.hid ho6; have HD6 := Lib.hid (HD5.out.low (hb6.mono (by have := HGL.out; omega))); have HG6 := Lib.hid (grown_low HG5.out hb6); clear ho6 hb6 hg6 hat6))
          go_roundw
          case rel =>
            refine ⟨i + 1, l ++ [X], B, E, by go_num, by rw [List.length_append, HLL.out]; rfl, by omega, fun j hj => ?_, HO6.out, HD6.out, HG6.out, ?_⟩
            · by_cases hji : j < i
              · have e : (l ++ [X]).getD j 0 = l.getD j 0 := by simp [List.getElem?_append, show j < l.length by rw [HLL.out]; exact hji]
                rw [e]; exact HLBB.out j hji
              · have hje : j = l.length := by rw [HLL.out]; omega
                have e : (l ++ [X]).getD j 0 = X := by rw [hje]; simp
                rw [e]; omega
            · by_cases hE0 : E = 0
              · left
                have h1 := HR.out
                rw [if_neg (fun h => h.elim (fun h => h hE0) (fun h => by rw [← HV.out] at h; omega)), ← HV.out] at h1
                have h2 : wasAt (l ++ [X]) (i + 1) = X := by have := wasAt_snoc l (X); rw [HLL.out] at this; exact this
                exact ⟨by rw [h2, ← hdn]; exact h1, .inl hE0⟩
              · right
                exact ⟨by rw [HR.out, if_pos (.inl hE0)], hE0⟩
          case measure => simp [intOf]; omega
      · have hj1 : 0 < (i : Int) := by omega
        have hjm0 : (0 : Int) ≤ (i : Int) - 1 := by omega
        have hjm1 : (i : Int) - 1 < (l.length : Int) := by omega
        have hjm2 : ((i : Int) - 1).toNat = i - 1 := by omega
        obtain ⟨y1, y2⟩ := hlb (i - 1) (by omega)
        have hwz : wasAt l i = l.getD (i - 1) 0 := by unfold wasAt; rw [if_neg (by omega)]
        obtain ⟨y, hy⟩ : ∃ y, l.getD (i - 1) 0 = y := ⟨_, rfl⟩
        rw [hy] at y1 y2 hwz
        have HY := Lib.hid hy
        have HV : Hid (X + y + 1 = wasAt l i + (X + 1)) := Lib.hid (by rw [hwz]; omega)
        clear hlb hy hwz
        have hil : i - 1 < l.length := by omega
        clear hll
        by_cases hbig : 1099511627776 ≤ X + y + 1
        · have hRn : R = none := by rw [hR, if_pos (.inr (by rw [← HV.out]; exact hbig))]
          have HRN := Lib.hid hRn
          clear hR hRn hXE
          go_wp2_with (first
                      | (go_at_call 47; (with_reducible refine (rnum_any _ _ _ _ HDQ.out).mono ?_); rintro e w5 ⟨rfl, hd5, hg5⟩; have HD5 := Lib.hid hd5; have HG5 := Lib.hid (HGQ.out.andThen hg5 (fun j hj => Or.inr hj)); have HO5 := Lib.hid (Kd.R_grown HOQ.out hg5 (fun k hk e => by injection e with e; omega)); rw [HX.out]; rw [HE.out, HBB.out] at HD5; clear hd5 hg5; obtain ⟨b0, o0, e0, hx⟩ := int_at (Kd.R_reads' HO5.out).2.2 (by omega); have hx0 := hx (i - 1) hil; rw [HY.out] at hx0; cases e0; clear hx)
                      | ((with_reducible refine gate_dst (N := 43) rfl ?_); refine Kd.R_append KI w.heap.size rfl (.tmp 40) (.tmp 42) 22 3 (.int .i64 0) 8 rfl Try.underlying22 info3 rfl (by decide) (by omega) _ l (X + y + 1) [.int .i64 (X + y + 1)] (fun k => g < k) (fun _ => False) rfl rfl rfl (fun _ hk => hk.elim) (fun k hk => by have := HD5.out.lt; omega) HO5.out (Below.refl _ _) HG5.out.size (by omega) ?_; intro v6 w6 ho6 hb6 hg6 hat6; have HO6 := Lib.hid ho6; have HD6 := Lib.hid (HD5.out.low (hb6.mono (by have := HGL.out; omega))); have HG6 := Lib.hid (grown_low HG5.out hb6); clear ho6 hb6 hg6 hat6))
          go_ret2
          have hF : fromG bs = none := HFP.out.trans HRN.out
          refine ⟨none, 0, [], false, B, E, rfl, Kd.C_nil _ _, Nat.le_refl _, HD5.out, HG5.out, ?_⟩
          rw [hF]; rfl
        · have HR := Lib.hid hR
          clear hR hXE
          go_wp2_with (first
                      | (go_at_call 47; (with_reducible refine (rnum_any _ _ _ _ HDQ.out).mono ?_); rintro e w5 ⟨rfl, hd5, hg5⟩; have HD5 := Lib.hid hd5; have HG5 := Lib.hid (HGQ.out.andThen hg5 (fun j hj => Or.inr hj)); have HO5 := Lib.hid (Kd.R_grown HOQ.out hg5 (fun k hk e => by injection e with e; omega)); rw [HX.out]; rw [HE.out, HBB.out] at HD5; clear hd5 hg5; obtain ⟨b0, o0, e0, hx⟩ := int_at (Kd.R_reads' HO5.out).2.2 (by omega); have hx0 := hx (i - 1) hil; rw [HY.out] at hx0; cases e0; clear hx)
                      | ((with_reducible refine gate_dst (N := 43) rfl ?_); refine Kd.R_append KI w.heap.size rfl (.tmp 40) (.tmp 42) 22 3 (.int .i64 0) 8 rfl Try.underlying22 info3 rfl (by decide) (by omega) _ l (X + y + 1) [.int .i64 (X + y + 1)] (fun k => g < k) (fun _ => False) rfl rfl rfl (fun _ hk => hk.elim) (fun k hk => by have := HD5.out.lt; omega) HO5.out (Below.refl _ _) HG5.out.size (by omega) ?_; intro v6 w6 ho6 hb6 hg6 hat6; have HO6 := Lib.hid ho6; have HD6 := Lib.hid (HD5.out.low (hb6.mono (by have := HGL.out; omega))); have HG6 := Lib.hid (grown_low HG5.out hb6); clear ho6 hb6 hg6 hat6))
          go_roundw
          case rel =>
            refine ⟨i + 1, l ++ [X + y + 1], B, E, by go_num, by rw [List.length_append, HLL.out]; rfl, by omega, fun j hj => ?_, HO6.out, HD6.out, HG6.out, ?_⟩
            · by_cases hji : j < i
              · have e : (l ++ [X + y + 1]).getD j 0 = l.getD j 0 := by simp [List.getElem?_append, show j < l.length by rw [HLL.out]; exact hji]
                rw [e]; exact HLBB.out j hji
              · have hje : j = l.length := by rw [HLL.out]; omega
                have e : (l ++ [X + y + 1]).getD j 0 = X + y + 1 := by rw [hje]; simp
                rw [e]; omega
            · by_cases hE0 : E = 0
              · left
                have h1 := HR.out
                rw [if_neg (fun h => h.elim (fun h => h hE0) (fun h => by rw [← HV.out] at h; omega)), ← HV.out] at h1
                have h2 : wasAt (l ++ [X + y + 1]) (i + 1) = X + y + 1 := by have := wasAt_snoc l (X + y + 1); rw [HLL.out] at this; exact this
                exact ⟨by rw [h2, ← hdn]; exact h1, .inl hE0⟩
              · right
                exact ⟨by rw [HR.out, if_pos (.inl hE0)], hE0⟩
          case measure => simp [intOf]; omega
    · obtain ⟨_, hcc, hCl⟩ := Kd.R_reads' HOQ.out
      have HCL := Lib.hid hCl
      have HRT := Lib.hid (fun W (hb : Below wr.heap.size wr W) => icehouseref05_Right.calls (l.length + 1) A6 c6 l (rightB l) W (Kd.C_below hCl hb) hcc (rightB_some l (by omega)).1)
      clear hCl hlb
      by_cases her : er = 0
      · subst her
        have hii : i = cnt := by omega
        have hR : R = some (l, bq, 0) := by
          rcases HST.out with h | h
          · rw [h.1, hii, Nat.sub_self, loopG]
          · exact absurd rfl h.2
        have hF : fromG bs = some (l, bq, 0) := HFP.out.trans hR
        have HF := Lib.hid hF
        clear hR hF hll
        have hcase : (¬ (i : Int) < nn) ∨ ((i : Int) < nn ∧ ¬ (i : Int) ≤ 65536) := by omega
        rcases hcase with hin | ⟨hin, hi6⟩
        all_goals
          go_wp2_with (go_at_call 7; (with_reducible refine (HRT.out _ (Below.refl _ _)).mono ?_); rintro e w6 ⟨rfl, hd6⟩; have HB6 := Lib.hid hd6.below; have HD6 := Lib.hid hd6; clear hd6)
          go_ret2
          refine ⟨A6, c6, l, rightB l, bq, 0, rfl, Kd.C_below HCL.out HB6.out, hcc, HDQ.out.below HB6.out, grown_low HGQ.out (HB6.out.mono HGQ.out.size), ?_⟩
          rw [HF.out]
          exact ⟨rfl, rfl, rfl, by simp⟩
      · have hE1 : (er == 0) = false := beq_eq_false_iff_ne.2 her
        have hE2 : decide (er = 0) = false := decide_eq_false her
        have hF : FromOk l bq er false (fromG bs) := by
          rcases HST.out with h | h
          · have hii : i = cnt := h.2.elim (fun h => absurd h her) id
            have h1 := HFP.out.trans h.1
            rw [hii, Nat.sub_self, loopG] at h1
            rw [h1]
            exact ⟨rfl, rfl, rfl, by rw [hE2]; rfl⟩
          · rw [HFP.out.trans h.1]; rfl
        have HF := Lib.hid hF
        clear hF hll
        by_cases hin : (i : Int) < nn
        all_goals
          go_wp2_with fail
          go_ret2
          exact ⟨A6, c6, l, false, bq, er, rfl, HCL.out, hcc, HDQ.out, HGQ.out, HF.out⟩
end Go.Proofs.Ytojocffjajcdmaa.PB
namespace Go.Proofs.Ytojocffjajcdmaa.PB
open Go.RowKit Go.Proofs.YtojocffjajcdmaaW.PrintWords Go.Proofs.YtojocffjajcdmaaW.PrintLast Go.Proofs.YtojocffjajcdmaaW.PrintMore Go.Proofs.Ytojocffjajcdmaa.PPostingsLists
set_option linter.unusedVariables false
set_option linter.unusedSimpArgs false

theorem below_drewn {w w' : World} (h : ∃ n, w' = w.drewN n) : Below w.heap.size w w' := by
  obtain ⟨n, rfl⟩ := h
  exact pw_below_drewN (Below.refl _ _) n
theorem getG_from (bs : List Int) : getG bs = match fromG bs with
    | none => ([], 21)
    | some (l, r, er) => if doneG r er ≠ 0 then ([], 21) else if rightB l = true then (l, 0) else ([], 21) := rfl
set_option maxHeartbeats 4000000 in
set_option maxRecDepth 100000 in
theorem rget_any (A : Option Addr) (c : Nat) (bs : List Int) (w : World) (h : Kd.C KB w A bs.length bs) (hl : bs.length ≤ 140737488355328) (hB : Byt bs) : Calls Try.prog 20 #[.slice A bs.length c] w (GetBelow (getG bs) w) := by
  have HN := Lib.hid (rnew_any A c bs w h hl hB)
  have hgf := getG_from bs
  clear h hl hB
  cases hf : fromG bs with
  | none =>
    rw [hf] at hgf
    simp only at hgf
    rw [hgf]
    have HFF := Lib.hid hf
    clear hgf hf
    go_enter Try.func20, Try.ntmps20
    go_wp2_with (first | (go_at_call 35; (with_reducible refine HN.out.mono ?_); rintro e w2 ⟨g, rfl, hg, hd, hb⟩; have HD := Lib.hid hd; have HB := Lib.hid hb; have HGG := Lib.hid hg; clear hd hb hg) | (go_at_call 36; (with_reducible refine (from_any _ _ _ HD.out).mono ?_); rintro e w3 ⟨A3, c3, l, ok, r, er, rfl, hC, hcc, hd3, hg3, hF⟩; rw [HFF.out] at hF; obtain rfl : ok = false := hF; have HC3 := Lib.hid hC; have HCC := Lib.hid hcc; have HD3 := Lib.hid hd3; have HB3 := Lib.hid (below_but HB.out HGG.out HB.out.size hg3); clear hC hcc hd3 hg3))
    go_ret2
    exact ⟨none, 0, rfl, Kd.C_nil _ _, Nat.le_refl _, HB3.out⟩
  | some t =>
    obtain ⟨l0, r0, er0⟩ := t
    rw [hf] at hgf
    simp only at hgf
    have HFF := Lib.hid hf
    by_cases hok : er0 = 0 ∧ rightB l0 = true
    · obtain ⟨he0, hr0⟩ := hok
      subst he0
      by_cases hdn : doneG r0 0 = 0
      · rw [if_neg (by simp [hdn]), if_pos hr0] at hgf
        rw [hgf]
        have HDN := Lib.hid hdn
        have HR0 := Lib.hid hr0
        clear hgf hf hdn hr0
        go_enter Try.func20, Try.ntmps20
        go_wp2_with (first | (go_at_call 35; (with_reducible refine HN.out.mono ?_); rintro e w2 ⟨g, rfl, hg, hd, hb⟩; have HD := Lib.hid hd; have HB := Lib.hid hb; have HGG := Lib.hid hg; clear hd hb hg) | (go_at_call 36; (with_reducible refine (from_any _ _ _ HD.out).mono ?_); rintro e w3 ⟨A3, c3, l, ok, r, er, rfl, hC, hcc, hd3, hg3, hF⟩; rw [HFF.out] at hF; obtain ⟨rfl, rfl, rfl, hk⟩ := hF; rw [HR0.out] at hk; obtain rfl : ok = true := hk; have HC3 := Lib.hid hC; have HCC := Lib.hid hcc; have HD3 := Lib.hid hd3; have HB3 := Lib.hid (below_but HB.out HGG.out HB.out.size hg3); clear hC hcc hd3 hg3) | (go_at_call 37; (with_reducible refine (rdone_any _ _ _ _ HD3.out).mono ?_); rintro e w4 ⟨rfl, hn⟩; have HB4 := Lib.hid (below_drewn hn); clear hn; rw [HDN.out]))
        go_ret2
        exact ⟨A3, c3, rfl, Kd.C_below HC3.out HB4.out, HCC.out, bel HB3.out HB4.out⟩
      · rw [if_pos hdn] at hgf
        rw [hgf]
        have HR0 := Lib.hid hr0
        obtain ⟨D, hD⟩ : ∃ D, doneG r0 0 = D := ⟨_, rfl⟩
        rw [hD] at hdn
        have HDN := Lib.hid hD
        have hE1 : (D == 0) = false := beq_eq_false_iff_ne.2 hdn
        have hE2 : (D != 0) = true := bne_iff_ne.2 hdn
        clear hgf hf hD hr0
        go_enter Try.func20, Try.ntmps20
        go_wp2_with (first | (go_at_call 35; (with_reducible refine HN.out.mono ?_); rintro e w2 ⟨g, rfl, hg, hd, hb⟩; have HD := Lib.hid hd; have HB := Lib.hid hb; have HGG := Lib.hid hg; clear hd hb hg) | (go_at_call 36; (with_reducible refine (from_any _ _ _ HD.out).mono ?_); rintro e w3 ⟨A3, c3, l, ok, r, er, rfl, hC, hcc, hd3, hg3, hF⟩; rw [HFF.out] at hF; obtain ⟨rfl, rfl, rfl, hk⟩ := hF; rw [HR0.out] at hk; obtain rfl : ok = true := hk; have HC3 := Lib.hid hC; have HCC := Lib.hid hcc; have HD3 := Lib.hid hd3; have HB3 := Lib.hid (below_but HB.out HGG.out HB.out.size hg3); clear hC hcc hd3 hg3) | (go_at_call 37; (with_reducible refine (rdone_any _ _ _ _ HD3.out).mono ?_); rintro e w4 ⟨rfl, hn⟩; have HB4 := Lib.hid (below_drewn hn); clear hn; rw [HDN.out]))
        go_ret2
        exact ⟨none, 0, rfl, Kd.C_nil _ _, Nat.le_refl _, bel HB3.out HB4.out⟩
    · have hg0 : getG bs = ([], 21) := by
        rw [hgf]
        by_cases h1 : doneG r0 er0 ≠ 0
        · rw [if_pos h1]
        · rw [if_neg h1]
          by_cases h2 : rightB l0 = true
          · exfalso
            by_cases h3 : er0 = 0
            · exact hok ⟨h3, h2⟩
            · exact h1 (by unfold doneG; rw [if_pos h3]; exact h3)
          · rw [if_neg h2]
      rw [hg0]
      have HOK : Hid ((decide (er0 = 0) && rightB l0) = false) := Lib.hid (by
        by_cases h3 : er0 = 0
        · cases h4 : rightB l0 with
          | true => exact absurd ⟨h3, h4⟩ hok
          | false => simp
        · simp [h3])
      clear hgf hf hg0 hok
      go_enter Try.func20, Try.ntmps20
      go_wp2_with (first | (go_at_call 35; (with_reducible refine HN.out.mono ?_); rintro e w2 ⟨g, rfl, hg, hd, hb⟩; have HD := Lib.hid hd; have HB := Lib.hid hb; have HGG := Lib.hid hg; clear hd hb hg) | (go_at_call 36; (with_reducible refine (from_any _ _ _ HD.out).mono ?_); rintro e w3 ⟨A3, c3, l, ok, r, er, rfl, hC, hcc, hd3, hg3, hF⟩; rw [HFF.out] at hF; obtain ⟨rfl, rfl, rfl, hk⟩ := hF; rw [HOK.out] at hk; obtain rfl : ok = false := hk; have HC3 := Lib.hid hC; have HCC := Lib.hid hcc; have HD3 := Lib.hid hd3; have HB3 := Lib.hid (below_but HB.out HGG.out HB.out.size hg3); clear hC hcc hd3 hg3))
      go_ret2
      exact ⟨none, 0, rfl, Kd.C_nil _ _, Nat.le_refl _, HB3.out⟩
end Go.Proofs.Ytojocffjajcdmaa.PB
namespace Go.Proofs.Ytojocffjajcdmaa.PB
open Go.RowKit Go.Proofs.YtojocffjajcdmaaW.PrintWords Go.Proofs.YtojocffjajcdmaaW.PrintLast Go.Proofs.YtojocffjajcdmaaW.PrintMore Go.Proofs.Ytojocffjajcdmaa.PPostingsLists
set_option linter.unusedVariables false
set_option linter.unusedSimpArgs false

theorem numA_num7 (k : Nat) : ∀ (i acc n : Nat) (r : List Int), n < 128 ^ k → (i = 0 ∨ 0 < n) → 0 < k → numA k i acc (num7 n ++ r) = (((acc + n * 128 ^ i : Nat) : Int), i + (num7 n).length, 0) := by
  induction k with
  | zero => intro i acc n r h h1 h2; omega
  | succ k ih =>
    intro i acc n r h h1 h2
    by_cases hn : 127 < n
    · have hk : 0 < k := by
        rcases Nat.eq_zero_or_pos k with h0 | h0
        · subst h0; simp at h; omega
        · exact h0
      have hlt : n / 128 < 128 ^ k := by rw [Nat.div_lt_iff_lt_mul (by decide)]; rw [Nat.pow_succ] at h; exact h
      rw [num7_big n hn, List.cons_append, numA, if_neg (by omega), ih (i + 1) _ (n / 128) r hlt (.inr (by omega)) hk]
      have e1 : ((((n % 128 + 128 : Nat) : Int) % 128).toNat) = n % 128 := by omega
      rw [e1]
      have e2 : acc + n % 128 * 128 ^ i + n / 128 * 128 ^ (i + 1) = acc + n * 128 ^ i := by
        have h3 : n * 128 ^ i = (128 * (n / 128) + n % 128) * 128 ^ i := by rw [Nat.div_add_mod]
        rw [h3, Nat.add_mul, Nat.pow_succ, Nat.mul_comm 128 (n / 128), Nat.mul_assoc, Nat.mul_comm (128 ^ i) 128]
        omega
      rw [e2]
      simp only [List.length_cons]
      congr 2
      omega
    · rw [num7_small n hn, List.cons_append, numA, if_pos (by omega), if_neg (by omega)]
      have e1 : ((n : Int) % 128).toNat = n := by omega
      rw [e1]
      rfl
theorem numG_num7 (n : Nat) (r : List Int) (h : n < 72057594037927936) : numG (num7 n ++ r) = ((n : Int), (num7 n).length, 0) := by
  unfold numG
  rw [numA_num7 8 0 0 n r (by simpa using h) (.inl rfl) (by decide)]
  simp
theorem numS_num7 (n : Nat) (r : List Int) (h : n < 72057594037927936) : numS (num7 n ++ r) 0 = ((n : Int), r, 0) := by
  unfold numS
  rw [if_neg (by simp), numG_num7 n r h]
  simp
theorem numS_int (n : Int) (r : List Int) (h0 : 0 ≤ n) (h : n < 72057594037927936) : numS (num7 n.toNat ++ r) 0 = (n, r, 0) := by
  rw [numS_num7 _ _ (by omega), Int.toNat_of_nonneg h0]
theorem byt_num7 (n : Nat) (k : Nat) (h : n < 128 ^ (k + 1)) : Byt (num7 n) := by
  induction k generalizing n with
  | zero =>
    rw [num7_small n (by simp at h; omega)]
    intro x hx
    simp at hx h
    omega
  | succ k ih =>
    by_cases hn : 127 < n
    · rw [num7_big n hn]
      intro x hx
      rcases List.mem_cons.1 hx with e | e
      · omega
      · exact ih (n / 128) (by rw [Nat.div_lt_iff_lt_mul (by decide)]; rw [Nat.pow_succ] at h; exact h) x e
    · rw [num7_small n hn]
      intro x hx
      simp at hx
      omega
theorem Byt.append {a b : List Int} (ha : Byt a) (hb : Byt b) : Byt (a ++ b) := fun x hx => (List.mem_append.1 hx).elim (ha x) (hb x)
theorem loop_back (l : List Int) (hI : ∀ i, i < l.length → InB l i) : ∀ m j : Nat, m + j = l.length → loopG m (wasAt l j) (l.take j) (gapsB (wasAt l j) (l.drop j)) 0 = some (l, [], 0) := by
  intro m
  induction m with
  | zero =>
    intro j hj
    have e : l.drop j = [] := List.drop_eq_nil_of_le (by omega)
    have e2 : l.take j = l := List.take_of_length_le (by omega)
    rw [e, e2]; rfl
  | succ m ih =>
    intro j hj
    have hjl : j < l.length := by omega
    obtain ⟨g1, g2, g3, g4⟩ := gap_bnd l j (hI j hjl) (fun _ => hI (j - 1) (by omega))
    obtain ⟨i1, i2, i3⟩ := hI j hjl
    rw [gapsB_at l j hjl, loopG, numS_int _ _ g1 (by omega)]
    have hv : wasAt l j + (l.getD j 0 - wasAt l j - 1 + 1) = l.getD j 0 := by omega
    simp only [hv]
    rw [if_neg (fun h => h.elim (fun h => h rfl) (fun h => by omega))]
    have hw : l.getD j 0 = wasAt l (j + 1) := by unfold wasAt; rw [if_neg (by omega)]; rfl
    have ht : l.take j ++ [l.getD j 0] = l.take (j + 1) := by
      rw [List.take_succ_eq_append_getElem hjl]; simp [hjl]
    rw [ht, hw]
    exact ih (j + 1) (by omega)
theorem get_put (l : List Int) (hN : l.length ≤ 17592186044416) (h : rightB l = true) : getG (putBytes l) = (l, 0) := by
  obtain ⟨hI, hl⟩ := rightB_get l hN h
  have hs : numS (putBytes l) 0 = ((l.length : Int), gapsB (-1) l, 0) := numS_num7 l.length _ (by omega)
  have hc : countG (putBytes l) = l.length := by unfold countG; rw [hs]; simp only; omega
  have hb := loop_back l hI l.length 0 rfl
  rw [wasAt0, List.take_zero, List.drop_zero] at hb
  unfold getG
  rw [hc, hs]
  simp only
  rw [hb]
  simp only
  rw [if_neg (by simp [doneG]), if_pos h]
theorem byt_gaps (l : List Int) (hI : ∀ i, i < l.length → InB l i) : ∀ m j : Nat, m + j = l.length → Byt (gapsB (wasAt l j) (l.drop j)) := by
  intro m
  induction m with
  | zero =>
    intro j hj
    have e : l.drop j = [] := List.drop_eq_nil_of_le (by omega)
    rw [e]; exact fun x hx => by simp [gapsB] at hx
  | succ m ih =>
    intro j hj
    have hjl : j < l.length := by omega
    obtain ⟨g1, g2, g3, g4⟩ := gap_bnd l j (hI j hjl) (fun _ => hI (j - 1) (by omega))
    rw [gapsB_at l j hjl]
    exact (byt_num7 _ 8 (by omega)).append (ih (j + 1) (by omega))
theorem byt_put (l : List Int) (hN : l.length ≤ 17592186044416) (h : rightB l = true) : Byt (putBytes l) ∧ (putBytes l).length ≤ 1000000 := by
  obtain ⟨hI, hl⟩ := rightB_get l hN h
  have h1 := byt_gaps l hI l.length 0 rfl
  have h2 := gapsB_len l hl hI l.length 0 rfl
  have h3 := (num7_len l.length 2 (by omega)).2
  rw [wasAt0, List.drop_zero] at h1 h2
  exact ⟨(byt_num7 _ 2 (by omega)).append h1, by unfold putBytes; rw [List.length_append]; omega⟩
end Go.Proofs.Ytojocffjajcdmaa.PB
