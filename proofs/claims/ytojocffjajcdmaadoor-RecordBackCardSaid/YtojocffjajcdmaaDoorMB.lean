import Derived.Test.YtojocffjajcdmaaDoorMA
import Derived.Lib.VarintBits
import Derived.Lib.SliceRun
import Derived.BigQuiet
import Derived.Deep.QuietTactic
namespace Go.Proofs.YtojocffjajcdmaaDoor
open Go.RowKit Go.Proofs.YtojocffjajcdmaaDoorW.PrintWords Go.Proofs.YtojocffjajcdmaaDoorW.PrintLast Go.Proofs.YtojocffjajcdmaaDoorW.PrintMore PChunkAll
set_option linter.unusedVariables false
set_option linter.unusedSimpArgs false

/-! ### Numbers read -/
/-- k bytes may still be read, i have been, which said acc. -/
def numA : Nat → Nat → Nat → List Int → Int × Nat × Int
  | 0, _, _, _ => (0, 0, 21)
  | _ + 1, _, _, [] => (0, 0, 20)
  | k + 1, i, acc, b :: bs => if b < 128 then (if 0 < i ∧ b = 0 then (0, 0, 21) else (((acc + (b % 128).toNat * 128 ^ i : Nat) : Int), i + 1, 0)) else numA k (i + 1) (acc + (b % 128).toNat * 128 ^ i) bs
def numG (bs : List Int) : Int × Nat × Int := numA 8 0 0 bs
def Byt (bs : List Int) : Prop := ∀ x ∈ bs, 0 ≤ x ∧ x < 256
theorem Byt.drop {bs : List Int} (h : Byt bs) (k : Nat) : Byt (bs.drop k) := fun x hx => h x (List.mem_of_mem_drop hx)
theorem Byt.take {bs : List Int} (h : Byt bs) (k : Nat) : Byt (bs.take k) := fun x hx => h x (List.mem_of_mem_take hx)
theorem Byt.get {bs : List Int} (h : Byt bs) (k : Nat) (hk : k < bs.length) : 0 ≤ bs.getD k 0 ∧ bs.getD k 0 < 256 := by
  have e : bs.getD k 0 = bs[k] := by simp [hk]
  rw [e]; exact h _ (List.getElem_mem hk)
theorem drop_at' (bs : List Int) (k : Nat) (h : k < bs.length) : bs.drop k = bs.getD k 0 :: bs.drop (k + 1) := by
  rw [List.drop_eq_getElem_cons h]
  have e : bs.getD k 0 = bs[k] := by simp [h]
  rw [e]
theorem i64_or_nat (a b : Nat) (ha : a < 9223372036854775808) (hb : b < 9223372036854775808) : bits .or .i64 (a : Int) (b : Int) = ((a ||| b : Nat) : Int) := by
  have h := (bits_nat .i64 63 (by decide) (fun n h0 h1 => by rw [IntKind.wrap_i64]; omega) a b (by simpa using ha) (by simpa using hb)).2
  simpa using h
theorem byte_at {w : World} {A : Option Addr} {n : Nat} {bs : List Int} (h : Kd.C KB w A n bs) (i : Nat) (hi : i < n) : ∃ ad, A = some ad ∧ w.cell? (ad.add i) = some (.int .u8 (bs.getD i 0)) := by
  obtain ⟨ad, c, e, hl, hK, hc⟩ := Kd.C_get h 0 (i : Int) (by omega) (by omega)
  have hk : c = [.int .u8 (bs.getD (i : Int).toNat 0)] := hK
  subst hk
  have := hc 0 _ rfl
  rw [Int.toNat_natCast] at this
  refine ⟨ad, e, ?_⟩
  have e2 : i * KB.sz + 0 = i := by show i * 1 + 0 = i; omega
  rw [e2] at this
  exact this
theorem or_add (i acc q : Nat) (ha : acc < 128 ^ i) (hq : q < 128) (hi : i < 8) : bits .or .i64 (acc : Int) ((q * 128 ^ i : Nat) : Int) = ((acc + q * 128 ^ i : Nat) : Int) := by
  have hp : 128 ^ i ≤ 128 ^ 7 := Nat.pow_le_pow_right (by decide) (by omega)
  have hp2 : (128 : Nat) ^ 7 = 562949953421312 := by decide
  have hm : q * 128 ^ i ≤ 127 * 128 ^ i := Nat.mul_le_mul_right _ (by omega)
  rw [i64_or_nat _ _ (by omega) (by omega)]
  congr 1
  have e : 128 ^ i = 2 ^ (7 * i) := by rw [Nat.pow_mul]
  rw [e] at ha ⊢
  have := Nat.shiftLeft_add_eq_or_of_lt ha q
  rw [Nat.shiftLeft_eq] at this
  rw [Nat.or_comm, ← this, Nat.add_comm]
def NumRel (bs : List Int) (w : World) (v2 v6 : Value) (wr : World) : Prop :=
  ∃ i acc : Nat, v2 = .int .i64 (acc : Int) ∧ v6 = .int .i64 (i : Int) ∧ i ≤ 8 ∧ acc < 128 ^ i ∧ numG bs = numA (8 - i) i acc (bs.drop i) ∧ wr = w

set_option maxHeartbeats 4000000 in
theorem number_in (A : Option Addr) (c : Nat) (bs : List Int) (w : World) (hr : Kd.C KB w A bs.length bs) (hB : Byt bs) : Calls Tryd.prog 139 #[.slice A bs.length c] w fun e w' => e = .returned (.tuple #[.int .i64 (numG bs).1, .int .i64 ((numG bs).2.1 : Int), .int .i64 (numG bs).2.2]) ∧ w = w' := by
  have hmax := Kd.C_max hr
  have HR := Lib.hid hr
  have HBY := Lib.hid hB
  clear hr hB
  go_enter Tryd.func139, Tryd.ntmps139
  go_wp2
  go_loopw [2, 6] (fun v2 v6 wr => NumRel bs w v2 v6 wr) (fun _ v6 _ => 8 - (intOf v6).toNat)
  case atStart => exact ⟨0, 0, rfl, rfl, by omega, by decide, rfl, rfl⟩
  case round =>
    obtain ⟨i, acc, rfl, rfl, hi8, hacc, hnum, rfl⟩ := hrel
    have HN := Lib.hid hnum
    have HA := Lib.hid hacc
    clear hnum hacc
    by_cases hlt : i < 8
    · obtain ⟨k, hk⟩ : ∃ k, 8 - i = k + 1 := ⟨7 - i, by omega⟩
      rw [hk] at HN
      have hki : (i : Int) < 8 := by omega
      by_cases hl : i < bs.length
      · have hli : ¬ (bs.length : Int) ≤ (i : Int) := by omega
        obtain ⟨ad, rfl, hc⟩ := byte_at HR.out i hl
        have hb := HBY.out.get i hl
        rw [drop_at' bs i hl, numA] at HN
        generalize bs.getD i 0 = b at *
        obtain ⟨q, hq⟩ : ∃ q : Nat, q = (b % 128).toNat := ⟨_, rfl⟩
        have hqb : (q : Int) = b % 128 := by omega
        have hq128 : q < 128 := by omega
        rw [← hq] at HN
        have hp : 128 ^ i ≤ 128 ^ 7 := Nat.pow_le_pow_right (by decide) (by omega)
        have hp2 : (128 : Nat) ^ 7 = 562949953421312 := by decide
        have hpw : (2 : Int) ^ (7 * (i : Int)).toNat = ((128 ^ i : Nat) : Int) := by
          rw [show (7 * (i : Int)).toNat = 7 * i by omega, Int.pow_mul]; norm_cast
        have hor := or_add i acc q HA.out hq128 hlt
        have h127 : bits .and .u8 b 127 = (q : Int) := by rw [hqb]; apply u8_and127 <;> omega
        have hacc' : acc + q * 128 ^ i < 128 ^ (i + 1) := by
          have := HA.out
          have hm : q * 128 ^ i ≤ 127 * 128 ^ i := Nat.mul_le_mul_right _ (by omega)
          rw [Nat.pow_succ]
          omega
        have hm : q * 128 ^ i ≤ 127 * 128 ^ i := Nat.mul_le_mul_right _ (by omega)
        generalize hP : 128 ^ i = P at *
        have hcv : IntKind.i64.wrap (q : Int) = (q : Int) := by rw [IntWalk.i64_in _ ⟨by omega, by omega⟩]
        have h7 : IntKind.i64.wrap (7 * (i : Int)) = 7 * (i : Int) := by rw [IntWalk.i64_in _ ⟨by omega, by omega⟩]
        have hs0 : 0 ≤ 7 * (i : Int) := by omega
        have hs1 : 7 * (i : Int) ≤ 64 := by omega
        obtain ⟨Z, hZ⟩ : ∃ Z : Nat, Z = q * P := ⟨_, rfl⟩
        rw [← hZ] at hor hacc' hm HN
        obtain ⟨M, hM⟩ : ∃ M : Nat, M = acc + Z := ⟨_, rfl⟩
        rw [← hM] at hor hacc' HN
        have hsh : wrap64 ((q : Int) * (P : Int)) = (Z : Int) := by
          rw [show (q : Int) * (P : Int) = (Z : Int) by rw [hZ]; norm_cast]
          unfold wrap64; omega
        have HQ := Lib.hid hq
        have HAC := Lib.hid hacc'
        have HK := Lib.hid hk
        clear hq hqb hZ hM hm hacc' hk hp hp2 hP
        by_cases hb128 : b < 128
        · rw [if_pos hb128] at HN
          have d1 : decide (b < 128) = true := decide_eq_true hb128
          clear hb128
          by_cases hi0 : i = 0
          · have HE : Hid (numG bs = ((M : Int), i + 1, 0)) := Lib.hid (by rw [HN.out, if_neg (by omega)])
            have d2 : decide ((0 : Int) < (i : Int)) = false := decide_eq_false (by omega)
            have d3 : decide (0 < i) = false := decide_eq_false (by omega)
            clear hb HN hi0
            go_wp2
            go_ret3
            exact ⟨by rw [HE.out]; simp, rfl⟩
          · have d2 : decide ((0 : Int) < (i : Int)) = true := decide_eq_true (by omega)
            have d3 : decide (0 < i) = true := decide_eq_true (by omega)
            by_cases hb0 : b = 0
            · have HE : Hid (numG bs = (0, 0, 21)) := Lib.hid (by rw [HN.out, if_pos ⟨by omega, hb0⟩])
              have e1 : (b == 0) = true := by simp [hb0]
              have e2 : decide (b = 0) = true := decide_eq_true hb0
              clear hb0 hb HN
              go_wp2
              go_ret3
              exact ⟨by rw [HE.out]; rfl, rfl⟩
            · have HE : Hid (numG bs = ((M : Int), i + 1, 0)) := Lib.hid (by rw [HN.out, if_neg (fun h => hb0 h.2)])
              have e1 : (b == 0) = false := by simp [hb0]
              have e2 : decide (b = 0) = false := decide_eq_false hb0
              clear hb0 hb HN
              go_wp2
              go_ret3
              exact ⟨by rw [HE.out]; simp, rfl⟩
        · rw [if_neg hb128] at HN
          have d1 : decide (b < 128) = false := decide_eq_false hb128
          clear hb128 hb
          go_wp2
          go_roundw
          case rel => exact ⟨i + 1, M, rfl, by go_num, by omega, HAC.out, by rw [HN.out, show 8 - (i + 1) = k by have := HK.out; omega], rfl⟩
          case measure => simp [intOf]; omega
      · have hli : (bs.length : Int) ≤ (i : Int) := by omega
        have HE : Hid (numG bs = (0, 0, 20)) := Lib.hid (by rw [HN.out, List.drop_eq_nil_of_le (by omega)]; rfl)
        go_wp2
        go_ret3
        exact ⟨by rw [HE.out]; rfl, rfl⟩
    · have hki : ¬ (i : Int) < 8 := by omega
      have HE : Hid (numG bs = (0, 0, 21)) := Lib.hid (by rw [HN.out, show 8 - i = 0 by omega]; rfl)
      go_wp2
      go_ret3
      exact ⟨by rw [HE.out]; rfl, rfl⟩
end Go.Proofs.YtojocffjajcdmaaDoor
namespace Go.Proofs.YtojocffjajcdmaaDoor
open Go.RowKit Go.Proofs.YtojocffjajcdmaaDoorW.PrintWords Go.Proofs.YtojocffjajcdmaaDoorW.PrintLast Go.Proofs.YtojocffjajcdmaaDoorW.PrintMore PChunkAll
set_option linter.unusedVariables false
set_option linter.unusedSimpArgs false

theorem nil23 : ∀ (w : World) (a : Option Addr) (n c n' c' : Nat), (binOp .eql 23 (.slice a n c) (.slice none n' c')).run Tryd.prog w = .ok (.bool a.isNone) w := fun w a n c n' c' => Lib.run_eql_slice_nil w _ _ a n c n' c' Tryd.underlying23
set_option maxHeartbeats 2000000 in
set_option maxRecDepth 100000 in
theorem clone_any (A : Option Addr) (c : Nat) (bs : List Int) (w : World) (hr : Kd.C KB w A bs.length bs) (hl : bs.length ≤ 140737488355328) : Calls Tryd.prog 137 #[.slice A bs.length c] w (BytesBelow bs w) := by
  have hnil := nil23
  cases A with
  | none =>
    have h0 : bs.length = 0 := by
      rcases Nat.eq_zero_or_pos bs.length with h | h
      · exact h
      · obtain ⟨ad, e, _⟩ := hr.2.2 h
        cases e
    obtain rfl : bs = [] := List.eq_nil_of_length_eq_zero h0
    clear hr hl h0
    go_enter Tryd.func137, Tryd.ntmps137
    go_wp2
    go_ret
    exact ⟨_, rfl, Kd.R_nil _ _ _ _ _, Below.refl _ _⟩
  | some ad =>
    have HR := Lib.hid hr
    have HL := Lib.hid hl
    clear hr hl
    go_enter Tryd.func137, Tryd.ntmps137
    go_wp2_with (first | ((with_reducible refine gate_dst (N := 5) rfl ?_); refine Kd.R_lit KB (w0 := w) w.heap.size 5 ?hg (N := 5) ?hd (xs := ([] : List Int)) (inner := []) (ok := fun _ => True) (okp := fun _ => True) ?hr ?hp (fun _ hk => hk) trivial (Below.refl _ _) (Nat.le_refl _) (by simp) ?_; (case hd => rfl); (case hg => rfl); (case hr => first | (go_simp; done) | (go_simp; rfl)); (case hp => exact (Reps.none _ _)); intro v1 w1 ho1 hb1 hg1 hn1; obtain ⟨A1, c1, h1⟩ := Kd.R_slice ho1; subst h1; have HO1 := Lib.hid ho1; have HB1 := Lib.hid hb1; have HR1 := Lib.hid (Kd.C_below HR.out hb1); clear ho1 hb1 hg1 hn1) | ((with_reducible refine gate_builtin (b := .append) (xs := #[.tmp 5, .tmp 6]) rfl ?_); at_builtin; refine Kd.R_append_row (Value.int .u8) 0 (w0 := w) w.heap.size rfl (.tmp 5) (.tmp 6) 23 5 (.int .u8 0) 1 rfl Tryd.underlying23 info5 rfl (by omega) _ [] bs (some ad) bs.length c (fun _ => True) rfl rfl (fun _ _ => trivial) HO1.out HR1.out HB1.out (below_size HB1.out) (by have := HL.out; simp; omega) ?_; intro v4 w4 ho4 hb4 hg4 hat4; have HO4 := Lib.hid ho4; have HB4 := Lib.hid hb4; clear ho4 hb4 hg4 hat4))
    go_ret
    exact ⟨_, rfl, HO4.out, HB4.out⟩

/-! ### The decoder: a block of three cells -/
/-- What is left is bs, er the fault so far. -/
def DecAt (w : World) (g : Nat) (bs : List Int) (er : Int) : Prop :=
  ∃ A c, w.heap[g]? = some (.cells #[.slice A bs.length c, .int .i64 er, .bool true] 186 (0, 0)) ∧ bs.length ≤ c ∧ Kd.C KB w A bs.length bs ∧ (∀ ad, A = some ad → ad.block < g) ∧ Byt bs
theorem DecAt.lt {w : World} {g : Nat} {bs : List Int} {er : Int} (h : DecAt w g bs er) : g < w.heap.size := by
  obtain ⟨A, c, h1, _⟩ := h
  exact blk_lt h1
theorem DecAt.below {w w' : World} {g : Nat} {bs : List Int} {er : Int} (h : DecAt w g bs er) (hb : Below w.heap.size w w') : DecAt w' g bs er := by
  obtain ⟨A, c, h1, h2, h3, h4, h5⟩ := h
  exact ⟨A, c, blk_below h1 hb, h2, Kd.C_below h3 hb, h4, h5⟩
/-- What is read of a row below g stays, where of the old blocks only those from g on turn. -/
theorem C_old {w w' : World} {A : Option Addr} {n g : Nat} {bs : List Int} (h : Kd.C KB w A n bs) (hA : ∀ ad, A = some ad → ad.block < g) (hw : ∀ k, k < g → w'.heap[k]? = w.heap[k]?) : Kd.C KB w' A n bs := by
  refine ⟨h.1, h.2.1, fun hn => ?_⟩
  obtain ⟨ad, e, hc⟩ := h.2.2 hn
  refine ⟨ad, e, fun j p hj => ?_⟩
  obtain ⟨c, hl, hK, hcell⟩ := hc j p hj
  refine ⟨c, hl, hK, fun i u hu => ?_⟩
  have h1 := hcell i u hu
  have hbk : (ad.add (j * KB.sz + i)).block = ad.block := by unfold Addr.add; split <;> rfl
  have hw1 := hw ad.block (hA ad e)
  unfold World.cell? at h1 ⊢
  rw [hbk] at h1 ⊢
  rw [hw1]
  exact h1
/-- A block behind the decoder's turns. -/
theorem DecAt.grown {w w' : World} {g e : Nat} {bs : List Int} {er : Int} (h : DecAt w g bs er) (hg : w.grownBy w' (some e)) (he : g < e) : DecAt w' g bs er := by
  obtain ⟨A, c, h1, h2, h3, h4, h5⟩ := h
  have hlt := blk_lt h1
  have hk : ∀ k, k ≤ g → w'.heap[k]? = w.heap[k]? := fun k hk => hg.block k (by omega) (by intro x; injection x with x; omega)
  exact ⟨A, c, (hk g (Nat.le_refl _)).trans h1, h2, C_old h3 h4 (fun k h => hk k (by omega)), h4, h5⟩
/-- The decoder's own cells are written. -/
theorem dec_set {w : World} {g : Nat} {A : Option Addr} {c : Nat} {bs : List Int} {er : Int}
    (h : w.heap[g]? = some (.cells #[.slice A bs.length c, .int .i64 er, .bool true] 186 (0, 0))) (h2 : bs.length ≤ c) (h3 : Kd.C KB w A bs.length bs) (h4 : ∀ ad, A = some ad → ad.block < g) (h5 : Byt bs) : DecAt w g bs er := ⟨A, c, h, h2, h3, h4, h5⟩

def NewBelow (bs : List Int) (w : World) (e : Ending) (w' : World) : Prop := ∃ g, e = .returned (.pointer (some ⟨g, 0, none⟩)) ∧ w.heap.size ≤ g ∧ DecAt w' g bs 0 ∧ Below w.heap.size w w'
set_option maxHeartbeats 2000000 in
theorem new_any (A : Option Addr) (c : Nat) (bs : List Int) (w : World) (hr : Kd.C KB w A bs.length bs) (hl : bs.length ≤ 140737488355328) (hB : Byt bs) : Calls Tryd.prog 85 #[.slice A bs.length c] w (NewBelow bs w) := by
  have HC := Lib.hid (clone_any A c bs w hr hl)
  have HBY := Lib.hid hB
  clear hr hl hB
  go_enter Tryd.func85, Tryd.ntmps85
  go_wp2_with (first | (go_at_call 137; (with_reducible refine (HC.out).mono ?_); rintro e w2 ⟨v, rfl, ho, hb⟩; obtain ⟨A1, c1, h1⟩ := Kd.R_slice ho; subst h1; have HO := Lib.hid ho; have HB := Lib.hid hb; clear ho hb))
  go_ret
  refine ⟨w2.heap.size, rfl, HB.out.size, dec_set (heap_alloc_new w2 _) (Kd.R_reads' HO.out).2.1 (Kd.C_alloc (Kd.R_reads' HO.out).2.2 _) (fun ad e => ?_) HBY.out, below_alloc HB.out _⟩
  subst e
  exact own_lt (Kd.own_of_R HO.out) ad.block (by simp [Value.ownBlock])
set_option maxHeartbeats 2000000 in
theorem none_any (g : Nat) (bs : List Int) (er : Int) (w : World) (h : DecAt w g bs er) : Calls Tryd.prog 138 #[.pointer (some ⟨g, 0, none⟩)] w fun e w' => e = .returned (.bool false) ∧ w = w' := by
  obtain ⟨A, c, h1, _⟩ := h
  have k2 : w.cell? ⟨g, 2, none⟩ = some (.bool true) := by rw [blk_cell h1]; rfl
  clear h1
  go_enter Tryd.func138, Tryd.ntmps138
  go_wp2
  go_ret
  exact ⟨rfl, rfl⟩
set_option maxHeartbeats 2000000 in
theorem err_any (g : Nat) (bs : List Int) (er : Int) (w : World) (h : DecAt w g bs er) : Calls Tryd.prog 116 #[.pointer (some ⟨g, 0, none⟩)] w fun e w' => e = .returned (.int .i64 er) ∧ w = w' := by
  have HN := Lib.hid (none_any g bs er w h)
  obtain ⟨A, c, h1, _⟩ := h
  have k1 : w.cell? ⟨g, 1, none⟩ = some (.int .i64 er) := by rw [blk_cell h1]; rfl
  clear h1
  go_enter Tryd.func116, Tryd.ntmps116
  go_wp2_with (first | (go_at_call 138; (with_reducible refine (HN.out).mono ?_); rintro e w2 ⟨rfl, rfl⟩))
  go_ret
  exact ⟨rfl, rfl⟩
/-- What a decoder's end says. -/
def doneG (bs : List Int) (er : Int) : Int := if er ≠ 0 then er else if 0 < bs.length then 21 else 0
set_option maxHeartbeats 2000000 in
theorem done_any (g : Nat) (bs : List Int) (er : Int) (w : World) (h : DecAt w g bs er) : Calls Tryd.prog 89 #[.pointer (some ⟨g, 0, none⟩)] w fun e w' => e = .returned (.int .i64 (doneG bs er)) ∧ w = w' := by
  have HN := Lib.hid (err_any g bs er w h)
  obtain ⟨A, c, h1, _⟩ := h
  have k0 : w.cell? ⟨g, 0, none⟩ = some (.slice A bs.length c) := by rw [blk_cell h1]; rfl
  clear h1
  by_cases h0 : er = 0
  · subst h0
    by_cases hp : 0 < bs.length
    · have hpi : decide ((0 : Int) < (bs.length : Int)) = true := decide_eq_true (by omega)
      have HD : Hid (doneG bs 0 = 21) := Lib.hid (by simp [doneG, hp])
      go_enter Tryd.func89, Tryd.ntmps89
      go_wp2_with (first | (go_at_call 116; (with_reducible refine (HN.out).mono ?_); rintro e w2 ⟨rfl, rfl⟩))
      go_ret
      exact ⟨by rw [HD.out]; rfl, rfl⟩
    · have hpi : decide ((0 : Int) < (bs.length : Int)) = false := decide_eq_false (by omega)
      have HD : Hid (doneG bs 0 = 0) := Lib.hid (by unfold doneG; rw [if_neg (by simp), if_neg hp])
      go_enter Tryd.func89, Tryd.ntmps89
      go_wp2_with (first | (go_at_call 116; (with_reducible refine (HN.out).mono ?_); rintro e w2 ⟨rfl, rfl⟩))
      go_ret
      exact ⟨by rw [HD.out]; rfl, rfl⟩
  · have HD : Hid (doneG bs er = er) := Lib.hid (by simp [doneG, h0])
    have e1 : (er != 0) = true := by simp [h0]
    clear h0
    go_enter Tryd.func89, Tryd.ntmps89
    go_wp2_with (first | (go_at_call 116; (with_reducible refine (HN.out).mono ?_); rintro e w2 ⟨rfl, rfl⟩))
    go_ret
    exact ⟨by rw [HD.out]; rfl, rfl⟩
end Go.Proofs.YtojocffjajcdmaaDoor
namespace Go.Proofs.YtojocffjajcdmaaDoor
open Go.RowKit Go.Proofs.YtojocffjajcdmaaDoorW.PrintWords Go.Proofs.YtojocffjajcdmaaDoorW.PrintLast Go.Proofs.YtojocffjajcdmaaDoorW.PrintMore PChunkAll
set_option linter.unusedVariables false
set_option linter.unusedSimpArgs false

theorem numA_bounds (k i acc : Nat) (bs : List Int) (ha : acc < 128 ^ i) : 0 ≤ (numA k i acc bs).1 ∧ (numA k i acc bs).1 < 128 ^ (i + k) ∧ (numA k i acc bs).2.1 ≤ i + bs.length ∧ ((numA k i acc bs).2.2 = 0 ∨ (numA k i acc bs).2.2 = 20 ∨ (numA k i acc bs).2.2 = 21) := by
  induction k generalizing i acc bs with
  | zero =>
    have : (0 : Int) < 128 ^ (i + 0) := Int.pow_pos (by decide)
    simp [numA]
    omega
  | succ k ih =>
    cases bs with
    | nil =>
      have : (0 : Int) < 128 ^ (i + (k + 1)) := Int.pow_pos (by decide)
      simp [numA]
      omega
    | cons b bs =>
      rw [numA]
      have hm : (b % 128).toNat * 128 ^ i ≤ 127 * 128 ^ i := Nat.mul_le_mul_right _ (by omega)
      have hs : acc + (b % 128).toNat * 128 ^ i < 128 ^ (i + 1) := by rw [Nat.pow_succ]; omega
      split
      · split
        · have : (0 : Int) < 128 ^ (i + (k + 1)) := Int.pow_pos (by decide)
          simp
          omega
        · have h1 : 128 ^ (i + 1) ≤ 128 ^ (i + (k + 1)) := Nat.pow_le_pow_right (by decide) (by omega)
          refine ⟨by simp only; omega, ?_, by simp only [List.length_cons]; omega, .inl rfl⟩
          simp only
          have h2 : ((acc + (b % 128).toNat * 128 ^ i : Nat) : Int) < ((128 ^ (i + (k + 1)) : Nat) : Int) := by omega
          have h3 : ((128 ^ (i + (k + 1)) : Nat) : Int) = (128 : Int) ^ (i + (k + 1)) := by norm_cast
          rw [h3] at h2
          exact h2
      · have := ih (i + 1) _ bs hs
        rw [show i + 1 + k = i + (k + 1) by omega] at this
        simp only [List.length_cons]
        omega
theorem numG_bounds (bs : List Int) : 0 ≤ (numG bs).1 ∧ (numG bs).1 < 72057594037927936 ∧ (numG bs).2.1 ≤ bs.length ∧ ((numG bs).2.2 = 0 ∨ (numG bs).2.2 = 20 ∨ (numG bs).2.2 = 21) := by
  have := numA_bounds 8 0 0 bs (by decide)
  unfold numG
  simpa using this
def numS (bs : List Int) (er : Int) : Int × List Int × Int := if er ≠ 0 then (0, bs, er) else ((numG bs).1, bs.drop (numG bs).2.1, (numG bs).2.2)

theorem set_grown {w W : World} {g : Nat} (h : w.grownBy W (some g)) (i : Nat) (v : Value) : w.grownBy (W.setCell ⟨g, i, none⟩ v) (some g) :=
  ⟨h.os, h.tape, h.output, by have := h.size; simpa [World.setCell] using this, fun k hk hr => (Below.heap_setCell W _ v k (fun e => hr (by rw [e]))).trans (h.block k hk hr)⟩
theorem drew_grown {w W : World} {r : Option Nat} (h : w.grownBy W r) : w.grownBy W.drew r := ⟨h.os, h.tape, h.output, h.size, h.block⟩
/-- The rest behind u bytes, as the slice says it. -/
theorem rest_C {w : World} {A : Option Addr} {bs : List Int} {c u : Nat} (h : Kd.C KB w A bs.length bs) (hu : u ≤ bs.length) (hc : bs.length ≤ c) : Kd.C KB w (if c = u then A else A.map (fun x => x.add u)) (bs.drop u).length (bs.drop u) := by
  have := Kd.C_drop (m := u) h hu hc
  rw [show u * KB.sz = u from Nat.mul_one u] at this
  exact this
theorem rest_lt {A : Option Addr} {c u g : Nat} (h : ∀ ad, A = some ad → ad.block < g) : ∀ ad, (if c = u then A else A.map (fun x => x.add u)) = some ad → ad.block < g := by
  intro ad e
  split at e
  · exact h ad e
  · cases A with
    | none => cases e
    | some a =>
      simp at e
      subst e
      have hbk : (a.add u).block = a.block := by unfold Addr.add; split <;> rfl
      rw [hbk]
      exact h a rfl
theorem dec_end {w W : World} {g : Nat} {A' : Option Addr} {c' u : Nat} {bs : List Int} {er e : Int} (h : DecAt w g bs er) (h2 : bs.length - u ≤ c') (h3 : Kd.C KB w A' (bs.drop u).length (bs.drop u)) (h4 : ∀ ad, A' = some ad → ad.block < g)
    (hb : W.heap[g]? = some (.cells #[.slice A' (bs.length - u) c', .int .i64 e, .bool true] 186 (0, 0))) (hgr : w.grownBy W (some g)) : DecAt W g (bs.drop u) e ∧ w.grownBy W (some g) := by
  refine ⟨?_, hgr⟩
  have hlen : (bs.drop u).length = bs.length - u := List.length_drop
  refine ⟨A', c', by rw [hlen]; exact hb, by rw [hlen]; omega, C_old h3 h4 (fun k hk => hgr.block k ?_ ?_), h4, ?_⟩
  · exact Nat.lt_trans hk h.lt
  · intro x; injection x with x; omega
  · obtain ⟨_, _, _, _, _, _, hby⟩ := h
    exact hby.drop u
set_option maxHeartbeats 4000000 in
set_option maxRecDepth 100000 in
theorem dnum_any (g : Nat) (bs : List Int) (er : Int) (w : World) (h : DecAt w g bs er) : Calls Tryd.prog 86 #[.pointer (some ⟨g, 0, none⟩)] w fun e w' => e = .returned (.int .i64 (numS bs er).1) ∧ DecAt w' g (numS bs er).2.1 (numS bs er).2.2 ∧ w.grownBy w' (some g) := by
  have HN := Lib.hid (none_any g bs er w h)
  have HD := Lib.hid h
  obtain ⟨A, c, h1, h2, h3, h4, h5⟩ := h
  have k0 : w.cell? ⟨g, 0, none⟩ = some (.slice A bs.length c) := by rw [blk_cell h1]; rfl
  have k1 : w.cell? ⟨g, 1, none⟩ = some (.int .i64 er) := by rw [blk_cell h1]; rfl
  have f0 := blk_frozen h1 0
  have f1 := blk_frozen h1 1
  by_cases h0 : er = 0
  · subst h0
    have HS : Hid (numS bs 0 = ((numG bs).1, bs.drop (numG bs).2.1, (numG bs).2.2)) := Lib.hid (by simp [numS])
    have HI := Lib.hid (number_in A c bs w h3 h5)
    have hbd := numG_bounds bs
    rw [HS.out]
    generalize hr : numG bs = r at *
    obtain ⟨v, u, e⟩ := r
    obtain ⟨_, _, hu, _⟩ := hbd
    simp only at hu HI ⊢
    have hui : (u : Int) ≤ (bs.length : Int) := by omega
    obtain ⟨i5, hi5, _, hsz5, _⟩ := info_parts info5
    have hcut := cut_from (P := Tryd.prog) 23 5 .i64 Tryd.underlying23 hi5 1 hsz5 A bs.length c (u : Int) (by omega) hui
    rw [Int.toNat_natCast, Nat.mul_one] at hcut
    have H3 := Lib.hid (rest_C h3 hu h2)
    have H4 := Lib.hid (rest_lt (c := c) (u := u) h4)
    have H2 : Hid (bs.length - u ≤ c - u) := Lib.hid (by omega)
    generalize (if c = u then A else Option.map (fun x => x.add u) A) = A' at *
    generalize c - u = c' at *
    have H1 := Lib.hid h1
    clear h1 h3 h4 h5 h2 hr HS
    go_enter Tryd.func86, Tryd.ntmps86
    go_wp2_with (first | (go_at_call 138; (with_reducible refine (HN.out).mono ?_); rintro e w2 ⟨rfl, rfl⟩) | (go_at_call 139; (with_reducible refine (HI.out).mono ?_); rintro e w2 ⟨rfl, rfl⟩))
    go_region
    all_goals go_wp2
    all_goals go_ret
    all_goals refine ⟨rfl, dec_end HD.out H2.out H3.out H4.out ?_ ?_⟩
    all_goals first
      | exact blk_drew (blk_put (blk_put H1.out 1 (.int .i64 e) (cs' := #[.slice A bs.length c, .int .i64 e, .bool true]) rfl) 0 _ rfl)
      | exact blk_drew (blk_put (blk_put H1.out 0 (.slice A' (bs.length - u) c') (cs' := #[.slice A' (bs.length - u) c', .int .i64 0, .bool true]) rfl) 1 _ rfl)
      | exact drew_grown (set_grown (set_grown (World.grownBy.refl w (some g)) _ _) _ _)
  · have HS : Hid (numS bs er = (0, bs, er)) := Lib.hid (by simp [numS, h0])
    rw [HS.out]
    have e1 : (er != 0) = true := by simp [h0]
    clear h1 h2 h3 h4 h5 h0
    go_enter Tryd.func86, Tryd.ntmps86
    go_wp2_with (first | (go_at_call 138; (with_reducible refine (HN.out).mono ?_); rintro e w2 ⟨rfl, rfl⟩))
    go_ret
    exact ⟨rfl, HD.out, World.grownBy.refl w _⟩
end Go.Proofs.YtojocffjajcdmaaDoor
namespace Go.Proofs.YtojocffjajcdmaaDoor
open Go.RowKit Go.Proofs.YtojocffjajcdmaaDoorW.PrintWords Go.Proofs.YtojocffjajcdmaaDoorW.PrintLast Go.Proofs.YtojocffjajcdmaaDoorW.PrintMore PChunkAll
set_option linter.unusedVariables false
set_option linter.unusedSimpArgs false

def noStr : ByteArray := ⟨#[]⟩
/-- A text read: the text, what is left, the fault. -/
def textS (bs : List Int) (er : Int) : ByteArray × List Int × Int :=
  if (numS bs er).2.2 ≠ 0 then (noStr, bs, (numS bs er).2.2)
  else if 65536 < (numS bs er).1 then (noStr, bs, 21)
  else if ((numS bs er).2.1.length : Int) < (numS bs er).1 then (noStr, bs, 20)
  else (strOfNums ((numS bs er).2.1.take (numS bs er).1.toNat), (numS bs er).2.1.drop (numS bs er).1.toNat, 0)
theorem numS_val (bs : List Int) (er : Int) : 0 ≤ (numS bs er).1 ∧ (numS bs er).1 < 72057594037927936 := by
  have := numG_bounds bs
  unfold numS
  split
  · simp
  · simp only; omega
theorem numS_byt {bs : List Int} (h : Byt bs) (er : Int) : Byt (numS bs er).2.1 := by
  unfold numS
  split
  · exact h
  · exact h.drop _
theorem grown_trans {w w1 w2 : World} {g : Nat} (h : w.grownBy w1 (some g)) (h' : w1.grownBy w2 (some g)) : w.grownBy w2 (some g) :=
  ⟨h'.os.trans h.os, h'.tape.trans h.tape, h'.output.trans h.output, Nat.le_trans h.size h'.size, fun k hk hr => (h'.block k (Nat.lt_of_lt_of_le hk h.size) hr).trans (h.block k hk hr)⟩
/-- The decoder as it stood, with a fault. -/
theorem dec_back {w W : World} {g : Nat} {A : Option Addr} {c : Nat} {bs : List Int} {e : Int} (hg : g < w.heap.size) (h2 : bs.length ≤ c) (h3 : Kd.C KB w A bs.length bs) (h4 : ∀ ad, A = some ad → ad.block < g) (h5 : Byt bs)
    (hb : W.heap[g]? = some (.cells #[.slice A bs.length c, .int .i64 e, .bool true] 186 (0, 0))) (hgr : w.grownBy W (some g)) : DecAt W g bs e ∧ w.grownBy W (some g) := by
  refine ⟨⟨A, c, hb, h2, C_old h3 h4 (fun k hk => hgr.block k ?_ ?_), h4, h5⟩, hgr⟩
  · exact Nat.lt_trans hk hg
  · intro x; injection x with x; omega

theorem take_C {w : World} {A : Option Addr} {bs : List Int} {u : Nat} (h : Kd.C KB w A bs.length bs) (hu : u ≤ bs.length) : Kd.C KB w A u (bs.take u) := by
  have := Kd.C_take h hu
  rw [List.length_take, Nat.min_eq_left hu] at this
  exact this
set_option maxHeartbeats 4000000 in
set_option maxRecDepth 100000 in
theorem dtext_any (g : Nat) (bs : List Int) (er : Int) (w : World) (h : DecAt w g bs er) : Calls Tryd.prog 88 #[.pointer (some ⟨g, 0, none⟩)] w fun e w' => e = .returned (.string (textS bs er).1) ∧ DecAt w' g (textS bs er).2.1 (textS bs er).2.2 ∧ w.grownBy w' (some g) := by
  have HN := Lib.hid (none_any g bs er w h)
  have HU := Lib.hid (dnum_any g bs er w h)
  have hlt := h.lt
  obtain ⟨A, c, h1, h2, h3, h4, h5⟩ := h
  have k0 : w.cell? ⟨g, 0, none⟩ = some (.slice A bs.length c) := by rw [blk_cell h1]; rfl
  have hv := numS_val bs er
  have hby := numS_byt h5 er
  have HBACK : Hid (∀ (W : World) (e : Int), W.heap[g]? = some (.cells #[.slice A bs.length c, .int .i64 e, .bool true] 186 (0, 0)) → w.grownBy W (some g) → DecAt W g bs e ∧ w.grownBy W (some g)) := Lib.hid (fun W e hb hgr => dec_back hlt h2 h3 h4 h5 hb hgr)
  clear h1 h2 h3 h4 h5 hlt
  have HS : Hid (textS bs er = if (numS bs er).2.2 ≠ 0 then (noStr, bs, (numS bs er).2.2)
    else if 65536 < (numS bs er).1 then (noStr, bs, 21)
    else if ((numS bs er).2.1.length : Int) < (numS bs er).1 then (noStr, bs, 20)
    else (strOfNums ((numS bs er).2.1.take (numS bs er).1.toNat), (numS bs er).2.1.drop (numS bs er).1.toNat, 0)) := Lib.hid rfl
  generalize numS bs er = r at *
  obtain ⟨n, bs1, e1⟩ := r
  simp only at HU hv hby HS
  obtain ⟨hv0, hv1⟩ := hv
  by_cases he : e1 = 0
  · subst he
    by_cases hn : 65536 < n
    · have HT : Hid (textS bs er = (noStr, bs, 21)) := Lib.hid (by rw [HS.out, if_neg (by simp), if_pos hn])
      rw [HT.out]
      have d1 : decide (65536 < n) = true := decide_eq_true hn
      clear HS hv0 hv1
      go_enter Tryd.func88, Tryd.ntmps88
      go_wp2_with (first | (go_at_call 138; (with_reducible refine (HN.out).mono ?_); rintro e w2 ⟨rfl, rfl⟩) | (go_at_call 86; (with_reducible refine (HU.out).mono ?_); rintro e w2 ⟨rfl, ⟨A1, c1, b1, b2, b3, b4, b5⟩, hgr⟩; have m0 : w2.cell? ⟨g, 0, none⟩ = some (.slice A1 bs1.length c1) := (by rw [blk_cell b1]; rfl); have m1 : w2.cell? ⟨g, 1, none⟩ = some (.int .i64 0) := (by rw [blk_cell b1]; rfl); have f0 := blk_frozen b1 0; have f1 := blk_frozen b1 1;  have B1 := Lib.hid b1; have HGR := Lib.hid hgr; clear b1 hgr))
      go_ret
      exact ⟨rfl, HBACK.out _ _ (blk_put (blk_put B1.out 1 _ rfl) 0 _ rfl) (set_grown (set_grown HGR.out 1 _) 0 _)⟩
    · by_cases hl : (bs1.length : Int) < n
      · have HT : Hid (textS bs er = (noStr, bs, 20)) := Lib.hid (by rw [HS.out, if_neg (by simp), if_neg hn, if_pos hl])
        rw [HT.out]
        have d1 : decide (65536 < n) = false := decide_eq_false hn
        have d2 : decide ((bs1.length : Int) < n) = true := decide_eq_true hl
        clear HS hv0 hv1
        go_enter Tryd.func88, Tryd.ntmps88
        go_wp2_with (first | (go_at_call 138; (with_reducible refine (HN.out).mono ?_); rintro e w2 ⟨rfl, rfl⟩) | (go_at_call 86; (with_reducible refine (HU.out).mono ?_); rintro e w2 ⟨rfl, ⟨A1, c1, b1, b2, b3, b4, b5⟩, hgr⟩; have m0 : w2.cell? ⟨g, 0, none⟩ = some (.slice A1 bs1.length c1) := (by rw [blk_cell b1]; rfl); have m1 : w2.cell? ⟨g, 1, none⟩ = some (.int .i64 0) := (by rw [blk_cell b1]; rfl); have f0 := blk_frozen b1 0; have f1 := blk_frozen b1 1;  have B1 := Lib.hid b1; have HGR := Lib.hid hgr; clear b1 hgr))
        go_ret
        exact ⟨rfl, HBACK.out _ _ (blk_put (blk_put B1.out 1 _ rfl) 0 _ rfl) (set_grown (set_grown HGR.out 1 _) 0 _)⟩
      · have HT : Hid (textS bs er = (strOfNums (bs1.take n.toNat), bs1.drop n.toNat, 0)) := Lib.hid (by rw [HS.out, if_neg (by simp), if_neg hn, if_neg hl])
        rw [HT.out]
        have d1 : decide (65536 < n) = false := decide_eq_false hn
        have d2 : decide ((bs1.length : Int) < n) = false := decide_eq_false hl
        have hnl : n ≤ (bs1.length : Int) := by omega
        obtain ⟨i5, hi5, _, hsz5, _⟩ := info_parts info5
        clear HS
        go_enter Tryd.func88, Tryd.ntmps88
        go_wp2_with (first | (go_at_call 138; (with_reducible refine (HN.out).mono ?_); rintro e w2 ⟨rfl, rfl⟩) | (go_at_call 86; (with_reducible refine (HU.out).mono ?_); rintro e w2 ⟨rfl, ⟨A1, c1, b1, b2, b3, b4, b5⟩, hgr⟩; have m0 : w2.cell? ⟨g, 0, none⟩ = some (.slice A1 bs1.length c1) := (by rw [blk_cell b1]; rfl); have m1 : w2.cell? ⟨g, 1, none⟩ = some (.int .i64 0) := (by rw [blk_cell b1]; rfl); have f0 := blk_frozen b1 0; have f1 := blk_frozen b1 1; have hcv := Kd.C_string (P := Tryd.prog) (A := A1) (n := n.toNat) (c := c1) Tryd.underlying23 Tryd.underlying5 Tryd.underlying9 (take_C b3 (by omega)); have hto := cut_to (P := Tryd.prog) 23 5 .i64 Tryd.underlying23 hi5 A1 bs1.length c1 n hv0 (by omega) b2; have hfr := cut_from (P := Tryd.prog) 23 5 .i64 Tryd.underlying23 hi5 1 hsz5 A1 bs1.length c1 n hv0 (by omega); rw [Nat.mul_one] at hfr; have H3 := Lib.hid (rest_C (u := n.toNat) b3 (by omega) b2); have H4 := Lib.hid (rest_lt (c := c1) (u := n.toNat) b4); have H2 : Hid (bs1.length - n.toNat ≤ c1 - n.toNat) := Lib.hid (by omega); generalize hA' : (if c1 = n.toNat then A1 else Option.map (fun x => x.add n.toNat) A1) = A' at *; generalize hc' : c1 - n.toNat = c' at *; have HD1 := Lib.hid (dec_set b1 b2 b3 b4 b5); have B1 := Lib.hid b1; have HGR := Lib.hid hgr; clear b1 hgr))
        go_ret
        obtain ⟨hA, hB⟩ := dec_end HD1.out H2.out H3.out H4.out (blk_put B1.out 0 _ rfl) (set_grown (World.grownBy.refl w2 (some g)) 0 _)
        exact ⟨rfl, hA, grown_trans HGR.out hB⟩
  · have HT : Hid (textS bs er = (noStr, bs, e1)) := Lib.hid (by rw [HS.out, if_pos he])
    rw [HT.out]
    have hne : (e1 != 0) = true := by simp [he]
    clear HS he hv0 hv1
    go_enter Tryd.func88, Tryd.ntmps88
    go_wp2_with (first | (go_at_call 138; (with_reducible refine (HN.out).mono ?_); rintro e w2 ⟨rfl, rfl⟩) | (go_at_call 86; (with_reducible refine (HU.out).mono ?_); rintro e w2 ⟨rfl, ⟨A1, c1, b1, b2, b3, b4, b5⟩, hgr⟩; have m0 : w2.cell? ⟨g, 0, none⟩ = some (.slice A1 bs1.length c1) := (by rw [blk_cell b1]; rfl); have m1 : w2.cell? ⟨g, 1, none⟩ = some (.int .i64 e1) := (by rw [blk_cell b1]; rfl); have f0 := blk_frozen b1 0; have f1 := blk_frozen b1 1; have B1 := Lib.hid b1; have HGR := Lib.hid hgr; clear b1 hgr))
    go_ret
    exact ⟨rfl, HBACK.out _ _ (blk_put B1.out 0 _ rfl) (set_grown HGR.out 0 _)⟩
end Go.Proofs.YtojocffjajcdmaaDoor
namespace Go.Proofs.YtojocffjajcdmaaDoor
open Go.RowKit Go.Proofs.YtojocffjajcdmaaDoorW.PrintWords Go.Proofs.YtojocffjajcdmaaDoorW.PrintLast Go.Proofs.YtojocffjajcdmaaDoorW.PrintMore PChunkAll
attribute [local go_sem] max2_int min2_int max_two min_two
set_option linter.unusedVariables false
set_option linter.unusedSimpArgs false

/-- k labels read. -/
def labsS (bs : List Int) (er : Int) : Nat → List S112 × List Int × Int
  | 0 => ([], bs, er)
  | k + 1 =>
    ((labsS bs er k).1 ++ [⟨(textS (labsS bs er k).2.1 (labsS bs er k).2.2).1, (textS (textS (labsS bs er k).2.1 (labsS bs er k).2.2).2.1 (textS (labsS bs er k).2.1 (labsS bs er k).2.2).2.2).1⟩],
      (textS (textS (labsS bs er k).2.1 (labsS bs er k).2.2).2.1 (textS (labsS bs er k).2.1 (labsS bs er k).2.2).2.2).2)
def cnt (n : Int) : Nat := (min n 17).toNat
def readS (bs : List Int) : List S112 × List Int × Int := labsS (numS bs 0).2.1 (numS bs 0).2.2 (cnt (numS bs 0).1)
def readL (bs : List Int) : List S112 × Int := if doneG (readS bs).2.1 (readS bs).2.2 ≠ 0 ∨ rightL (readS bs).1 = false then ([], 21) else ((readS bs).1, 0)
theorem labsS_len (bs : List Int) (er : Int) (k : Nat) : (labsS bs er k).1.length = k := by
  induction k with
  | zero => rfl
  | succ k ih => rw [labsS, List.length_append, ih]; rfl
theorem DecAt.low {w w' : World} {g : Nat} {bs : List Int} {er : Int} (h : DecAt w g bs er) (hb : Below (g + 1) w w') : DecAt w' g bs er := by
  obtain ⟨A, c, h1, h2, h3, h4, h5⟩ := h
  exact ⟨A, c, (hb.block g (by omega)).trans h1, h2, C_old h3 h4 (fun k hk => hb.block k (by omega)), h4, h5⟩
/-- Labels of one's own stay where the decoder turns. -/
theorem labs_dec {w w' : World} {g base : Nat} {bs : List Int} {er : Int} {v : Value} {ls : List S112} (h : Kd.R k112 112 w base (fun _ => True) v ls) (hd : DecAt w g bs er) (hg : w.grownBy w' (some g)) : Kd.R k112 112 w' base (fun _ => True) v ls := by
  obtain ⟨A, c, h1, _⟩ := hd
  exact Kd.R_mono (Kd.R_grown (Kd.R_types h h1 (by decide)) hg (fun k hk e => by injection e with e; exact hk.2 e)) (fun _ _ => trivial)
def LabsBelow (ls : List S112) (er : Int) (w : World) (e : Ending) (w' : World) : Prop := ∃ v, e = .returned (.tuple #[v, .int .i64 er]) ∧ Kd.R k112 112 w' w.heap.size (fun _ => True) v ls ∧ Below w.heap.size w w'
def RdRel (b1 : List Int) (e1 : Int) (m : Nat) (g : Nat) (w : World) (v5 v11 : Value) (wr : World) : Prop :=
  ∃ k : Nat, v11 = .int .i64 (k : Int) ∧ k ≤ m ∧ DecAt wr g (labsS b1 e1 k).2.1 (labsS b1 e1 k).2.2 ∧ Kd.R k112 112 wr (g + 1) (fun _ => True) v5 (labsS b1 e1 k).1 ∧ Below w.heap.size w wr

set_option maxHeartbeats 8000000 in
set_option maxRecDepth 100000 in
theorem readL_any (A : Option Addr) (c : Nat) (bs : List Int) (w : World) (hT : Tabs w) (hr : Kd.C KB w A bs.length bs) (hl : bs.length ≤ 140737488355328) (hB : Byt bs) : Calls Tryd.prog 87 #[.slice A bs.length c] w (LabsBelow (readL bs).1 (readL bs).2 w) := by
  have HNW := Lib.hid (new_any A c bs w hr hl hB)
  have HT := Lib.hid hT
  have HRS : Hid (readS bs = labsS (numS bs 0).2.1 (numS bs 0).2.2 (cnt (numS bs 0).1)) := Lib.hid rfl
  have HRL : Hid (readL bs = if doneG (readS bs).2.1 (readS bs).2.2 ≠ 0 ∨ rightL (readS bs).1 = false then ([], 21) else ((readS bs).1, 0)) := Lib.hid rfl
  have hv := numS_val bs 0
  clear hT hr hl hB
  obtain ⟨n, hn⟩ : ∃ n, n = (numS bs 0).1 := ⟨_, rfl⟩
  obtain ⟨b1, hb1⟩ : ∃ n, n = (numS bs 0).2.1 := ⟨_, rfl⟩
  obtain ⟨e1, he1⟩ : ∃ n, n = (numS bs 0).2.2 := ⟨_, rfl⟩
  have HDN : Hid (∀ g W, DecAt W g bs 0 → Calls Tryd.prog 86 #[.pointer (some ⟨g, 0, none⟩)] W fun e w' => e = .returned (.int .i64 n) ∧ DecAt w' g b1 e1 ∧ W.grownBy w' (some g)) := Lib.hid (fun g W h => by rw [hn, hb1, he1]; exact dnum_any g bs 0 W h)
  rw [← hn, ← hb1, ← he1] at HRS
  rw [← hn] at hv
  obtain ⟨m, hm⟩ : ∃ m : Nat, m = cnt n := ⟨_, rfl⟩
  have hmn : (if 17 < n then (17 : Int) else n) = (m : Int) := by rw [hm]; unfold cnt; split <;> omega
  rw [← hm] at HRS
  have hm17 : m ≤ 17 := by rw [hm]; unfold cnt; omega
  clear hn hb1 he1 hm
  go_enter Tryd.func87, Tryd.ntmps87
  go_wp2_with (first | (go_at_call 85; (with_reducible refine (HNW.out).mono ?_); rintro e w2 ⟨g, rfl, hg, hd, hb⟩; have HD := Lib.hid hd; have HB := Lib.hid hb; have HG := Lib.hid hg; clear hd hb hg) | (go_at_call 86; (with_reducible refine (HDN.out _ _ HD.out).mono ?_); rintro e w3 ⟨rfl, hd, hgr⟩; have HD3 := Lib.hid hd; have HB3 := Lib.hid (pw_below_grown HB.out (some g) HB.out.size hgr (fun k hk => by injection hk with hk; rw [← hk]; exact HG.out)); clear hd hgr))
  go_loopw [5, 11] (fun v5 v11 wr => RdRel b1 e1 m g w v5 v11 wr) (fun _ v11 _ => m - (intOf v11).toNat)
  case atStart => exact ⟨0, rfl, Nat.zero_le _, HD3.out, Kd.R_nil _ _ _ _ _, HB3.out⟩
  case round =>
    obtain ⟨k, rfl, hk, hd, ho, hb⟩ := hrel
    obtain ⟨Ao, co, hso⟩ := Kd.R_slice ho
    subst hso
    by_cases hlt : k < m
    · have hki : (k : Int) < (m : Int) := by omega
      have HS : Hid (labsS b1 e1 (k + 1) = ((labsS b1 e1 k).1 ++ [⟨(textS (labsS b1 e1 k).2.1 (labsS b1 e1 k).2.2).1, (textS (textS (labsS b1 e1 k).2.1 (labsS b1 e1 k).2.2).2.1 (textS (labsS b1 e1 k).2.1 (labsS b1 e1 k).2.2).2.2).1⟩],
        (textS (textS (labsS b1 e1 k).2.1 (labsS b1 e1 k).2.2).2.1 (textS (labsS b1 e1 k).2.1 (labsS b1 e1 k).2.2).2.2).2)) := Lib.hid rfl
      have hll := labsS_len b1 e1 k
      generalize labsS b1 e1 k = S at *
      obtain ⟨ls, b2, e2⟩ := S
      simp only at hd ho HS hll
      have hl17 : ls.length ≤ 17 := by omega
      clear hll
      have HTX := Lib.hid (fun W (h : DecAt W g b2 e2) => dtext_any g b2 e2 W h)
      generalize textS b2 e2 = T at *
      obtain ⟨s1, b3, e3⟩ := T
      simp only at HTX HS
      have HTY := Lib.hid (fun W (h : DecAt W g b3 e3) => dtext_any g b3 e3 W h)
      generalize textS b3 e3 = T at *
      obtain ⟨s2, b4, e4⟩ := T
      simp only at HTY HS
      have HD4 := Lib.hid hd
      have HO4 := Lib.hid ho
      have HB4 := Lib.hid hb
      clear hd ho hb
      go_wp2_with (first | (go_at_call 88; (with_reducible refine (HTX.out _ HD4.out).mono ?_); rintro e w5 ⟨rfl, hd, hgr⟩; have HD5 := Lib.hid hd; have HO5 := Lib.hid (labs_dec HO4.out HD4.out hgr); have HB5 := Lib.hid (pw_below_grown HB4.out (some g) HB4.out.size hgr (fun k hk => by injection hk with hk; rw [← hk]; exact HG.out)); clear hd hgr) | (go_at_call 88; (with_reducible refine (HTY.out _ HD5.out).mono ?_); rintro e w6 ⟨rfl, hd, hgr⟩; have HD6 := Lib.hid hd; have HO6 := Lib.hid (labs_dec HO5.out HD5.out hgr); have HB6 := Lib.hid (pw_below_grown HB5.out (some g) HB5.out.size hgr (fun k hk => by injection hk with hk; rw [← hk]; exact HG.out)); clear hd hgr) | ((with_reducible refine gate_builtin (b := .append) (xs := #[.tmp 13, .tmp 19]) rfl ?_); at_builtin; refine Kd.R_append k112 (w0 := w6) (W := w6) (g + 1) rfl (.tmp 13) (.tmp 19) 31 112 (.agg #[(.string ⟨#[]⟩), (.string ⟨#[]⟩)]) 32 rfl Tryd.underlying31 info112 rfl (by decide) (by omega) (.slice Ao ls.length co) ls ⟨s1, s2⟩ [.string s1, .string s2] (fun _ => True) (fun _ => False) rfl rfl ?aP (fun _ hk => hk.elim) (fun _ _ => trivial) HO6.out (Below.refl _ _) HD6.out.lt (by omega) ?_; (case aP => exact k112_mkM _ _ _ ⟨s1, s2⟩); intro v7 w7 ho7 hb7 hg7 hat7; have HO7 := Lib.hid ho7; have HD7 := Lib.hid (HD6.out.low hb7); have HB7 := Lib.hid (HB6.out.trans (hb7.mono (Nat.le_trans HG.out (Nat.le_succ g)))); clear ho7 hb7 hg7 hat7))
      go_roundw
      case rel => exact ⟨k + 1, by go_num, by omega, by rw [HS.out]; exact HD7.out, by rw [HS.out]; exact HO7.out, HB7.out⟩
      case measure => simp [intOf]; omega
    · have hki : ¬ (k : Int) < (m : Int) := by omega
      have hkm : k = m := by omega
      subst hkm
      rw [HRS.out] at HRL
      generalize labsS b1 e1 k = S at *
      obtain ⟨ls, b2, e2⟩ := S
      simp only at hd ho HRL
      have HDO := Lib.hid (done_any g b2 e2 wr hd)
      have HRI := Lib.hid (right_any Ao co ls wr (HT.out.below hb) (Kd.R_reads' ho).2.2)
      have HO := Lib.hid (Kd.R_lower ho (Nat.le_trans HG.out (Nat.le_succ g)))
      have HBW := Lib.hid hb
      clear hd ho hb
      generalize doneG b2 e2 = dn at *
      by_cases h0 : dn = 0
      · subst h0
        cases hR : rightL ls with
        | true =>
          have HE : Hid (readL bs = (ls, 0)) := Lib.hid (by rw [HRL.out, if_neg (by simp [hR])])
          rw [hR] at HRI
          clear hR HRL
          go_wp2_with (first | (go_at_call 89; (with_reducible refine (HDO.out).mono ?_); rintro e w5 ⟨rfl, rfl⟩) | (go_at_call 95; (with_reducible refine (HRI.out).mono ?_); rintro e w6 ⟨rfl, hb6⟩; have HB6 := Lib.hid (below_step HBW.out hb6); have HO6 := Lib.hid (Kd.R_below HO.out hb6); clear hb6))
          go_ret2
          exact ⟨_, by rw [HE.out]; rfl, by rw [HE.out]; exact HO6.out, HB6.out⟩
        | false =>
          have HE : Hid (readL bs = ([], 21)) := Lib.hid (by rw [HRL.out, if_pos (.inr hR)])
          rw [hR] at HRI
          clear hR HRL
          go_wp2_with (first | (go_at_call 89; (with_reducible refine (HDO.out).mono ?_); rintro e w5 ⟨rfl, rfl⟩) | (go_at_call 95; (with_reducible refine (HRI.out).mono ?_); rintro e w6 ⟨rfl, hb6⟩; have HB6 := Lib.hid (below_step HBW.out hb6); clear hb6))
          go_ret2
          exact ⟨_, by rw [HE.out]; rfl, by rw [HE.out]; exact Kd.R_nil _ _ _ _ _, HB6.out⟩
      · have HE : Hid (readL bs = ([], 21)) := Lib.hid (by rw [HRL.out, if_pos (.inl h0)])
        have hne : (dn != 0) = true := by simp [h0]
        clear h0 HRL
        go_wp2_with (first | (go_at_call 89; (with_reducible refine (HDO.out).mono ?_); rintro e w5 ⟨rfl, rfl⟩))
        go_ret2
        exact ⟨_, by rw [HE.out]; rfl, by rw [HE.out]; exact Kd.R_nil _ _ _ _ _, HBW.out⟩
end Go.Proofs.YtojocffjajcdmaaDoor
namespace Go.Proofs.YtojocffjajcdmaaDoor
open Go.RowKit Go.Proofs.YtojocffjajcdmaaDoorW.PrintWords Go.Proofs.YtojocffjajcdmaaDoorW.PrintLast Go.Proofs.YtojocffjajcdmaaDoorW.PrintMore PChunkAll
set_option linter.unusedVariables false
set_option linter.unusedSimpArgs false

def g1 (bs : List Int) : Int × List Int × Int := numS bs 0
def g2 (bs : List Int) : Int × List Int × Int := numS (g1 bs).2.1 (g1 bs).2.2
def g3 (bs : List Int) : ByteArray × List Int × Int := textS (g2 bs).2.1 (g2 bs).2.2
def g4 (bs : List Int) : List S112 × Int := readL (bytesOf (g3 bs).1)
def g5 (bs : List Int) : ByteArray × List Int × Int := textS (g3 bs).2.1 (g3 bs).2.2
def getX (bs : List Int) : S33 := ⟨(g1 bs).1, (g2 bs).1, (g4 bs).1, (g5 bs).1⟩
def getE (bs : List Int) : S33 × Int := if doneG (g5 bs).2.1 (g5 bs).2.2 ≠ 0 ∨ rightE (getX bs) = false then (z33, 21) else (getX bs, 0)
theorem textS_size (bs : List Int) (er : Int) : (textS bs er).1.size ≤ 65536 := by
  unfold textS
  split
  · show (0 : Nat) ≤ 65536; omega
  · split
    · show (0 : Nat) ≤ 65536; omega
    · split
      · show (0 : Nat) ≤ 65536; omega
      · show (strOfNums _).size ≤ 65536
        rw [strOfNums_size, List.length_take]; omega
theorem byt_bytesOf (s : ByteArray) : Byt (bytesOf s) := by
  intro x hx
  unfold bytesOf at hx
  obtain ⟨b, _, rfl⟩ := List.mem_map.1 hx
  have := b.toNat_lt
  omega
theorem C_bytes {w : World} {A : Option Addr} {n : Nat} {xs : List Int} (h : ReadsInt w .u8 A n xs) : Kd.C KB w A n xs := by
  refine ⟨h.1, h.2.1, fun hn => ?_⟩
  obtain ⟨ad, e, hc⟩ := h.2.2 hn
  refine ⟨ad, e, fun j p hj => ?_⟩
  have hjl : j < xs.length := (List.getElem?_eq_some_iff.1 hj).1
  have hcj := hc j (by have := h.1; omega)
  have hp : xs.getD j 0 = p := by rw [List.getD_eq_getElem?_getD, hj]; rfl
  refine ⟨[.int .u8 p], rfl, rfl, fun i u hu => ?_⟩
  have hi : i = 0 := by
    have := (List.getElem?_eq_some_iff.1 hu).1
    simp at this
    exact this
  subst hi
  simp only [List.getElem?_cons_zero, Option.some.injEq] at hu
  subst hu
  rw [show j * KB.sz + 0 = j from Nat.mul_one j, ← hp]
  exact hcj
theorem str_C (W : World) (s : ByteArray) (hs : s.size ≤ 65536) : Kd.C KB (Lib.bytesWorld W 5 s) (some ⟨W.heap.size, 0, none⟩) (bytesOf s).length (bytesOf s) := by
  rw [bytesOf_length]; exact C_bytes (bytes_reads W 5 s (by omega))
def EntBelow (x : S33) (er : Int) (w : World) (e : Ending) (w' : World) : Prop := ∃ A' c', e = .returned (.tuple #[entA x A' c', .int .i64 er]) ∧ Kd.R k112 112 w' w.heap.size (fun _ => True) (.slice A' x.f2.length c') x.f2 ∧ Below w.heap.size w w'
/-- Labels of one's own stay where another block's cell is written. -/
theorem labs_set {w : World} {E base i : Nat} {cs : Array Value} {v u : Value} {ls : List S112} (h : Kd.R k112 112 w base (fun _ => True) v ls) (hE : w.heap[E]? = some (.cells cs 33 (0, 0))) : Kd.R k112 112 (w.setCell ⟨E, i, none⟩ u) base (fun _ => True) v ls :=
  Kd.R_mono (Kd.R_far (p := ⟨E, i, none⟩) (Kd.R_types h hE (by decide)) (fun _ hk => hk.2) u) (fun _ _ => trivial)
theorem DecAt.set {w : World} {g E i : Nat} {bs : List Int} {er : Int} {u : Value} (h : DecAt w g bs er) (hE : g < E) : DecAt (w.setCell ⟨E, i, none⟩ u) g bs er := h.grown (set_grown (World.grownBy.refl w (some E)) i u) hE
abbrev zC : Array Value := #[.int .i64 0, .int .i64 0, .slice none 0 0, .string ⟨#[]⟩]

set_option maxHeartbeats 8000000 in
set_option maxRecDepth 100000 in
theorem getE_any (A : Option Addr) (c : Nat) (bs : List Int) (w : World) (hT : Tabs w) (hr : Kd.C KB w A bs.length bs) (hl : bs.length ≤ 140737488355328) (hB : Byt bs) : Calls Tryd.prog 27 #[.slice A bs.length c] w (EntBelow (getE bs).1 (getE bs).2 w) := by
  have hb0 : Below w.heap.size w (w.alloc (.cells zC 33)) := below_alloc (Below.refl _ _) _
  have HNW := Lib.hid (new_any A c bs _ (Kd.C_alloc hr (.cells zC 33)) hl hB)
  have hz0 : (w.alloc (.cells zC 33)).heap[w.heap.size]? = some (.cells zC 33 (0, 0)) := heap_alloc_new w _
  have HT := Lib.hid hT
  have HGE : Hid (getE bs = if doneG (g5 bs).2.1 (g5 bs).2.2 ≠ 0 ∨ rightE (getX bs) = false then (z33, 21) else (getX bs, 0)) := Lib.hid rfl
  have HGX : Hid (getX bs = ⟨(g1 bs).1, (g2 bs).1, (g4 bs).1, (g5 bs).1⟩) := Lib.hid rfl
  have HC1 : Hid (∀ g W, DecAt W g bs 0 → Calls Tryd.prog 86 #[.pointer (some ⟨g, 0, none⟩)] W fun e w' => e = .returned (.int .i64 (g1 bs).1) ∧ DecAt w' g (g1 bs).2.1 (g1 bs).2.2 ∧ W.grownBy w' (some g)) := Lib.hid (fun g W h => dnum_any g bs 0 W h)
  have HC2 : Hid (∀ g W, DecAt W g (g1 bs).2.1 (g1 bs).2.2 → Calls Tryd.prog 86 #[.pointer (some ⟨g, 0, none⟩)] W fun e w' => e = .returned (.int .i64 (g2 bs).1) ∧ DecAt w' g (g2 bs).2.1 (g2 bs).2.2 ∧ W.grownBy w' (some g)) := Lib.hid (fun g W h => dnum_any g _ _ W h)
  have HC3 : Hid (∀ g W, DecAt W g (g2 bs).2.1 (g2 bs).2.2 → Calls Tryd.prog 88 #[.pointer (some ⟨g, 0, none⟩)] W fun e w' => e = .returned (.string (g3 bs).1) ∧ DecAt w' g (g3 bs).2.1 (g3 bs).2.2 ∧ W.grownBy w' (some g)) := Lib.hid (fun g W h => dtext_any g _ _ W h)
  have hs3 : (g3 bs).1.size ≤ 65536 := textS_size _ _
  have HC4 : Hid (∀ W, Tabs W → Calls Tryd.prog 87 #[.slice (some ⟨W.heap.size, 0, none⟩) (g3 bs).1.size (grownCap W (g3 bs).1.size 0 5)] (Lib.bytesWorld W 5 (g3 bs).1) (LabsBelow (g4 bs).1 (g4 bs).2 (Lib.bytesWorld W 5 (g3 bs).1))) := Lib.hid (fun W hT' => by
    have h := readL_any (some ⟨W.heap.size, 0, none⟩) (grownCap W (g3 bs).1.size 0 5) (bytesOf (g3 bs).1) (Lib.bytesWorld W 5 (g3 bs).1) (hT'.below (bytes_below (Below.refl _ _) (Nat.le_refl _) 5 _)) (str_C W _ hs3) (by rw [bytesOf_length]; omega) (byt_bytesOf _)
    rw [bytesOf_length] at h
    exact h)
  have HC5 : Hid (∀ g W, DecAt W g (g3 bs).2.1 (g3 bs).2.2 → Calls Tryd.prog 88 #[.pointer (some ⟨g, 0, none⟩)] W fun e w' => e = .returned (.string (g5 bs).1) ∧ DecAt w' g (g5 bs).2.1 (g5 bs).2.2 ∧ W.grownBy w' (some g)) := Lib.hid (fun g W h => dtext_any g _ _ W h)
  have HC6 : Hid (∀ g W, DecAt W g (g5 bs).2.1 (g5 bs).2.2 → Calls Tryd.prog 89 #[.pointer (some ⟨g, 0, none⟩)] W fun e w' => e = .returned (.int .i64 (doneG (g5 bs).2.1 (g5 bs).2.2)) ∧ W = w') := Lib.hid (fun g W h => done_any g _ _ W h)
  have HC7 : Hid (∀ A c W, Tabs W → Kd.C k112 W A (g4 bs).1.length (g4 bs).1 → Calls Tryd.prog 29 #[.agg #[.int .i64 (g1 bs).1, .int .i64 (g2 bs).1, .slice A (g4 bs).1.length c, .string (g5 bs).1]] W (BoolBelow (rightE (getX bs)) W)) := Lib.hid (fun A c W h hC => rightE_any (getX bs) A c W h hC)
  have KB3 := fun W => print_bytes (P := Tryd.prog) 9 23 5 Tryd.underlying9 Tryd.underlying23 Tryd.underlying5 (g3 bs).1 W
  generalize getX bs = X at *
  generalize hd5 : doneG (g5 bs).2.1 (g5 bs).2.2 = dn at *
  clear hd5
  generalize g5 bs = G5 at *
  generalize g4 bs = G4 at *
  generalize g3 bs = G3 at *
  generalize g2 bs = G2 at *
  generalize g1 bs = G1 at *
  obtain ⟨v1, b1, e1⟩ := G1
  obtain ⟨v2, b2, e2⟩ := G2
  obtain ⟨s3, b3, e3⟩ := G3
  obtain ⟨ls, e4⟩ := G4
  obtain ⟨s5, b5, e5⟩ := G5
  simp only at HC1 HC2 HC3 HC4 HC5 HC6 HC7 KB3 HGX hs3
  have HB0 := Lib.hid hb0
  have HZ0 := Lib.hid hz0
  clear hT hr hl hB hb0 hz0
  go_enter Tryd.func27, Tryd.ntmps27
  go_wp2_with (first | (go_at_call 85; (with_reducible refine (HNW.out).mono ?_); rintro e w2 ⟨g, rfl, hg, hd, hb⟩; have HD2 := Lib.hid hd; have HG : Hid (w.heap.size < g) := Lib.hid (by have h1 : (w.alloc (.cells zC 33)).heap.size = w.heap.size + 1 := (by simp); omega); have HB2 := Lib.hid (below_then HB0.out HB0.out.size hb); have HZ2 := Lib.hid (blk_below HZ0.out hb); clear hd hb hg) | (go_at_call 86; (with_reducible refine (HC1.out _ _ HD2.out).mono ?_); rintro e w3 ⟨rfl, hd, hgr⟩; have HD3 := Lib.hid hd; have HB3 := Lib.hid (pw_below_grown HB2.out (some g) HB2.out.size hgr (fun k hk => by injection hk with hk; rw [← hk]; exact Nat.le_of_lt HG.out)); have HZ3 := Lib.hid (blk_grown HZ2.out hgr (by intro x; injection x with x; have := HG.out; omega)); clear hd hgr) | (go_at_call 86; (with_reducible refine (HC2.out _ _ HD3.out).mono ?_); rintro e w4 ⟨rfl, hd, hgr⟩; have HD4 := Lib.hid hd; have HB4 := Lib.hid (pw_below_grown HB3.out (some g) HB3.out.size hgr (fun k hk => by injection hk with hk; rw [← hk]; exact Nat.le_of_lt HG.out)); have HZ4 := Lib.hid (blk_grown HZ3.out hgr (by intro x; injection x with x; have := HG.out; omega)); clear hd hgr))
  obtain ⟨W, hW⟩ : ∃ W, W = w4.alloc (.cells #[.int .i64 v1, .int .i64 v2, .slice none 0 0, .string ⟨#[]⟩] 33) := ⟨_, rfl⟩
  rw [← hW]
  have HE : Hid (W.heap[w4.heap.size]? = some (.cells #[.int .i64 v1, .int .i64 v2, .slice none 0 0, .string ⟨#[]⟩] 33 (0, 0))) := Lib.hid (by rw [hW]; exact heap_alloc_new w4 _)
  have hbW : Below w4.heap.size w4 W := by rw [hW]; exact below_alloc (Below.refl _ _) _
  have HDW := Lib.hid (HD4.out.below hbW)
  have HZW := Lib.hid (blk_below HZ4.out hbW)
  have HBW := Lib.hid (below_step HB4.out hbW)
  have HLE := Lib.hid HD4.out.lt
  clear hW hbW
  generalize w4.heap.size = E at *
  by_cases h0 : dn = 0
  · subst h0
    cases hR : rightE X with
    | true =>
      have HF : Hid (getE bs = (X, 0)) := Lib.hid (by rw [HGE.out, if_neg (by simp [hR])])
      rw [hR] at HC7
      clear hR HGE
      go_wp2_with (first | (go_at_call 88; (with_reducible refine (HC3.out _ _ HDW.out).mono ?_); rintro e w5 ⟨rfl, hd, hgr⟩; have HD5 := Lib.hid hd; have HB5 := Lib.hid (pw_below_grown HBW.out (some g) HBW.out.size hgr (fun k hk => by injection hk with hk; rw [← hk]; exact Nat.le_of_lt HG.out)); have HZ5 := Lib.hid (blk_grown HZW.out hgr (by intro x; injection x with x; have := HG.out; omega)); have HE5 := Lib.hid (blk_grown HE.out hgr (by intro x; injection x with x; have := HLE.out; omega)); clear hd hgr) | (go_at_call 87; (with_reducible refine (HC4.out _ (HT.out.below HB5.out)).mono ?_); rintro e w6 ⟨v, rfl, ho, hb⟩; obtain ⟨Al, cl, hv⟩ := Kd.R_slice ho; subst hv; have hb6 := below_then (bytes_below (Below.refl _ w5) (Nat.le_refl _) 5 s3) (bytes_below (Below.refl _ w5) (Nat.le_refl _) 5 s3).size hb; have HB6 := Lib.hid (below_step HB5.out hb6); have HD6 := Lib.hid (HD5.out.below hb6); have HZ6 := Lib.hid (blk_below HZ5.out hb6); have HE6 := Lib.hid (blk_below HE5.out hb6); have HO6 := Lib.hid (Kd.R_lower ho (Nat.le_trans HB5.out.size (bytes_below (Below.refl _ w5) (Nat.le_refl _) 5 s3).size)); have f2 := blk_frozen HE6.out 2; have x2 := (blk_cell HE6.out 2).trans (rfl : _ = some (Value.slice none 0 0)); clear ho hb hb6) | (go_at_call 88; (with_reducible refine (HC5.out _ _ (HD6.out.set HLE.out)).mono ?_); rintro e w7 ⟨rfl, hd, hgr⟩; have HD7 := Lib.hid hd; have hb6 := below_set (j := 2) (v := .slice Al ls.length cl) HB6.out (Nat.le_of_lt (Nat.lt_trans HG.out HLE.out)); have HB7 := Lib.hid (pw_below_grown hb6 (some g) hb6.size hgr (fun k hk => by injection hk with hk; rw [← hk]; exact Nat.le_of_lt HG.out)); have HZ7 := Lib.hid (blk_grown (blk_far (p := ⟨E, 2, none⟩) HZ6.out (by have := HG.out; have := HLE.out; show w.heap.size ≠ E; omega) _) hgr (by intro x; injection x with x; have := HG.out; omega)); have HE7 := Lib.hid (blk_grown (blk_put HE6.out 2 (.slice Al ls.length cl) (cs' := #[.int .i64 v1, .int .i64 v2, .slice Al ls.length cl, .string ⟨#[]⟩]) rfl) hgr (by intro x; injection x with x; have := HLE.out; omega)); have HO7 := Lib.hid (labs_dec (labs_set HO6.out HE6.out) (HD6.out.set HLE.out) hgr); have f3 := blk_frozen HE7.out 3; have x3 := (blk_cell HE7.out 3).trans (rfl : _ = some (Value.string ⟨#[]⟩)); have HE8 := Lib.hid (blk_put HE7.out 3 (.string s5) (cs' := #[.int .i64 v1, .int .i64 v2, .slice Al ls.length cl, .string s5]) rfl); have HZ8 := Lib.hid (blk_far HZ7.out (p := ⟨E, 3, none⟩) (by have := HG.out; have := HLE.out; show w.heap.size ≠ E; omega) (.string s5)); have HO8 := Lib.hid (labs_set (i := 3) (u := .string s5) HO7.out HE7.out); have HD8 := Lib.hid (HD7.out.set (i := 3) (u := .string s5) HLE.out); have HB8 := Lib.hid (below_set (j := 3) (v := .string s5) HB7.out (Nat.le_of_lt (Nat.lt_trans HG.out HLE.out))); have c0 := (blk_cell HE8.out 0).trans (rfl : _ = some (Value.int .i64 v1)); have c1 := (blk_cell HE8.out 1).trans (rfl : _ = some (Value.int .i64 v2)); have c2 := (blk_cell HE8.out 2).trans (rfl : _ = some (Value.slice Al ls.length cl)); have c3 := (blk_cell HE8.out 3).trans (rfl : _ = some (Value.string s5));  clear hd hgr hb6) | (go_at_call 89; (with_reducible refine (HC6.out _ _ HD8.out).mono ?_); rintro e w8 ⟨rfl, rfl⟩) | (go_at_call 29; (with_reducible refine (HC7.out _ _ _ (HT.out.below HB8.out) (Kd.R_reads' HO8.out).2.2).mono ?_); rintro e w9 ⟨rfl, hb⟩; have HB9 := Lib.hid (below_step HB8.out hb); have HO9 := Lib.hid (Kd.R_below HO8.out hb); have HZ9 := Lib.hid (blk_below HZ8.out hb); have HE9 := Lib.hid (blk_below HE8.out hb); have d0 := (blk_cell HE9.out 0).trans (rfl : _ = some (Value.int .i64 v1)); have d1 := (blk_cell HE9.out 1).trans (rfl : _ = some (Value.int .i64 v2)); have d2 := (blk_cell HE9.out 2).trans (rfl : _ = some (Value.slice Al ls.length cl)); have d3 := (blk_cell HE9.out 3).trans (rfl : _ = some (Value.string s5)); have y0 := blk_frozen HZ9.out 0; have z0 := (blk_cell HZ9.out 0).trans (rfl : _ = some (Value.int .i64 0)); have y1 := blk_frozen HZ9.out 1; have z1 := (blk_cell HZ9.out 1).trans (rfl : _ = some (Value.int .i64 0)); have y2 := blk_frozen HZ9.out 2; have z2 := (blk_cell HZ9.out 2).trans (rfl : _ = some (Value.slice none 0 0)); have y3 := blk_frozen HZ9.out 3; have z3 := (blk_cell HZ9.out 3).trans (rfl : _ = some (Value.string ⟨#[]⟩)); clear hb c0 c1 c2 c3))
      have q0 := blk_put HZ9.out 0 (Value.int .i64 v1) (cs' := #[Value.int .i64 v1, Value.int .i64 0, Value.slice none 0 0, Value.string ⟨#[]⟩]) rfl
      have q1 := blk_put q0 1 (Value.int .i64 v2) (cs' := #[Value.int .i64 v1, Value.int .i64 v2, Value.slice none 0 0, Value.string ⟨#[]⟩]) rfl
      have q2 := blk_put q1 2 (Value.slice Al ls.length cl) (cs' := #[Value.int .i64 v1, Value.int .i64 v2, Value.slice Al ls.length cl, Value.string ⟨#[]⟩]) rfl
      have q3 := blk_put q2 3 (Value.string s5) (cs' := #[Value.int .i64 v1, Value.int .i64 v2, Value.slice Al ls.length cl, Value.string s5]) rfl
      have hB := below_set (j := 3) (v := Value.string s5) (below_set (j := 2) (v := Value.slice Al ls.length cl) (below_set (j := 1) (v := Value.int .i64 v2) (below_set (j := 0) (v := Value.int .i64 v1) HB9.out (Nat.le_refl _)) (Nat.le_refl _)) (Nat.le_refl _)) (Nat.le_refl _)
      refine bodyPost_ret (results_ct (P := Tryd.prog) rfl _ _ w.heap.size 33 #[Value.int .i64 v1, Value.int .i64 v2, Value.slice Al ls.length cl, Value.string s5] (0, 0) _ rfl q3 Tryd.underlying33 rfl (by kernel_rfl)) rfl ?_
      have hL := labs_set (i := 3) (u := Value.string s5) (labs_set (i := 2) (u := Value.slice Al ls.length cl) (labs_set (i := 1) (u := Value.int .i64 v2) (labs_set (i := 0) (u := Value.int .i64 v1) HO9.out HZ9.out) q0) q1) q2
      have hX := HGX.out
      subst hX
      exact ⟨Al, cl, by rw [HF.out]; rfl, by rw [HF.out]; exact hL, hB⟩
    | false =>
      have HF : Hid (getE bs = (z33, 21)) := Lib.hid (by rw [HGE.out, if_pos (.inr hR)])
      rw [hR] at HC7
      clear hR HGE
      go_wp2_with (first | (go_at_call 88; (with_reducible refine (HC3.out _ _ HDW.out).mono ?_); rintro e w5 ⟨rfl, hd, hgr⟩; have HD5 := Lib.hid hd; have HB5 := Lib.hid (pw_below_grown HBW.out (some g) HBW.out.size hgr (fun k hk => by injection hk with hk; rw [← hk]; exact Nat.le_of_lt HG.out)); have HZ5 := Lib.hid (blk_grown HZW.out hgr (by intro x; injection x with x; have := HG.out; omega)); have HE5 := Lib.hid (blk_grown HE.out hgr (by intro x; injection x with x; have := HLE.out; omega)); clear hd hgr) | (go_at_call 87; (with_reducible refine (HC4.out _ (HT.out.below HB5.out)).mono ?_); rintro e w6 ⟨v, rfl, ho, hb⟩; obtain ⟨Al, cl, hv⟩ := Kd.R_slice ho; subst hv; have hb6 := below_then (bytes_below (Below.refl _ w5) (Nat.le_refl _) 5 s3) (bytes_below (Below.refl _ w5) (Nat.le_refl _) 5 s3).size hb; have HB6 := Lib.hid (below_step HB5.out hb6); have HD6 := Lib.hid (HD5.out.below hb6); have HZ6 := Lib.hid (blk_below HZ5.out hb6); have HE6 := Lib.hid (blk_below HE5.out hb6); have HO6 := Lib.hid (Kd.R_lower ho (Nat.le_trans HB5.out.size (bytes_below (Below.refl _ w5) (Nat.le_refl _) 5 s3).size)); have f2 := blk_frozen HE6.out 2; have x2 := (blk_cell HE6.out 2).trans (rfl : _ = some (Value.slice none 0 0)); clear ho hb hb6) | (go_at_call 88; (with_reducible refine (HC5.out _ _ (HD6.out.set HLE.out)).mono ?_); rintro e w7 ⟨rfl, hd, hgr⟩; have HD7 := Lib.hid hd; have hb6 := below_set (j := 2) (v := .slice Al ls.length cl) HB6.out (Nat.le_of_lt (Nat.lt_trans HG.out HLE.out)); have HB7 := Lib.hid (pw_below_grown hb6 (some g) hb6.size hgr (fun k hk => by injection hk with hk; rw [← hk]; exact Nat.le_of_lt HG.out)); have HZ7 := Lib.hid (blk_grown (blk_far (p := ⟨E, 2, none⟩) HZ6.out (by have := HG.out; have := HLE.out; show w.heap.size ≠ E; omega) _) hgr (by intro x; injection x with x; have := HG.out; omega)); have HE7 := Lib.hid (blk_grown (blk_put HE6.out 2 (.slice Al ls.length cl) (cs' := #[.int .i64 v1, .int .i64 v2, .slice Al ls.length cl, .string ⟨#[]⟩]) rfl) hgr (by intro x; injection x with x; have := HLE.out; omega)); have HO7 := Lib.hid (labs_dec (labs_set HO6.out HE6.out) (HD6.out.set HLE.out) hgr); have f3 := blk_frozen HE7.out 3; have x3 := (blk_cell HE7.out 3).trans (rfl : _ = some (Value.string ⟨#[]⟩)); have HE8 := Lib.hid (blk_put HE7.out 3 (.string s5) (cs' := #[.int .i64 v1, .int .i64 v2, .slice Al ls.length cl, .string s5]) rfl); have HZ8 := Lib.hid (blk_far HZ7.out (p := ⟨E, 3, none⟩) (by have := HG.out; have := HLE.out; show w.heap.size ≠ E; omega) (.string s5)); have HO8 := Lib.hid (labs_set (i := 3) (u := .string s5) HO7.out HE7.out); have HD8 := Lib.hid (HD7.out.set (i := 3) (u := .string s5) HLE.out); have HB8 := Lib.hid (below_set (j := 3) (v := .string s5) HB7.out (Nat.le_of_lt (Nat.lt_trans HG.out HLE.out))); have c0 := (blk_cell HE8.out 0).trans (rfl : _ = some (Value.int .i64 v1)); have c1 := (blk_cell HE8.out 1).trans (rfl : _ = some (Value.int .i64 v2)); have c2 := (blk_cell HE8.out 2).trans (rfl : _ = some (Value.slice Al ls.length cl)); have c3 := (blk_cell HE8.out 3).trans (rfl : _ = some (Value.string s5));  clear hd hgr hb6) | (go_at_call 89; (with_reducible refine (HC6.out _ _ HD8.out).mono ?_); rintro e w8 ⟨rfl, rfl⟩) | (go_at_call 29; (with_reducible refine (HC7.out _ _ _ (HT.out.below HB8.out) (Kd.R_reads' HO8.out).2.2).mono ?_); rintro e w9 ⟨rfl, hb⟩; have HB9 := Lib.hid (below_step HB8.out hb); have HO9 := Lib.hid (Kd.R_below HO8.out hb); have HZ9 := Lib.hid (blk_below HZ8.out hb); have HE9 := Lib.hid (blk_below HE8.out hb); have d0 := (blk_cell HE9.out 0).trans (rfl : _ = some (Value.int .i64 v1)); have d1 := (blk_cell HE9.out 1).trans (rfl : _ = some (Value.int .i64 v2)); have d2 := (blk_cell HE9.out 2).trans (rfl : _ = some (Value.slice Al ls.length cl)); have d3 := (blk_cell HE9.out 3).trans (rfl : _ = some (Value.string s5)); have y0 := blk_frozen HZ9.out 0; have z0 := (blk_cell HZ9.out 0).trans (rfl : _ = some (Value.int .i64 0)); have y1 := blk_frozen HZ9.out 1; have z1 := (blk_cell HZ9.out 1).trans (rfl : _ = some (Value.int .i64 0)); have y2 := blk_frozen HZ9.out 2; have z2 := (blk_cell HZ9.out 2).trans (rfl : _ = some (Value.slice none 0 0)); have y3 := blk_frozen HZ9.out 3; have z3 := (blk_cell HZ9.out 3).trans (rfl : _ = some (Value.string ⟨#[]⟩)); clear hb c0 c1 c2 c3))
      have q0 := blk_put HZ9.out 0 (Value.int .i64 0) (cs' := #[Value.int .i64 0, Value.int .i64 0, Value.slice none 0 0, Value.string ⟨#[]⟩]) rfl
      have q1 := blk_put q0 1 (Value.int .i64 0) (cs' := #[Value.int .i64 0, Value.int .i64 0, Value.slice none 0 0, Value.string ⟨#[]⟩]) rfl
      have q2 := blk_put q1 2 (Value.slice none 0 0) (cs' := #[Value.int .i64 0, Value.int .i64 0, Value.slice none 0 0, Value.string ⟨#[]⟩]) rfl
      have q3 := blk_put q2 3 (Value.string ⟨#[]⟩) (cs' := #[Value.int .i64 0, Value.int .i64 0, Value.slice none 0 0, Value.string ⟨#[]⟩]) rfl
      have hB := below_set (j := 3) (v := Value.string ⟨#[]⟩) (below_set (j := 2) (v := Value.slice none 0 0) (below_set (j := 1) (v := Value.int .i64 0) (below_set (j := 0) (v := Value.int .i64 0) HB9.out (Nat.le_refl _)) (Nat.le_refl _)) (Nat.le_refl _)) (Nat.le_refl _)
      refine bodyPost_ret (results_ct (P := Tryd.prog) rfl _ _ w.heap.size 33 #[Value.int .i64 0, Value.int .i64 0, Value.slice none 0 0, Value.string ⟨#[]⟩] (0, 0) _ rfl q3 Tryd.underlying33 rfl (by kernel_rfl)) rfl ?_
      exact ⟨none, 0, by rw [HF.out]; rfl, by rw [HF.out]; exact Kd.R_nil _ _ _ _ _, hB⟩
  · have HF : Hid (getE bs = (z33, 21)) := Lib.hid (by rw [HGE.out, if_pos (.inl h0)])
    have hne : (dn != 0) = true := by simp [h0]
    clear h0 HGE
    go_wp2_with (first | (go_at_call 88; (with_reducible refine (HC3.out _ _ HDW.out).mono ?_); rintro e w5 ⟨rfl, hd, hgr⟩; have HD5 := Lib.hid hd; have HB5 := Lib.hid (pw_below_grown HBW.out (some g) HBW.out.size hgr (fun k hk => by injection hk with hk; rw [← hk]; exact Nat.le_of_lt HG.out)); have HZ5 := Lib.hid (blk_grown HZW.out hgr (by intro x; injection x with x; have := HG.out; omega)); have HE5 := Lib.hid (blk_grown HE.out hgr (by intro x; injection x with x; have := HLE.out; omega)); clear hd hgr) | (go_at_call 87; (with_reducible refine (HC4.out _ (HT.out.below HB5.out)).mono ?_); rintro e w6 ⟨v, rfl, ho, hb⟩; obtain ⟨Al, cl, hv⟩ := Kd.R_slice ho; subst hv; have hb6 := below_then (bytes_below (Below.refl _ w5) (Nat.le_refl _) 5 s3) (bytes_below (Below.refl _ w5) (Nat.le_refl _) 5 s3).size hb; have HB6 := Lib.hid (below_step HB5.out hb6); have HD6 := Lib.hid (HD5.out.below hb6); have HZ6 := Lib.hid (blk_below HZ5.out hb6); have HE6 := Lib.hid (blk_below HE5.out hb6); have HO6 := Lib.hid (Kd.R_lower ho (Nat.le_trans HB5.out.size (bytes_below (Below.refl _ w5) (Nat.le_refl _) 5 s3).size)); have f2 := blk_frozen HE6.out 2; have x2 := (blk_cell HE6.out 2).trans (rfl : _ = some (Value.slice none 0 0)); clear ho hb hb6) | (go_at_call 88; (with_reducible refine (HC5.out _ _ (HD6.out.set HLE.out)).mono ?_); rintro e w7 ⟨rfl, hd, hgr⟩; have HD7 := Lib.hid hd; have hb6 := below_set (j := 2) (v := .slice Al ls.length cl) HB6.out (Nat.le_of_lt (Nat.lt_trans HG.out HLE.out)); have HB7 := Lib.hid (pw_below_grown hb6 (some g) hb6.size hgr (fun k hk => by injection hk with hk; rw [← hk]; exact Nat.le_of_lt HG.out)); have HZ7 := Lib.hid (blk_grown (blk_far (p := ⟨E, 2, none⟩) HZ6.out (by have := HG.out; have := HLE.out; show w.heap.size ≠ E; omega) _) hgr (by intro x; injection x with x; have := HG.out; omega)); have HE7 := Lib.hid (blk_grown (blk_put HE6.out 2 (.slice Al ls.length cl) (cs' := #[.int .i64 v1, .int .i64 v2, .slice Al ls.length cl, .string ⟨#[]⟩]) rfl) hgr (by intro x; injection x with x; have := HLE.out; omega)); have HO7 := Lib.hid (labs_dec (labs_set HO6.out HE6.out) (HD6.out.set HLE.out) hgr); have f3 := blk_frozen HE7.out 3; have x3 := (blk_cell HE7.out 3).trans (rfl : _ = some (Value.string ⟨#[]⟩)); have HE8 := Lib.hid (blk_put HE7.out 3 (.string s5) (cs' := #[.int .i64 v1, .int .i64 v2, .slice Al ls.length cl, .string s5]) rfl); have HZ8 := Lib.hid (blk_far HZ7.out (p := ⟨E, 3, none⟩) (by have := HG.out; have := HLE.out; show w.heap.size ≠ E; omega) (.string s5)); have HO8 := Lib.hid (labs_set (i := 3) (u := .string s5) HO7.out HE7.out); have HD8 := Lib.hid (HD7.out.set (i := 3) (u := .string s5) HLE.out); have HB8 := Lib.hid (below_set (j := 3) (v := .string s5) HB7.out (Nat.le_of_lt (Nat.lt_trans HG.out HLE.out))); have c0 := (blk_cell HE8.out 0).trans (rfl : _ = some (Value.int .i64 v1)); have c1 := (blk_cell HE8.out 1).trans (rfl : _ = some (Value.int .i64 v2)); have c2 := (blk_cell HE8.out 2).trans (rfl : _ = some (Value.slice Al ls.length cl)); have c3 := (blk_cell HE8.out 3).trans (rfl : _ = some (Value.string s5));  have y0 := blk_frozen HZ8.out 0; have z0 := (blk_cell HZ8.out 0).trans (rfl : _ = some (Value.int .i64 0)); have y1 := blk_frozen HZ8.out 1; have z1 := (blk_cell HZ8.out 1).trans (rfl : _ = some (Value.int .i64 0)); have y2 := blk_frozen HZ8.out 2; have z2 := (blk_cell HZ8.out 2).trans (rfl : _ = some (Value.slice none 0 0)); have y3 := blk_frozen HZ8.out 3; have z3 := (blk_cell HZ8.out 3).trans (rfl : _ = some (Value.string ⟨#[]⟩)); clear hd hgr hb6) | (go_at_call 89; (with_reducible refine (HC6.out _ _ HD8.out).mono ?_); rintro e w8 ⟨rfl, rfl⟩))
    have q0 := blk_put HZ8.out 0 (Value.int .i64 0) (cs' := #[Value.int .i64 0, Value.int .i64 0, Value.slice none 0 0, Value.string ⟨#[]⟩]) rfl
    have q1 := blk_put q0 1 (Value.int .i64 0) (cs' := #[Value.int .i64 0, Value.int .i64 0, Value.slice none 0 0, Value.string ⟨#[]⟩]) rfl
    have q2 := blk_put q1 2 (Value.slice none 0 0) (cs' := #[Value.int .i64 0, Value.int .i64 0, Value.slice none 0 0, Value.string ⟨#[]⟩]) rfl
    have q3 := blk_put q2 3 (Value.string ⟨#[]⟩) (cs' := #[Value.int .i64 0, Value.int .i64 0, Value.slice none 0 0, Value.string ⟨#[]⟩]) rfl
    have hB := below_set (j := 3) (v := Value.string ⟨#[]⟩) (below_set (j := 2) (v := Value.slice none 0 0) (below_set (j := 1) (v := Value.int .i64 0) (below_set (j := 0) (v := Value.int .i64 0) HB8.out (Nat.le_refl _)) (Nat.le_refl _)) (Nat.le_refl _)) (Nat.le_refl _)
    refine bodyPost_ret (results_ct (P := Tryd.prog) rfl _ _ w.heap.size 33 #[Value.int .i64 0, Value.int .i64 0, Value.slice none 0 0, Value.string ⟨#[]⟩] (0, 0) _ rfl q3 Tryd.underlying33 rfl (by kernel_rfl)) rfl ?_
    exact ⟨none, 0, by rw [HF.out]; rfl, by rw [HF.out]; exact Kd.R_nil _ _ _ _ _, hB⟩
end Go.Proofs.YtojocffjajcdmaaDoor
namespace Go.Proofs.YtojocffjajcdmaaDoor
open Go.RowKit Go.Proofs.YtojocffjajcdmaaDoorW.PrintWords Go.Proofs.YtojocffjajcdmaaDoorW.PrintLast Go.Proofs.YtojocffjajcdmaaDoorW.PrintMore PChunkAll
set_option linter.unusedVariables false
set_option linter.unusedSimpArgs false

/-- The reference's number at place p of all. -/
def rnumG (all : List Int) (p : Nat) : Int × Int × Int := ((numG (all.drop p)).1, if (numG (all.drop p)).2.2 = 0 then ((p + (numG (all.drop p)).2.1 : Nat) : Int) else 0, (numG (all.drop p)).2.2)
theorem wrap_u64_small (x : Int) (h0 : 0 ≤ x) (h1 : x < 1000) : IntKind.u64.wrap x = x := by
  have h2 : x % 18446744073709551616 = x := Int.emod_eq_of_lt h0 (by omega)
  simp [IntKind.wrap, IntKind.bits, IntKind.signed, h2]
theorem wrap64_nat (n : Nat) (h : n < 9223372036854775808) : wrap64 (n : Int) = (n : Int) := by unfold wrap64; omega
theorem num_bnd (acc Z P M : Nat) (h1 : acc < P) (h2 : Z ≤ 127 * P) (h3 : P ≤ 562949953421312) (hM : M = acc + Z) : Z < 9223372036854775808 ∧ M < 9223372036854775808 := by omega
theorem wrap64_byte (b : Int) (h : 0 ≤ b ∧ b < 256) : wrap64 b = b := by unfold wrap64; omega
theorem wrap64_two (p i : Nat) (h : p + i < 9223372036854775808) : wrap64 ((p : Int) + (i : Int)) = (p : Int) + (i : Int) := by unfold wrap64; omega
def RNumRel (bs : List Int) (w : World) (v2 v6 : Value) (wr : World) : Prop :=
  ∃ i acc : Nat, v2 = .int .i64 (acc : Int) ∧ v6 = .int .i64 (i : Int) ∧ i ≤ 8 ∧ acc < 128 ^ i ∧ numG bs = numA (8 - i) i acc (bs.drop i) ∧ wr = w

set_option maxHeartbeats 4000000 in
set_option maxRecDepth 100000 in
theorem rnumber_in (A : Option Addr) (c : Nat) (all : List Int) (p : Nat) (w : World) (hr : Kd.C KB w A all.length all) (hB : Byt all) (hp : p ≤ all.length) (hlb : all.length ≤ 140737488355328) : Calls Tryd.prog 140 #[.slice A all.length c, .int .i64 (p : Int)] w fun e w' => e = .returned (.tuple #[.int .i64 (rnumG all p).1, .int .i64 (rnumG all p).2.1, .int .i64 (rnumG all p).2.2]) ∧ w = w' := by
  have hmax := Kd.C_max hr
  have hpp : p ≤ all.length := hp
  have HRG : Hid (rnumG all p = ((numG (all.drop p)).1, if (numG (all.drop p)).2.2 = 0 then ((p + (numG (all.drop p)).2.1 : Nat) : Int) else 0, (numG (all.drop p)).2.2)) := Lib.hid rfl
  obtain ⟨bs, hbs⟩ : ∃ bs, bs = all.drop p := ⟨_, rfl⟩
  have HBL : Hid (bs.length = all.length - p) := Lib.hid (by rw [hbs, List.length_drop])
  have HBG : Hid (∀ i, bs.getD i 0 = all.getD (p + i) 0) := Lib.hid (fun i => by rw [hbs]; simp [List.getD_eq_getElem?_getD, List.getElem?_drop])
  have HBB : Hid (Byt bs) := Lib.hid (by rw [hbs]; exact hB.drop p)
  rw [← hbs] at HRG
  have HR := Lib.hid hr
  have HBY := Lib.hid hB
  have HLB := Lib.hid hlb
  clear hr hB hp hbs hlb
  go_enter Tryd.func140, Tryd.ntmps140
  go_wp2
  go_loopw [7, 8] (fun v2 v6 wr => RNumRel bs w v2 v6 wr) (fun _ v6 _ => 8 - (intOf v6).toNat)
  case atStart => exact ⟨0, 0, rfl, rfl, by omega, by decide, rfl, rfl⟩
  case round =>
    obtain ⟨i, acc, rfl, rfl, hi8, hacc, hnum, rfl⟩ := hrel
    have HN := Lib.hid hnum
    have HA := Lib.hid hacc
    clear hnum hacc
    by_cases hlt : i < 8
    · have HBLo := HBL.out
      obtain ⟨k, hk⟩ : ∃ k, 8 - i = k + 1 := ⟨7 - i, by omega⟩
      rw [hk] at HN
      have hki : (i : Int) < 8 := by omega
      have hw0 : wrap64 ((p : Int) + (i : Int)) = (p : Int) + (i : Int) := wrap64_two p i (by have := HLB.out; omega)
      by_cases hl : i < bs.length
      · have hli : ¬ (all.length : Int) ≤ (p : Int) + (i : Int) := by omega
        obtain ⟨ad, rfl, hc⟩ := byte_at HR.out (p + i) (by omega)
        have hb := HBB.out.get i hl
        rw [← HBG.out i] at hc
        rw [drop_at' bs i hl, numA] at HN
        generalize bs.getD i 0 = b at *
        obtain ⟨q, hq⟩ : ∃ q : Nat, q = (b % 128).toNat := ⟨_, rfl⟩
        have hqb : (q : Int) = b % 128 := by omega
        have hq128 : q < 128 := by omega
        rw [← hq] at HN
        have hp : 128 ^ i ≤ 128 ^ 7 := Nat.pow_le_pow_right (by decide) (by omega)
        have hp2 : (128 : Nat) ^ 7 = 562949953421312 := by decide
        have hpw : (2 : Int) ^ (7 * (i : Int)).toNat = ((128 ^ i : Nat) : Int) := by
          rw [show (7 * (i : Int)).toNat = 7 * i by omega, Int.pow_mul]; norm_cast
        have htm : Int.tmod b 128 = (q : Int) := by rw [hqb]; exact Int.tmod_eq_emod_of_nonneg hb.1
        have hacc' : acc + q * 128 ^ i < 128 ^ (i + 1) := by
          have := HA.out
          have hm : q * 128 ^ i ≤ 127 * 128 ^ i := Nat.mul_le_mul_right _ (by omega)
          rw [Nat.pow_succ]
          omega
        have hm : q * 128 ^ i ≤ 127 * 128 ^ i := Nat.mul_le_mul_right _ (by omega)
        generalize hP : 128 ^ i = P at *
        have hcv : IntKind.i64.wrap b = b := by rw [IntWalk.i64_in _ ⟨by omega, by omega⟩]
        have hcv2 : wrap64 b = b := wrap64_byte b hb
        have hu7 : IntKind.u64.wrap (7 * (i : Int)) = 7 * (i : Int) := wrap_u64_small _ (by omega) (by omega)
        have h7 : IntKind.i64.wrap (7 * (i : Int)) = 7 * (i : Int) := by rw [IntWalk.i64_in _ ⟨by omega, by omega⟩]
        have hs0 : 0 ≤ 7 * (i : Int) := by omega
        have hs1 : 7 * (i : Int) ≤ 64 := by omega
        obtain ⟨Z, hZ⟩ : ∃ Z : Nat, Z = q * P := ⟨_, rfl⟩
        rw [← hZ] at hacc' hm HN
        obtain ⟨M, hM⟩ : ∃ M : Nat, M = acc + Z := ⟨_, rfl⟩
        have hbnd := num_bnd acc Z P M HA.out hm (by rw [← hp2]; exact hp) hM
        have hsum : wrap64 ((acc : Int) + (Z : Int)) = (M : Int) := by rw [show (acc : Int) + (Z : Int) = (M : Int) by rw [hM]; norm_cast]; exact wrap64_nat M hbnd.2
        rw [← hM] at hacc' HN
        have hsh : wrap64 ((q : Int) * (P : Int)) = (Z : Int) := by
          rw [show (q : Int) * (P : Int) = (Z : Int) by rw [hZ]; norm_cast]
          exact wrap64_nat Z hbnd.1
        have HQ := Lib.hid hq
        have HAC := Lib.hid hacc'
        have HK := Lib.hid hk
        clear hq hqb hZ hM hm hacc' hk hp hp2 hP hbnd
        by_cases hb128 : b < 128
        · rw [if_pos hb128] at HN
          have d1 : decide (b < 128) = true := decide_eq_true hb128
          clear hb128
          by_cases hi0 : i = 0
          · have HE : Hid (numG bs = ((M : Int), i + 1, 0)) := Lib.hid (by rw [HN.out, if_neg (by omega)])
            have d2 : decide ((0 : Int) < (i : Int)) = false := decide_eq_false (by omega)
            have d3 : decide (0 < i) = false := decide_eq_false (by omega)
            clear hb HN hi0
            go_wp2
            all_goals go_ret3
            all_goals exact ⟨by rw [HRG.out, HE.out]; first | rfl | (simp; done) | (simp; omega), rfl⟩
          · have d2 : decide ((0 : Int) < (i : Int)) = true := decide_eq_true (by omega)
            have d3 : decide (0 < i) = true := decide_eq_true (by omega)
            by_cases hb0 : b = 0
            · have HE : Hid (numG bs = (0, 0, 21)) := Lib.hid (by rw [HN.out, if_pos ⟨by omega, hb0⟩])
              have e1 : (b == 0) = true := by simp [hb0]
              have e2 : decide (b = 0) = true := decide_eq_true hb0
              clear hb0 hb HN
              go_wp2
              go_ret3
              exact ⟨by rw [HRG.out, HE.out]; first | rfl | (simp; done), rfl⟩
            · have HE : Hid (numG bs = ((M : Int), i + 1, 0)) := Lib.hid (by rw [HN.out, if_neg (fun h => hb0 h.2)])
              have e1 : (b == 0) = false := by simp [hb0]
              have e2 : decide (b = 0) = false := decide_eq_false hb0
              clear hb0 hb HN
              go_wp2
              go_ret3
              exact ⟨by rw [HRG.out, HE.out]; first | rfl | (simp; done) | (simp; omega), rfl⟩
        · rw [if_neg hb128] at HN
          have d1 : decide (b < 128) = false := decide_eq_false hb128
          clear hb128 hb
          go_wp2
          go_roundw
          case rel => exact ⟨i + 1, M, by first | rfl | rw [hsum], by go_num, by omega, HAC.out, by rw [HN.out, show 8 - (i + 1) = k by have := HK.out; omega], rfl⟩
          case measure => simp [intOf]; omega
      · have hli : (all.length : Int) ≤ (p : Int) + (i : Int) := by omega
        have HE : Hid (numG bs = (0, 0, 20)) := Lib.hid (by rw [HN.out, List.drop_eq_nil_of_le (by omega)]; rfl)
        go_wp2
        go_ret3
        exact ⟨by rw [HRG.out, HE.out]; first | rfl | (simp; done), rfl⟩
    · have hki : ¬ (i : Int) < 8 := by omega
      have HE : Hid (numG bs = (0, 0, 21)) := Lib.hid (by rw [HN.out, show 8 - i = 0 by omega]; rfl)
      go_wp2
      go_ret3
      exact ⟨by rw [HRG.out, HE.out]; first | rfl | (simp; done), rfl⟩
end Go.Proofs.YtojocffjajcdmaaDoor
namespace Go.Proofs.YtojocffjajcdmaaDoor
open Go.RowKit Go.Proofs.YtojocffjajcdmaaDoorW.PrintWords Go.Proofs.YtojocffjajcdmaaDoorW.PrintLast Go.Proofs.YtojocffjajcdmaaDoorW.PrintMore PChunkAll
set_option linter.unusedVariables false
set_option linter.unusedSimpArgs false

theorem numA_err (k i acc : Nat) (bs : List Int) (h : (numA k i acc bs).2.2 ≠ 0) : (numA k i acc bs).1 = 0 ∧ (numA k i acc bs).2.1 = 0 := by
  induction k generalizing i acc bs with
  | zero => exact ⟨rfl, rfl⟩
  | succ k ih =>
    cases bs with
    | nil => exact ⟨rfl, rfl⟩
    | cons b bs =>
      rw [numA] at h ⊢
      split
      · split
        · exact ⟨rfl, rfl⟩
        · rename_i h1 h2
          rw [if_pos h1, if_neg h2] at h
          exact absurd rfl h
      · rename_i h1
        rw [if_neg h1] at h
        exact ih _ _ _ h
theorem numG_err (bs : List Int) (h : (numG bs).2.2 ≠ 0) : (numG bs).1 = 0 ∧ (numG bs).2.1 = 0 := numA_err 8 0 0 bs h

/-! ### The reference's decoder: a block of three cells: all bytes, the place, the fault -/
def RefAt (w : World) (g : Nat) (bs : List Int) (er : Int) : Prop :=
  ∃ A c all, ∃ p : Nat, w.heap[g]? = some (.cells #[.slice A all.length c, .int .i64 (p : Int), .int .i64 er] 162 (0, 0)) ∧ p ≤ all.length ∧ all.drop p = bs ∧ all.length ≤ c ∧ Kd.C KB w A all.length all ∧ (∀ ad, A = some ad → ad.block < g) ∧ Byt all ∧ all.length ≤ 140737488355328
/-- .. with the bytes and the place by name. -/
def RefIn (w : World) (g : Nat) (A : Option Addr) (c : Nat) (all : List Int) (p : Nat) (er : Int) : Prop :=
  w.heap[g]? = some (.cells #[.slice A all.length c, .int .i64 (p : Int), .int .i64 er] 162 (0, 0)) ∧ p ≤ all.length ∧ all.length ≤ c ∧ Kd.C KB w A all.length all ∧ (∀ ad, A = some ad → ad.block < g) ∧ Byt all ∧ all.length ≤ 140737488355328
theorem RefIn.at {w : World} {g : Nat} {A : Option Addr} {c : Nat} {all : List Int} {p : Nat} {er : Int} (h : RefIn w g A c all p er) : RefAt w g (all.drop p) er := by
  obtain ⟨h1, h2, h4, h5, h6, h7, h8⟩ := h
  exact ⟨A, c, all, p, h1, h2, rfl, h4, h5, h6, h7, h8⟩
theorem RefAt.lt {w : World} {g : Nat} {bs : List Int} {er : Int} (h : RefAt w g bs er) : g < w.heap.size := by
  obtain ⟨A, c, all, p, h1, _⟩ := h
  exact blk_lt h1
theorem RefAt.below {w w' : World} {g : Nat} {bs : List Int} {er : Int} (h : RefAt w g bs er) (hb : Below w.heap.size w w') : RefAt w' g bs er := by
  obtain ⟨A, c, all, p, h1, h2, h3, h4, h5, h6⟩ := h
  exact ⟨A, c, all, p, blk_below h1 hb, h2, h3, h4, Kd.C_below h5 hb, h6⟩
theorem RefAt.low {w w' : World} {g : Nat} {bs : List Int} {er : Int} (h : RefAt w g bs er) (hb : Below (g + 1) w w') : RefAt w' g bs er := by
  obtain ⟨A, c, all, p, h1, h2, h3, h4, h5, h6, h7⟩ := h
  exact ⟨A, c, all, p, (hb.block g (by omega)).trans h1, h2, h3, h4, C_old h5 h6 (fun k hk => hb.block k (by omega)), h6, h7⟩
theorem RefAt.grown {w w' : World} {g e : Nat} {bs : List Int} {er : Int} (h : RefAt w g bs er) (hg : w.grownBy w' (some e)) (he : g < e) : RefAt w' g bs er := by
  obtain ⟨A, c, all, p, h1, h2, h3, h4, h5, h6, h7⟩ := h
  have hlt := blk_lt h1
  have hk : ∀ k, k ≤ g → w'.heap[k]? = w.heap[k]? := fun k hk => hg.block k (by omega) (by intro x; injection x with x; omega)
  exact ⟨A, c, all, p, (hk g (Nat.le_refl _)).trans h1, h2, h3, h4, C_old h5 h6 (fun k h => hk k (by omega)), h6, h7⟩
theorem RefAt.set {w : World} {g E i : Nat} {bs : List Int} {er : Int} {u : Value} (h : RefAt w g bs er) (hE : g < E) : RefAt (w.setCell ⟨E, i, none⟩ u) g bs er := h.grown (set_grown (World.grownBy.refl w (some E)) i u) hE
/-- The block anew: another place, another fault. -/
theorem ref_end {w W : World} {g : Nat} {A : Option Addr} {c p : Nat} {all : List Int} {e : Int} (hg : g < w.heap.size) (hp : p ≤ all.length) (h4 : all.length ≤ c) (h5 : Kd.C KB w A all.length all) (h6 : ∀ ad, A = some ad → ad.block < g) (h7 : Byt all) (h8 : all.length ≤ 140737488355328)
    (hb : W.heap[g]? = some (.cells #[.slice A all.length c, .int .i64 (p : Int), .int .i64 e] 162 (0, 0))) (hgr : w.grownBy W (some g)) : RefIn W g A c all p e ∧ w.grownBy W (some g) := by
  refine ⟨⟨hb, hp, h4, C_old h5 h6 (fun k hk => hgr.block k ?_ ?_), h6, h7, h8⟩, hgr⟩
  · exact Nat.lt_trans hk hg
  · intro x; injection x with x; omega
theorem drewN_grown {w W : World} {r : Option Nat} (h : w.grownBy W r) (n : Nat) : w.grownBy (W.drewN n) r := ⟨h.os, h.tape, h.output, h.size, h.block⟩
def RNewBelow (bs : List Int) (w : World) (e : Ending) (w' : World) : Prop := ∃ g, e = .returned (.pointer (some ⟨g, 0, none⟩)) ∧ w.heap.size ≤ g ∧ RefAt w' g bs 0 ∧ Below w.heap.size w w'
set_option maxHeartbeats 2000000 in
set_option maxRecDepth 100000 in
theorem rnew_any (A : Option Addr) (c : Nat) (bs : List Int) (w : World) (hr : Kd.C KB w A bs.length bs) (hl : bs.length ≤ 140737488355328) (hB : Byt bs) : Calls Tryd.prog 90 #[.slice A bs.length c] w (RNewBelow bs w) := by
  have HR := Lib.hid hr
  have HL := Lib.hid hl
  have HBY := Lib.hid hB
  clear hr hl hB
  go_enter Tryd.func90, Tryd.ntmps90
  go_wp2_with (first | ((with_reducible refine gate_dst (N := 3) rfl ?_); refine Kd.R_lit KB (w0 := w) w.heap.size 5 ?hg (N := 3) ?hd (xs := ([] : List Int)) (inner := []) (ok := fun _ => True) (okp := fun _ => True) ?hr ?hp (fun _ hk => hk) trivial (Below.refl _ _) (Nat.le_refl _) (by simp) ?_; (case hd => rfl); (case hg => rfl); (case hr => first | (go_simp; done) | (go_simp; rfl)); (case hp => exact (Reps.none _ _)); intro v1 w1 ho1 hb1 hg1 hn1; obtain ⟨A1, c1, h1⟩ := Kd.R_slice ho1; subst h1; have HO1 := Lib.hid ho1; have HB1 := Lib.hid hb1; have HR1 := Lib.hid (Kd.C_below HR.out hb1); clear ho1 hb1 hg1 hn1) | ((with_reducible refine gate_builtin (b := .append) (xs := #[.tmp 3, .tmp 4]) rfl ?_); at_builtin; refine Kd.R_append_row (Value.int .u8) 0 (w0 := w) w.heap.size rfl (.tmp 3) (.tmp 4) 23 5 (.int .u8 0) 1 rfl Tryd.underlying23 info5 rfl (by omega) _ [] bs A bs.length c (fun _ => True) rfl rfl (fun _ _ => trivial) HO1.out HR1.out HB1.out (below_size HB1.out) (by have := HL.out; simp; omega) ?_; intro v4 w4 ho4 hb4 hg4 hat4; obtain ⟨A4, c4, h4⟩ := Kd.R_slice ho4; subst h4; rw [List.nil_append] at ho4; have HO4 := Lib.hid ho4; have HB4 := Lib.hid hb4; clear ho4 hb4 hg4 hat4))
  go_ret
  refine ⟨w4.heap.size, rfl, HB4.out.size, ⟨A4, c4, bs, 0, heap_alloc_new w4 _, Nat.zero_le _, rfl, (Kd.R_reads' HO4.out).2.1, Kd.C_alloc (Kd.R_reads' HO4.out).2.2 _, fun ad e => ?_, HBY.out, HL.out⟩, below_alloc HB4.out _⟩
  subst e
  exact own_lt (Kd.own_of_R HO4.out) ad.block (by simp [Value.ownBlock])
set_option maxHeartbeats 4000000 in
set_option maxRecDepth 100000 in
theorem rnum_in (g : Nat) (A : Option Addr) (c : Nat) (all : List Int) (p : Nat) (er : Int) (w : World) (h : RefIn w g A c all p er) : Calls Tryd.prog 91 #[.pointer (some ⟨g, 0, none⟩)] w fun e w' => e = .returned (.int .i64 (numS (all.drop p) er).1) ∧ (∃ p', (numS (all.drop p) er).2.1 = all.drop p' ∧ RefIn w' g A c all p' (numS (all.drop p) er).2.2) ∧ w.grownBy w' (some g) := by
  have HD := Lib.hid h
  obtain ⟨h1, h2, h4, h5, h6, h7, h8⟩ := h
  obtain ⟨bs, h3⟩ : ∃ bs, all.drop p = bs := ⟨_, rfl⟩
  have HP3 := Lib.hid h3
  rw [h3]
  have k0 : w.cell? ⟨g, 0, none⟩ = some (.slice A all.length c) := by rw [blk_cell h1]; rfl
  have k1 : w.cell? ⟨g, 1, none⟩ = some (.int .i64 (p : Int)) := by rw [blk_cell h1]; rfl
  have k2 : w.cell? ⟨g, 2, none⟩ = some (.int .i64 er) := by rw [blk_cell h1]; rfl
  have f1 := blk_frozen h1 1
  have f2 := blk_frozen h1 2
  by_cases h0 : er = 0
  · subst h0
    have HS : Hid (numS bs 0 = ((numG bs).1, bs.drop (numG bs).2.1, (numG bs).2.2)) := Lib.hid (by simp [numS])
    have HI : Hid (∀ W, Below w.heap.size w W → Calls Tryd.prog 140 #[.slice A all.length c, .int .i64 (p : Int)] W fun e w' => e = .returned (.tuple #[.int .i64 (rnumG all p).1, .int .i64 (rnumG all p).2.1, .int .i64 (rnumG all p).2.2]) ∧ W = w') := Lib.hid (fun W hb => rnumber_in A c all p W (Kd.C_below h5 hb) h7 h2 h8)
    have HEND : Hid (∀ (p' : Nat) (e : Int) (W : World), p' ≤ all.length → W.heap[g]? = some (.cells #[.slice A all.length c, .int .i64 (p' : Int), .int .i64 e] 162 (0, 0)) → w.grownBy W (some g) → RefIn W g A c all p' e ∧ w.grownBy W (some g)) := Lib.hid (fun p' e W hp hb hgr => ref_end (blk_lt h1) hp h4 h5 h6 h7 h8 hb hgr)
    have H1 := Lib.hid h1
    have HRG : Hid (rnumG all p = ((numG bs).1, if (numG bs).2.2 = 0 then ((p + (numG bs).2.1 : Nat) : Int) else 0, (numG bs).2.2)) := Lib.hid (by rw [← h3]; rfl)
    have hbd := numG_bounds bs
    have herr := numG_err bs
    have HDP : Hid (∀ u, bs.drop u = all.drop (p + u)) := Lib.hid (fun u => by rw [← h3, List.drop_drop])
    have hlen : bs.length = all.length - p := by rw [← h3, List.length_drop]
    rw [HRG.out] at HI
    rw [HS.out]
    generalize numG bs = r at *
    obtain ⟨v, u, e⟩ := r
    simp only at hbd herr HI ⊢
    have hpu : p + u ≤ all.length := by omega
    clear h1 h3 h4 h5 h6 h7 h8 HS HRG hbd
    by_cases he : e = 0
    · subst he
      rw [if_pos rfl] at HI
      have hcast : ((p + u : Nat) : Int) = (p : Int) + (u : Int) := by omega
      obtain ⟨q, hq⟩ : ∃ q : Nat, q = p + u := ⟨_, rfl⟩
      rw [← hq] at HI hpu
      have HQ : Hid (bs.drop u = all.drop q) := Lib.hid (by rw [HDP.out, hq])
      clear hq hcast herr HDP h2
      go_enter Tryd.func91, Tryd.ntmps91
      go_wp2_with fail
      go_quiet ((go_at_call 140; exact Calls.quiet_of_same ((HI.out _ (pw_below_drewN (Below.refl _ _) _)).mono (fun _ _ h => ⟨h.1, h.2.symm⟩))))
      go_wp2
      go_ret
      obtain ⟨hA, hB⟩ := HEND.out q 0 _ hpu (blk_put (blk_drewN H1.out _) 1 (.int .i64 (q : Int)) rfl) (set_grown (drewN_grown (World.grownBy.refl w (some g)) nq) 1 (.int .i64 (q : Int)))
      exact ⟨rfl, ⟨q, HQ.out, hA⟩, hB⟩
    · rw [if_neg he] at HI
      obtain ⟨hv, hu⟩ := herr he
      subst hv hu
      have hne : (e != 0) = true := by simp [he]
      have HQ : Hid (bs.drop 0 = all.drop p) := Lib.hid (by rw [HDP.out, Nat.add_zero])
      clear herr HDP he hpu hlen
      go_enter Tryd.func91, Tryd.ntmps91
      go_wp2_with fail
      go_quiet ((go_at_call 140; exact Calls.quiet_of_same ((HI.out _ (pw_below_drewN (Below.refl _ _) _)).mono (fun _ _ h => ⟨h.1, h.2.symm⟩))))
      go_wp2
      go_ret
      obtain ⟨hA, hB⟩ := HEND.out p e _ h2 (blk_put (blk_drewN H1.out _) 2 (.int .i64 e) rfl) (set_grown (drewN_grown (World.grownBy.refl w (some g)) nq) 2 (.int .i64 e))
      exact ⟨rfl, ⟨p, HQ.out, hA⟩, hB⟩
  · have HS : Hid (numS bs er = (0, bs, er)) := Lib.hid (by simp [numS, h0])
    rw [HS.out]
    have e1 : (er != 0) = true := by simp [h0]
    clear h1 h2 h3 h4 h5 h6 h7 h8 h0
    go_enter Tryd.func91, Tryd.ntmps91
    go_wp2
    go_ret
    exact ⟨rfl, ⟨p, HP3.out.symm, HD.out⟩, World.grownBy.refl w _⟩
theorem rnum_any (g : Nat) (bs : List Int) (er : Int) (w : World) (h : RefAt w g bs er) : Calls Tryd.prog 91 #[.pointer (some ⟨g, 0, none⟩)] w fun e w' => e = .returned (.int .i64 (numS bs er).1) ∧ RefAt w' g (numS bs er).2.1 (numS bs er).2.2 ∧ w.grownBy w' (some g) := by
  obtain ⟨A, c, all, p, h1, h2, rfl, h4, h5, h6, h7, h8⟩ := h
  refine (rnum_in g A c all p er w ⟨h1, h2, h4, h5, h6, h7, h8⟩).mono ?_
  rintro e w' ⟨rfl, ⟨p', hp', hR⟩, hg⟩
  exact ⟨rfl, by rw [hp']; exact hR.at, hg⟩
end Go.Proofs.YtojocffjajcdmaaDoor
namespace Go.Proofs.YtojocffjajcdmaaDoor
open Go.RowKit Go.Proofs.YtojocffjajcdmaaDoorW.PrintWords Go.Proofs.YtojocffjajcdmaaDoorW.PrintLast Go.Proofs.YtojocffjajcdmaaDoorW.PrintMore PChunkAll
set_option linter.unusedVariables false
set_option linter.unusedSimpArgs false

theorem RefIn.drewN {w : World} {g : Nat} {A : Option Addr} {c : Nat} {all : List Int} {p : Nat} {er : Int} (h : RefIn w g A c all p er) (n : Nat) : RefIn (w.drewN n) g A c all p er := by
  obtain ⟨h1, h2, h4, h5, h6⟩ := h
  exact ⟨blk_drewN h1 n, h2, h4, Kd.C_below h5 (pw_below_drewN (Below.refl _ _) n), h6⟩
set_option maxHeartbeats 2000000 in
set_option maxRecDepth 100000 in
theorem left_any (g : Nat) (A : Option Addr) (c : Nat) (all : List Int) (p : Nat) (er : Int) (w : World) (h : RefIn w g A c all p er) : Calls Tryd.prog 142 #[.pointer (some ⟨g, 0, none⟩)] w fun e w' => e = .returned (.int .i64 ((all.drop p).length : Int)) ∧ ∃ n, w' = w.drewN n := by
  obtain ⟨h1, h2, h4, h5, h6, h7, h8⟩ := h
  have k0 : w.cell? ⟨g, 0, none⟩ = some (.slice A all.length c) := by rw [blk_cell h1]; rfl
  have k1 : w.cell? ⟨g, 1, none⟩ = some (.int .i64 (p : Int)) := by rw [blk_cell h1]; rfl
  have hw : wrap64 ((all.length : Int) - (p : Int)) = (all.length : Int) - (p : Int) := by
    rw [show (all.length : Int) - (p : Int) = ((all.length - p : Nat) : Int) by omega]; exact wrap64_nat _ (by omega)
  have HL : Hid (((all.drop p).length : Int) = (all.length : Int) - (p : Int)) := Lib.hid (by rw [List.length_drop]; omega)
  clear h1 h4 h5 h6 h7
  go_enter Tryd.func142, Tryd.ntmps142
  go_wp2_with fail
  go_quiet (fail)
  go_wp2
  go_ret
  exact ⟨by rw [HL.out]; rfl, _, rfl⟩
set_option maxHeartbeats 2000000 in
set_option maxRecDepth 100000 in
theorem rdone_any (g : Nat) (bs : List Int) (er : Int) (w : World) (h : RefAt w g bs er) : Calls Tryd.prog 94 #[.pointer (some ⟨g, 0, none⟩)] w fun e w' => e = .returned (.int .i64 (doneG bs er)) ∧ ∃ n, w' = w.drewN n := by
  obtain ⟨A, c, all, p, h1, h2, h3, h4, h5, h6, h7, h8⟩ := h
  have HL := Lib.hid (left_any g A c all p er w ⟨h1, h2, h4, h5, h6, h7, h8⟩)
  have k2 : w.cell? ⟨g, 2, none⟩ = some (.int .i64 er) := by rw [blk_cell h1]; rfl
  rw [h3] at HL
  clear h1 h2 h3 h4 h5 h6 h7 h8
  by_cases h0 : er = 0
  · subst h0
    by_cases hp : 0 < bs.length
    · have hpi : decide ((0 : Int) < (bs.length : Int)) = true := decide_eq_true (by omega)
      have HD : Hid (doneG bs 0 = 21) := Lib.hid (by simp [doneG, hp])
      go_enter Tryd.func94, Tryd.ntmps94
      go_wp2_with (first | (go_at_call 142; (with_reducible refine (HL.out).mono ?_); rintro e w2 ⟨rfl, n, rfl⟩))
      go_ret
      exact ⟨by rw [HD.out]; rfl, _, rfl⟩
    · have hpi : decide ((0 : Int) < (bs.length : Int)) = false := decide_eq_false (by omega)
      have HD : Hid (doneG bs 0 = 0) := Lib.hid (by unfold doneG; rw [if_neg (by simp), if_neg hp])
      go_enter Tryd.func94, Tryd.ntmps94
      go_wp2_with (first | (go_at_call 142; (with_reducible refine (HL.out).mono ?_); rintro e w2 ⟨rfl, n, rfl⟩))
      go_ret
      exact ⟨by rw [HD.out]; rfl, _, rfl⟩
  · have HD : Hid (doneG bs er = er) := Lib.hid (by simp [doneG, h0])
    have e1 : (er == 0) = false := by simp [h0]
    have e2 : decide (er = 0) = false := decide_eq_false h0
    clear h0
    go_enter Tryd.func94, Tryd.ntmps94
    go_wp2
    go_ret
    exact ⟨by rw [HD.out]; rfl, 0, rfl⟩
end Go.Proofs.YtojocffjajcdmaaDoor
namespace Go.Proofs.YtojocffjajcdmaaDoor
open Go.RowKit Go.Proofs.YtojocffjajcdmaaDoorW.PrintWords Go.Proofs.YtojocffjajcdmaaDoorW.PrintLast Go.Proofs.YtojocffjajcdmaaDoorW.PrintMore PChunkAll
set_option linter.unusedVariables false
set_option linter.unusedSimpArgs false

set_option maxHeartbeats 4000000 in
set_option maxRecDepth 100000 in
theorem rtext_in (g : Nat) (A : Option Addr) (c : Nat) (all : List Int) (p : Nat) (er : Int) (w : World) (h : RefIn w g A c all p er) : Calls Tryd.prog 93 #[.pointer (some ⟨g, 0, none⟩)] w fun e w' => e = .returned (.string (textS (all.drop p) er).1) ∧ RefAt w' g (textS (all.drop p) er).2.1 (textS (all.drop p) er).2.2 ∧ w.grownBy w' (some g) := by
  have HU := Lib.hid (rnum_in g A c all p er w h)
  have HIN := Lib.hid h
  obtain ⟨h1, h2, h4, h5, h6, h7, h8⟩ := h
  have k1 : w.cell? ⟨g, 1, none⟩ = some (.int .i64 (p : Int)) := by rw [blk_cell h1]; rfl
  have hv := numS_val (all.drop p) er
  have hlt := blk_lt h1
  have HBACK : Hid (∀ (W : World) (q : Nat) (e : Int), q ≤ all.length → W.heap[g]? = some (.cells #[.slice A all.length c, .int .i64 (q : Int), .int .i64 e] 162 (0, 0)) → w.grownBy W (some g) → RefAt W g (all.drop q) e ∧ w.grownBy W (some g)) := Lib.hid (fun W q e hq hb hgr => by
    obtain ⟨hA, hB⟩ := ref_end hlt hq h4 h5 h6 h7 h8 hb hgr
    exact ⟨hA.at, hB⟩)
  have HP := Lib.hid h2
  have HL8 := Lib.hid h8
  have HC4 := Lib.hid h4
  clear h1 h2 h4 h5 h6 h7 h8 hlt
  have HS : Hid (textS (all.drop p) er = if (numS (all.drop p) er).2.2 ≠ 0 then (noStr, all.drop p, (numS (all.drop p) er).2.2)
    else if 65536 < (numS (all.drop p) er).1 then (noStr, all.drop p, 21)
    else if ((numS (all.drop p) er).2.1.length : Int) < (numS (all.drop p) er).1 then (noStr, all.drop p, 20)
    else (strOfNums ((numS (all.drop p) er).2.1.take (numS (all.drop p) er).1.toNat), (numS (all.drop p) er).2.1.drop (numS (all.drop p) er).1.toNat, 0)) := Lib.hid rfl
  generalize numS (all.drop p) er = r at *
  obtain ⟨n, b1, e1⟩ := r
  simp only at HU hv HS
  obtain ⟨hv0, hv1⟩ := hv
  by_cases he : e1 = 0
  · subst he
    by_cases hn : 65536 < n
    · have HT : Hid (textS (all.drop p) er = (noStr, all.drop p, 21)) := Lib.hid (by rw [HS.out, if_neg (by simp), if_pos hn])
      rw [HT.out]
      have d1 : decide (65536 < n) = true := decide_eq_true hn
      clear HS
      go_enter Tryd.func93, Tryd.ntmps93
      go_wp2_with (first | (go_at_call 91; (with_reducible refine (HU.out).mono ?_); rintro e w2 ⟨rfl, ⟨p', hp', hR⟩, hgr⟩; have HRI := Lib.hid hR; have b1' := hR.1; have m0 : w2.cell? ⟨g, 0, none⟩ = some (.slice A all.length c) := (by rw [blk_cell b1']; rfl); have m1 : w2.cell? ⟨g, 1, none⟩ = some (.int .i64 (p' : Int)) := (by rw [blk_cell b1']; rfl); have m2 : w2.cell? ⟨g, 2, none⟩ = some (.int .i64 0) := (by rw [blk_cell b1']; rfl); have f1 := blk_frozen b1' 1; have f2 := blk_frozen b1' 2; have B1 := Lib.hid b1'; have HGR := Lib.hid hgr;  have HPP := Lib.hid hp'; clear b1' hgr hR hp'))
      go_ret
      exact ⟨rfl, HBACK.out _ p 21 HP.out (blk_put (blk_put B1.out 2 _ rfl) 1 _ rfl) (set_grown (set_grown HGR.out 2 _) 1 _)⟩
    · by_cases hl : (b1.length : Int) < n
      · have HT : Hid (textS (all.drop p) er = (noStr, all.drop p, 20)) := Lib.hid (by rw [HS.out, if_neg (by simp), if_neg hn, if_pos hl])
        rw [HT.out]
        have d1 : decide (65536 < n) = false := decide_eq_false hn
        have d2 : decide ((b1.length : Int) < n) = true := decide_eq_true hl
        clear HS
        go_enter Tryd.func93, Tryd.ntmps93
        go_wp2_with (first | (go_at_call 91; (with_reducible refine (HU.out).mono ?_); rintro e w2 ⟨rfl, ⟨p', hp', hR⟩, hgr⟩; have HRI := Lib.hid hR; have b1' := hR.1; have m0 : w2.cell? ⟨g, 0, none⟩ = some (.slice A all.length c) := (by rw [blk_cell b1']; rfl); have m1 : w2.cell? ⟨g, 1, none⟩ = some (.int .i64 (p' : Int)) := (by rw [blk_cell b1']; rfl); have m2 : w2.cell? ⟨g, 2, none⟩ = some (.int .i64 0) := (by rw [blk_cell b1']; rfl); have f1 := blk_frozen b1' 1; have f2 := blk_frozen b1' 2; have B1 := Lib.hid b1'; have HGR := Lib.hid hgr; have HLE := Lib.hid (left_any g A c all p' 0 w2 hR); rw [← hp'] at HLE; have HPP := Lib.hid hp'; clear b1' hgr hR hp') | (go_at_call 142; (with_reducible refine (HLE.out).mono ?_); rintro e w3 ⟨rfl, nl, rfl⟩; have m0' : (w2.drewN nl).cell? ⟨g, 0, none⟩ = some (.slice A all.length c) := m0; have m1' : (w2.drewN nl).cell? ⟨g, 1, none⟩ = some (.int .i64 (p' : Int)) := m1; have m2' : (w2.drewN nl).cell? ⟨g, 2, none⟩ = some (.int .i64 0) := m2; have f1' : (w2.drewN nl).frozen? ⟨g, 1, none⟩ = false := f1; have f2' : (w2.drewN nl).frozen? ⟨g, 2, none⟩ = false := f2))
        go_ret
        exact ⟨rfl, HBACK.out _ p 20 HP.out (blk_put (blk_put (blk_drewN B1.out _) 2 _ rfl) 1 _ rfl) (set_grown (set_grown (drewN_grown HGR.out _) 2 _) 1 _)⟩
      · have HT : Hid (textS (all.drop p) er = (strOfNums (b1.take n.toNat), b1.drop n.toNat, 0)) := Lib.hid (by rw [HS.out, if_neg (by simp), if_neg hn, if_neg hl])
        rw [HT.out]
        obtain ⟨m, rfl⟩ := Int.eq_ofNat_of_zero_le hv0
        have hml : m ≤ b1.length := by omega
        have d1 : decide (65536 < (m : Int)) = false := decide_eq_false hn
        have d1' : decide (65536 < m) = false := decide_eq_false (by omega)
        have d2 : decide ((b1.length : Int) < (m : Int)) = false := decide_eq_false hl
        have d2' : decide (b1.length < m) = false := decide_eq_false (by omega)
        clear HS hv0 hv1 hl hn
        go_enter Tryd.func93, Tryd.ntmps93
        go_wp2_with (first | (go_at_call 91; (with_reducible refine (HU.out).mono ?_); rintro e w2 ⟨rfl, ⟨p', hp', hR⟩, hgr⟩; have HRI := Lib.hid hR; have b1' := hR.1; have m0 : w2.cell? ⟨g, 0, none⟩ = some (.slice A all.length c) := (by rw [blk_cell b1']; rfl); have m1 : w2.cell? ⟨g, 1, none⟩ = some (.int .i64 (p' : Int)) := (by rw [blk_cell b1']; rfl); have m2 : w2.cell? ⟨g, 2, none⟩ = some (.int .i64 0) := (by rw [blk_cell b1']; rfl); have f1 := blk_frozen b1' 1; have f2 := blk_frozen b1' 2; have B1 := Lib.hid b1'; have HGR := Lib.hid hgr; have HLE := Lib.hid (left_any g A c all p' 0 w2 hR); rw [← hp'] at HLE;have hbl : b1.length = all.length - p' := (by rw [hp', List.length_drop]); have hpm : p' + m ≤ all.length := (by have := hR.2.1; omega); have hw0 : wrap64 ((p' : Int) + (m : Int)) = (p' : Int) + (m : Int) := wrap64_two p' m (by have := HL8.out; omega); have HPM := Lib.hid hpm; clear hbl hpm; have HPP := Lib.hid hp'; clear b1' hgr hR hp') | (go_at_call 142; (with_reducible refine (HLE.out).mono ?_); rintro e w3 ⟨rfl, nl, rfl⟩; have m0' : (w2.drewN nl).cell? ⟨g, 0, none⟩ = some (.slice A all.length c) := m0; have m1' : (w2.drewN nl).cell? ⟨g, 1, none⟩ = some (.int .i64 (p' : Int)) := m1; have m2' : (w2.drewN nl).cell? ⟨g, 2, none⟩ = some (.int .i64 0) := m2; have f1' : (w2.drewN nl).frozen? ⟨g, 1, none⟩ = false := f1; have f2' : (w2.drewN nl).frozen? ⟨g, 2, none⟩ = false := f2))
        obtain ⟨W0, hW0⟩ : ∃ W0, W0 = (w2.drewN nl).setCell ⟨g, 1, none⟩ (.int .i64 ((p' : Int) + (m : Int))) := ⟨_, rfl⟩
        rw [← hW0]
        have hcast : ((p' + m : Nat) : Int) = (p' : Int) + (m : Int) := by omega
        have hblk : W0.heap[g]? = some (.cells #[.slice A all.length c, .int .i64 ((p' : Int) + (m : Int)), .int .i64 0] 162 (0, 0)) := by rw [hW0]; exact blk_put (blk_drewN B1.out _) 1 _ rfl
        have hgw : w2.grownBy W0 (some g) := by rw [hW0]; exact set_grown (drewN_grown (World.grownBy.refl w2 _) _) 1 _
        have hgw2 : w.grownBy W0 (some g) := by rw [hW0]; exact set_grown (drewN_grown HGR.out _) 1 _
        obtain ⟨hA, hB⟩ := HBACK.out W0 (p' + m) 0 HPM.out (by rw [hcast]; exact hblk) hgw2
        have hC0 : Kd.C KB W0 A all.length all := C_old HRI.out.2.2.2.1 HRI.out.2.2.2.2.1 (fun k hk => hgw.block k (Nat.lt_trans hk (blk_lt HRI.out.1)) (by intro x; injection x with x; omega))
        have hCm := Kd.C_mid (k := KB) (c := c) (lo := p') (hi := p' + m) hC0 (by omega) HPM.out HC4.out
        have hlm : ((all.take (p' + m)).drop p').length = m := by rw [List.length_drop, List.length_take]; have := HPM.out; omega
        have hbm : (all.take (p' + m)).drop p' = b1.take m := by rw [HPP.out, List.drop_take]; congr 1; omega
        rw [hlm, hbm, show p' * KB.sz = p' from Nat.mul_one p'] at hCm
        obtain ⟨i5, hi5, _, hsz5, _⟩ := info_parts info5
        have hmid := cut_mid (P := Tryd.prog) 23 5 .i64 .i64 Tryd.underlying23 hi5 1 hsz5 A all.length c (p' : Int) ((p' : Int) + (m : Int)) (by omega) (by omega) (by have := HPM.out; omega) HC4.out
        rw [show ((p' : Int) + (m : Int)).toNat = p' + m by omega, Int.toNat_natCast, show p' + m - p' = m by omega, Nat.mul_one] at hmid
        generalize (if c = p' then A else Option.map (fun x => x.add p') A) = A' at *
        generalize c - p' = c' at *
        have hcv := fun k => Kd.C_string (P := Tryd.prog) (c := c') Tryd.underlying23 Tryd.underlying5 Tryd.underlying9 (Kd.C_below hCm (pw_below_drewN (Below.refl _ _) k))
        have c0 : W0.cell? ⟨g, 0, none⟩ = some (.slice A all.length c) := by rw [blk_cell hblk]; rfl
        have c1 : W0.cell? ⟨g, 1, none⟩ = some (.int .i64 ((p' : Int) + (m : Int))) := by rw [blk_cell hblk]; rfl
        have hws : wrap64 ((p' : Int) + (m : Int) - (m : Int)) = (p' : Int) := by rw [show (p' : Int) + (m : Int) - (m : Int) = (p' : Int) by omega]; exact wrap64_nat p' (by have := HL8.out; have := HPM.out; omega)
        have hws2 : wrap64 (p' : Int) = (p' : Int) := wrap64_nat p' (by have := HL8.out; have := HPM.out; omega)
        have HA := Lib.hid hA
        have HB := Lib.hid hB
        have HDR : Hid (b1.drop m = all.drop (p' + m)) := Lib.hid (by rw [HPP.out, List.drop_drop])
        clear hA hB hC0 hCm hlm hbm hgw hgw2 hblk hW0 hcast m0 m1 m2 m0' m1' m2'
        go_quiet (fail)
        go_wp2
        go_ret
        refine ⟨by rw [Int.toNat_natCast]; rfl, ?_, drewN_grown HB.out _⟩
        rw [Int.toNat_natCast, HDR.out]
        exact HA.out.below (pw_below_drewN (Below.refl _ _) _)
  · have HT : Hid (textS (all.drop p) er = (noStr, all.drop p, e1)) := Lib.hid (by rw [HS.out, if_pos he])
    rw [HT.out]
    have hne : (e1 != 0) = true := by simp [he]
    have heq : (e1 == 0) = false := by simp [he]
    have hde : decide (e1 = 0) = false := decide_eq_false he
    clear HS he hv0 hv1
    go_enter Tryd.func93, Tryd.ntmps93
    go_wp2_with (first | (go_at_call 91; (with_reducible refine (HU.out).mono ?_); rintro e w2 ⟨rfl, ⟨p', hp', hR⟩, hgr⟩; have HRI := Lib.hid hR; have b1' := hR.1; have m0 : w2.cell? ⟨g, 0, none⟩ = some (.slice A all.length c) := (by rw [blk_cell b1']; rfl); have m1 : w2.cell? ⟨g, 1, none⟩ = some (.int .i64 (p' : Int)) := (by rw [blk_cell b1']; rfl); have m2 : w2.cell? ⟨g, 2, none⟩ = some (.int .i64 e1) := (by rw [blk_cell b1']; rfl); have f1 := blk_frozen b1' 1; have f2 := blk_frozen b1' 2; have B1 := Lib.hid b1'; have HGR := Lib.hid hgr;  have HPP := Lib.hid hp'; clear b1' hgr hR hp'))
    go_ret
    exact ⟨rfl, HBACK.out _ p e1 HP.out (blk_put B1.out 1 _ rfl) (set_grown HGR.out 1 _)⟩
theorem rtext_any (g : Nat) (bs : List Int) (er : Int) (w : World) (h : RefAt w g bs er) : Calls Tryd.prog 93 #[.pointer (some ⟨g, 0, none⟩)] w fun e w' => e = .returned (.string (textS bs er).1) ∧ RefAt w' g (textS bs er).2.1 (textS bs er).2.2 ∧ w.grownBy w' (some g) := by
  obtain ⟨A, c, all, p, h1, h2, rfl, h4, h5, h6, h7, h8⟩ := h
  exact rtext_in g A c all p er w ⟨h1, h2, h4, h5, h6, h7, h8⟩
end Go.Proofs.YtojocffjajcdmaaDoor
namespace Go.Proofs.YtojocffjajcdmaaDoor
open Go.RowKit Go.Proofs.YtojocffjajcdmaaDoorW.PrintWords Go.Proofs.YtojocffjajcdmaaDoorW.PrintLast Go.Proofs.YtojocffjajcdmaaDoorW.PrintMore PChunkAll
set_option linter.unusedVariables false
set_option linter.unusedSimpArgs false

theorem labs_ref {ok : Nat → Prop} {w w' : World} {g base : Nat} {bs : List Int} {er : Int} {v : Value} {ls : List S112} (h : Kd.R k112 112 w base ok v ls) (hd : RefAt w g bs er) (hg : w.grownBy w' (some g)) : Kd.R k112 112 w' base ok v ls := by
  obtain ⟨A, c, all, p, h1, _⟩ := hd
  exact Kd.R_mono (Kd.R_grown (Kd.R_types h h1 (by decide)) hg (fun k hk e => by injection e with e; exact hk.2 e)) (fun _ hk => hk.1)
theorem alloc_grown {w W : World} {r : Option Nat} (h : w.grownBy W r) (o : Obj) : w.grownBy (W.alloc o) r :=
  ⟨h.os, h.tape, h.output, Nat.le_trans h.size (by simp), fun k hk hr => (Below.heap_alloc W o k (Nat.lt_of_lt_of_le hk h.size)).trans (h.block k hk hr)⟩
/-- Labels of one's own know nothing of a block that comes later. -/
theorem labs_late {w : World} {base : Nat} {v : Value} {ls : List S112} (h : Kd.R k112 112 w base (fun _ => True) v ls) : Kd.R k112 112 w base (fun k => k ≠ w.heap.size) v ls :=
  Kd.R_mono (Kd.R_bound h) (fun k hk e => by have := hk.2.2.1; omega)
/-- A block that is no label row's is written below g's. -/
theorem low_grown {w W W' : World} {g : Nat} (h : w.grownBy W (some g)) (hb : Below w.heap.size W W') : w.grownBy W' (some g) :=
  ⟨hb.os.trans h.os, hb.tape.trans h.tape, hb.output.trans h.output, Nat.le_trans h.size hb.size, fun k hk hr => (hb.block k hk).trans (h.block k hk hr)⟩
theorem setCell_size (W : World) (a : Addr) (v : Value) : (W.setCell a v).heap.size = W.heap.size := by simp [World.setCell]
theorem below_set' {W : World} {B e i : Nat} {u : Value} (he : B ≤ e) : Below B W (W.setCell ⟨e, i, none⟩ u) := (Below.refl B W).setCell he u
theorem low_grown2 {w W W' : World} {g : Nat} (h : w.grownBy W (some g)) (hb : Below w.heap.size W W') : w.grownBy W' (some g) := low_grown h hb
def FrRel (b1 : List Int) (e1 : Int) (m : Nat) (g : Nat) (w : World) (v4 v5 : Value) (wr : World) : Prop :=
  ∃ k : Nat, v5 = .int .i64 (k : Int) ∧ k ≤ m ∧ RefAt wr g (labsS b1 e1 k).2.1 (labsS b1 e1 k).2.2 ∧ Kd.R k112 112 wr w.heap.size (fun _ => True) v4 (labsS b1 e1 k).1 ∧ w.grownBy wr (some g)

set_option maxHeartbeats 8000000 in
set_option maxRecDepth 100000 in
theorem from_any (g : Nat) (bs : List Int) (w : World) (h : RefAt w g bs 0) : Calls Tryd.prog 141 #[.pointer (some ⟨g, 0, none⟩)] w fun e w' => ∃ v, e = .returned v ∧ Kd.R k112 112 w' w.heap.size (fun _ => True) v (readS bs).1 ∧ RefAt w' g (readS bs).2.1 (readS bs).2.2 ∧ w.grownBy w' (some g) := by
  have HG := Lib.hid h.lt
  have HRS : Hid (readS bs = labsS (numS bs 0).2.1 (numS bs 0).2.2 (cnt (numS bs 0).1)) := Lib.hid rfl
  have HDN := Lib.hid (rnum_any g bs 0 w h)
  have hv := numS_val bs 0
  clear h
  obtain ⟨n, hn⟩ : ∃ n, n = (numS bs 0).1 := ⟨_, rfl⟩
  obtain ⟨b1, hb1⟩ : ∃ n, n = (numS bs 0).2.1 := ⟨_, rfl⟩
  obtain ⟨e1, he1⟩ : ∃ n, n = (numS bs 0).2.2 := ⟨_, rfl⟩
  rw [← hn, ← hb1, ← he1] at HRS HDN
  rw [← hn] at hv
  obtain ⟨m, hm⟩ : ∃ m : Nat, m = cnt n := ⟨_, rfl⟩
  rw [← hm] at HRS
  have HMN : Hid (m ≤ 17 ∧ (m : Int) ≤ n ∧ ((m : Int) = n ∨ m = 17)) := Lib.hid (by rw [hm]; unfold cnt; omega)
  clear hn hb1 he1 hm
  go_enter Tryd.func141, Tryd.ntmps141
  go_wp2_with (first | (go_at_call 91; (with_reducible refine (HDN.out).mono ?_); rintro e w3 ⟨rfl, hd, hgr⟩; have HD3 := Lib.hid hd; have HB3 := Lib.hid hgr; clear hd hgr))
  go_loopw [4, 5] (fun v4 v5 wr => FrRel b1 e1 m g w v4 v5 wr) (fun _ v5 _ => m - (intOf v5).toNat)
  case atStart => exact ⟨0, rfl, Nat.zero_le _, HD3.out, Kd.R_nil _ _ _ _ _, HB3.out⟩
  case round =>
    obtain ⟨k, rfl, hk, hd, ho, hb⟩ := hrel
    obtain ⟨Ao, co, hso⟩ := Kd.R_slice ho
    subst hso
    by_cases hlt : k < m
    · have hmn := HMN.out
      have d1 : decide ((k : Int) < n) = true := decide_eq_true (by omega)
      have d2 : decide ((k : Int) ≤ 16) = true := decide_eq_true (by omega)
      have d3 : decide (k ≤ 16) = true := decide_eq_true (by omega)
      have hm17 := hmn.1
      clear hmn
      have HS : Hid (labsS b1 e1 (k + 1) = ((labsS b1 e1 k).1 ++ [⟨(textS (labsS b1 e1 k).2.1 (labsS b1 e1 k).2.2).1, (textS (textS (labsS b1 e1 k).2.1 (labsS b1 e1 k).2.2).2.1 (textS (labsS b1 e1 k).2.1 (labsS b1 e1 k).2.2).2.2).1⟩],
        (textS (textS (labsS b1 e1 k).2.1 (labsS b1 e1 k).2.2).2.1 (textS (labsS b1 e1 k).2.1 (labsS b1 e1 k).2.2).2.2).2)) := Lib.hid rfl
      have hll := labsS_len b1 e1 k
      generalize labsS b1 e1 k = S at *
      obtain ⟨ls, b2, e2⟩ := S
      simp only at hd ho HS hll
      have hl17 : ls.length ≤ 17 := by have := HMN.out; omega
      clear hll
      have HTX := Lib.hid (fun W (h : RefAt W g b2 e2) => rtext_any g b2 e2 W h)
      generalize textS b2 e2 = T at *
      obtain ⟨s1, b3, e3⟩ := T
      simp only at HTX HS
      have HTY := Lib.hid (fun W (h : RefAt W g b3 e3) => rtext_any g b3 e3 W h)
      generalize textS b3 e3 = T at *
      obtain ⟨s2, b4, e4⟩ := T
      simp only at HTY HS
      have HD4 := Lib.hid hd
      have HO4 := Lib.hid ho
      have HB4 := Lib.hid hb
      clear hd ho hb
      go_wp2_with (first | (go_at_call 93; (with_reducible refine (HTX.out _ HD4.out).mono ?_); rintro e w5 ⟨rfl, hd, hgr⟩; have HD5 := Lib.hid (hd.below (below_alloc (Below.refl _ _) (.cells #[.string s1, .string ⟨#[]⟩] 112))); have HG5 := Lib.hid hd.lt; have HO5 := Lib.hid (Kd.R_alloc (labs_late (labs_ref HO4.out HD4.out hgr)) (.cells #[.string s1, .string ⟨#[]⟩] 112)); have HB5 := Lib.hid (alloc_grown (grown_trans HB4.out hgr) (.cells #[.string s1, .string ⟨#[]⟩] 112)); have HLB := Lib.hid (heap_alloc_new w5 (.cells #[.string s1, .string ⟨#[]⟩] 112)); have HSZ : Hid (w.heap.size ≤ w5.heap.size) := Lib.hid (grown_trans HB4.out hgr).size; clear hd hgr) | (go_at_call 93; (with_reducible refine (HTY.out _ HD5.out).mono ?_); rintro e w6 ⟨rfl, hd, hgr⟩; have HL6 := Lib.hid (blk_grown HLB.out hgr (by intro x; injection x with x; have := HG5.out; omega)); have f6 := blk_frozen HL6.out 1; have x6 := (blk_cell HL6.out 1).trans (rfl : _ = some (Value.string ⟨#[]⟩)); have HL7 := Lib.hid (blk_put HL6.out 1 (.string s2) (cs' := #[.string s1, .string s2]) rfl); have y0 := (blk_cell HL7.out 0).trans (rfl : _ = some (Value.string s1)); have y1 := (blk_cell HL7.out 1).trans (rfl : _ = some (Value.string s2)); have HD6 := Lib.hid (hd.set (i := 1) (u := .string s2) HG5.out); have HO6 := Lib.hid (Kd.R_mono (ok' := fun _ => True) (Kd.R_far (p := ⟨w5.heap.size, 1, none⟩) (labs_ref HO5.out HD5.out hgr) (fun _ hk => hk) (.string s2)) (fun _ _ => trivial)); have HB6 := Lib.hid (low_grown (grown_trans HB5.out hgr) (below_set' (W := w6) (e := w5.heap.size) (i := 1) (u := .string s2) HSZ.out)); clear hd hgr) | ((with_reducible refine gate_builtin (b := .append) (xs := #[.tmp 24, .tmp 26]) rfl ?_); at_builtin; refine Kd.R_append k112 (w0 := w6.setCell ⟨w5.heap.size, 1, none⟩ (.string s2)) (W := w6.setCell ⟨w5.heap.size, 1, none⟩ (.string s2)) w.heap.size rfl (.tmp 24) (.tmp 26) 31 112 (.agg #[(.string ⟨#[]⟩), (.string ⟨#[]⟩)]) 32 rfl Tryd.underlying31 info112 rfl (by decide) (by omega) (.slice Ao ls.length co) ls ⟨s1, s2⟩ [.string s1, .string s2] (fun _ => True) (fun _ => False) rfl (by rw [setCell_size]; rfl) ?aP (fun _ hk => hk.elim) (fun _ _ => trivial) HO6.out (Below.refl _ _) HB6.out.size (by omega) ?_; (case aP => exact k112_mkM _ _ _ ⟨s1, s2⟩); intro v7 w7 ho7 hb7 hg7 hat7; have HO7 := Lib.hid ho7; have HD7 := Lib.hid (HD6.out.low (hb7.mono (Nat.succ_le_of_lt HG.out))); have HB7 := Lib.hid (low_grown2 HB6.out hb7); clear ho7 hb7 hg7 hat7))
      go_roundw
      case rel => exact ⟨k + 1, by go_num, by omega, by rw [HS.out]; exact HD7.out, by rw [HS.out]; exact HO7.out, HB7.out⟩
      case measure => simp [intOf]; omega
    · have hkm : k = m := by omega
      subst hkm
      have HD4 := Lib.hid hd
      have HO4 := Lib.hid ho
      have HB4 := Lib.hid hb
      have hmn := HMN.out
      clear hd ho hb hlt
      by_cases hkn : (k : Int) < n
      · have d1 : decide ((k : Int) < n) = true := decide_eq_true hkn
        have d2 : decide ((k : Int) ≤ 16) = false := decide_eq_false (by omega)
        have d3 : decide (k ≤ 16) = false := decide_eq_false (by omega)
        clear hmn hkn
        go_wp2
        go_ret
        exact ⟨_, rfl, by rw [HRS.out]; exact HO4.out, by rw [HRS.out]; exact HD4.out, HB4.out⟩
      · have d1 : decide ((k : Int) < n) = false := decide_eq_false hkn
        clear hmn hkn
        go_wp2
        go_ret
        exact ⟨_, rfl, by rw [HRS.out]; exact HO4.out, by rw [HRS.out]; exact HD4.out, HB4.out⟩
end Go.Proofs.YtojocffjajcdmaaDoor
namespace Go.Proofs.YtojocffjajcdmaaDoor
open Go.RowKit Go.Proofs.YtojocffjajcdmaaDoorW.PrintWords Go.Proofs.YtojocffjajcdmaaDoorW.PrintLast Go.Proofs.YtojocffjajcdmaaDoorW.PrintMore PChunkAll
set_option linter.unusedVariables false
set_option linter.unusedSimpArgs false

theorem rletter_some (c : Int) : icehouseref02_letter.f c = some (isLet c) := letter_some c
theorem rdigit_some (c : Int) : icehouseref02_digit.f c = some (isDig c) := digit_some c
theorem bt_at (s : ByteArray) (i : Nat) (h : i < s.size) : bt s (i : Int) = (s[i].toNat : Int) := by
  unfold bt
  rw [dif_pos (by simpa using h)]
  rfl
theorem rname_l0 (s : ByteArray) (hs : s.size ≤ 9223372036854775807) (n i : Nat) (h : i + n = s.size) : icehouseref02_Name.l0 (n + 1) s (i : Int) = some (nameB i (s.data.toList.drop i) && (decide (1 ≤ s.size) && decide (s.size ≤ 64))) := by
  induction n generalizing i with
  | zero =>
    rw [icehouseref02_Name.l0, if_neg (by omega), List.drop_eq_nil_of_le (by rw [data_length]; omega), nameB]
    by_cases h1 : 1 ≤ s.size
    · rw [if_pos (by omega), decide_eq_true h1]
      simp only [Bool.true_and]
      congr 1
      exact decide_eq_decide.2 (by omega)
    · rw [if_neg (by omega), decide_eq_false h1]
      rfl
  | succ n ih =>
    have hi : i < s.size := by omega
    have hw : wrap64 ((i : Int) + 1) = ((i + 1 : Nat) : Int) := by unfold wrap64; omega
    rw [icehouseref02_Name.l0, if_pos (by omega), if_pos (by omega), bt_at s i hi, rletter_some, rdigit_some, drop_at s i hi, nameB_cons, hw, ih (i + 1) (by omega)]
    simp only [Option.bind_some]
    cases hL : isLet (s[i].toNat : Int) with
    | true => simp
    | false =>
      by_cases h0 : i = 0
      · subst h0; simp
      · rw [if_neg (by simp), if_neg (by omega)]
        cases hD : isDig (s[i].toNat : Int) with
        | true => simp [show 0 < i by omega]
        | false => simp
theorem rname_f (s : ByteArray) (hs : s.size ≤ 9223372036854775807) : icehouseref02_Name.f (s.size + 1) s = some (nameI s) := by
  unfold icehouseref02_Name.f nameI
  have := rname_l0 s hs s.size 0 (by omega)
  rw [List.drop_zero] at this
  exact this
theorem rname_any (s : ByteArray) (hs : s.size ≤ 9223372036854775807) (w : World) : Calls Tryd.prog 145 #[.string s] w fun e w' => e = .returned (.bool (nameI s)) ∧ Drawn0 w w' := by
  refine (icehouseref02_Name.calls _ s _ w (rname_f s hs)).mono fun e w' h => h
end Go.Proofs.YtojocffjajcdmaaDoor
namespace Go.Proofs.YtojocffjajcdmaaDoor
open Go.RowKit Go.Proofs.YtojocffjajcdmaaDoorW.PrintWords Go.Proofs.YtojocffjajcdmaaDoorW.PrintLast Go.Proofs.YtojocffjajcdmaaDoorW.PrintMore PChunkAll
set_option linter.unusedVariables false
set_option linter.unusedSimpArgs false

theorem wrap_u8_in (x : Int) (h0 : 0 ≤ x) (h1 : x < 256) : IntKind.u8.wrap x = x := by rw [IntKind.wrap_u8]; exact Int.emod_eq_of_lt h0 h1
theorem rb_y (x y : Nat) (hy : y = x % 128 + 128) : IntKind.u8.wrap ((x : Int) % 128 + 128) = (y : Int) := by rw [wrap_u8_in _ (by omega) (by omega)]; omega
theorem rb_z (x z : Nat) (hz : z = x / 128) : Int.tdiv (x : Int) 128 = (z : Int) := by rw [Int.tdiv_eq_ediv_of_nonneg (by omega)]; omega
theorem rb_m (x : Nat) : Int.tmod (x : Int) 128 = (x : Int) % 128 := Int.tmod_eq_emod_of_nonneg (by omega)
theorem rb_lt (x z : Nat) (hz : z = x / 128) (h : 127 < x) (hx : x < 72057594037927936) : z < x ∧ z < 9223372036854775808 := by omega
theorem rb_meas (x z : Nat) (h : z < x) : (intOf (Value.int .i64 (z : Int))).toNat < (intOf (Value.int .i64 (x : Int))).toNat := by
  show (z : Int).toNat < (x : Int).toNat
  simpa using h
def RBRel (n : Nat) (w : World) (v0 v3 : Value) (wr : World) : Prop :=
  ∃ x : Nat, ∃ acc : List Int, v0 = .int .i64 (x : Int) ∧ x ≤ n ∧ OwnB wr w.heap.size v3 acc ∧ num7 n = acc ++ num7 x ∧ Below w.heap.size w wr

set_option maxHeartbeats 4000000 in
set_option maxRecDepth 100000 in
theorem rbytes_any (n : Nat) (w : World) (h : n < 72057594037927936) : Calls Tryd.prog 107 #[.int .i64 (n : Int)] w (BytesBelow (num7 n) w) := by
  have HN := Lib.hid h
  have HL : Hid ((num7 n).length ≤ 9) := Lib.hid (num7_len n 8 (by omega)).2
  clear h
  go_enter Tryd.func107, Tryd.ntmps107
  go_wp2
  go_loopw [0, 3] (fun v0 v3 wr => RBRel n w v0 v3 wr) (fun v0 _ _ => (intOf v0).toNat)
  case atStart => exact ⟨n, [], rfl, Nat.le_refl _, Kd.R_nil _ _ _ _ _, rfl, Below.refl _ _⟩
  case round =>
    obtain ⟨x, acc, rfl, hx, ho, heq, hb⟩ := hrel
    obtain ⟨Ao, co, hso⟩ := Kd.R_slice ho
    subst hso
    have HO := Lib.hid ho
    have HB := Lib.hid hb
    have hxn : x < 72057594037927936 := by have := HN.out; omega
    have HAL : Hid (acc.length ≤ 9) := Lib.hid (by have := HL.out; rw [heq, List.length_append] at this; omega)
    have HEQ := Lib.hid heq
    have HXN := Lib.hid hx
    clear ho hb heq hx
    by_cases hb127 : 127 < x
    · have d1 : decide ((127 : Int) < (x : Int)) = true := decide_eq_true (by omega)
      have d2 : decide (127 < x) = true := decide_eq_true hb127
      obtain ⟨y, hy⟩ : ∃ y : Nat, y = x % 128 + 128 := ⟨_, rfl⟩
      obtain ⟨z, hz⟩ : ∃ z : Nat, z = x / 128 := ⟨_, rfl⟩
      have hm := rb_m x
      have hy8 := rb_y x y hy
      have hdv := rb_z x z hz
      have hlt2 := rb_lt x z hz hb127 hxn
      have HST : Hid (num7 n = (acc ++ [(y : Int)]) ++ num7 z) := Lib.hid (by rw [HEQ.out, num7_big x hb127, hy, hz]; simp)
      have HZX := Lib.hid hlt2.1
      have hzw : wrap64 (z : Int) = (z : Int) := wrap64_nat z hlt2.2
      clear hy hz hlt2
      go_wp2_with (first | ((with_reducible refine gate_builtin (b := .append) (xs := #[.tmp 6, .tmp 11]) rfl ?_); at_builtin; refine Kd.R_append KB (w0 := w) (W := wr) w.heap.size rfl (.tmp 6) (.tmp 11) 23 5 (.int .u8 0) 1 rfl Tryd.underlying23 info5 rfl (by decide) (by omega) (.slice Ao acc.length co) acc (y : Int) [.int .u8 (y : Int)] (fun _ => True) (fun _ => False) rfl rfl rfl (fun _ hk => hk.elim) (fun _ _ => trivial) HO.out HB.out (below_size HB.out) (by have := HAL.out; omega) ?_; intro v7 w7 ho7 hb7 hg7 hat7; have HO7 := Lib.hid ho7; have HB7 := Lib.hid hb7; clear ho7 hb7 hg7 hat7))
      go_roundw
      case rel => exact ⟨z, acc ++ [(y : Int)], by first | rfl | rw [hzw] | rw [hdv], Nat.le_trans (Nat.le_of_lt HZX.out) HXN.out, HO7.out, HST.out, HB7.out⟩
      case measure => rw [hzw]; exact rb_meas x z HZX.out
    · have d1 : decide ((127 : Int) < (x : Int)) = false := decide_eq_false (by omega)
      have d2 : decide (127 < x) = false := decide_eq_false hb127
      have hx8 : IntKind.u8.wrap (x : Int) = (x : Int) := wrap_u8_in _ (by omega) (by omega)
      have HST : Hid (num7 n = acc ++ [(x : Int)]) := Lib.hid (by rw [HEQ.out, num7_small x hb127])
      clear hb127
      go_wp2_with (first | ((with_reducible refine gate_builtin (b := .append) (xs := #[.tmp 15, .tmp 18]) rfl ?_); at_builtin; refine Kd.R_append KB (w0 := w) (W := wr) w.heap.size rfl (.tmp 15) (.tmp 18) 23 5 (.int .u8 0) 1 rfl Tryd.underlying23 info5 rfl (by decide) (by omega) (.slice Ao acc.length co) acc (x : Int) [.int .u8 (x : Int)] (fun _ => True) (fun _ => False) rfl rfl rfl (fun _ hk => hk.elim) (fun _ _ => trivial) HO.out HB.out (below_size HB.out) (by have := HAL.out; omega) ?_; intro v7 w7 ho7 hb7 hg7 hat7; have HO7 := Lib.hid ho7; have HB7 := Lib.hid hb7; clear ho7 hb7 hg7 hat7))
      go_ret
      exact ⟨_, rfl, by rw [HST.out]; exact HO7.out, HB7.out⟩
end Go.Proofs.YtojocffjajcdmaaDoor
namespace Go.Proofs.YtojocffjajcdmaaDoor
open Go.RowKit Go.Proofs.YtojocffjajcdmaaDoorW.PrintWords Go.Proofs.YtojocffjajcdmaaDoorW.PrintLast Go.Proofs.YtojocffjajcdmaaDoorW.PrintMore PChunkAll
set_option linter.unusedVariables false
set_option linter.unusedSimpArgs false

set_option maxHeartbeats 4000000 in
set_option maxRecDepth 100000 in
theorem rtextb_any (s : ByteArray) (w : World) (h : s.size ≤ 65536) : Calls Tryd.prog 108 #[.string s] w (BytesBelow (text7 s) w) := by
  have HT : Hid (text7 s = num7 s.size ++ bytesOf s) := Lib.hid rfl
  have HL : Hid ((num7 s.size).length + s.size ≤ 140737488355327) := Lib.hid (by have := (num7_len s.size 8 (by omega)).2; omega)
  have HB : Hid (∀ W, Calls Tryd.prog 107 #[.int .i64 (s.size : Int)] W (BytesBelow (num7 s.size) W)) := Lib.hid (fun W => rbytes_any s.size W (by omega))
  clear h
  go_enter Tryd.func108, Tryd.ntmps108
  go_wp2_with (first | (go_at_call 107; (with_reducible refine (HB.out _).mono ?_); rintro e w5 ⟨v, rfl, ho, hb⟩; obtain ⟨A5, c5, h5⟩ := Kd.R_slice ho; subst h5; have HO5 := Lib.hid ho; have HB5 := Lib.hid hb; clear ho hb) | (at_builtin; refine print_append_str (w0 := w) w.heap.size rfl (.tmp 5) _ 23 9 5 rfl Tryd.underlying23 Tryd.underlying9 info5 (.slice A5 (num7 s.size).length c5) (num7 s.size) s rfl rfl (Kd.own_of_R HO5.out) HB5.out (below_size HB5.out) (by have := HL.out; omega) ?_; intro v6 w6 ho0 hb6 hg6; have ho := Kd.R_of_own (h1 := fun _ => rfl) (ok := fun _ => True) ho0 (fun _ _ => trivial); have HO6 := Lib.hid ho; have HB6 := Lib.hid hb6; clear ho ho0 hb6 hg6))
  go_ret
  exact ⟨_, rfl, by rw [HT.out]; exact HO6.out, HB6.out⟩
end Go.Proofs.YtojocffjajcdmaaDoor
