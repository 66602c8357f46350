import Derived.Test.YtojocffjajcdmaaDoorMB
import Derived.Test.YtojocffjajcdmaaDoorPChunkAllx5
import Derived.Test.YtojocffjajcdmaaDoorMA
import Derived.Deep.RegionHeld3
namespace Go.Proofs.YtojocffjajcdmaaDoor
open Go.RowKit Go.Proofs.YtojocffjajcdmaaDoorW.PrintWords Go.Proofs.YtojocffjajcdmaaDoorW.PrintLast Go.Proofs.YtojocffjajcdmaaDoorW.PrintMore PChunkAll
set_option linter.unusedVariables false
set_option linter.unusedSimpArgs false

/-- Bytes lent: two more lie behind them. -/
def LentBelow (bs : List Int) (w : World) (e : Ending) (w' : World) : Prop :=
  ∃ A' c', e = .returned (.slice A' bs.length c') ∧ OwnB w' w.heap.size (.slice A' (bs.length + 2) c') (bs ++ [77, 78]) ∧ Below w.heap.size w w'

set_option maxHeartbeats 4000000 in
set_option maxRecDepth 100000 in
theorem lent_any (A : Option Addr) (c : Nat) (bs : List Int) (w : World) (hr : Kd.C KB w A bs.length bs) (hl : bs.length + 2 ≤ 140737488355328) : Calls Tryd.prog 25 #[.slice A bs.length c] w (LentBelow bs w) := by
  have HR := Lib.hid hr
  have HL := Lib.hid hl
  obtain ⟨i5, hi5, _, hsz5, _⟩ := info_parts info5
  clear hr hl
  go_enter Tryd.func25, Tryd.ntmps25
  go_wp2_with (first | ((with_reducible refine gate_dst (N := 4) rfl ?_); refine Kd.R_lit KB (w0 := w) w.heap.size 5 ?hg (N := 4) ?hd (xs := ([] : List Int)) (inner := []) (ok := fun _ => True) (okp := fun _ => True) ?hr ?hp (fun _ hk => hk) trivial (Below.refl _ _) (Nat.le_refl _) (by simp) ?_; (case hd => rfl); (case hg => rfl); (case hr => first | (go_simp; done) | (go_simp; rfl)); (case hp => exact (Reps.none _ _)); intro v1 w1 ho1 hb1 hg1 hn1; obtain ⟨A1, c1, h1⟩ := Kd.R_slice ho1; subst h1; have HO1 := Lib.hid ho1; have HB1 := Lib.hid hb1; have HR1 := Lib.hid (Kd.C_below HR.out hb1); clear ho1 hb1 hg1 hn1) | ((with_reducible refine gate_builtin (b := .append) (xs := #[.tmp 4, .tmp 5]) rfl ?_); at_builtin; refine Kd.R_append_row (Value.int .u8) 0 (w0 := w) w.heap.size rfl (.tmp 4) (.tmp 5) 23 5 (.int .u8 0) 1 rfl Tryd.underlying23 info5 rfl (by omega) _ [] bs A bs.length c (fun _ => True) rfl rfl (fun _ _ => trivial) HO1.out HR1.out HB1.out (below_size HB1.out) (by have := HL.out; simp; omega) ?_; intro v4 w4 ho4 hb4 hg4 hat4; obtain ⟨A4, c4, h4⟩ := Kd.R_slice ho4; subst h4; rw [List.nil_append] at ho4; have HO4 := Lib.hid ho4; have HB4 := Lib.hid hb4; clear ho4 hb4 hg4 hat4) | ((with_reducible refine gate_dst (N := 8) rfl ?_); refine Kd.R_lit KB (w0 := w) w.heap.size 5 ?hg (N := 8) ?hd (xs := ([77, 78] : List Int)) (inner := [.int .u8 77, .int .u8 78]) (ok := fun _ => True) (okp := fun _ => True) ?hr ?hp (fun _ hk => hk) trivial HB4.out HB4.out.size (by simp) ?_; (case hd => rfl); (case hg => rfl); (case hr => first | (go_simp; done) | (go_simp; rfl)); (case hp => exact (Reps.one (show Kd.M KB _ _ _ 77 [.int .u8 77] from rfl) (Reps.one (show Kd.M KB _ _ _ 78 [.int .u8 78] from rfl) (Reps.none _ _)))); intro v8 w8 ho8 hb8 hg8 hn8; obtain ⟨A8, c8, h8⟩ := Kd.R_slice ho8; subst h8; have HO8 := Lib.hid (Kd.R_reads' ho8).2.2; have HB8 := Lib.hid hb8; have HO9 := Lib.hid (Kd.R_grown HO4.out hg8 (fun _ _ e => by cases e)); clear ho8 hb8 hg8 hn8) | ((with_reducible refine gate_builtin (b := .append) (xs := #[.tmp 7, .tmp 8]) rfl ?_); at_builtin; refine Kd.R_append_row (Value.int .u8) 0 (w0 := w) w.heap.size rfl (.tmp 7) (.tmp 8) 23 5 (.int .u8 0) 1 rfl Tryd.underlying23 info5 rfl (by omega) _ bs [77, 78] A8 2 c8 (fun _ => True) rfl rfl (fun _ _ => trivial) HO9.out HO8.out HB8.out (below_size HB8.out) (by have := HL.out; omega) ?_; intro v9 w9 ho9 hb9 hg9 hat9; obtain ⟨A9, c9, h9⟩ := Kd.R_slice ho9; subst h9; have hle := (Kd.R_reads' ho9).2.1; rw [List.length_append] at ho9 hle; change bs.length + 2 ≤ c9 at hle; change Kd.R _ 5 _ _ _ (.slice A9 (bs.length + 2) c9) _ at ho9; have hto := cut_to (P := Tryd.prog) 23 5 .i64 Tryd.underlying23 hi5 A9 (bs.length + 2) c9 (bs.length : Int) (by omega) (by omega) hle; rw [Int.toNat_natCast] at hto; have HO10 := Lib.hid ho9; have HB10 := Lib.hid hb9; clear ho9 hb9 hg9 hat9 hle))
  go_ret
  exact ⟨A9, c9, rfl, HO10.out, HB10.out⟩
end Go.Proofs.YtojocffjajcdmaaDoor
namespace Go.Proofs.YtojocffjajcdmaaDoor
open Go.RowKit Go.Proofs.YtojocffjajcdmaaDoorW.PrintWords Go.Proofs.YtojocffjajcdmaaDoorW.PrintLast Go.Proofs.YtojocffjajcdmaaDoorW.PrintMore PChunkAll
set_option linter.unusedVariables false
set_option linter.unusedSimpArgs false

theorem cut_cap {P : Program} (t e : TypeId) (kh : IntKind) {i : TypeInfo} (ht : P.underlying t = some (.slice e)) (hi : P.info? e = some i) (A : Option Addr) (n c : Nat) (j : Int) (h0 : 0 ≤ j) (hm : j ≤ c) :
    ∀ W : World, (Instr.slice t (.slice A n c) none (some (.int kh j)) none).run P W = .ok (.slice A j.toNat c) W := by
  intro W
  have hel : P.elem t = e := by simp [Program.elem, ht]
  have hu : P.underlying t = some (.slice (P.elem t)) := by rw [hel]; exact ht
  have ha : (A.map fun x => x.add 0) = A := by cases A <;> simp [Addr.add]
  rw [run_slice_h W t A n c hu kh j h0 (by omega), hel]
  simp [sizeOf, typeInfo, hi, sliced, Result.andThen, ha]
/-! ### Stays: what was lent is as it was, and the two bytes behind it -/
set_option maxHeartbeats 4000000 in
set_option maxRecDepth 100000 in
theorem stays_any (A' A : Option Addr) (c' c : Nat) (bs : List Int) (w : World) (hl : Kd.C KB w A' (bs ++ [77, 78]).length (bs ++ [77, 78])) (hc : bs.length + 2 ≤ c') (hr : Kd.C KB w A bs.length bs) (hm : bs.length + 2 ≤ 140737488355328) : Calls Tryd.prog 33 #[.slice A' bs.length c', .slice A bs.length c] w fun e w' => e = .returned (.bool true) ∧ ∃ n, w' = w.drewN n := by
  obtain ⟨i5, hi5, _, hsz5, _⟩ := info_parts info5
  have hlen : (bs ++ [(77 : Int), 78]).length = bs.length + 2 := by simp
  have hto1 := cut_cap (P := Tryd.prog) 23 5 .i64 Tryd.underlying23 hi5 A' bs.length c' ((bs.length : Int) + 2) (by omega) (by omega)
  rw [show ((bs.length : Int) + 2).toNat = bs.length + 2 by omega] at hto1
  have hto2 := cut_to (P := Tryd.prog) 23 5 .i64 Tryd.underlying23 hi5 A' (bs.length + 2) c' (bs.length : Int) (by omega) (by omega) hc
  rw [Int.toNat_natCast] at hto2
  have hCt := take_C (u := bs.length) hl (by omega)
  rw [show (bs ++ [(77 : Int), 78]).take bs.length = bs by simp] at hCt
  have hcv1 := fun k => Kd.C_string (P := Tryd.prog) (c := c') Tryd.underlying23 Tryd.underlying5 Tryd.underlying9 (Kd.C_below hCt (pw_below_drewN (Below.refl _ _) k))
  have hcv2 := fun k => Kd.C_string (P := Tryd.prog) (c := c) Tryd.underlying23 Tryd.underlying5 Tryd.underlying9 (Kd.C_below hr (pw_below_drewN (Below.refl _ _) k))
  obtain ⟨ad, rfl, k0⟩ := byte_at hl bs.length (by omega)
  obtain ⟨ad', he, k1⟩ := byte_at hl (bs.length + 1) (by omega)
  injection he with he
  subst he
  rw [show (bs ++ [(77 : Int), 78]).getD bs.length 0 = 77 by simp [List.getD_eq_getElem?_getD]] at k0
  rw [show (bs ++ [(77 : Int), 78]).getD (bs.length + 1) 0 = 78 by simp [List.getD_eq_getElem?_getD]] at k1
  have hw2 : wrap64 ((bs.length : Int) + 2) = (bs.length : Int) + 2 := wrap64_two bs.length 2 (by omega)
  obtain ⟨M, hM⟩ : ∃ M : Nat, M = bs.length + 1 := ⟨_, rfl⟩
  rw [← hM] at k1
  have hw1 : wrap64 ((bs.length : Int) + 1) = (M : Int) := by rw [show (bs.length : Int) + 1 = (M : Int) by omega]; exact wrap64_nat M (by omega)
  obtain ⟨N, hN⟩ : ∃ N : Nat, N = bs.length + 2 := ⟨_, rfl⟩
  rw [← hN] at hto1 hto2
  have hnn : (0 : Int) ≤ (bs.length : Int) := by omega
  have hi0n : bs.length < N := by omega
  have hi0 : (bs.length : Int) < (N : Int) := by omega
  have hi1 : (M : Int) < (N : Int) := by omega
  have hM0 : (0 : Int) ≤ (M : Int) := by omega
  clear hl hr hCt hlen hN hM hm hc
  go_enter Tryd.func33, Tryd.ntmps33
  go_wp2_with fail
  go_quiet (fail)
  go_wp2
  go_ret
  exact ⟨by simp, _, rfl⟩
end Go.Proofs.YtojocffjajcdmaaDoor
namespace Go.Proofs.YtojocffjajcdmaaDoor
open Go.RowKit Go.Proofs.YtojocffjajcdmaaDoorW.PrintWords Go.Proofs.YtojocffjajcdmaaDoorW.PrintLast Go.Proofs.YtojocffjajcdmaaDoorW.PrintMore PChunkAll
set_option linter.unusedVariables false
set_option linter.unusedSimpArgs false

/-! ### Equal entries are the same -/
theorem same02_l0 (l : List S112) (hl : l.length < 4398046511104) (n i : Nat) (h : i + n = l.length) : icehouselaw02_Same.l0 (n + 1) l l (i : Int) = some true := by
  induction n generalizing i with
  | zero => rw [icehouselaw02_Same.l0, if_neg (by omega)]
  | succ n ih =>
    have hw : wrap64 ((i : Int) + 1) = ((i + 1 : Nat) : Int) := by unfold wrap64; omega
    rw [icehouselaw02_Same.l0, if_pos (by omega), if_pos (by omega), if_pos (by omega), if_pos rfl, if_pos rfl, hw]
    exact ih (i + 1) (by omega)
theorem same02_f (l : List S112) (hl : l.length < 4398046511104) : icehouselaw02_Same.f (l.length + 1) l l = some true := by
  unfold icehouselaw02_Same.f
  rw [if_pos rfl]
  exact same02_l0 l hl l.length 0 (by omega)
theorem same03_f (x : S33) (hl : x.f2.length < 4398046511104) : icehouselaw03_Same.f (x.f2.length + 1) x.f0 x.f1 x.f2 x.f3 x.f0 x.f1 x.f2 x.f3 = some true := by
  unfold icehouselaw03_Same.f
  rw [if_pos rfl, if_pos rfl, if_pos rfl, same02_f _ hl]
  rfl
end Go.Proofs.YtojocffjajcdmaaDoor
namespace Go.Proofs.YtojocffjajcdmaaDoor
open Go.RowKit Go.Proofs.YtojocffjajcdmaaDoorW.PrintWords Go.Proofs.YtojocffjajcdmaaDoorW.PrintLast Go.Proofs.YtojocffjajcdmaaDoorW.PrintMore PChunkAll
set_option linter.unusedVariables false
set_option linter.unusedSimpArgs false

set_option maxHeartbeats 2000000 in
set_option maxRecDepth 100000 in
theorem same_any (x : S33) (A B : Option Addr) (c d : Nat) (w : World) (hA : Kd.C k112 w A x.f2.length x.f2) (hc : x.f2.length ≤ c) (hB : Kd.C k112 w B x.f2.length x.f2) (hd : x.f2.length ≤ d) (hl : x.f2.length < 4398046511104) :
    Calls Tryd.prog 31 #[entA x A c, entA x B d] w fun e w' => e = .returned (.bool true) ∧ Below w.heap.size w w' :=
  (icehouselaw03_Same.calls (x.f2.length + 1) x.f0 x.f1 A c x.f2 x.f3 x.f0 x.f1 B d x.f2 x.f3 true w hA hc hB hd (same03_f x hl)).mono fun e w' h => h
end Go.Proofs.YtojocffjajcdmaaDoor
namespace Go.Proofs.YtojocffjajcdmaaDoor
open Go.RowKit Go.Lib Go.Proofs.YtojocffjajcdmaaDoorW.PrintWords Go.Proofs.YtojocffjajcdmaaDoorW.PrintLast Go.Proofs.YtojocffjajcdmaaDoorW.PrintMore PChunkAll
set_option linter.unusedVariables false
set_option linter.unusedSimpArgs false

/-! ### The reference's UTF-8 -/
theorem bt_nat (s : ByteArray) (i : Nat) : bt s (i : Int) = ((s.data.toList.getD i 0).toNat : Int) := by
  unfold bt
  rw [Int.toNat_natCast]
  split
  · rename_i h
    have hl : i < s.data.toList.length := by rw [data_length]; exact h
    rw [List.getD_eq_getElem?_getD, List.getElem?_eq_getElem hl]
    rfl
  · rename_i h
    rw [List.getD_eq_getElem?_getD, List.getElem?_eq_none (by rw [data_length]; omega)]
    rfl
theorem rl_step (k : Nat) (s : ByteArray) (c n least : Int) (i b : Nat) (hb : (b : Int) = bt s (i : Int)) (hi : (i : Int) < n) (hs : i < s.size) (hi2 : i < 10) (hc0 : 0 ≤ c) (hc : c ≤ 1000000) :
    icehouseref02_Rune.l0 (k + 1) s c n least (i : Int) = if b < 128 ∨ 192 ≤ b then some (0, 0) else icehouseref02_Rune.l0 k s (64 * c + b - 128) n least ((i + 1 : Nat) : Int) := by
  have hr := bt_range s (i : Int)
  rw [icehouseref02_Rune.l0, if_pos hi, if_pos (by omega), if_pos (by omega), ← hb]
  by_cases h1 : b < 128
  · rw [if_pos (by omega), if_pos (by omega)]
  · by_cases h2 : 192 ≤ b
    · rw [if_neg (by omega), if_pos (by omega), if_pos (by omega)]
    · rw [if_neg (by omega), if_neg (by omega), if_neg (by omega)]
      congr 1
      · unfold wrap64; omega
      · unfold wrap64; omega
theorem rl_end (k : Nat) (s : ByteArray) (c n least i : Int) (hi : ¬ i < n) :
    icehouseref02_Rune.l0 (k + 1) s c n least i = if c < least ∨ 1114111 < c ∨ (55296 ≤ c ∧ c < 57344) then some (0, 0) else some (c, n) := by
  rw [icehouseref02_Rune.l0, if_neg hi]
  repeat' split
  all_goals first | rfl | (exfalso; omega)
def widthO (r : Option (Int × Int)) : Option Int := r.map (·.2)
theorem rj2 (k : Nat) (s : ByteArray) (b1 b2 b3 : Nat) (e1 : (b1 : Int) = bt s ((1 : Nat) : Int)) (e2 : (b2 : Int) = bt s ((2 : Nat) : Int)) (e3 : (b3 : Int) = bt s ((3 : Nat) : Int)) (c : Int) (least : Int) (hc0 : 0 ≤ c) (hc : c < 32) (m : Nat) (hm : m = 2 ∨ m = 3 ∨ m = 4) :
    widthO (icehouseref02_Rune.j2 (k + 7) s c (m : Int) least) = some (if s.size < m ∨ b1 < 128 ∨ 192 ≤ b1 ∨ (2 < m ∧ (b2 < 128 ∨ 192 ≤ b2 ∨ (3 < m ∧ (b3 < 128 ∨ 192 ≤ b3)))) then 0 else
      (let v : Int := if m = 2 then 64 * c + b1 - 128 else if m = 3 then 64 * (64 * c + b1 - 128) + b2 - 128 else 64 * (64 * (64 * c + b1 - 128) + b2 - 128) + b3 - 128
       if v < least ∨ 1114111 < v ∨ (55296 ≤ v ∧ v < 57344) then 0 else (m : Int))) := by
  have r1 := bt_range s ((1 : Nat) : Int)
  have r2 := bt_range s ((2 : Nat) : Int)
  have r3 := bt_range s ((3 : Nat) : Int)
  rw [icehouseref02_Rune.j2]
  by_cases h0 : s.size < m
  · rw [if_pos (by omega), if_pos (by omega)]; rfl
  rw [if_neg (by omega)]
  have st1 := rl_step (k + 5) s c (m : Int) least 1 b1 e1 (by omega) (by omega) (by omega) hc0 (by omega)
  rw [show ((1 : Nat) : Int) = 1 from rfl] at st1
  rw [st1]
  by_cases h1 : b1 < 128 ∨ 192 ≤ b1
  · rw [if_pos h1, if_pos (by omega)]; rfl
  rw [if_neg h1]
  rcases hm with rfl | rfl | rfl
  · rw [if_neg (show ¬ (s.size < 2 ∨ b1 < 128 ∨ 192 ≤ b1 ∨ (2 < 2 ∧ (b2 < 128 ∨ 192 ≤ b2 ∨ (3 < 2 ∧ (b3 < 128 ∨ 192 ≤ b3))))) by omega), rl_end _ _ _ _ _ _ (by omega)]
    simp only [if_true]
    split <;> rfl
  · rw [rl_step (k + 4) s _ _ least 2 b2 e2 (by omega) (by omega) (by omega) (by omega) (by omega)]
    by_cases h2 : b2 < 128 ∨ 192 ≤ b2
    · rw [if_pos h2, if_pos (by omega)]; rfl
    rw [if_neg h2, if_neg (show ¬ (s.size < 3 ∨ b1 < 128 ∨ 192 ≤ b1 ∨ (2 < 3 ∧ (b2 < 128 ∨ 192 ≤ b2 ∨ (3 < 3 ∧ (b3 < 128 ∨ 192 ≤ b3))))) by omega), rl_end _ _ _ _ _ _ (by omega)]
    simp only [show ¬ (3 = 2) by decide, if_true, if_false]
    split <;> rfl
  · rw [rl_step (k + 4) s _ _ least 2 b2 e2 (by omega) (by omega) (by omega) (by omega) (by omega)]
    by_cases h2 : b2 < 128 ∨ 192 ≤ b2
    · rw [if_pos h2, if_pos (by omega)]; rfl
    rw [if_neg h2, rl_step (k + 3) s _ _ least 3 b3 e3 (by omega) (by omega) (by omega) (by omega) (by omega)]
    by_cases h3 : b3 < 128 ∨ 192 ≤ b3
    · rw [if_pos h3, if_pos (by omega)]; rfl
    rw [if_neg h3, if_neg (show ¬ (s.size < 4 ∨ b1 < 128 ∨ 192 ≤ b1 ∨ (2 < 4 ∧ (b2 < 128 ∨ 192 ≤ b2 ∨ (3 < 4 ∧ (b3 < 128 ∨ 192 ≤ b3))))) by omega), rl_end _ _ _ _ _ _ (by omega)]
    simp only [show ¬ (4 = 2) by decide, show ¬ (4 = 3) by decide, if_false]
    split <;> rfl
set_option maxHeartbeats 1000000 in
theorem rune_width (k : Nat) (s : ByteArray) (hs : 0 < s.size) (b0 b1 b2 b3 : Nat) (e0 : (b0 : Int) = bt s 0) (e1 : (b1 : Int) = bt s ((1 : Nat) : Int)) (e2 : (b2 : Int) = bt s ((2 : Nat) : Int)) (e3 : (b3 : Int) = bt s ((3 : Nat) : Int)) :
    widthO (icehouseref02_Rune.f (k + 9) s) = some (if b0 < 128 then 1 else (((refN s.size b0 b1 b2 b3).getD 0 : Nat) : Int)) := by
  have r0 := bt_range s 0
  have hw : wrap64 (b0 : Int) = b0 := by unfold wrap64; omega
  unfold icehouseref02_Rune.f
  rw [if_neg (by omega), if_pos (by omega), ← e0, hw]
  by_cases h1 : b0 < 128
  · rw [if_pos (by omega), if_pos h1]; rfl
  rw [if_neg (by omega), if_neg h1]
  by_cases h2 : b0 < 192
  · rw [if_neg (by omega), icehouseref02_Rune.j0, if_neg (by simp), if_neg (by omega), icehouseref02_Rune.j1, if_neg (by simp), if_neg (by omega)]
    rw [show refN s.size b0 b1 b2 b3 = none by unfold refN; rw [if_neg (by omega), if_neg (by omega), if_neg (by omega)]]
    rfl
  rw [if_pos (by omega)]
  by_cases h3 : b0 < 224
  · rw [icehouseref02_Rune.j0, if_pos (decide_eq_true (by omega)), show wrap64 ((b0 : Int) - 192) = (b0 : Int) - 192 by unfold wrap64; omega]
    have := rj2 (k + 1) s b1 b2 b3 e1 e2 e3 ((b0 : Int) - 192) 128 (by omega) (by omega) 2 (.inl rfl)
    rw [show ((2 : Nat) : Int) = 2 from rfl] at this
    rw [this]
    unfold refN
    rw [if_pos (show 192 ≤ b0 ∧ b0 < 224 by omega)]
    simp only [if_true]
    repeat' split
    all_goals first | rfl | (exfalso; omega)
  rw [icehouseref02_Rune.j0, if_neg (by simp; omega)]
  rw [if_pos (by omega)]
  by_cases h4 : b0 < 240
  · rw [icehouseref02_Rune.j1, if_pos (decide_eq_true (by omega)), show wrap64 ((b0 : Int) - 224) = (b0 : Int) - 224 by unfold wrap64; omega]
    have := rj2 k s b1 b2 b3 e1 e2 e3 ((b0 : Int) - 224) 2048 (by omega) (by omega) 3 (.inr (.inl rfl))
    rw [show ((3 : Nat) : Int) = 3 from rfl] at this
    rw [this]
    unfold refN
    rw [if_neg (show ¬ (192 ≤ b0 ∧ b0 < 224) by omega), if_pos (show 224 ≤ b0 ∧ b0 < 240 by omega)]
    simp only [show ¬ (3 = 2) by decide, if_true, if_false]
    repeat' split
    all_goals first | rfl | (exfalso; omega)
  rw [icehouseref02_Rune.j1, if_neg (by simp; omega), if_pos (by omega)]
  by_cases h5 : b0 < 248
  · rw [if_pos (by omega), show wrap64 ((b0 : Int) - 240) = (b0 : Int) - 240 by unfold wrap64; omega]
    have := rj2 k s b1 b2 b3 e1 e2 e3 ((b0 : Int) - 240) 65536 (by omega) (by omega) 4 (.inr (.inr rfl))
    rw [show ((4 : Nat) : Int) = 4 from rfl] at this
    rw [this]
    unfold refN
    rw [if_neg (show ¬ (192 ≤ b0 ∧ b0 < 224) by omega), if_neg (show ¬ (224 ≤ b0 ∧ b0 < 240) by omega), if_pos (show 240 ≤ b0 ∧ b0 < 248 by omega)]
    simp only [show ¬ (4 = 2) by decide, show ¬ (4 = 3) by decide, if_false]
    repeat' split
    all_goals first | rfl | (exfalso; omega)
  · rw [if_neg (by omega)]
    rw [show refN s.size b0 b1 b2 b3 = none by unfold refN; rw [if_neg (by omega), if_neg (by omega), if_neg (by omega)]]
    rfl
theorem refN_le {n b0 b1 b2 b3 m : Nat} (h : refN n b0 b1 b2 b3 = some m) : 2 ≤ m ∧ m ≤ n := by
  unfold refN at h
  repeat' split at h
  all_goals first | (exfalso; cases h; done) | (cases h; omega)
theorem good_l0 (n : Nat) : ∀ (s : ByteArray), s.size ≤ n → icehouseref02_Good.l0 (n + 10) s = some (validD s.data.toList) := by
  induction n with
  | zero =>
    intro s h
    rw [icehouseref02_Good.l0, if_neg (by omega)]
    have : s.data.toList = [] := List.eq_nil_of_length_eq_zero (by rw [data_length]; omega)
    rw [this]
    rfl
  | succ n ih =>
    intro s h
    by_cases h0 : s.size = 0
    · rw [icehouseref02_Good.l0, if_neg (by omega)]
      have : s.data.toList = [] := List.eq_nil_of_length_eq_zero (by rw [data_length]; omega)
      rw [this]
      rfl
    have hne : s.data.toList ≠ [] := fun e => h0 (by rw [← data_length, e]; rfl)
    rw [icehouseref02_Good.l0, if_pos (by omega)]
    have hw := rune_width (n + 1) s (by omega) _ _ _ _ (bt_nat s 0).symm (bt_nat s 1).symm (bt_nat s 2).symm (bt_nat s 3).symm
    rw [show n + 1 + 9 = n + 10 by omega] at hw
    obtain ⟨⟨c, m⟩, hr, hm⟩ := Option.map_eq_some_iff.1 hw
    simp only at hm
    rw [hr]
    simp only [Option.bind_some]
    have next : ∀ j : Nat, 1 ≤ j → j ≤ s.size → icehouseref02_Good.l0 (n + 10) (s.extract ((j : Int)).toNat s.size) = some (validD (s.data.toList.drop j)) := by
      intro j h1 h2
      have e : (s.extract ((j : Int)).toNat s.size).data.toList = s.data.toList.drop j := by
        rw [Int.toNat_natCast]
        have hsz : s.size = s.data.toList.length := (data_length s).symm
        simp [ByteArray.data_extract, Array.toList_extract, List.extract_eq_take_drop]
        rw [List.take_of_length_le (by simp)]
      rw [← e]
      refine ih _ ?_
      rw [← data_length, e, List.length_drop, data_length]
      omega
    by_cases hb : (s.data.toList.getD 0 0).toNat < 128
    · rw [if_pos hb] at hm
      subst hm
      rw [if_neg (by decide), if_pos (by decide), if_pos (by omega)]
      have hn := next 1 (by omega) (by omega)
      rw [show ((1 : Nat) : Int) = 1 from rfl] at hn
      rw [hn]
      cases hd : s.data.toList with
      | nil => exact absurd hd hne
      | cons a t => rw [hd] at hb; rw [validD_cons a t (by simpa using hb)]; rfl
    · rw [if_neg hb] at hm
      rw [validD_ref _ hne (by omega), data_length]
      cases hR : refN s.size (s.data.toList.getD 0 0).toNat (s.data.toList.getD 1 0).toNat (s.data.toList.getD 2 0).toNat (s.data.toList.getD 3 0).toNat with
      | none =>
        rw [hR] at hm
        simp at hm
        subst hm
        rw [if_pos rfl]
      | some j =>
        have hj := refN_le hR
        rw [hR] at hm
        simp at hm
        subst hm
        rw [if_neg (by omega), if_pos (by omega), if_pos (by omega), next j (by omega) (by omega)]
theorem rgood_f (s : ByteArray) : icehouseref02_Good.f (s.size + 10) s = some (validD s.data.toList) := good_l0 s.size s (Nat.le_refl _)
end Go.Proofs.YtojocffjajcdmaaDoor
namespace Go.Proofs.YtojocffjajcdmaaDoor
open Go.RowKit Go.Proofs.YtojocffjajcdmaaDoorW.PrintWords Go.Proofs.YtojocffjajcdmaaDoorW.PrintLast Go.Proofs.YtojocffjajcdmaaDoorW.PrintMore PChunkAll
set_option linter.unusedVariables false
set_option linter.unusedSimpArgs false

theorem rvalue_f (s : ByteArray) : icehouseref02_Value.f (s.size + 10) s = some (valI s) := by
  unfold icehouseref02_Value.f valI
  by_cases h1 : 1 ≤ s.size
  · rw [if_pos (by omega)]
    by_cases h2 : s.size ≤ 128
    · rw [if_pos (by omega), rgood_f]
      simp [h1, h2]
    · rw [if_neg (by omega), decide_eq_false h2]
      simp
  · rw [if_neg (by omega), decide_eq_false h1]
    simp
theorem rvalue_any (s : ByteArray) (w : World) : Calls Tryd.prog 146 #[.string s] w (BoolBelow (valI s) w) :=
  (icehouseref02_Value.calls (s.size + 10) s _ w (rvalue_f s)).mono fun e w' h => ⟨h.1, h.2.below⟩

/-- Names that an int counts. -/
def SzOk (l : List S112) : Prop := ∀ k, k < l.length → (l.getD k z112).f0.size ≤ 9223372036854775807
set_option maxHeartbeats 2000000 in
theorem rright_any (A : Option Addr) (c : Nat) (l : List S112) (w : World) (hr : Kd.C k112 w A l.length l) (hsz : SzOk l) : Calls Tryd.prog 96 #[.slice A l.length c] w (BoolBelow (rightL l) w) := by
  have hmax := Kd.C_max hr
  have HR := Lib.hid hr
  have HSZ := Lib.hid hsz
  clear hr hsz
  go_enter Tryd.func96, Tryd.ntmps96
  go_wp2
  go_loopw [3] (fun v7 wr => RightRel l w v7 wr) (fun v7 _ => l.length - (intOf v7).toNat)
  case atStart => exact ⟨0, rfl, Nat.zero_le _, rfl, Below.refl _ _⟩
  case round =>
    obtain ⟨k, rfl, hk, heq, hb⟩ := hrel
    have HEQ := Lib.hid heq
    clear heq
    by_cases hlt : k < l.length
    · have hki : (k : Int) < (l.length : Int) := by omega
      obtain ⟨b, o, rfl, hx⟩ := labs_at HR.out (by omega)
      have c0 := pw_cell_below hb (hx k hlt).1
      have c1 := pw_cell_below hb (hx k hlt).2
      have HX := Lib.hid hx
      clear hx
      have HST : Hid (labsB none l = (labB (ahead l k) (l.getD k z112) && labsB (ahead l (k + 1)) (l.drop (k + 1)))) := Lib.hid (by rw [HEQ.out, labsB_at l k hlt])
      have HXW : Hid (∀ i, i < l.length → wr.cell? ⟨b, o + i * 2, none⟩ = some (.string (l.getD i z112).f0)) := Lib.hid (fun i hi => pw_cell_below hb (HX.out i hi).1)
      have hsx := HSZ.out k hlt
      generalize l.getD k z112 = x at *
      go_wp2_with fail
      have HBW := Lib.hid hb
      clear hb
      cases hn : nameI x.f0 with
      | false =>
        have HNM : Hid (∀ W', Calls Tryd.prog 145 #[.string x.f0] W' (BoolBelow false W')) := Lib.hid (fun W' => by have := (rname_any x.f0 hsx W').mono (fun e w' h => (⟨h.1, h.2.below⟩ : BoolBelow (nameI x.f0) W' e w')); rwa [hn] at this)
        have HF : Hid (rightL l = false) := Lib.hid (by unfold rightL; rw [HST.out, labB, hn]; simp)
        clear hn hsx
        have C0 := fun d os => cell_regrown c0 d os
        have C1 := fun d os => cell_regrown c1 d os
        have cN := fun d os => Calls.regrown_of (HNM.out (Go.Sort.grow (redrawn wr d) os))
        refine wp_region_quiet_below (by kernel_rfl) (by kernel_rfl) ?_
        repeat (first | go_big_quiet_step ((exact cN _ _)) | quiet_step ((exact cN _ _)))
        refine wpQuiet_nil ?_
        intro _ hw'
        obtain ⟨⟨dq, osq⟩, hw''⟩ := hw'
        subst hw''
        go_wp2
        go_ret
        exact ⟨by rw [HF.out]; rfl, HBW.out.trans ((below_regrown wr dq osq).mono HBW.out.size)⟩
      | true =>
        have HNM : Hid (∀ W', Calls Tryd.prog 145 #[.string x.f0] W' (BoolBelow true W')) := Lib.hid (fun W' => by have := (rname_any x.f0 hsx W').mono (fun e w' h => (⟨h.1, h.2.below⟩ : BoolBelow (nameI x.f0) W' e w')); rwa [hn] at this)
        have C0 := fun d os => cell_regrown c0 d os
        have C1 := fun d os => cell_regrown c1 d os
        have cN := fun d os => Calls.regrown_of (HNM.out (Go.Sort.grow (redrawn wr d) os))
        cases hv : valI x.f1 with
        | false =>
          have HVM : Hid (∀ W', Calls Tryd.prog 146 #[.string x.f1] W' (BoolBelow false W')) := Lib.hid (fun W' => by have := rvalue_any x.f1 W'; rwa [hv] at this)
          have cV := fun d os => Calls.regrown_of (HVM.out (Go.Sort.grow (redrawn wr d) os))
          have HF : Hid (rightL l = false) := Lib.hid (by unfold rightL; rw [HST.out, labB, hv]; simp)
          clear hn hv hsx
          refine wp_region_quiet_below (by kernel_rfl) (by kernel_rfl) ?_
          repeat (first | go_big_quiet_step ((first | exact cN _ _ | exact cV _ _)) | quiet_step ((first | exact cN _ _ | exact cV _ _)))
          refine wpQuiet_nil ?_
          intro _ hw'
          obtain ⟨⟨dq, osq⟩, hw''⟩ := hw'
          subst hw''
          go_wp2
          go_ret
          exact ⟨by rw [HF.out]; rfl, HBW.out.trans ((below_regrown wr dq osq).mono HBW.out.size)⟩
        | true =>
          have HVM : Hid (∀ W', Calls Tryd.prog 146 #[.string x.f1] W' (BoolBelow true W')) := Lib.hid (fun W' => by have := rvalue_any x.f1 W'; rwa [hv] at this)
          have cV := fun d os => Calls.regrown_of (HVM.out (Go.Sort.grow (redrawn wr d) os))
          have HLB : Hid (labB (ahead l k) x = risesB (ahead l k) x) := Lib.hid (by rw [labB, hn, hv]; simp)
          clear hn hv hsx
          by_cases hk0 : k = 0
          · have hkz : decide ((0 : Int) < (k : Int)) = false := decide_eq_false (by omega)
            have hkz2 : decide (0 < k) = false := decide_eq_false (by omega)
            have HN : Hid (labsB none l = labsB (ahead l (k + 1)) (l.drop (k + 1))) := Lib.hid (by rw [HST.out, HLB.out, hk0]; simp [ahead, risesB])
            clear hk0
            refine wp_region_quiet_below (by kernel_rfl) (by kernel_rfl) ?_
            repeat (first | go_big_quiet_step ((first | exact cN _ _ | exact cV _ _)) | quiet_step ((first | exact cN _ _ | exact cV _ _)))
            refine wpQuiet_nil ?_
            intro _ hw'
            obtain ⟨⟨dq, osq⟩, hw''⟩ := hw'
            subst hw''
            go_wp2_with fail
            go_roundw
            case rel => exact ⟨k + 1, by go_num, by omega, HN.out, HBW.out.trans ((below_regrown wr dq osq).mono HBW.out.size)⟩
            case measure => simp [intOf]; omega
          · obtain ⟨m, rfl⟩ : ∃ m, k = m + 1 := ⟨k - 1, by omega⟩
            have hcast : ((m + 1 : Nat) : Int) = (m : Int) + 1 := by omega
            have c2 := HXW.out m (by omega)
            have HRS : Hid (risesB (ahead l (m + 1)) x = Op.bytesLess (l.getD m z112).f0.toList x.f0.toList) := Lib.hid (by simp [ahead, risesB])
            generalize (l.getD m z112).f0 = q at *
            have C2 := fun d os => cell_regrown c2 d os
            have hkz : decide ((0 : Int) < (m : Int) + 1) = true := decide_eq_true (by omega)
            have hw1 : IntKind.i64.wrap ((m : Int) + 1 - 1) = (m : Int) := by rw [IntWalk.i64_in _ ⟨by omega, by omega⟩]; omega
            have hm0 : (0 : Int) ≤ (m : Int) := by omega
            have hml : (m : Int) < (l.length : Int) := by omega
            clear hk0 hki
            cases hle : Op.bytesLess q.toList x.f0.toList with
            | true =>
              have HN : Hid (labsB none l = labsB (ahead l (m + 1 + 1)) (l.drop (m + 1 + 1))) := Lib.hid (by rw [HST.out, HLB.out, HRS.out, hle]; simp)
              have hfl := bl_flip q.toList x.f0.toList
              rw [hle] at hfl
              have hA : Op.bytesLess x.f0.toList q.toList = false := by cases h : Op.bytesLess x.f0.toList q.toList <;> simp_all
              have hB : (x.f0.toList == q.toList) = false := by cases h : (x.f0.toList == q.toList) <;> simp_all
              clear hfl
              refine wp_region_quiet_below (by kernel_rfl) (by kernel_rfl) ?_
              repeat (first | go_big_quiet_step ((first | exact cN _ _ | exact cV _ _)) | quiet_step ((first | exact cN _ _ | exact cV _ _)))
              refine wpQuiet_nil ?_
              intro _ hw'
              obtain ⟨⟨dq, osq⟩, hw''⟩ := hw'
              subst hw''
              go_wp2_with fail
              go_roundw
              case rel => exact ⟨m + 1 + 1, by go_num, by omega, HN.out, HBW.out.trans ((below_regrown wr dq osq).mono HBW.out.size)⟩
              case measure => simp [intOf]; omega
            | false =>
              have HF : Hid (rightL l = false) := Lib.hid (by unfold rightL; rw [HST.out, HLB.out, HRS.out, hle]; simp)
              have hfl := bl_flip q.toList x.f0.toList
              rw [hle] at hfl
              cases hA : Op.bytesLess x.f0.toList q.toList
              · have hB : (x.f0.toList == q.toList) = true := by rw [hA] at hfl; simpa using hfl
                clear hfl
                refine wp_region_quiet_below (by kernel_rfl) (by kernel_rfl) ?_
                repeat (first | go_big_quiet_step ((first | exact cN _ _ | exact cV _ _)) | quiet_step ((first | exact cN _ _ | exact cV _ _)))
                refine wpQuiet_nil ?_
                intro _ hw'
                obtain ⟨⟨dq, osq⟩, hw''⟩ := hw'
                subst hw''
                go_wp2
                go_ret
                exact ⟨by rw [HF.out]; rfl, HBW.out.trans ((below_regrown wr dq osq).mono HBW.out.size)⟩
              · clear hfl
                refine wp_region_quiet_below (by kernel_rfl) (by kernel_rfl) ?_
                repeat (first | go_big_quiet_step ((first | exact cN _ _ | exact cV _ _)) | quiet_step ((first | exact cN _ _ | exact cV _ _)))
                refine wpQuiet_nil ?_
                intro _ hw'
                obtain ⟨⟨dq, osq⟩, hw''⟩ := hw'
                subst hw''
                go_wp2
                go_ret
                exact ⟨by rw [HF.out]; rfl, HBW.out.trans ((below_regrown wr dq osq).mono HBW.out.size)⟩
    · have HB := Lib.hid hb
      have HA : Hid (labsB none l = true) := Lib.hid (by rw [HEQ.out, List.drop_eq_nil_of_le (by omega)]; rfl)
      clear hb
      by_cases h1 : 1 ≤ l.length
      · have h1i : decide ((1 : Int) ≤ (l.length : Int)) = true := decide_eq_true (by omega)
        by_cases h2 : l.length ≤ 16
        · have h2i : decide ((l.length : Int) ≤ 16) = true := decide_eq_true (by omega)
          have HF : Hid (rightL l = true) := Lib.hid (by unfold rightL; rw [HA.out]; simp [h1, h2])
          go_wp2
          go_ret
          exact ⟨by rw [HF.out]; rfl, HB.out⟩
        · have h2i : decide ((l.length : Int) ≤ 16) = false := decide_eq_false (by omega)
          have HF : Hid (rightL l = false) := Lib.hid (by unfold rightL; rw [decide_eq_false h2]; simp)
          go_wp2
          go_ret
          exact ⟨by rw [HF.out]; rfl, HB.out⟩
      · have h1i : decide ((1 : Int) ≤ (l.length : Int)) = false := decide_eq_false (by omega)
        have HF : Hid (rightL l = false) := Lib.hid (by unfold rightL; rw [decide_eq_false h1]; simp)
        go_wp2
        go_ret
        exact ⟨by rw [HF.out]; rfl, HB.out⟩
theorem labsS_sz (bs : List Int) (er : Int) (k : Nat) : ∀ x ∈ (labsS bs er k).1, x.f0.size ≤ 65536 := by
  induction k with
  | zero => intro x hx; cases hx
  | succ k ih =>
    intro x hx
    rw [labsS] at hx
    rcases List.mem_append.1 hx with h | h
    · exact ih x h
    · simp only [List.mem_singleton] at h
      subst h
      exact textS_size _ _
theorem sz_mem {l : List S112} (h : ∀ x ∈ l, x.f0.size ≤ 65536) : SzOk l := fun k hk => by
  have e : l.getD k z112 = l[k] := by simp [hk]
  rw [e]
  have := h _ (List.getElem_mem hk)
  omega
theorem readS_sz (bs : List Int) : SzOk (readS bs).1 := sz_mem (labsS_sz _ _ _)
theorem readL_sz (bs : List Int) : SzOk (readL bs).1 := by
  unfold readL
  split
  · intro k hk; exact absurd hk (Nat.not_lt_zero _)
  · exact readS_sz bs
end Go.Proofs.YtojocffjajcdmaaDoor
namespace Go.Proofs.YtojocffjajcdmaaDoor
open Go.RowKit Go.Proofs.YtojocffjajcdmaaDoorW.PrintWords Go.Proofs.YtojocffjajcdmaaDoorW.PrintLast Go.Proofs.YtojocffjajcdmaaDoorW.PrintMore PChunkAll
set_option linter.unusedVariables false
set_option linter.unusedSimpArgs false

set_option maxHeartbeats 4000000 in
set_option maxRecDepth 100000 in
/-- The reference's Read. -/
theorem rread_any (A : Option Addr) (c : Nat) (bs : List Int) (w : World) (hr : Kd.C KB w A bs.length bs) (hl : bs.length ≤ 140737488355328) (hB : Byt bs) : Calls Tryd.prog 92 #[.slice A bs.length c] w (LabsBelow (readL bs).1 (readL bs).2 w) := by
  have HNW := Lib.hid (rnew_any A c bs w hr hl hB)
  have HSZ := Lib.hid (readS_sz bs)
  have HFR := Lib.hid (fun g W (h : RefAt W g bs 0) => from_any g bs W h)
  have HRL : Hid (readL bs = if doneG (readS bs).2.1 (readS bs).2.2 ≠ 0 ∨ rightL (readS bs).1 = false then ([], 21) else ((readS bs).1, 0)) := Lib.hid rfl
  clear hr hl hB
  generalize readS bs = S at *
  obtain ⟨ls, b2, e2⟩ := S
  simp only at HFR HRL HSZ
  have HDN := Lib.hid (fun g W (h : RefAt W g b2 e2) => rdone_any g b2 e2 W h)
  generalize doneG b2 e2 = dn at *
  by_cases h0 : dn = 0
  · subst h0
    cases hRL : rightL ls with
    | true =>
      have HE : Hid (readL bs = (ls, 0)) := Lib.hid (by rw [HRL.out, if_neg (by simp [hRL])])
      have HRX : Hid (∀ A c W, Kd.C k112 W A ls.length ls → Calls Tryd.prog 96 #[.slice A ls.length c] W (BoolBelow true W)) := Lib.hid (fun A c W h => by have := rright_any A c ls W h HSZ.out; rwa [hRL] at this)
      clear hRL HRL
      go_enter Tryd.func92, Tryd.ntmps92
      go_wp2_with (first | (go_at_call 90; (with_reducible refine (HNW.out).mono ?_); rintro e w2 ⟨g, rfl, hg, hd, hb⟩; have HD := Lib.hid hd; have HB := Lib.hid hb; have HG := Lib.hid hg; clear hd hb hg) | (go_at_call 141; (with_reducible refine (HFR.out _ _ HD.out).mono ?_); rintro e w3 ⟨v, rfl, ho, hd, hgr⟩; obtain ⟨Al, cl, hv⟩ := Kd.R_slice ho; subst hv; have HD3 := Lib.hid hd; have HO3 := Lib.hid (Kd.R_lower ho HB.out.size); have HB3 := Lib.hid (pw_below_grown HB.out (some g) HB.out.size hgr (fun k hk => by injection hk with hk; rw [← hk]; exact HG.out)); clear ho hd hgr) | (go_at_call 94; (with_reducible refine (HDN.out _ _ HD3.out).mono ?_); rintro e w4 ⟨rfl, n, rfl⟩) | (go_at_call 96; (with_reducible refine (HRX.out _ _ _ (Kd.C_below (Kd.R_reads' HO3.out).2.2 (pw_below_drewN (Below.refl _ _) n))).mono ?_); rintro e w6 ⟨rfl, hb6⟩; have HB6 := Lib.hid (below_step (below_step HB3.out (pw_below_drewN (Below.refl _ _) n)) hb6); have HO6 := Lib.hid (Kd.R_below (Kd.R_below HO3.out (pw_below_drewN (Below.refl _ _) n)) hb6); clear hb6))
      go_ret2
      exact ⟨_, by rw [HE.out]; rfl, by rw [HE.out]; exact HO6.out, HB6.out⟩
    | false =>
      have HE : Hid (readL bs = ([], 21)) := Lib.hid (by rw [HRL.out, if_pos (.inr hRL)])
      have HRX : Hid (∀ A c W, Kd.C k112 W A ls.length ls → Calls Tryd.prog 96 #[.slice A ls.length c] W (BoolBelow false W)) := Lib.hid (fun A c W h => by have := rright_any A c ls W h HSZ.out; rwa [hRL] at this)
      clear hRL HRL
      go_enter Tryd.func92, Tryd.ntmps92
      go_wp2_with (first | (go_at_call 90; (with_reducible refine (HNW.out).mono ?_); rintro e w2 ⟨g, rfl, hg, hd, hb⟩; have HD := Lib.hid hd; have HB := Lib.hid hb; have HG := Lib.hid hg; clear hd hb hg) | (go_at_call 141; (with_reducible refine (HFR.out _ _ HD.out).mono ?_); rintro e w3 ⟨v, rfl, ho, hd, hgr⟩; obtain ⟨Al, cl, hv⟩ := Kd.R_slice ho; subst hv; have HD3 := Lib.hid hd; have HO3 := Lib.hid (Kd.R_lower ho HB.out.size); have HB3 := Lib.hid (pw_below_grown HB.out (some g) HB.out.size hgr (fun k hk => by injection hk with hk; rw [← hk]; exact HG.out)); clear ho hd hgr) | (go_at_call 94; (with_reducible refine (HDN.out _ _ HD3.out).mono ?_); rintro e w4 ⟨rfl, n, rfl⟩) | (go_at_call 96; (with_reducible refine (HRX.out _ _ _ (Kd.C_below (Kd.R_reads' HO3.out).2.2 (pw_below_drewN (Below.refl _ _) n))).mono ?_); rintro e w6 ⟨rfl, hb6⟩; have HB6 := Lib.hid (below_step (below_step HB3.out (pw_below_drewN (Below.refl _ _) n)) hb6); clear hb6))
      go_ret2
      exact ⟨_, by rw [HE.out]; rfl, by rw [HE.out]; exact Kd.R_nil _ _ _ _ _, HB6.out⟩
  · have HE : Hid (readL bs = ([], 21)) := Lib.hid (by rw [HRL.out, if_pos (.inl h0)])
    have hne : (dn != 0) = true := by simp [h0]
    clear h0 HRL
    go_enter Tryd.func92, Tryd.ntmps92
    go_wp2_with (first | (go_at_call 90; (with_reducible refine (HNW.out).mono ?_); rintro e w2 ⟨g, rfl, hg, hd, hb⟩; have HD := Lib.hid hd; have HB := Lib.hid hb; have HG := Lib.hid hg; clear hd hb hg) | (go_at_call 141; (with_reducible refine (HFR.out _ _ HD.out).mono ?_); rintro e w3 ⟨v, rfl, ho, hd, hgr⟩; obtain ⟨Al, cl, hv⟩ := Kd.R_slice ho; subst hv; have HD3 := Lib.hid hd; have HB3 := Lib.hid (pw_below_grown HB.out (some g) HB.out.size hgr (fun k hk => by injection hk with hk; rw [← hk]; exact HG.out)); clear ho hd hgr) | (go_at_call 94; (with_reducible refine (HDN.out _ _ HD3.out).mono ?_); rintro e w4 ⟨rfl, n, rfl⟩))
    go_ret2
    exact ⟨_, by rw [HE.out]; rfl, by rw [HE.out]; exact Kd.R_nil _ _ _ _ _, below_step HB3.out (pw_below_drewN (Below.refl _ _) n)⟩
end Go.Proofs.YtojocffjajcdmaaDoor
namespace Go.Proofs.YtojocffjajcdmaaDoor
open Go.RowKit Go.Proofs.YtojocffjajcdmaaDoorW.PrintWords Go.Proofs.YtojocffjajcdmaaDoorW.PrintLast Go.Proofs.YtojocffjajcdmaaDoorW.PrintMore PChunkAll
set_option linter.unusedVariables false
set_option linter.unusedSimpArgs false

set_option maxHeartbeats 1000000 in
/-- The reference's Right of an entry. -/
theorem rrightE_any (x : S33) (A : Option Addr) (c : Nat) (w : World) (hr : Kd.C k112 w A x.f2.length x.f2) (hsz : SzOk x.f2) : Calls Tryd.prog 30 #[entA x A c] w (BoolBelow (rightE x) w) := by
  have hb0 : Below w.heap.size w (w.alloc (.cells (entC x A c) 33)) := below_alloc (Below.refl _ _) _
  have HRL := Lib.hid (rright_any A c x.f2 _ (Kd.C_alloc hr (.cells (entC x A c) 33)) hsz)
  have c3 : (w.alloc (.cells (entC x A c) 33)).cell? ⟨w.heap.size, 3, none⟩ = some (.string x.f3) := by rw [blk_cell (heap_alloc_new w _)]; rfl
  have HE : Hid (rightE x = ((decide (1 ≤ x.f0) && (decide (x.f0 < 1099511627776) && (decide (0 ≤ x.f1) && decide (x.f1 < 1099511627776)))) && (rightL x.f2 && decide (x.f3.size ≤ 1024)))) := Lib.hid rfl
  clear hsz hr
  by_cases h1 : 1 ≤ x.f0
  · have e1 : decide (1 ≤ x.f0) = true := decide_eq_true h1
    by_cases h2 : x.f0 < 1099511627776
    · have e2 : decide (x.f0 < 1099511627776) = true := decide_eq_true h2
      by_cases h3 : 0 ≤ x.f1
      · have e3 : decide (0 ≤ x.f1) = true := decide_eq_true h3
        by_cases h4 : x.f1 < 1099511627776
        · have e4 : decide (x.f1 < 1099511627776) = true := decide_eq_true h4
          cases h5 : rightL x.f2 with
          | true =>
            rw [h5] at HRL
            by_cases h6 : x.f3.size ≤ 1024
            · have e6 : decide ((x.f3.size : Int) ≤ 1024) = true := decide_eq_true (by omega)
              have HF : Hid (rightE x = true) := Lib.hid (by rw [HE.out, e1, e2, e3, e4, h5, decide_eq_true h6]; rfl)
              clear h5 HE
              go_enter Tryd.func30, Tryd.ntmps30
              go_wp2_with (go_at_call 96; refine (HRL.out).mono ?_; rintro e w2 ⟨rfl, hb⟩; have hc := pw_cell_below hb c3)
              go_ret
              exact ⟨by rw [HF.out]; rfl, below_then hb0 hb0.size hb⟩
            · have e6 : decide ((x.f3.size : Int) ≤ 1024) = false := decide_eq_false (by omega)
              have HF : Hid (rightE x = false) := Lib.hid (by rw [HE.out, decide_eq_false h6]; simp)
              clear h5 HE
              go_enter Tryd.func30, Tryd.ntmps30
              go_wp2_with (go_at_call 96; refine (HRL.out).mono ?_; rintro e w2 ⟨rfl, hb⟩; have hc := pw_cell_below hb c3)
              go_ret
              exact ⟨by rw [HF.out]; rfl, below_then hb0 hb0.size hb⟩
          | false =>
            rw [h5] at HRL
            have HF : Hid (rightE x = false) := Lib.hid (by rw [HE.out, h5]; simp)
            clear h5 HE
            go_enter Tryd.func30, Tryd.ntmps30
            go_wp2_with (go_at_call 96; refine (HRL.out).mono ?_; rintro e w2 ⟨rfl, hb⟩)
            go_ret
            exact ⟨by rw [HF.out]; rfl, below_then hb0 hb0.size hb⟩
        · have e4 : decide (x.f1 < 1099511627776) = false := decide_eq_false h4
          have HF : Hid (rightE x = false) := Lib.hid (by rw [HE.out, e4]; simp)
          clear HE
          go_enter Tryd.func30, Tryd.ntmps30
          go_wp2
          go_ret
          exact ⟨by rw [HF.out]; rfl, hb0⟩
      · have e3 : decide (0 ≤ x.f1) = false := decide_eq_false h3
        have HF : Hid (rightE x = false) := Lib.hid (by rw [HE.out, e3]; simp)
        clear HE
        go_enter Tryd.func30, Tryd.ntmps30
        go_wp2
        go_ret
        exact ⟨by rw [HF.out]; rfl, hb0⟩
    · have e2 : decide (x.f0 < 1099511627776) = false := decide_eq_false h2
      have HF : Hid (rightE x = false) := Lib.hid (by rw [HE.out, e2]; simp)
      clear HE
      go_enter Tryd.func30, Tryd.ntmps30
      go_wp2
      go_ret
      exact ⟨by rw [HF.out]; rfl, hb0⟩
  · have e1 : decide (1 ≤ x.f0) = false := decide_eq_false h1
    have HF : Hid (rightE x = false) := Lib.hid (by rw [HE.out, e1]; simp)
    clear HE
    go_enter Tryd.func30, Tryd.ntmps30
    go_wp2
    go_ret
    exact ⟨by rw [HF.out]; rfl, hb0⟩
end Go.Proofs.YtojocffjajcdmaaDoor
namespace Go.Proofs.YtojocffjajcdmaaDoor
open Go.RowKit Go.Proofs.YtojocffjajcdmaaDoorW.PrintWords Go.Proofs.YtojocffjajcdmaaDoorW.PrintLast Go.Proofs.YtojocffjajcdmaaDoorW.PrintMore PChunkAll
set_option linter.unusedVariables false
set_option linter.unusedSimpArgs false

theorem readL_err {bs : List Int} (h : (readL bs).2 ≠ 0) : rightL (readL bs).1 = false := by
  unfold readL at h ⊢
  split
  · rfl
  · rename_i hn
    rw [if_neg hn] at h
    exact absurd rfl h

set_option maxHeartbeats 8000000 in
set_option maxRecDepth 100000 in
/-- The reference's Get of an entry. -/
theorem rgetE_any
    (A : Option Addr) (c : Nat) (bs : List Int) (w : World) (hr : Kd.C KB w A bs.length bs) (hl : bs.length ≤ 140737488355328) (hB : Byt bs) : Calls Tryd.prog 28 #[.slice A bs.length c] w (EntBelow (getE bs).1 (getE bs).2 w) := by
  have hb0 : Below w.heap.size w (w.alloc (.cells zC 33)) := below_alloc (Below.refl _ _) _
  have HNW := Lib.hid (rnew_any A c bs _ (Kd.C_alloc hr (.cells zC 33)) hl hB)
  have hz0 : (w.alloc (.cells zC 33)).heap[w.heap.size]? = some (.cells zC 33 (0, 0)) := heap_alloc_new w _
  have HGE : Hid (getE bs = if doneG (g5 bs).2.1 (g5 bs).2.2 ≠ 0 ∨ rightE (getX bs) = false then (z33, 21) else (getX bs, 0)) := Lib.hid rfl
  have HGX : Hid (getX bs = ⟨(g1 bs).1, (g2 bs).1, (g4 bs).1, (g5 bs).1⟩) := Lib.hid rfl
  have HC1 : Hid (∀ g W, RefAt W g bs 0 → Calls Tryd.prog 91 #[.pointer (some ⟨g, 0, none⟩)] W fun e w' => e = .returned (.int .i64 (g1 bs).1) ∧ RefAt w' g (g1 bs).2.1 (g1 bs).2.2 ∧ W.grownBy w' (some g)) := Lib.hid (fun g W h => rnum_any g bs 0 W h)
  have HC2 : Hid (∀ g W, RefAt W g (g1 bs).2.1 (g1 bs).2.2 → Calls Tryd.prog 91 #[.pointer (some ⟨g, 0, none⟩)] W fun e w' => e = .returned (.int .i64 (g2 bs).1) ∧ RefAt w' g (g2 bs).2.1 (g2 bs).2.2 ∧ W.grownBy w' (some g)) := Lib.hid (fun g W h => rnum_any g _ _ W h)
  have HC3 : Hid (∀ g W, RefAt W g (g2 bs).2.1 (g2 bs).2.2 → Calls Tryd.prog 93 #[.pointer (some ⟨g, 0, none⟩)] W fun e w' => e = .returned (.string (g3 bs).1) ∧ RefAt w' g (g3 bs).2.1 (g3 bs).2.2 ∧ W.grownBy w' (some g)) := Lib.hid (fun g W h => rtext_any g _ _ W h)
  have hs3 : (g3 bs).1.size ≤ 65536 := textS_size _ _
  have HC4 : Hid (∀ W, Calls Tryd.prog 92 #[.slice (some ⟨W.heap.size, 0, none⟩) (g3 bs).1.size (grownCap W (g3 bs).1.size 0 5)] (Lib.bytesWorld W 5 (g3 bs).1) (LabsBelow (g4 bs).1 (g4 bs).2 (Lib.bytesWorld W 5 (g3 bs).1))) := Lib.hid (fun W => by
    have h := rread_any (some ⟨W.heap.size, 0, none⟩) (grownCap W (g3 bs).1.size 0 5) (bytesOf (g3 bs).1) (Lib.bytesWorld W 5 (g3 bs).1) (str_C W _ hs3) (by rw [bytesOf_length]; omega) (byt_bytesOf _)
    rw [bytesOf_length] at h
    exact h)
  have HC5 : Hid (∀ g W, RefAt W g (g3 bs).2.1 (g3 bs).2.2 → Calls Tryd.prog 93 #[.pointer (some ⟨g, 0, none⟩)] W fun e w' => e = .returned (.string (g5 bs).1) ∧ RefAt w' g (g5 bs).2.1 (g5 bs).2.2 ∧ W.grownBy w' (some g)) := Lib.hid (fun g W h => rtext_any g _ _ W h)
  have HC6 : Hid (∀ g W, RefAt W g (g5 bs).2.1 (g5 bs).2.2 → Calls Tryd.prog 94 #[.pointer (some ⟨g, 0, none⟩)] W fun e w' => e = .returned (.int .i64 (doneG (g5 bs).2.1 (g5 bs).2.2)) ∧ ∃ n, w' = W.drewN n) := Lib.hid (fun g W h => rdone_any g _ _ W h)
  have HC7 : Hid (∀ A c W, Kd.C k112 W A (g4 bs).1.length (g4 bs).1 → Calls Tryd.prog 30 #[.agg #[.int .i64 (g1 bs).1, .int .i64 (g2 bs).1, .slice A (g4 bs).1.length c, .string (g5 bs).1]] W (BoolBelow (rightE (getX bs)) W)) := Lib.hid (fun A c W hC => rrightE_any (getX bs) A c W hC (readL_sz _))
  have HE4 : Hid ((g4 bs).2 ≠ 0 → rightE (getX bs) = false) := Lib.hid (fun h => by
    have h1 : rightL (g4 bs).1 = false := readL_err h
    unfold rightE
    rw [show (getX bs).f2 = (g4 bs).1 from rfl, h1]
    simp)
  have KB3 := fun W => print_bytes (P := Tryd.prog) 9 23 5 Tryd.underlying9 Tryd.underlying23 Tryd.underlying5 (g3 bs).1 W
  generalize getX bs = X at *
  generalize hd5 : doneG (g5 bs).2.1 (g5 bs).2.2 = dn at *
  clear hd5
  generalize g5 bs = G5 at *
  generalize g4 bs = G4 at *
  generalize g3 bs = G3 at *
  generalize g2 bs = G2 at *
  generalize g1 bs = G1 at *
  obtain ⟨v1, b1, e1⟩ := G1
  obtain ⟨v2, b2, e2⟩ := G2
  obtain ⟨s3, b3, e3⟩ := G3
  obtain ⟨ls, e4⟩ := G4
  obtain ⟨s5, b5, e5⟩ := G5
  simp only at HC1 HC2 HC3 HC4 HC5 HC6 HC7 HE4 KB3 HGX hs3
  have HB0 := Lib.hid hb0
  have HZ0 := Lib.hid hz0
  clear hr hl hB hb0 hz0
  go_enter Tryd.func28, Tryd.ntmps28
  go_wp2_with (first | (go_at_call 90; (with_reducible refine (HNW.out).mono ?_); rintro e w2 ⟨g, rfl, hg, hd, hb⟩; have HD2 := Lib.hid hd; have HG : Hid (w.heap.size < g) := Lib.hid (by have h1 : (w.alloc (.cells zC 33)).heap.size = w.heap.size + 1 := (by simp); omega); have HB2 := Lib.hid (below_then HB0.out HB0.out.size hb); have HZ2 := Lib.hid (blk_below HZ0.out hb); clear hd hb hg) | (go_at_call 91; (with_reducible refine (HC1.out _ _ HD2.out).mono ?_); rintro e w3 ⟨rfl, hd, hgr⟩; have HD3 := Lib.hid hd; have HB3 := Lib.hid (pw_below_grown HB2.out (some g) HB2.out.size hgr (fun k hk => by injection hk with hk; rw [← hk]; exact Nat.le_of_lt HG.out)); have HZ3 := Lib.hid (blk_grown HZ2.out hgr (by intro x; injection x with x; have := HG.out; omega)); clear hd hgr))
  obtain ⟨W, hW⟩ : ∃ W, W = w3.alloc (.cells #[.int .i64 v1, .int .i64 0, .slice none 0 0, .string ⟨#[]⟩] 33) := ⟨_, rfl⟩
  rw [← hW]
  have HE : Hid (W.heap[w3.heap.size]? = some (.cells #[.int .i64 v1, .int .i64 0, .slice none 0 0, .string ⟨#[]⟩] 33 (0, 0))) := Lib.hid (by rw [hW]; exact heap_alloc_new w3 _)
  have hbW : Below w3.heap.size w3 W := by rw [hW]; exact below_alloc (Below.refl _ _) _
  have HDW := Lib.hid (HD3.out.below hbW)
  have HZW := Lib.hid (blk_below HZ3.out hbW)
  have HBW := Lib.hid (below_step HB3.out hbW)
  have HLE := Lib.hid HD3.out.lt
  clear hW hbW
  generalize w3.heap.size = E at *
  go_wp2_with (go_at_call 91; (with_reducible refine (HC2.out _ _ HDW.out).mono ?_); rintro e w4 ⟨rfl, hd, hgr⟩; have HD4 := Lib.hid hd; have HB4 := Lib.hid (pw_below_grown HBW.out (some g) HBW.out.size hgr (fun k hk => by injection hk with hk; rw [← hk]; exact Nat.le_of_lt HG.out)); have HZ4 := Lib.hid (blk_grown HZW.out hgr (by intro x; injection x with x; have := HG.out; omega)); have HE4b := Lib.hid (blk_grown HE.out hgr (by intro x; injection x with x; have := HLE.out; omega)); have f1 := blk_frozen HE4b.out 1; have x1 := (blk_cell HE4b.out 1).trans (rfl : _ = some (Value.int .i64 0)); clear hd hgr)
  obtain ⟨W2, hW2⟩ : ∃ W, W = w4.setCell ⟨E, 1, none⟩ (.int .i64 v2) := ⟨_, rfl⟩
  rw [← hW2]
  have HDX : Hid (RefAt W2 g b2 e2) := Lib.hid (by rw [hW2]; exact HD4.out.set HLE.out)
  have HZX : Hid (W2.heap[w.heap.size]? = some (.cells zC 33 (0, 0))) := Lib.hid (by rw [hW2]; exact blk_far (p := ⟨E, 1, none⟩) HZ4.out (by have := HG.out; have := HLE.out; show w.heap.size ≠ E; omega) _)
  have HEX : Hid (W2.heap[E]? = some (.cells #[.int .i64 v1, .int .i64 v2, .slice none 0 0, .string ⟨#[]⟩] 33 (0, 0))) := Lib.hid (by rw [hW2]; exact blk_put HE4b.out 1 (.int .i64 v2) (cs' := #[.int .i64 v1, .int .i64 v2, .slice none 0 0, .string ⟨#[]⟩]) rfl)
  have HBX : Hid (Below w.heap.size w W2) := Lib.hid (by rw [hW2]; exact below_set (j := 1) (v := .int .i64 v2) HB4.out (Nat.le_of_lt (Nat.lt_trans HG.out HLE.out)))
  clear hW2 f1 x1
  go_wp2_with (first | (go_at_call 93; (with_reducible refine (HC3.out _ _ HDX.out).mono ?_); rintro e w5 ⟨rfl, hd, hgr⟩; have HD5 := Lib.hid hd; have HB5 := Lib.hid (pw_below_grown HBX.out (some g) HBX.out.size hgr (fun k hk => by injection hk with hk; rw [← hk]; exact Nat.le_of_lt HG.out)); have HZ5 := Lib.hid (blk_grown HZX.out hgr (by intro x; injection x with x; have := HG.out; omega)); have HE5 := Lib.hid (blk_grown HEX.out hgr (by intro x; injection x with x; have := HLE.out; omega)); clear hd hgr) | (go_at_call 92; (with_reducible refine (HC4.out _).mono ?_); rintro e w6 ⟨v, rfl, ho, hb⟩; obtain ⟨Al, cl, hv⟩ := Kd.R_slice ho; subst hv; have hb6 := below_then (bytes_below (Below.refl _ w5) (Nat.le_refl _) 5 s3) (bytes_below (Below.refl _ w5) (Nat.le_refl _) 5 s3).size hb; have HB6 := Lib.hid (below_step HB5.out hb6); have HD6 := Lib.hid (HD5.out.below hb6); have HZ6 := Lib.hid (blk_below HZ5.out hb6); have HE6 := Lib.hid (blk_below HE5.out hb6); have HO6 := Lib.hid (Kd.R_lower ho (Nat.le_trans HB5.out.size (bytes_below (Below.refl _ w5) (Nat.le_refl _) 5 s3).size)); have f2 := blk_frozen HE6.out 2; have x2 := (blk_cell HE6.out 2).trans (rfl : _ = some (Value.slice none 0 0)); clear ho hb hb6) | (go_at_call 93; (with_reducible refine (HC5.out _ _ (HD6.out.set HLE.out)).mono ?_); rintro e w7 ⟨rfl, hd, hgr⟩; have HD7 := Lib.hid hd; have hb6 := below_set (j := 2) (v := .slice Al ls.length cl) HB6.out (Nat.le_of_lt (Nat.lt_trans HG.out HLE.out)); have HB7 := Lib.hid (pw_below_grown hb6 (some g) hb6.size hgr (fun k hk => by injection hk with hk; rw [← hk]; exact Nat.le_of_lt HG.out)); have HZ7 := Lib.hid (blk_grown (blk_far (p := ⟨E, 2, none⟩) HZ6.out (by have := HG.out; have := HLE.out; show w.heap.size ≠ E; omega) _) hgr (by intro x; injection x with x; have := HG.out; omega)); have HE7 := Lib.hid (blk_grown (blk_put HE6.out 2 (.slice Al ls.length cl) (cs' := #[.int .i64 v1, .int .i64 v2, .slice Al ls.length cl, .string ⟨#[]⟩]) rfl) hgr (by intro x; injection x with x; have := HLE.out; omega)); have HO7 := Lib.hid (labs_ref (labs_set HO6.out HE6.out) (HD6.out.set HLE.out) hgr); have f3 := blk_frozen HE7.out 3; have x3 := (blk_cell HE7.out 3).trans (rfl : _ = some (Value.string ⟨#[]⟩)); clear hd hgr hb6))
  obtain ⟨W8, hW8⟩ : ∃ W, W = w7.setCell ⟨E, 3, none⟩ (.string s5) := ⟨_, rfl⟩
  rw [← hW8]
  have HE8 : Hid (W8.heap[E]? = some (.cells #[.int .i64 v1, .int .i64 v2, .slice Al ls.length cl, .string s5] 33 (0, 0))) := Lib.hid (by rw [hW8]; exact blk_put HE7.out 3 (.string s5) (cs' := #[.int .i64 v1, .int .i64 v2, .slice Al ls.length cl, .string s5]) rfl)
  have HZ8 : Hid (W8.heap[w.heap.size]? = some (.cells zC 33 (0, 0))) := Lib.hid (by rw [hW8]; exact blk_far HZ7.out (p := ⟨E, 3, none⟩) (by have := HG.out; have := HLE.out; show w.heap.size ≠ E; omega) (.string s5))
  have HO8 : Hid (Kd.R k112 112 W8 w.heap.size (fun _ => True) (.slice Al ls.length cl) ls) := Lib.hid (by rw [hW8]; exact labs_set (i := 3) (u := .string s5) HO7.out HE7.out)
  have HD8 : Hid (RefAt W8 g b5 e5) := Lib.hid (by rw [hW8]; exact HD7.out.set (i := 3) (u := .string s5) HLE.out)
  have HB8 : Hid (Below w.heap.size w W8) := Lib.hid (by rw [hW8]; exact below_set (j := 3) (v := .string s5) HB7.out (Nat.le_of_lt (Nat.lt_trans HG.out HLE.out)))
  clear hW8 f2 x2 f3 x3
  by_cases h0 : dn = 0
  · subst h0
    by_cases h4 : e4 = 0
    · subst h4
      cases hR : rightE X with
      | true =>
        have HF : Hid (getE bs = (X, 0)) := Lib.hid (by rw [HGE.out, if_neg (by simp [hR])])
        rw [hR] at HC7
        clear hR HGE HE4
        go_wp2_with (first | (go_at_call 94; (with_reducible refine (HC6.out _ _ HD8.out).mono ?_); rintro e w9 ⟨rfl, n, rfl⟩; have hbn := pw_below_drewN (Below.refl W8.heap.size W8) n; have HB9 := Lib.hid (below_step HB8.out hbn); have HO9 := Lib.hid (Kd.R_below HO8.out hbn); have HZ9 := Lib.hid (blk_below HZ8.out hbn); have HE9 := Lib.hid (blk_below HE8.out hbn); clear hbn; have c0 := (blk_cell HE9.out 0).trans (rfl : _ = some (Value.int .i64 v1)); have c1 := (blk_cell HE9.out 1).trans (rfl : _ = some (Value.int .i64 v2)); have c2 := (blk_cell HE9.out 2).trans (rfl : _ = some (Value.slice Al ls.length cl)); have c3 := (blk_cell HE9.out 3).trans (rfl : _ = some (Value.string s5))) | (go_at_call 30; (with_reducible refine (HC7.out _ _ _ (Kd.R_reads' HO9.out).2.2).mono ?_); rintro e w10 ⟨rfl, hb⟩; have HBX9 := Lib.hid (below_step HB9.out hb); have HOX := Lib.hid (Kd.R_below HO9.out hb); have HZX9 := Lib.hid (blk_below HZ9.out hb); have HEX9 := Lib.hid (blk_below HE9.out hb); have d0 := (blk_cell HEX9.out 0).trans (rfl : _ = some (Value.int .i64 v1)); have d1 := (blk_cell HEX9.out 1).trans (rfl : _ = some (Value.int .i64 v2)); have d2 := (blk_cell HEX9.out 2).trans (rfl : _ = some (Value.slice Al ls.length cl)); have d3 := (blk_cell HEX9.out 3).trans (rfl : _ = some (Value.string s5)); have y0 := blk_frozen HZX9.out 0; have z0 := (blk_cell HZX9.out 0).trans (rfl : _ = some (Value.int .i64 0)); have y1 := blk_frozen HZX9.out 1; have z1 := (blk_cell HZX9.out 1).trans (rfl : _ = some (Value.int .i64 0)); have y2 := blk_frozen HZX9.out 2; have z2 := (blk_cell HZX9.out 2).trans (rfl : _ = some (Value.slice none 0 0)); have y3 := blk_frozen HZX9.out 3; have z3 := (blk_cell HZX9.out 3).trans (rfl : _ = some (Value.string ⟨#[]⟩)); clear hb c0 c1 c2 c3))
        have q0 := blk_put HZX9.out 0 (Value.int .i64 v1) (cs' := #[Value.int .i64 v1, Value.int .i64 0, Value.slice none 0 0, Value.string ⟨#[]⟩]) rfl
        have q1 := blk_put q0 1 (Value.int .i64 v2) (cs' := #[Value.int .i64 v1, Value.int .i64 v2, Value.slice none 0 0, Value.string ⟨#[]⟩]) rfl
        have q2 := blk_put q1 2 (Value.slice Al ls.length cl) (cs' := #[Value.int .i64 v1, Value.int .i64 v2, Value.slice Al ls.length cl, Value.string ⟨#[]⟩]) rfl
        have q3 := blk_put q2 3 (Value.string s5) (cs' := #[Value.int .i64 v1, Value.int .i64 v2, Value.slice Al ls.length cl, Value.string s5]) rfl
        have hB := below_set (j := 3) (v := Value.string s5) (below_set (j := 2) (v := Value.slice Al ls.length cl) (below_set (j := 1) (v := Value.int .i64 v2) (below_set (j := 0) (v := Value.int .i64 v1) HBX9.out (Nat.le_refl _)) (Nat.le_refl _)) (Nat.le_refl _)) (Nat.le_refl _)
        refine bodyPost_ret (results_ct (P := Tryd.prog) rfl _ _ w.heap.size 33 #[Value.int .i64 v1, Value.int .i64 v2, Value.slice Al ls.length cl, Value.string s5] (0, 0) _ rfl q3 Tryd.underlying33 rfl (by kernel_rfl)) rfl ?_
        have hL := labs_set (i := 3) (u := Value.string s5) (labs_set (i := 2) (u := Value.slice Al ls.length cl) (labs_set (i := 1) (u := Value.int .i64 v2) (labs_set (i := 0) (u := Value.int .i64 v1) HOX.out HZX9.out) q0) q1) q2
        have hX := HGX.out
        subst hX
        exact ⟨Al, cl, by rw [HF.out]; rfl, by rw [HF.out]; exact hL, hB⟩
      | false =>
        have HF : Hid (getE bs = (z33, 21)) := Lib.hid (by rw [HGE.out, if_pos (.inr hR)])
        rw [hR] at HC7
        clear hR HGE HE4
        go_wp2_with (first | (go_at_call 94; (with_reducible refine (HC6.out _ _ HD8.out).mono ?_); rintro e w9 ⟨rfl, n, rfl⟩; have hbn := pw_below_drewN (Below.refl W8.heap.size W8) n; have HB9 := Lib.hid (below_step HB8.out hbn); have HO9 := Lib.hid (Kd.R_below HO8.out hbn); have HZ9 := Lib.hid (blk_below HZ8.out hbn); have HE9 := Lib.hid (blk_below HE8.out hbn); clear hbn; have c0 := (blk_cell HE9.out 0).trans (rfl : _ = some (Value.int .i64 v1)); have c1 := (blk_cell HE9.out 1).trans (rfl : _ = some (Value.int .i64 v2)); have c2 := (blk_cell HE9.out 2).trans (rfl : _ = some (Value.slice Al ls.length cl)); have c3 := (blk_cell HE9.out 3).trans (rfl : _ = some (Value.string s5))) | (go_at_call 30; (with_reducible refine (HC7.out _ _ _ (Kd.R_reads' HO9.out).2.2).mono ?_); rintro e w10 ⟨rfl, hb⟩; have HBX9 := Lib.hid (below_step HB9.out hb); have HOX := Lib.hid (Kd.R_below HO9.out hb); have HZX9 := Lib.hid (blk_below HZ9.out hb); have HEX9 := Lib.hid (blk_below HE9.out hb); have d0 := (blk_cell HEX9.out 0).trans (rfl : _ = some (Value.int .i64 v1)); have d1 := (blk_cell HEX9.out 1).trans (rfl : _ = some (Value.int .i64 v2)); have d2 := (blk_cell HEX9.out 2).trans (rfl : _ = some (Value.slice Al ls.length cl)); have d3 := (blk_cell HEX9.out 3).trans (rfl : _ = some (Value.string s5)); have y0 := blk_frozen HZX9.out 0; have z0 := (blk_cell HZX9.out 0).trans (rfl : _ = some (Value.int .i64 0)); have y1 := blk_frozen HZX9.out 1; have z1 := (blk_cell HZX9.out 1).trans (rfl : _ = some (Value.int .i64 0)); have y2 := blk_frozen HZX9.out 2; have z2 := (blk_cell HZX9.out 2).trans (rfl : _ = some (Value.slice none 0 0)); have y3 := blk_frozen HZX9.out 3; have z3 := (blk_cell HZX9.out 3).trans (rfl : _ = some (Value.string ⟨#[]⟩)); clear hb c0 c1 c2 c3))
        have q0 := blk_put HZX9.out 0 (Value.int .i64 0) (cs' := #[Value.int .i64 0, Value.int .i64 0, Value.slice none 0 0, Value.string ⟨#[]⟩]) rfl
        have q1 := blk_put q0 1 (Value.int .i64 0) (cs' := #[Value.int .i64 0, Value.int .i64 0, Value.slice none 0 0, Value.string ⟨#[]⟩]) rfl
        have q2 := blk_put q1 2 (Value.slice none 0 0) (cs' := #[Value.int .i64 0, Value.int .i64 0, Value.slice none 0 0, Value.string ⟨#[]⟩]) rfl
        have q3 := blk_put q2 3 (Value.string ⟨#[]⟩) (cs' := #[Value.int .i64 0, Value.int .i64 0, Value.slice none 0 0, Value.string ⟨#[]⟩]) rfl
        have hB := below_set (j := 3) (v := Value.string ⟨#[]⟩) (below_set (j := 2) (v := Value.slice none 0 0) (below_set (j := 1) (v := Value.int .i64 0) (below_set (j := 0) (v := Value.int .i64 0) HBX9.out (Nat.le_refl _)) (Nat.le_refl _)) (Nat.le_refl _)) (Nat.le_refl _)
        refine bodyPost_ret (results_ct (P := Tryd.prog) rfl _ _ w.heap.size 33 #[Value.int .i64 0, Value.int .i64 0, Value.slice none 0 0, Value.string ⟨#[]⟩] (0, 0) _ rfl q3 Tryd.underlying33 rfl (by kernel_rfl)) rfl ?_
        exact ⟨none, 0, by rw [HF.out]; rfl, by rw [HF.out]; exact Kd.R_nil _ _ _ _ _, hB⟩
    · have HF : Hid (getE bs = (z33, 21)) := Lib.hid (by rw [HGE.out, if_pos (.inr (HE4.out h4))])
      have hne : (e4 != 0) = true := by simp [h4]
      clear h4 HGE HE4
      go_wp2_with (go_at_call 94; (with_reducible refine (HC6.out _ _ HD8.out).mono ?_); rintro e w9 ⟨rfl, n, rfl⟩; have hbn := pw_below_drewN (Below.refl W8.heap.size W8) n; have HB9 := Lib.hid (below_step HB8.out hbn); have HO9 := Lib.hid (Kd.R_below HO8.out hbn); have HZ9 := Lib.hid (blk_below HZ8.out hbn); have HE9 := Lib.hid (blk_below HE8.out hbn); clear hbn; have HZX9 := HZ9; have HBX9 := HB9; have y0 := blk_frozen HZ9.out 0; have z0 := (blk_cell HZ9.out 0).trans (rfl : _ = some (Value.int .i64 0)); have y1 := blk_frozen HZ9.out 1; have z1 := (blk_cell HZ9.out 1).trans (rfl : _ = some (Value.int .i64 0)); have y2 := blk_frozen HZ9.out 2; have z2 := (blk_cell HZ9.out 2).trans (rfl : _ = some (Value.slice none 0 0)); have y3 := blk_frozen HZ9.out 3; have z3 := (blk_cell HZ9.out 3).trans (rfl : _ = some (Value.string ⟨#[]⟩)))
      have q0 := blk_put HZX9.out 0 (Value.int .i64 0) (cs' := #[Value.int .i64 0, Value.int .i64 0, Value.slice none 0 0, Value.string ⟨#[]⟩]) rfl
      have q1 := blk_put q0 1 (Value.int .i64 0) (cs' := #[Value.int .i64 0, Value.int .i64 0, Value.slice none 0 0, Value.string ⟨#[]⟩]) rfl
      have q2 := blk_put q1 2 (Value.slice none 0 0) (cs' := #[Value.int .i64 0, Value.int .i64 0, Value.slice none 0 0, Value.string ⟨#[]⟩]) rfl
      have q3 := blk_put q2 3 (Value.string ⟨#[]⟩) (cs' := #[Value.int .i64 0, Value.int .i64 0, Value.slice none 0 0, Value.string ⟨#[]⟩]) rfl
      have hB := below_set (j := 3) (v := Value.string ⟨#[]⟩) (below_set (j := 2) (v := Value.slice none 0 0) (below_set (j := 1) (v := Value.int .i64 0) (below_set (j := 0) (v := Value.int .i64 0) HBX9.out (Nat.le_refl _)) (Nat.le_refl _)) (Nat.le_refl _)) (Nat.le_refl _)
      refine bodyPost_ret (results_ct (P := Tryd.prog) rfl _ _ w.heap.size 33 #[Value.int .i64 0, Value.int .i64 0, Value.slice none 0 0, Value.string ⟨#[]⟩] (0, 0) _ rfl q3 Tryd.underlying33 rfl (by kernel_rfl)) rfl ?_
      exact ⟨none, 0, by rw [HF.out]; rfl, by rw [HF.out]; exact Kd.R_nil _ _ _ _ _, hB⟩
  · have HF : Hid (getE bs = (z33, 21)) := Lib.hid (by rw [HGE.out, if_pos (.inl h0)])
    have hne : (dn != 0) = true := by simp [h0]
    clear h0 HGE HE4
    go_wp2_with (go_at_call 94; (with_reducible refine (HC6.out _ _ HD8.out).mono ?_); rintro e w9 ⟨rfl, n, rfl⟩; have hbn := pw_below_drewN (Below.refl W8.heap.size W8) n; have HB9 := Lib.hid (below_step HB8.out hbn); have HO9 := Lib.hid (Kd.R_below HO8.out hbn); have HZ9 := Lib.hid (blk_below HZ8.out hbn); have HE9 := Lib.hid (blk_below HE8.out hbn); clear hbn; have HZX9 := HZ9; have HBX9 := HB9; have y0 := blk_frozen HZ9.out 0; have z0 := (blk_cell HZ9.out 0).trans (rfl : _ = some (Value.int .i64 0)); have y1 := blk_frozen HZ9.out 1; have z1 := (blk_cell HZ9.out 1).trans (rfl : _ = some (Value.int .i64 0)); have y2 := blk_frozen HZ9.out 2; have z2 := (blk_cell HZ9.out 2).trans (rfl : _ = some (Value.slice none 0 0)); have y3 := blk_frozen HZ9.out 3; have z3 := (blk_cell HZ9.out 3).trans (rfl : _ = some (Value.string ⟨#[]⟩)))
    have q0 := blk_put HZX9.out 0 (Value.int .i64 0) (cs' := #[Value.int .i64 0, Value.int .i64 0, Value.slice none 0 0, Value.string ⟨#[]⟩]) rfl
    have q1 := blk_put q0 1 (Value.int .i64 0) (cs' := #[Value.int .i64 0, Value.int .i64 0, Value.slice none 0 0, Value.string ⟨#[]⟩]) rfl
    have q2 := blk_put q1 2 (Value.slice none 0 0) (cs' := #[Value.int .i64 0, Value.int .i64 0, Value.slice none 0 0, Value.string ⟨#[]⟩]) rfl
    have q3 := blk_put q2 3 (Value.string ⟨#[]⟩) (cs' := #[Value.int .i64 0, Value.int .i64 0, Value.slice none 0 0, Value.string ⟨#[]⟩]) rfl
    have hB := below_set (j := 3) (v := Value.string ⟨#[]⟩) (below_set (j := 2) (v := Value.slice none 0 0) (below_set (j := 1) (v := Value.int .i64 0) (below_set (j := 0) (v := Value.int .i64 0) HBX9.out (Nat.le_refl _)) (Nat.le_refl _)) (Nat.le_refl _)) (Nat.le_refl _)
    refine bodyPost_ret (results_ct (P := Tryd.prog) rfl _ _ w.heap.size 33 #[Value.int .i64 0, Value.int .i64 0, Value.slice none 0 0, Value.string ⟨#[]⟩] (0, 0) _ rfl q3 Tryd.underlying33 rfl (by kernel_rfl)) rfl ?_
    exact ⟨none, 0, by rw [HF.out]; rfl, by rw [HF.out]; exact Kd.R_nil _ _ _ _ _, hB⟩
end Go.Proofs.YtojocffjajcdmaaDoor
namespace Go.Proofs.YtojocffjajcdmaaDoor
open Go.RowKit Go.Proofs.YtojocffjajcdmaaDoorW.PrintWords Go.Proofs.YtojocffjajcdmaaDoorW.PrintLast Go.Proofs.YtojocffjajcdmaaDoorW.PrintMore PChunkAll
set_option linter.unusedVariables false
set_option linter.unusedSimpArgs false

def RLabRel (l : List S112) (w : World) (v4 v23 : Value) (wr : World) : Prop :=
  ∃ k : Nat, OwnB wr w.heap.size v4 (labs7 l k) ∧ v23 = .int .i64 (k : Int) ∧ k ≤ l.length ∧ Below w.heap.size w wr

set_option maxHeartbeats 8000000 in
set_option maxRecDepth 100000 in
theorem rbytesL_any (A : Option Addr) (c : Nat) (l : List S112) (w : World) (hr : Kd.C k112 w A l.length l) (hR : rightL l = true) : Calls Tryd.prog 136 #[.slice A l.length c] w (BytesBelow (bytesL l) w) := by
  have hg := rightL_get hR
  have HNU : Hid (∀ W, Calls Tryd.prog 107 #[.int .i64 (l.length : Int)] W (BytesBelow (num7 l.length) W)) := Lib.hid (fun W => rbytes_any l.length W (by omega))
  have HG := Lib.hid hg
  have HLL := Lib.hid (fun k hk => labs7_len hR k hk)
  have HR := Lib.hid hr
  have h16 := hg.1
  clear hr hR hg
  go_enter Tryd.func136, Tryd.ntmps136
  go_wp2_with (go_at_call 107; refine (HNU.out _).mono ?_; rintro e w3 ⟨v, rfl, ho, hb⟩; have HO := Lib.hid ho; have HB3 := Lib.hid hb; clear ho hb)
  go_loopw [3, 4] (fun v4 v23 wr => RLabRel l w v4 v23 wr) (fun _ v23 _ => l.length - (intOf v23).toNat)
  case atStart => exact ⟨0, by have h := HO.out; simpa [labs7] using h, rfl, Nat.zero_le _, HB3.out⟩
  case round =>
    obtain ⟨k, ho, rfl, hk, hb⟩ := hrel
    by_cases hlt : k < l.length
    · have hki : (k : Int) < (l.length : Int) := by omega
      obtain ⟨b, o, rfl, hx⟩ := labs_at HR.out (by omega)
      have hc0 := (hx k hlt).1
      have hc1 := (hx k hlt).2
      have hx0 := pw_cell_below hb hc0
      have hx1 := pw_cell_below hb hc1
      have HC0 := Lib.hid hc0
      have HC1 := Lib.hid hc1
      have HS : Hid (labs7 l (k + 1) = labs7 l k ++ text7 (l.getD k z112).f0 ++ text7 (l.getD k z112).f1) := Lib.hid (by rw [labs7_succ l k hlt]; simp)
      have hsz := HG.out.2.2 k hlt
      have hll := (HLL.out (k + 1) (by omega)).1
      rw [HS.out] at hll
      have HCL : Hid ((labs7 l k ++ text7 (l.getD k z112).f0 ++ text7 (l.getD k z112).f1).length ≤ 100000) := Lib.hid (by omega)
      have HT0 : Hid (∀ W, Calls Tryd.prog 108 #[.string (l.getD k z112).f0] W (BytesBelow (text7 (l.getD k z112).f0) W)) := Lib.hid (fun W => rtextb_any _ W (by omega))
      have HT1 : Hid (∀ W, Calls Tryd.prog 108 #[.string (l.getD k z112).f1] W (BytesBelow (text7 (l.getD k z112).f1) W)) := Lib.hid (fun W => rtextb_any _ W (by omega))
      have HOK := Lib.hid ho
      have HBK := Lib.hid hb
      obtain ⟨A4, q4, h4⟩ := Kd.R_slice ho
      subst h4
      clear hx hsz hll hb hc0 hc1 ho
      generalize l.getD k z112 = x at *
      generalize labs7 l k = Y at *
      generalize text7 x.f0 = T0 at *
      generalize text7 x.f1 = T1 at *
      obtain ⟨Z, hZ⟩ : ∃ Z, Z = Y ++ T0 := ⟨_, rfl⟩
      have HZ := Lib.hid hZ
      have HC0L : Hid (Y.length + T0.length ≤ 100000) := Lib.hid (by have := HCL.out; simp at this; omega)
      have HC1L : Hid (Z.length + T1.length ≤ 100000) := Lib.hid (by have := HCL.out; rw [← hZ, List.length_append] at this; exact this)
      rw [← hZ] at HS
      clear hZ HCL
      go_wp2_with fail
      go_region_held3 (fun w' => w'.cell? ⟨b, o + k * 2, none⟩ = some (.string x.f0) ∧ w'.cell? ⟨b, o + k * 2 + 1, none⟩ = some (.string x.f1))
        (first | go_keep | (exact ⟨pw_cell_below hk4 HC0.out, pw_cell_below hk4 HC1.out⟩) | (exact ⟨pw_cell_below hk5 HC0.out, pw_cell_below hk5 HC1.out⟩) | (exact ⟨pw_cell_below hk6 HC0.out, pw_cell_below hk6 HC1.out⟩) | (exact ⟨pw_cell_below hk7 HC0.out, pw_cell_below hk7 HC1.out⟩))
        (first | (go_at_call 108; (with_reducible refine (HT0.out _).mono ?_); rintro e w4 ⟨v4, rfl, ho4, hb4⟩; obtain ⟨A8, q8, h8⟩ := Kd.R_slice ho4; subst h8; have hk4 := below_step (below_drew1 HBK.out) hb4; have HO4 := Lib.hid (Kd.R_below (Kd.R_drew HOK.out) hb4); have HC4 := Lib.hid (Kd.R_reads' ho4).2.2; clear ho4 hb4)
               | (refine Kd.R_append_rows_step KB (w0 := w) w.heap.size (by rfl) (.tmp 14) (.tmp 20) 23 5 (.int .u8 0) 1 rfl Tryd.underlying23 info5 rfl (by decide) (by omega) (.slice A4 Y.length q4) Y T0 _ _ _ (fun _ => True) (fun _ => False) rfl rfl HO4.out HC4.out (fun _ _ h => h) (fun _ h => h.elim) (fun _ _ => trivial) hk4 hk4.size (by have := HC0L.out; omega) ?_; intro v5 w5 ho5 hk5 hg5 hat5; rw [← HZ.out] at ho5; obtain ⟨A5, q5, h5⟩ := Kd.R_slice ho5; subst h5; have HO5 := Lib.hid ho5; clear ho5 hg5 hat5)
               | (go_at_call 108; (with_reducible refine (HT1.out _).mono ?_); rintro e w6 ⟨v6, rfl, ho6, hb6⟩; obtain ⟨A9, q9, h9⟩ := Kd.R_slice ho6; subst h9; have hk6 := below_step hk5 hb6; have HO6 := Lib.hid (Kd.R_below HO5.out hb6); have HC6 := Lib.hid (Kd.R_reads' ho6).2.2; clear ho6 hb6)
               | (refine Kd.R_append_rows_step KB (w0 := w) w.heap.size (by rfl) (.tmp 21) (.tmp 27) 23 5 (.int .u8 0) 1 rfl Tryd.underlying23 info5 rfl (by decide) (by omega) (.slice A5 Z.length q5) Z T1 _ _ _ (fun _ => True) (fun _ => False) rfl rfl HO6.out HC6.out (fun _ _ h => h) (fun _ h => h.elim) (fun _ _ => trivial) hk6 hk6.size (by have := HC1L.out; omega) ?_; intro v7 w7 ho7 hk7 hg7 hat7; obtain ⟨A7, q7, h7⟩ := Kd.R_slice ho7; subst h7; have HO7 := Lib.hid ho7; clear ho7 hg7 hat7))
      go_wp2
      go_roundw
      case rel => exact ⟨k + 1, by rw [HS.out]; have h := HO7.out; rw [List.length_append] at h; exact h, by go_num, by omega, hk7⟩
      case measure => simp [intOf]; omega
    · have HE := Lib.hid (labs7_all l k hlt)
      have hki : ¬ (k : Int) < (l.length : Int) := by omega
      have HOK := Lib.hid ho
      have HBK := Lib.hid hb
      clear ho hb
      go_wp2
      go_ret
      exact ⟨_, rfl, by rw [← HE.out]; exact HOK.out, HBK.out⟩
end Go.Proofs.YtojocffjajcdmaaDoor
namespace Go.Proofs.YtojocffjajcdmaaDoor
open Go.RowKit Go.Proofs.YtojocffjajcdmaaDoorW.PrintWords Go.Proofs.YtojocffjajcdmaaDoorW.PrintLast Go.Proofs.YtojocffjajcdmaaDoorW.PrintMore PChunkAll
set_option linter.unusedVariables false
set_option linter.unusedSimpArgs false

set_option maxHeartbeats 8000000 in
set_option maxRecDepth 100000 in
theorem rbytesE_any (x : S33) (A : Option Addr) (c : Nat) (w : World) (hr : Kd.C k112 w A x.f2.length x.f2) (hx : rightE x = true) : Calls Tryd.prog 84 #[entA x A c] w (BytesBelow (bytesE x) w) := by
  obtain ⟨h1, h2, h3, h4, h5, h6⟩ := rightE_get hx
  have hle := bytesE_len hx
  have hbl := bytesL_len h5
  have HN0 : Hid (∀ W, Calls Tryd.prog 107 #[.int .i64 x.f0] W (BytesBelow (num7 x.f0.toNat) W)) := Lib.hid (fun W => by have := rbytes_any x.f0.toNat W (by omega); rwa [Int.toNat_of_nonneg (by omega)] at this)
  have HN1 : Hid (∀ W, Calls Tryd.prog 107 #[.int .i64 x.f1] W (BytesBelow (num7 x.f1.toNat) W)) := Lib.hid (fun W => by have := rbytes_any x.f1.toNat W (by omega); rwa [Int.toNat_of_nonneg (by omega)] at this)
  have HT2 : Hid (∀ W, Calls Tryd.prog 108 #[.string (strOfNums (bytesL x.f2))] W (BytesBelow (text7 (strOfNums (bytesL x.f2))) W)) := Lib.hid (fun W => rtextb_any _ W (by rw [strOfNums_size]; omega))
  have HT3 : Hid (∀ W, Calls Tryd.prog 108 #[.string x.f3] W (BytesBelow (text7 x.f3) W)) := Lib.hid (fun W => rtextb_any _ W (by omega))
  obtain ⟨W, hW⟩ : ∃ W, W = w.alloc (.cells (entC x A c) 33) := ⟨_, rfl⟩
  have HLB : Hid (∀ W', Below W.heap.size W W' → Calls Tryd.prog 136 #[.slice A x.f2.length c] W' (BytesBelow (bytesL x.f2) W')) := Lib.hid (fun W' hb => rbytesL_any A c x.f2 W' (Kd.C_below (by rw [hW]; exact Kd.C_alloc hr _) hb) h5)
  have HBE : Hid (bytesE x = ((num7 x.f0.toNat ++ num7 x.f1.toNat) ++ text7 (strOfNums (bytesL x.f2))) ++ text7 x.f3) := Lib.hid (by unfold bytesE; simp)
  have k0 : W.cell? ⟨w.heap.size, 0, none⟩ = some (.int .i64 x.f0) := by rw [hW, blk_cell (heap_alloc_new w _)]; rfl
  have k1 : W.cell? ⟨w.heap.size, 1, none⟩ = some (.int .i64 x.f1) := by rw [hW, blk_cell (heap_alloc_new w _)]; rfl
  have k2 : W.cell? ⟨w.heap.size, 2, none⟩ = some (.slice A x.f2.length c) := by rw [hW, blk_cell (heap_alloc_new w _)]; rfl
  have k3 : W.cell? ⟨w.heap.size, 3, none⟩ = some (.string x.f3) := by rw [hW, blk_cell (heap_alloc_new w _)]; rfl
  have HK0 := Lib.hid k0
  have HK1 := Lib.hid k1
  have HK2 := Lib.hid k2
  have HK3 := Lib.hid k3
  have HB0 : Hid (Below w.heap.size w W) := Lib.hid (by rw [hW]; exact below_alloc (Below.refl _ _) _)
  have HSZ : Hid (w.heap.size ≤ W.heap.size) := Lib.hid HB0.out.size
  have e1 : (bytesE x).length = ((num7 x.f0.toNat).length + (num7 x.f1.toNat).length + (text7 (strOfNums (bytesL x.f2))).length) + (text7 x.f3).length := by rw [HBE.out]; simp only [List.length_append]
  rw [HBE.out]
  generalize hN0 : num7 x.f0.toNat = N0 at *
  generalize hN1 : num7 x.f1.toNat = N1 at *
  generalize hT2 : text7 (strOfNums (bytesL x.f2)) = T2 at *
  generalize hT3 : text7 x.f3 = T3 at *
  obtain ⟨Z1, hZ1⟩ : ∃ Z, Z = N0 ++ N1 := ⟨_, rfl⟩
  obtain ⟨Z2, hZ2⟩ : ∃ Z, Z = Z1 ++ T2 := ⟨_, rfl⟩
  obtain ⟨Z3, hZ3⟩ : ∃ Z, Z = Z2 ++ T3 := ⟨_, rfl⟩
  rw [← hZ1, ← hZ2, ← hZ3]
  have HL1 : Hid (N0.length + N1.length ≤ 100000) := Lib.hid (by omega)
  have HL2 : Hid (Z1.length + T2.length ≤ 100000) := Lib.hid (by rw [hZ1, List.length_append]; omega)
  have HL3 : Hid (Z2.length + T3.length ≤ 100000) := Lib.hid (by rw [hZ2, hZ1, List.length_append, List.length_append]; omega)
  have HZ1 := Lib.hid hZ1
  have HZ2 := Lib.hid hZ2
  have HZ3 := Lib.hid hZ3
  have HWE := Lib.hid hW
  clear hr hx h1 h2 h3 h4 h5 h6 hle hbl hN0 hN1 hT2 hT3 hZ1 hZ2 hZ3 e1 HBE hW
  go_enter Tryd.func84, Tryd.ntmps84
  go_wp2_with fail
  rw [← HWE.out]
  go_region_held3 (fun w' => w'.cell? ⟨w.heap.size, 0, none⟩ = some (.int .i64 x.f0) ∧ w'.cell? ⟨w.heap.size, 1, none⟩ = some (.int .i64 x.f1))
    (first | go_keep | (exact ⟨pw_cell_below hk4 HK0.out, pw_cell_below hk4 HK1.out⟩) | (exact ⟨pw_cell_below hk5 HK0.out, pw_cell_below hk5 HK1.out⟩) | (exact ⟨pw_cell_below hk6 HK0.out, pw_cell_below hk6 HK1.out⟩))
    (first | (go_at_call 107; (with_reducible refine (HN0.out _).mono ?_); rintro e w4 ⟨v4, rfl, ho4, hb4⟩; obtain ⟨A4, q4, h4⟩ := Kd.R_slice ho4; subst h4; have hk4 := below_step (below_drew1 (Below.refl W.heap.size W)) hb4; have HO4 := Lib.hid (Kd.R_lower ho4 (Nat.le_refl _)); clear ho4 hb4)
           | (go_at_call 107; (with_reducible refine (HN1.out _).mono ?_); rintro e w5 ⟨v5, rfl, ho5, hb5⟩; obtain ⟨A5, q5, h5⟩ := Kd.R_slice ho5; subst h5; have hk5 := below_step hk4 hb5; have HO5 := Lib.hid (Kd.R_below HO4.out hb5); have HC5 := Lib.hid (Kd.R_reads' ho5).2.2; clear ho5 hb5)
           | (refine Kd.R_append_rows_step KB (w0 := W) W.heap.size (by rfl) (.tmp 6) (.tmp 9) 23 5 (.int .u8 0) 1 rfl Tryd.underlying23 info5 rfl (by decide) (by omega) (.slice A4 N0.length q4) N0 N1 _ _ _ (fun _ => True) (fun _ => False) rfl rfl HO5.out HC5.out (fun _ _ h => h) (fun _ h => h.elim) (fun _ _ => trivial) hk5 hk5.size (by have := HL1.out; omega) ?_; intro v6 w6 ho6 hk6 hg6 hat6; rw [← HZ1.out] at ho6; obtain ⟨A6, q6, h6⟩ := Kd.R_slice ho6; subst h6; have HO6 := Lib.hid ho6; clear ho6 hg6 hat6))
  have HB6 := Lib.hid hk6
  have m2 := pw_cell_below hk6 HK2.out
  have m3 := pw_cell_below hk6 HK3.out
  clear k0 k1 k2 k3 hk4 hk5 hk6
  go_wp2_with (first | (go_at_call 136; (with_reducible refine (HLB.out _ HB6.out).mono ?_); rintro e w7 ⟨v7, rfl, ho7, hb7⟩; obtain ⟨Ac, qc, h7⟩ := Kd.R_slice ho7; subst h7; have hcv := Kd.C_string (P := Tryd.prog) (A := Ac) (c := qc) Tryd.underlying23 Tryd.underlying5 Tryd.underlying9 (Kd.R_reads' ho7).2.2; have HO7 := Lib.hid (Kd.R_below HO6.out hb7); have HB7 := Lib.hid (below_step HB6.out hb7); have p3 := pw_cell_below hb7 m3; clear ho7 hb7 m2 m3) | (go_at_call 108; (with_reducible refine (HT2.out _).mono ?_); rintro e w8 ⟨v8, rfl, ho8, hb8⟩; obtain ⟨A8, q8, h8⟩ := Kd.R_slice ho8; subst h8; have HO8 := Lib.hid (Kd.R_below HO7.out hb8); have HC8 := Lib.hid (Kd.R_reads' ho8).2.2; have HB8 := Lib.hid (below_step HB7.out hb8); clear ho8 hb8 p3 hcv) | ((with_reducible refine gate_builtin (b := .append) (xs := #[.tmp 11, .tmp 16]) rfl ?_); at_builtin; refine Kd.R_append_row (Value.int .u8) 0 (w0 := W) W.heap.size rfl (.tmp 11) (.tmp 16) 23 5 (.int .u8 0) 1 rfl Tryd.underlying23 info5 rfl (by omega) _ Z1 T2 A8 T2.length q8 (fun _ => True) rfl rfl (fun _ _ => trivial) HO8.out HC8.out HB8.out (below_size HB8.out) (by have := HL2.out; omega) ?_; intro v9 w9 ho9 hb9 hg9 hat9; rw [← HZ2.out] at ho9; obtain ⟨A9, q9, h9⟩ := Kd.R_slice ho9; subst h9; have HO9 := Lib.hid ho9; have HB9 := Lib.hid hb9; have m3 := pw_cell_below hb9 HK3.out; clear ho9 hb9 hg9 hat9) | (go_at_call 108; (with_reducible refine (HT3.out _).mono ?_); rintro e w10 ⟨v10, rfl, ho10, hb10⟩; obtain ⟨A10, q10, h10⟩ := Kd.R_slice ho10; subst h10; have HO10 := Lib.hid (Kd.R_below HO9.out hb10); have HC10 := Lib.hid (Kd.R_reads' ho10).2.2; have HB10 := Lib.hid (below_step HB9.out hb10); clear ho10 hb10 m3) | ((with_reducible refine gate_builtin (b := .append) (xs := #[.tmp 18, .tmp 21]) rfl ?_); at_builtin; refine Kd.R_append_row (Value.int .u8) 0 (w0 := W) W.heap.size rfl (.tmp 18) (.tmp 21) 23 5 (.int .u8 0) 1 rfl Tryd.underlying23 info5 rfl (by omega) _ Z2 T3 A10 T3.length q10 (fun _ => True) rfl rfl (fun _ _ => trivial) HO10.out HC10.out HB10.out (below_size HB10.out) (by have := HL3.out; omega) ?_; intro v11 w11 ho11 hb11 hg11 hat11; rw [← HZ3.out] at ho11; have HO11 := Lib.hid ho11; have HB11 := Lib.hid hb11; clear ho11 hb11 hg11 hat11))
  go_ret
  exact ⟨_, rfl, Kd.R_lower HO11.out HSZ.out, below_then HB0.out HSZ.out HB11.out⟩
def BytBelowE (r : List Int × Int) (w : World) (e : Ending) (w' : World) : Prop := TupBelow r.1 r.2 w e w'

set_option maxHeartbeats 2000000 in
theorem rputE_any (x : S33) (A : Option Addr) (c : Nat) (w : World) (hr : Kd.C k112 w A x.f2.length x.f2) (hsz : SzOk x.f2) : Calls Tryd.prog 26 #[entA x A c] w (PutRes (putE x) w) := by
  have hb0 : Below w.heap.size w (w.alloc (.cells (entC x A c) 33)) := below_alloc (Below.refl _ _) _
  have HRE := Lib.hid (rrightE_any x A c _ (Kd.C_alloc hr (.cells (entC x A c) 33)) hsz)
  have HB0 := Lib.hid hb0
  have HPE : Hid (putE x = if rightE x = true then (bytesE x, 0) else ([], 1)) := Lib.hid rfl
  have HR := Lib.hid (Kd.C_alloc hr (.cells (entC x A c) 33))
  have c0 : (w.alloc (.cells (entC x A c) 33)).cell? ⟨w.heap.size, 0, none⟩ = some (.int .i64 x.f0) := by rw [blk_cell (heap_alloc_new w _)]; rfl
  have c1 : (w.alloc (.cells (entC x A c) 33)).cell? ⟨w.heap.size, 1, none⟩ = some (.int .i64 x.f1) := by rw [blk_cell (heap_alloc_new w _)]; rfl
  have c2 : (w.alloc (.cells (entC x A c) 33)).cell? ⟨w.heap.size, 2, none⟩ = some (.slice A x.f2.length c) := by rw [blk_cell (heap_alloc_new w _)]; rfl
  have c3 : (w.alloc (.cells (entC x A c) 33)).cell? ⟨w.heap.size, 3, none⟩ = some (.string x.f3) := by rw [blk_cell (heap_alloc_new w _)]; rfl
  clear hr hsz hb0
  cases hx : rightE x with
  | true =>
    rw [hx] at HRE
    have HPR : Hid (putE x = (bytesE x, 0)) := Lib.hid (by rw [HPE.out, hx]; rfl)
    have HBY := Lib.hid (fun W' (hb : Below (w.alloc (.cells (entC x A c) 33)).heap.size (w.alloc (.cells (entC x A c) 33)) W') => rbytesE_any x A c W' (Kd.C_below HR.out hb) hx)
    rw [HPR.out]
    generalize bytesE x = BX at *
    clear hx HPE
    go_enter Tryd.func26, Tryd.ntmps26
    go_wp2_with (first | (go_at_call 30; (with_reducible refine (HRE.out).mono ?_); rintro e w2 ⟨rfl, hb⟩; have HB2 := Lib.hid hb; have d0 := pw_cell_below hb c0; have d1 := pw_cell_below hb c1; have d2 := pw_cell_below hb c2; have d3 := pw_cell_below hb c3; clear hb c0 c1 c2 c3) | (go_at_call 84; (with_reducible refine (HBY.out _ HB2.out).mono ?_); rintro e w3 ⟨v, rfl, ho, hb⟩; obtain ⟨Ac, qc, h3⟩ := Kd.R_slice ho; subst h3; have HO3 := Lib.hid ho; have HB3 := Lib.hid (below_step HB2.out hb); have HS3 := Lib.hid (Nat.le_trans HB0.out.size HB2.out.size); clear ho hb))
    go_ret2
    exact ⟨_, rfl, Kd.R_lower HO3.out HS3.out, below_then HB0.out HB0.out.size HB3.out⟩
  | false =>
    rw [hx] at HRE
    have HPR : Hid (putE x = ([], 1)) := Lib.hid (by rw [HPE.out, hx]; rfl)
    rw [HPR.out]
    clear hx HPE
    go_enter Tryd.func26, Tryd.ntmps26
    go_wp2_with (go_at_call 30; (with_reducible refine (HRE.out).mono ?_); rintro e w2 ⟨rfl, hb⟩; have HB2 := Lib.hid hb; clear hb)
    go_ret2
    exact ⟨_, rfl, Kd.R_nil _ _ _ _ _, below_then HB0.out HB0.out.size HB2.out⟩

set_option maxHeartbeats 1000000 in
theorem rsize_any (x : S33) (A : Option Addr) (c : Nat) (w : World) (hr : Kd.C k112 w A x.f2.length x.f2) (hsz : SzOk x.f2) : Calls Tryd.prog 32 #[entA x A c] w (NumBelow ((putE x).1.length : Int) w) := by
  have hb0 : Below w.heap.size w (w.alloc (.cells (entC x A c) 33)) := below_alloc (Below.refl _ _) _
  have HP := Lib.hid (rputE_any x A c _ (Kd.C_alloc hr (.cells (entC x A c) 33)) hsz)
  obtain ⟨bs, hbs⟩ : ∃ b, b = (putE x).1 := ⟨_, rfl⟩
  obtain ⟨er, her⟩ : ∃ b, b = (putE x).2 := ⟨_, rfl⟩
  unfold PutRes at HP
  rw [← hbs, ← her] at HP
  rw [← hbs]
  have HB0 := Lib.hid hb0
  clear hr hbs her hb0 hsz
  go_enter Tryd.func32, Tryd.ntmps32
  go_wp2_with (first | (go_at_call 26; (with_reducible refine (HP.out).mono ?_); rintro e w2 ⟨v, rfl, ho, hb⟩; obtain ⟨Aa, qa, h2⟩ := Kd.R_slice ho; subst h2; have HB2 := Lib.hid hb; clear ho hb))
  go_ret
  exact ⟨rfl, below_then HB0.out HB0.out.size HB2.out⟩
end Go.Proofs.YtojocffjajcdmaaDoor
