import Derived.Test.YtojocffjajcdmaaDoorKB
import Derived.Lib.SliceRun
namespace Go.Proofs.YtojocffjajcdmaaDoor
open Go.RowKit Go.Proofs.YtojocffjajcdmaaDoorW.PrintWords Go.Proofs.YtojocffjajcdmaaDoorW.PrintLast Go.Proofs.YtojocffjajcdmaaDoorW.PrintMore PChunkAll
set_option linter.unusedVariables false
set_option linter.unusedSimpArgs false

theorem nil23 : ∀ (w : World) (a : Option Addr) (n c n' c' : Nat), (binOp .eql 23 (.slice a n c) (.slice none n' c')).run Tryd.prog w = .ok (.bool a.isNone) w := fun w a n c n' c' => Lib.run_eql_slice_nil w _ _ a n c n' c' Tryd.underlying23
set_option maxHeartbeats 2000000 in
set_option maxRecDepth 100000 in
theorem clone_any (A : Option Addr) (c : Nat) (bs : List Int) (w : World) (hr : Kd.C KB w A bs.length bs) (hl : bs.length ≤ 140737488355328) : Calls Tryd.prog 137 #[.slice A bs.length c] w (BytesBelow bs w) := by
  have hnil := nil23
  cases A with
  | none =>
    have h0 : bs.length = 0 := by
      rcases Nat.eq_zero_or_pos bs.length with h | h
      · exact h
      · obtain ⟨ad, e, _⟩ := hr.2.2 h
        cases e
    obtain rfl : bs = [] := List.eq_nil_of_length_eq_zero h0
    clear hr hl h0
    go_enter Tryd.func137, Tryd.ntmps137
    go_wp2
    go_ret
    exact ⟨_, rfl, Kd.R_nil _ _ _ _ _, Below.refl _ _⟩
  | some ad =>
    have HR := Lib.hid hr
    have HL := Lib.hid hl
    clear hr hl
    go_enter Tryd.func137, Tryd.ntmps137
    go_wp2_with (first | ((with_reducible refine gate_dst (N := 5) rfl ?_); refine Kd.R_lit KB (w0 := w) w.heap.size 5 ?hg (N := 5) ?hd (xs := ([] : List Int)) (inner := []) (ok := fun _ => True) (okp := fun _ => True) ?hr ?hp (fun _ hk => hk) trivial (Below.refl _ _) (Nat.le_refl _) (by simp) ?_; (case hd => rfl); (case hg => rfl); (case hr => first | (go_simp; done) | (go_simp; rfl)); (case hp => exact (Reps.none _ _)); intro v1 w1 ho1 hb1 hg1 hn1; obtain ⟨A1, c1, h1⟩ := Kd.R_slice ho1; subst h1; have HO1 := Lib.hid ho1; have HB1 := Lib.hid hb1; have HR1 := Lib.hid (Kd.C_below HR.out hb1); clear ho1 hb1 hg1 hn1) | ((with_reducible refine gate_builtin (b := .append) (xs := #[.tmp 5, .tmp 6]) rfl ?_); at_builtin; refine Kd.R_append_row (Value.int .u8) 0 (w0 := w) w.heap.size rfl (.tmp 5) (.tmp 6) 23 5 (.int .u8 0) 1 rfl Tryd.underlying23 info5 rfl (by omega) _ [] bs (some ad) bs.length c (fun _ => True) rfl rfl (fun _ _ => trivial) HO1.out HR1.out HB1.out (below_size HB1.out) (by have := HL.out; simp; omega) ?_; intro v4 w4 ho4 hb4 hg4 hat4; have HO4 := Lib.hid ho4; have HB4 := Lib.hid hb4; clear ho4 hb4 hg4 hat4))
    go_ret
    exact ⟨_, rfl, HO4.out, HB4.out⟩

/-! ### The decoder: a block of three cells -/
/-- What is left is bs, er the fault so far. -/
def DecAt (w : World) (g : Nat) (bs : List Int) (er : Int) : Prop :=
  ∃ A c, w.heap[g]? = some (.cells #[.slice A bs.length c, .int .i64 er, .bool true] 186 (0, 0)) ∧ bs.length ≤ c ∧ Kd.C KB w A bs.length bs ∧ (∀ ad, A = some ad → ad.block < g) ∧ Byt bs
theorem DecAt.lt {w : World} {g : Nat} {bs : List Int} {er : Int} (h : DecAt w g bs er) : g < w.heap.size := by
  obtain ⟨A, c, h1, _⟩ := h
  exact blk_lt h1
theorem DecAt.below {w w' : World} {g : Nat} {bs : List Int} {er : Int} (h : DecAt w g bs er) (hb : Below w.heap.size w w') : DecAt w' g bs er := by
  obtain ⟨A, c, h1, h2, h3, h4, h5⟩ := h
  exact ⟨A, c, blk_below h1 hb, h2, Kd.C_below h3 hb, h4, h5⟩
/-- What is read of a row below g stays, where of the old blocks only those from g on turn. -/
theorem C_old {w w' : World} {A : Option Addr} {n g : Nat} {bs : List Int} (h : Kd.C KB w A n bs) (hA : ∀ ad, A = some ad → ad.block < g) (hw : ∀ k, k < g → w'.heap[k]? = w.heap[k]?) : Kd.C KB w' A n bs := by
  refine ⟨h.1, h.2.1, fun hn => ?_⟩
  obtain ⟨ad, e, hc⟩ := h.2.2 hn
  refine ⟨ad, e, fun j p hj => ?_⟩
  obtain ⟨c, hl, hK, hcell⟩ := hc j p hj
  refine ⟨c, hl, hK, fun i u hu => ?_⟩
  have h1 := hcell i u hu
  have hbk : (ad.add (j * KB.sz + i)).block = ad.block := by unfold Addr.add; split <;> rfl
  have hw1 := hw ad.block (hA ad e)
  unfold World.cell? at h1 ⊢
  rw [hbk] at h1 ⊢
  rw [hw1]
  exact h1
/-- A block behind the decoder's turns. -/
theorem DecAt.grown {w w' : World} {g e : Nat} {bs : List Int} {er : Int} (h : DecAt w g bs er) (hg : w.grownBy w' (some e)) (he : g < e) : DecAt w' g bs er := by
  obtain ⟨A, c, h1, h2, h3, h4, h5⟩ := h
  have hlt := blk_lt h1
  have hk : ∀ k, k ≤ g → w'.heap[k]? = w.heap[k]? := fun k hk => hg.block k (by omega) (by intro x; injection x with x; omega)
  exact ⟨A, c, (hk g (Nat.le_refl _)).trans h1, h2, C_old h3 h4 (fun k h => hk k (by omega)), h4, h5⟩
/-- The decoder's own cells are written. -/
theorem dec_set {w : World} {g : Nat} {A : Option Addr} {c : Nat} {bs : List Int} {er : Int}
    (h : w.heap[g]? = some (.cells #[.slice A bs.length c, .int .i64 er, .bool true] 186 (0, 0))) (h2 : bs.length ≤ c) (h3 : Kd.C KB w A bs.length bs) (h4 : ∀ ad, A = some ad → ad.block < g) (h5 : Byt bs) : DecAt w g bs er := ⟨A, c, h, h2, h3, h4, h5⟩

def NewBelow (bs : List Int) (w : World) (e : Ending) (w' : World) : Prop := ∃ g, e = .returned (.pointer (some ⟨g, 0, none⟩)) ∧ w.heap.size ≤ g ∧ DecAt w' g bs 0 ∧ Below w.heap.size w w'
set_option maxHeartbeats 2000000 in
theorem new_any (A : Option Addr) (c : Nat) (bs : List Int) (w : World) (hr : Kd.C KB w A bs.length bs) (hl : bs.length ≤ 140737488355328) (hB : Byt bs) : Calls Tryd.prog 85 #[.slice A bs.length c] w (NewBelow bs w) := by
  have HC := Lib.hid (clone_any A c bs w hr hl)
  have HBY := Lib.hid hB
  clear hr hl hB
  go_enter Tryd.func85, Tryd.ntmps85
  go_wp2_with (first | (go_at_call 137; (with_reducible refine (HC.out).mono ?_); rintro e w2 ⟨v, rfl, ho, hb⟩; obtain ⟨A1, c1, h1⟩ := Kd.R_slice ho; subst h1; have HO := Lib.hid ho; have HB := Lib.hid hb; clear ho hb))
  go_ret
  refine ⟨w2.heap.size, rfl, HB.out.size, dec_set (heap_alloc_new w2 _) (Kd.R_reads' HO.out).2.1 (Kd.C_alloc (Kd.R_reads' HO.out).2.2 _) (fun ad e => ?_) HBY.out, below_alloc HB.out _⟩
  subst e
  exact own_lt (Kd.own_of_R HO.out) ad.block (by simp [Value.ownBlock])
set_option maxHeartbeats 2000000 in
theorem none_any (g : Nat) (bs : List Int) (er : Int) (w : World) (h : DecAt w g bs er) : Calls Tryd.prog 138 #[.pointer (some ⟨g, 0, none⟩)] w fun e w' => e = .returned (.bool false) ∧ w = w' := by
  obtain ⟨A, c, h1, _⟩ := h
  have k2 : w.cell? ⟨g, 2, none⟩ = some (.bool true) := by rw [blk_cell h1]; rfl
  clear h1
  go_enter Tryd.func138, Tryd.ntmps138
  go_wp2
  go_ret
  exact ⟨rfl, rfl⟩
set_option maxHeartbeats 2000000 in
theorem err_any (g : Nat) (bs : List Int) (er : Int) (w : World) (h : DecAt w g bs er) : Calls Tryd.prog 116 #[.pointer (some ⟨g, 0, none⟩)] w fun e w' => e = .returned (.int .i64 er) ∧ w = w' := by
  have HN := Lib.hid (none_any g bs er w h)
  obtain ⟨A, c, h1, _⟩ := h
  have k1 : w.cell? ⟨g, 1, none⟩ = some (.int .i64 er) := by rw [blk_cell h1]; rfl
  clear h1
  go_enter Tryd.func116, Tryd.ntmps116
  go_wp2_with (first | (go_at_call 138; (with_reducible refine (HN.out).mono ?_); rintro e w2 ⟨rfl, rfl⟩))
  go_ret
  exact ⟨rfl, rfl⟩
/-- What a decoder's end says. -/
def doneG (bs : List Int) (er : Int) : Int := if er ≠ 0 then er else if 0 < bs.length then 21 else 0
set_option maxHeartbeats 2000000 in
theorem done_any (g : Nat) (bs : List Int) (er : Int) (w : World) (h : DecAt w g bs er) : Calls Tryd.prog 89 #[.pointer (some ⟨g, 0, none⟩)] w fun e w' => e = .returned (.int .i64 (doneG bs er)) ∧ w = w' := by
  have HN := Lib.hid (err_any g bs er w h)
  obtain ⟨A, c, h1, _⟩ := h
  have k0 : w.cell? ⟨g, 0, none⟩ = some (.slice A bs.length c) := by rw [blk_cell h1]; rfl
  clear h1
  by_cases h0 : er = 0
  · subst h0
    by_cases hp : 0 < bs.length
    · have hpi : decide ((0 : Int) < (bs.length : Int)) = true := decide_eq_true (by omega)
      have HD : Hid (doneG bs 0 = 21) := Lib.hid (by simp [doneG, hp])
      go_enter Tryd.func89, Tryd.ntmps89
      go_wp2_with (first | (go_at_call 116; (with_reducible refine (HN.out).mono ?_); rintro e w2 ⟨rfl, rfl⟩))
      go_ret
      exact ⟨by rw [HD.out]; rfl, rfl⟩
    · have hpi : decide ((0 : Int) < (bs.length : Int)) = false := decide_eq_false (by omega)
      have HD : Hid (doneG bs 0 = 0) := Lib.hid (by unfold doneG; rw [if_neg (by simp), if_neg hp])
      go_enter Tryd.func89, Tryd.ntmps89
      go_wp2_with (first | (go_at_call 116; (with_reducible refine (HN.out).mono ?_); rintro e w2 ⟨rfl, rfl⟩))
      go_ret
      exact ⟨by rw [HD.out]; rfl, rfl⟩
  · have HD : Hid (doneG bs er = er) := Lib.hid (by simp [doneG, h0])
    have e1 : (er != 0) = true := by simp [h0]
    clear h0
    go_enter Tryd.func89, Tryd.ntmps89
    go_wp2_with (first | (go_at_call 116; (with_reducible refine (HN.out).mono ?_); rintro e w2 ⟨rfl, rfl⟩))
    go_ret
    exact ⟨by rw [HD.out]; rfl, rfl⟩
end Go.Proofs.YtojocffjajcdmaaDoor
namespace Go.Proofs.YtojocffjajcdmaaDoor
open Go.RowKit Go.Proofs.YtojocffjajcdmaaDoorW.PrintWords Go.Proofs.YtojocffjajcdmaaDoorW.PrintLast Go.Proofs.YtojocffjajcdmaaDoorW.PrintMore PChunkAll
set_option linter.unusedVariables false
set_option linter.unusedSimpArgs false

theorem numA_bounds (k i acc : Nat) (bs : List Int) (ha : acc < 128 ^ i) : 0 ≤ (numA k i acc bs).1 ∧ (numA k i acc bs).1 < 128 ^ (i + k) ∧ (numA k i acc bs).2.1 ≤ i + bs.length ∧ ((numA k i acc bs).2.2 = 0 ∨ (numA k i acc bs).2.2 = 20 ∨ (numA k i acc bs).2.2 = 21) := by
  induction k generalizing i acc bs with
  | zero =>
    have : (0 : Int) < 128 ^ (i + 0) := Int.pow_pos (by decide)
    simp [numA]
    omega
  | succ k ih =>
    cases bs with
    | nil =>
      have : (0 : Int) < 128 ^ (i + (k + 1)) := Int.pow_pos (by decide)
      simp [numA]
      omega
    | cons b bs =>
      rw [numA]
      have hm : (b % 128).toNat * 128 ^ i ≤ 127 * 128 ^ i := Nat.mul_le_mul_right _ (by omega)
      have hs : acc + (b % 128).toNat * 128 ^ i < 128 ^ (i + 1) := by rw [Nat.pow_succ]; omega
      split
      · split
        · have : (0 : Int) < 128 ^ (i + (k + 1)) := Int.pow_pos (by decide)
          simp
          omega
        · have h1 : 128 ^ (i + 1) ≤ 128 ^ (i + (k + 1)) := Nat.pow_le_pow_right (by decide) (by omega)
          refine ⟨by simp only; omega, ?_, by simp only [List.length_cons]; omega, .inl rfl⟩
          simp only
          have h2 : ((acc + (b % 128).toNat * 128 ^ i : Nat) : Int) < ((128 ^ (i + (k + 1)) : Nat) : Int) := by omega
          have h3 : ((128 ^ (i + (k + 1)) : Nat) : Int) = (128 : Int) ^ (i + (k + 1)) := by norm_cast
          rw [h3] at h2
          exact h2
      · have := ih (i + 1) _ bs hs
        rw [show i + 1 + k = i + (k + 1) by omega] at this
        simp only [List.length_cons]
        omega
theorem numG_bounds (bs : List Int) : 0 ≤ (numG bs).1 ∧ (numG bs).1 < 72057594037927936 ∧ (numG bs).2.1 ≤ bs.length ∧ ((numG bs).2.2 = 0 ∨ (numG bs).2.2 = 20 ∨ (numG bs).2.2 = 21) := by
  have := numA_bounds 8 0 0 bs (by decide)
  unfold numG
  simpa using this
def numS (bs : List Int) (er : Int) : Int × List Int × Int := if er ≠ 0 then (0, bs, er) else ((numG bs).1, bs.drop (numG bs).2.1, (numG bs).2.2)

theorem set_grown {w W : World} {g : Nat} (h : w.grownBy W (some g)) (i : Nat) (v : Value) : w.grownBy (W.setCell ⟨g, i, none⟩ v) (some g) :=
  ⟨h.os, h.tape, h.output, by have := h.size; simpa [World.setCell] using this, fun k hk hr => (Below.heap_setCell W _ v k (fun e => hr (by rw [e]))).trans (h.block k hk hr)⟩
theorem drew_grown {w W : World} {r : Option Nat} (h : w.grownBy W r) : w.grownBy W.drew r := ⟨h.os, h.tape, h.output, h.size, h.block⟩
/-- The rest behind u bytes, as the slice says it. -/
theorem rest_C {w : World} {A : Option Addr} {bs : List Int} {c u : Nat} (h : Kd.C KB w A bs.length bs) (hu : u ≤ bs.length) (hc : bs.length ≤ c) : Kd.C KB w (if c = u then A else A.map (fun x => x.add u)) (bs.drop u).length (bs.drop u) := by
  have := Kd.C_drop (m := u) h hu hc
  rw [show u * KB.sz = u from Nat.mul_one u] at this
  exact this
theorem rest_lt {A : Option Addr} {c u g : Nat} (h : ∀ ad, A = some ad → ad.block < g) : ∀ ad, (if c = u then A else A.map (fun x => x.add u)) = some ad → ad.block < g := by
  intro ad e
  split at e
  · exact h ad e
  · cases A with
    | none => cases e
    | some a =>
      simp at e
      subst e
      have hbk : (a.add u).block = a.block := by unfold Addr.add; split <;> rfl
      rw [hbk]
      exact h a rfl
theorem dec_end {w W : World} {g : Nat} {A' : Option Addr} {c' u : Nat} {bs : List Int} {er e : Int} (h : DecAt w g bs er) (h2 : bs.length - u ≤ c') (h3 : Kd.C KB w A' (bs.drop u).length (bs.drop u)) (h4 : ∀ ad, A' = some ad → ad.block < g)
    (hb : W.heap[g]? = some (.cells #[.slice A' (bs.length - u) c', .int .i64 e, .bool true] 186 (0, 0))) (hgr : w.grownBy W (some g)) : DecAt W g (bs.drop u) e ∧ w.grownBy W (some g) := by
  refine ⟨?_, hgr⟩
  have hlen : (bs.drop u).length = bs.length - u := List.length_drop
  refine ⟨A', c', by rw [hlen]; exact hb, by rw [hlen]; omega, C_old h3 h4 (fun k hk => hgr.block k ?_ ?_), h4, ?_⟩
  · exact Nat.lt_trans hk h.lt
  · intro x; injection x with x; omega
  · obtain ⟨_, _, _, _, _, _, hby⟩ := h
    exact hby.drop u
set_option maxHeartbeats 4000000 in
set_option maxRecDepth 100000 in
theorem dnum_any (g : Nat) (bs : List Int) (er : Int) (w : World) (h : DecAt w g bs er) : Calls Tryd.prog 86 #[.pointer (some ⟨g, 0, none⟩)] w fun e w' => e = .returned (.int .i64 (numS bs er).1) ∧ DecAt w' g (numS bs er).2.1 (numS bs er).2.2 ∧ w.grownBy w' (some g) := by
  have HN := Lib.hid (none_any g bs er w h)
  have HD := Lib.hid h
  obtain ⟨A, c, h1, h2, h3, h4, h5⟩ := h
  have k0 : w.cell? ⟨g, 0, none⟩ = some (.slice A bs.length c) := by rw [blk_cell h1]; rfl
  have k1 : w.cell? ⟨g, 1, none⟩ = some (.int .i64 er) := by rw [blk_cell h1]; rfl
  have f0 := blk_frozen h1 0
  have f1 := blk_frozen h1 1
  by_cases h0 : er = 0
  · subst h0
    have HS : Hid (numS bs 0 = ((numG bs).1, bs.drop (numG bs).2.1, (numG bs).2.2)) := Lib.hid (by simp [numS])
    have HI := Lib.hid (number_in A c bs w h3 h5)
    have hbd := numG_bounds bs
    rw [HS.out]
    generalize hr : numG bs = r at *
    obtain ⟨v, u, e⟩ := r
    obtain ⟨_, _, hu, _⟩ := hbd
    simp only at hu HI ⊢
    have hui : (u : Int) ≤ (bs.length : Int) := by omega
    obtain ⟨i5, hi5, _, hsz5, _⟩ := info_parts info5
    have hcut := cut_from (P := Tryd.prog) 23 5 .i64 Tryd.underlying23 hi5 1 hsz5 A bs.length c (u : Int) (by omega) hui
    rw [Int.toNat_natCast, Nat.mul_one] at hcut
    have H3 := Lib.hid (rest_C h3 hu h2)
    have H4 := Lib.hid (rest_lt (c := c) (u := u) h4)
    have H2 : Hid (bs.length - u ≤ c - u) := Lib.hid (by omega)
    generalize (if c = u then A else Option.map (fun x => x.add u) A) = A' at *
    generalize c - u = c' at *
    have H1 := Lib.hid h1
    clear h1 h3 h4 h5 h2 hr HS
    go_enter Tryd.func86, Tryd.ntmps86
    go_wp2_with (first | (go_at_call 138; (with_reducible refine (HN.out).mono ?_); rintro e w2 ⟨rfl, rfl⟩) | (go_at_call 139; (with_reducible refine (HI.out).mono ?_); rintro e w2 ⟨rfl, rfl⟩))
    go_region
    all_goals go_wp2
    all_goals go_ret
    all_goals refine ⟨rfl, dec_end HD.out H2.out H3.out H4.out ?_ ?_⟩
    all_goals first
      | exact blk_drew (blk_put (blk_put H1.out 1 (.int .i64 e) (cs' := #[.slice A bs.length c, .int .i64 e, .bool true]) rfl) 0 _ rfl)
      | exact blk_drew (blk_put (blk_put H1.out 0 (.slice A' (bs.length - u) c') (cs' := #[.slice A' (bs.length - u) c', .int .i64 0, .bool true]) rfl) 1 _ rfl)
      | exact drew_grown (set_grown (set_grown (World.grownBy.refl w (some g)) _ _) _ _)
  · have HS : Hid (numS bs er = (0, bs, er)) := Lib.hid (by simp [numS, h0])
    rw [HS.out]
    have e1 : (er != 0) = true := by simp [h0]
    clear h1 h2 h3 h4 h5 h0
    go_enter Tryd.func86, Tryd.ntmps86
    go_wp2_with (first | (go_at_call 138; (with_reducible refine (HN.out).mono ?_); rintro e w2 ⟨rfl, rfl⟩))
    go_ret
    exact ⟨rfl, HD.out, World.grownBy.refl w _⟩
end Go.Proofs.YtojocffjajcdmaaDoor
namespace Go.Proofs.YtojocffjajcdmaaDoor
open Go.RowKit Go.Proofs.YtojocffjajcdmaaDoorW.PrintWords Go.Proofs.YtojocffjajcdmaaDoorW.PrintLast Go.Proofs.YtojocffjajcdmaaDoorW.PrintMore PChunkAll
set_option linter.unusedVariables false
set_option linter.unusedSimpArgs false

def noStr : ByteArray := ⟨#[]⟩
/-- A text read: the text, what is left, the fault. -/
def textS (bs : List Int) (er : Int) : ByteArray × List Int × Int :=
  if (numS bs er).2.2 ≠ 0 then (noStr, bs, (numS bs er).2.2)
  else if 65536 < (numS bs er).1 then (noStr, bs, 21)
  else if ((numS bs er).2.1.length : Int) < (numS bs er).1 then (noStr, bs, 20)
  else (strOfNums ((numS bs er).2.1.take (numS bs er).1.toNat), (numS bs er).2.1.drop (numS bs er).1.toNat, 0)
theorem numS_val (bs : List Int) (er : Int) : 0 ≤ (numS bs er).1 ∧ (numS bs er).1 < 72057594037927936 := by
  have := numG_bounds bs
  unfold numS
  split
  · simp
  · simp only; omega
theorem numS_byt {bs : List Int} (h : Byt bs) (er : Int) : Byt (numS bs er).2.1 := by
  unfold numS
  split
  · exact h
  · exact h.drop _
theorem grown_trans {w w1 w2 : World} {g : Nat} (h : w.grownBy w1 (some g)) (h' : w1.grownBy w2 (some g)) : w.grownBy w2 (some g) :=
  ⟨h'.os.trans h.os, h'.tape.trans h.tape, h'.output.trans h.output, Nat.le_trans h.size h'.size, fun k hk hr => (h'.block k (Nat.lt_of_lt_of_le hk h.size) hr).trans (h.block k hk hr)⟩
/-- The decoder as it stood, with a fault. -/
theorem dec_back {w W : World} {g : Nat} {A : Option Addr} {c : Nat} {bs : List Int} {e : Int} (hg : g < w.heap.size) (h2 : bs.length ≤ c) (h3 : Kd.C KB w A bs.length bs) (h4 : ∀ ad, A = some ad → ad.block < g) (h5 : Byt bs)
    (hb : W.heap[g]? = some (.cells #[.slice A bs.length c, .int .i64 e, .bool true] 186 (0, 0))) (hgr : w.grownBy W (some g)) : DecAt W g bs e ∧ w.grownBy W (some g) := by
  refine ⟨⟨A, c, hb, h2, C_old h3 h4 (fun k hk => hgr.block k ?_ ?_), h4, h5⟩, hgr⟩
  · exact Nat.lt_trans hk hg
  · intro x; injection x with x; omega

theorem take_C {w : World} {A : Option Addr} {bs : List Int} {u : Nat} (h : Kd.C KB w A bs.length bs) (hu : u ≤ bs.length) : Kd.C KB w A u (bs.take u) := by
  have := Kd.C_take h hu
  rw [List.length_take, Nat.min_eq_left hu] at this
  exact this
set_option maxHeartbeats 4000000 in
set_option maxRecDepth 100000 in
theorem dtext_any (g : Nat) (bs : List Int) (er : Int) (w : World) (h : DecAt w g bs er) : Calls Tryd.prog 88 #[.pointer (some ⟨g, 0, none⟩)] w fun e w' => e = .returned (.string (textS bs er).1) ∧ DecAt w' g (textS bs er).2.1 (textS bs er).2.2 ∧ w.grownBy w' (some g) := by
  have HN := Lib.hid (none_any g bs er w h)
  have HU := Lib.hid (dnum_any g bs er w h)
  have hlt := h.lt
  obtain ⟨A, c, h1, h2, h3, h4, h5⟩ := h
  have k0 : w.cell? ⟨g, 0, none⟩ = some (.slice A bs.length c) := by rw [blk_cell h1]; rfl
  have hv := numS_val bs er
  have hby := numS_byt h5 er
  have HBACK : Hid (∀ (W : World) (e : Int), W.heap[g]? = some (.cells #[.slice A bs.length c, .int .i64 e, .bool true] 186 (0, 0)) → w.grownBy W (some g) → DecAt W g bs e ∧ w.grownBy W (some g)) := Lib.hid (fun W e hb hgr => dec_back hlt h2 h3 h4 h5 hb hgr)
  clear h1 h2 h3 h4 h5 hlt
  have HS : Hid (textS bs er = if (numS bs er).2.2 ≠ 0 then (noStr, bs, (numS bs er).2.2)
    else if 65536 < (numS bs er).1 then (noStr, bs, 21)
    else if ((numS bs er).2.1.length : Int) < (numS bs er).1 then (noStr, bs, 20)
    else (strOfNums ((numS bs er).2.1.take (numS bs er).1.toNat), (numS bs er).2.1.drop (numS bs er).1.toNat, 0)) := Lib.hid rfl
  generalize numS bs er = r at *
  obtain ⟨n, bs1, e1⟩ := r
  simp only at HU hv hby HS
  obtain ⟨hv0, hv1⟩ := hv
  by_cases he : e1 = 0
  · subst he
    by_cases hn : 65536 < n
    · have HT : Hid (textS bs er = (noStr, bs, 21)) := Lib.hid (by rw [HS.out, if_neg (by simp), if_pos hn])
      rw [HT.out]
      have d1 : decide (65536 < n) = true := decide_eq_true hn
      clear HS hv0 hv1
      go_enter Tryd.func88, Tryd.ntmps88
      go_wp2_with (first | (go_at_call 138; (with_reducible refine (HN.out).mono ?_); rintro e w2 ⟨rfl, rfl⟩) | (go_at_call 86; (with_reducible refine (HU.out).mono ?_); rintro e w2 ⟨rfl, ⟨A1, c1, b1, b2, b3, b4, b5⟩, hgr⟩; have m0 : w2.cell? ⟨g, 0, none⟩ = some (.slice A1 bs1.length c1) := (by rw [blk_cell b1]; rfl); have m1 : w2.cell? ⟨g, 1, none⟩ = some (.int .i64 0) := (by rw [blk_cell b1]; rfl); have f0 := blk_frozen b1 0; have f1 := blk_frozen b1 1;  have B1 := Lib.hid b1; have HGR := Lib.hid hgr; clear b1 hgr))
      go_ret
      exact ⟨rfl, HBACK.out _ _ (blk_put (blk_put B1.out 1 _ rfl) 0 _ rfl) (set_grown (set_grown HGR.out 1 _) 0 _)⟩
    · by_cases hl : (bs1.length : Int) < n
      · have HT : Hid (textS bs er = (noStr, bs, 20)) := Lib.hid (by rw [HS.out, if_neg (by simp), if_neg hn, if_pos hl])
        rw [HT.out]
        have d1 : decide (65536 < n) = false := decide_eq_false hn
        have d2 : decide ((bs1.length : Int) < n) = true := decide_eq_true hl
        clear HS hv0 hv1
        go_enter Tryd.func88, Tryd.ntmps88
        go_wp2_with (first | (go_at_call 138; (with_reducible refine (HN.out).mono ?_); rintro e w2 ⟨rfl, rfl⟩) | (go_at_call 86; (with_reducible refine (HU.out).mono ?_); rintro e w2 ⟨rfl, ⟨A1, c1, b1, b2, b3, b4, b5⟩, hgr⟩; have m0 : w2.cell? ⟨g, 0, none⟩ = some (.slice A1 bs1.length c1) := (by rw [blk_cell b1]; rfl); have m1 : w2.cell? ⟨g, 1, none⟩ = some (.int .i64 0) := (by rw [blk_cell b1]; rfl); have f0 := blk_frozen b1 0; have f1 := blk_frozen b1 1;  have B1 := Lib.hid b1; have HGR := Lib.hid hgr; clear b1 hgr))
        go_ret
        exact ⟨rfl, HBACK.out _ _ (blk_put (blk_put B1.out 1 _ rfl) 0 _ rfl) (set_grown (set_grown HGR.out 1 _) 0 _)⟩
      · have HT : Hid (textS bs er = (strOfNums (bs1.take n.toNat), bs1.drop n.toNat, 0)) := Lib.hid (by rw [HS.out, if_neg (by simp), if_neg hn, if_neg hl])
        rw [HT.out]
        have d1 : decide (65536 < n) = false := decide_eq_false hn
        have d2 : decide ((bs1.length : Int) < n) = false := decide_eq_false hl
        have hnl : n ≤ (bs1.length : Int) := by omega
        obtain ⟨i5, hi5, _, hsz5, _⟩ := info_parts info5
        clear HS
        go_enter Tryd.func88, Tryd.ntmps88
        go_wp2_with (first | (go_at_call 138; (with_reducible refine (HN.out).mono ?_); rintro e w2 ⟨rfl, rfl⟩) | (go_at_call 86; (with_reducible refine (HU.out).mono ?_); rintro e w2 ⟨rfl, ⟨A1, c1, b1, b2, b3, b4, b5⟩, hgr⟩; have m0 : w2.cell? ⟨g, 0, none⟩ = some (.slice A1 bs1.length c1) := (by rw [blk_cell b1]; rfl); have m1 : w2.cell? ⟨g, 1, none⟩ = some (.int .i64 0) := (by rw [blk_cell b1]; rfl); have f0 := blk_frozen b1 0; have f1 := blk_frozen b1 1; have hcv := Kd.C_string (P := Tryd.prog) (A := A1) (n := n.toNat) (c := c1) Tryd.underlying23 Tryd.underlying5 Tryd.underlying9 (take_C b3 (by omega)); have hto := cut_to (P := Tryd.prog) 23 5 .i64 Tryd.underlying23 hi5 A1 bs1.length c1 n hv0 (by omega) b2; have hfr := cut_from (P := Tryd.prog) 23 5 .i64 Tryd.underlying23 hi5 1 hsz5 A1 bs1.length c1 n hv0 (by omega); rw [Nat.mul_one] at hfr; have H3 := Lib.hid (rest_C (u := n.toNat) b3 (by omega) b2); have H4 := Lib.hid (rest_lt (c := c1) (u := n.toNat) b4); have H2 : Hid (bs1.length - n.toNat ≤ c1 - n.toNat) := Lib.hid (by omega); generalize hA' : (if c1 = n.toNat then A1 else Option.map (fun x => x.add n.toNat) A1) = A' at *; generalize hc' : c1 - n.toNat = c' at *; have HD1 := Lib.hid (dec_set b1 b2 b3 b4 b5); have B1 := Lib.hid b1; have HGR := Lib.hid hgr; clear b1 hgr))
        go_ret
        obtain ⟨hA, hB⟩ := dec_end HD1.out H2.out H3.out H4.out (blk_put B1.out 0 _ rfl) (set_grown (World.grownBy.refl w2 (some g)) 0 _)
        exact ⟨rfl, hA, grown_trans HGR.out hB⟩
  · have HT : Hid (textS bs er = (noStr, bs, e1)) := Lib.hid (by rw [HS.out, if_pos he])
    rw [HT.out]
    have hne : (e1 != 0) = true := by simp [he]
    clear HS he hv0 hv1
    go_enter Tryd.func88, Tryd.ntmps88
    go_wp2_with (first | (go_at_call 138; (with_reducible refine (HN.out).mono ?_); rintro e w2 ⟨rfl, rfl⟩) | (go_at_call 86; (with_reducible refine (HU.out).mono ?_); rintro e w2 ⟨rfl, ⟨A1, c1, b1, b2, b3, b4, b5⟩, hgr⟩; have m0 : w2.cell? ⟨g, 0, none⟩ = some (.slice A1 bs1.length c1) := (by rw [blk_cell b1]; rfl); have m1 : w2.cell? ⟨g, 1, none⟩ = some (.int .i64 e1) := (by rw [blk_cell b1]; rfl); have f0 := blk_frozen b1 0; have f1 := blk_frozen b1 1; have B1 := Lib.hid b1; have HGR := Lib.hid hgr; clear b1 hgr))
    go_ret
    exact ⟨rfl, HBACK.out _ _ (blk_put B1.out 0 _ rfl) (set_grown HGR.out 0 _)⟩
end Go.Proofs.YtojocffjajcdmaaDoor
namespace Go.Proofs.YtojocffjajcdmaaDoor
open Go.RowKit Go.Proofs.YtojocffjajcdmaaDoorW.PrintWords Go.Proofs.YtojocffjajcdmaaDoorW.PrintLast Go.Proofs.YtojocffjajcdmaaDoorW.PrintMore PChunkAll
attribute [local go_sem] max2_int min2_int max_two min_two
set_option linter.unusedVariables false
set_option linter.unusedSimpArgs false

/-- k labels read. -/
def labsS (bs : List Int) (er : Int) : Nat → List S112 × List Int × Int
  | 0 => ([], bs, er)
  | k + 1 =>
    ((labsS bs er k).1 ++ [⟨(textS (labsS bs er k).2.1 (labsS bs er k).2.2).1, (textS (textS (labsS bs er k).2.1 (labsS bs er k).2.2).2.1 (textS (labsS bs er k).2.1 (labsS bs er k).2.2).2.2).1⟩],
      (textS (textS (labsS bs er k).2.1 (labsS bs er k).2.2).2.1 (textS (labsS bs er k).2.1 (labsS bs er k).2.2).2.2).2)
def cnt (n : Int) : Nat := (min n 17).toNat
def readS (bs : List Int) : List S112 × List Int × Int := labsS (numS bs 0).2.1 (numS bs 0).2.2 (cnt (numS bs 0).1)
def readL (bs : List Int) : List S112 × Int := if doneG (readS bs).2.1 (readS bs).2.2 ≠ 0 ∨ rightL (readS bs).1 = false then ([], 21) else ((readS bs).1, 0)
theorem labsS_len (bs : List Int) (er : Int) (k : Nat) : (labsS bs er k).1.length = k := by
  induction k with
  | zero => rfl
  | succ k ih => rw [labsS, List.length_append, ih]; rfl
theorem DecAt.low {w w' : World} {g : Nat} {bs : List Int} {er : Int} (h : DecAt w g bs er) (hb : Below (g + 1) w w') : DecAt w' g bs er := by
  obtain ⟨A, c, h1, h2, h3, h4, h5⟩ := h
  exact ⟨A, c, (hb.block g (by omega)).trans h1, h2, C_old h3 h4 (fun k hk => hb.block k (by omega)), h4, h5⟩
/-- Labels of one's own stay where the decoder turns. -/
theorem labs_dec {w w' : World} {g base : Nat} {bs : List Int} {er : Int} {v : Value} {ls : List S112} (h : Kd.R k112 112 w base (fun _ => True) v ls) (hd : DecAt w g bs er) (hg : w.grownBy w' (some g)) : Kd.R k112 112 w' base (fun _ => True) v ls := by
  obtain ⟨A, c, h1, _⟩ := hd
  exact Kd.R_mono (Kd.R_grown (Kd.R_types h h1 (by decide)) hg (fun k hk e => by injection e with e; exact hk.2 e)) (fun _ _ => trivial)
def LabsBelow (ls : List S112) (er : Int) (w : World) (e : Ending) (w' : World) : Prop := ∃ v, e = .returned (.tuple #[v, .int .i64 er]) ∧ Kd.R k112 112 w' w.heap.size (fun _ => True) v ls ∧ Below w.heap.size w w'
def RdRel (b1 : List Int) (e1 : Int) (m : Nat) (g : Nat) (w : World) (v5 v11 : Value) (wr : World) : Prop :=
  ∃ k : Nat, v11 = .int .i64 (k : Int) ∧ k ≤ m ∧ DecAt wr g (labsS b1 e1 k).2.1 (labsS b1 e1 k).2.2 ∧ Kd.R k112 112 wr (g + 1) (fun _ => True) v5 (labsS b1 e1 k).1 ∧ Below w.heap.size w wr

set_option maxHeartbeats 8000000 in
set_option maxRecDepth 100000 in
theorem readL_any (A : Option Addr) (c : Nat) (bs : List Int) (w : World) (hT : Tabs w) (hr : Kd.C KB w A bs.length bs) (hl : bs.length ≤ 140737488355328) (hB : Byt bs) : Calls Tryd.prog 87 #[.slice A bs.length c] w (LabsBelow (readL bs).1 (readL bs).2 w) := by
  have HNW := Lib.hid (new_any A c bs w hr hl hB)
  have HT := Lib.hid hT
  have HRS : Hid (readS bs = labsS (numS bs 0).2.1 (numS bs 0).2.2 (cnt (numS bs 0).1)) := Lib.hid rfl
  have HRL : Hid (readL bs = if doneG (readS bs).2.1 (readS bs).2.2 ≠ 0 ∨ rightL (readS bs).1 = false then ([], 21) else ((readS bs).1, 0)) := Lib.hid rfl
  have hv := numS_val bs 0
  clear hT hr hl hB
  obtain ⟨n, hn⟩ : ∃ n, n = (numS bs 0).1 := ⟨_, rfl⟩
  obtain ⟨b1, hb1⟩ : ∃ n, n = (numS bs 0).2.1 := ⟨_, rfl⟩
  obtain ⟨e1, he1⟩ : ∃ n, n = (numS bs 0).2.2 := ⟨_, rfl⟩
  have HDN : Hid (∀ g W, DecAt W g bs 0 → Calls Tryd.prog 86 #[.pointer (some ⟨g, 0, none⟩)] W fun e w' => e = .returned (.int .i64 n) ∧ DecAt w' g b1 e1 ∧ W.grownBy w' (some g)) := Lib.hid (fun g W h => by rw [hn, hb1, he1]; exact dnum_any g bs 0 W h)
  rw [← hn, ← hb1, ← he1] at HRS
  rw [← hn] at hv
  obtain ⟨m, hm⟩ : ∃ m : Nat, m = cnt n := ⟨_, rfl⟩
  have hmn : (if 17 < n then (17 : Int) else n) = (m : Int) := by rw [hm]; unfold cnt; split <;> omega
  rw [← hm] at HRS
  have hm17 : m ≤ 17 := by rw [hm]; unfold cnt; omega
  clear hn hb1 he1 hm
  go_enter Tryd.func87, Tryd.ntmps87
  go_wp2_with (first | (go_at_call 85; (with_reducible refine (HNW.out).mono ?_); rintro e w2 ⟨g, rfl, hg, hd, hb⟩; have HD := Lib.hid hd; have HB := Lib.hid hb; have HG := Lib.hid hg; clear hd hb hg) | (go_at_call 86; (with_reducible refine (HDN.out _ _ HD.out).mono ?_); rintro e w3 ⟨rfl, hd, hgr⟩; have HD3 := Lib.hid hd; have HB3 := Lib.hid (pw_below_grown HB.out (some g) HB.out.size hgr (fun k hk => by injection hk with hk; rw [← hk]; exact HG.out)); clear hd hgr))
  go_loopw [5, 11] (fun v5 v11 wr => RdRel b1 e1 m g w v5 v11 wr) (fun _ v11 _ => m - (intOf v11).toNat)
  case atStart => exact ⟨0, rfl, Nat.zero_le _, HD3.out, Kd.R_nil _ _ _ _ _, HB3.out⟩
  case round =>
    obtain ⟨k, rfl, hk, hd, ho, hb⟩ := hrel
    obtain ⟨Ao, co, hso⟩ := Kd.R_slice ho
    subst hso
    by_cases hlt : k < m
    · have hki : (k : Int) < (m : Int) := by omega
      have HS : Hid (labsS b1 e1 (k + 1) = ((labsS b1 e1 k).1 ++ [⟨(textS (labsS b1 e1 k).2.1 (labsS b1 e1 k).2.2).1, (textS (textS (labsS b1 e1 k).2.1 (labsS b1 e1 k).2.2).2.1 (textS (labsS b1 e1 k).2.1 (labsS b1 e1 k).2.2).2.2).1⟩],
        (textS (textS (labsS b1 e1 k).2.1 (labsS b1 e1 k).2.2).2.1 (textS (labsS b1 e1 k).2.1 (labsS b1 e1 k).2.2).2.2).2)) := Lib.hid rfl
      have hll := labsS_len b1 e1 k
      generalize labsS b1 e1 k = S at *
      obtain ⟨ls, b2, e2⟩ := S
      simp only at hd ho HS hll
      have hl17 : ls.length ≤ 17 := by omega
      clear hll
      have HTX := Lib.hid (fun W (h : DecAt W g b2 e2) => dtext_any g b2 e2 W h)
      generalize textS b2 e2 = T at *
      obtain ⟨s1, b3, e3⟩ := T
      simp only at HTX HS
      have HTY := Lib.hid (fun W (h : DecAt W g b3 e3) => dtext_any g b3 e3 W h)
      generalize textS b3 e3 = T at *
      obtain ⟨s2, b4, e4⟩ := T
      simp only at HTY HS
      have HD4 := Lib.hid hd
      have HO4 := Lib.hid ho
      have HB4 := Lib.hid hb
      clear hd ho hb
      go_wp2_with (first | (go_at_call 88; (with_reducible refine (HTX.out _ HD4.out).mono ?_); rintro e w5 ⟨rfl, hd, hgr⟩; have HD5 := Lib.hid hd; have HO5 := Lib.hid (labs_dec HO4.out HD4.out hgr); have HB5 := Lib.hid (pw_below_grown HB4.out (some g) HB4.out.size hgr (fun k hk => by injection hk with hk; rw [← hk]; exact HG.out)); clear hd hgr) | (go_at_call 88; (with_reducible refine (HTY.out _ HD5.out).mono ?_); rintro e w6 ⟨rfl, hd, hgr⟩; have HD6 := Lib.hid hd; have HO6 := Lib.hid (labs_dec HO5.out HD5.out hgr); have HB6 := Lib.hid (pw_below_grown HB5.out (some g) HB5.out.size hgr (fun k hk => by injection hk with hk; rw [← hk]; exact HG.out)); clear hd hgr) | ((with_reducible refine gate_builtin (b := .append) (xs := #[.tmp 13, .tmp 19]) rfl ?_); at_builtin; refine Kd.R_append k112 (w0 := w6) (W := w6) (g + 1) rfl (.tmp 13) (.tmp 19) 31 112 (.agg #[(.string ⟨#[]⟩), (.string ⟨#[]⟩)]) 32 rfl Tryd.underlying31 info112 rfl (by decide) (by omega) (.slice Ao ls.length co) ls ⟨s1, s2⟩ [.string s1, .string s2] (fun _ => True) (fun _ => False) rfl rfl ?aP (fun _ hk => hk.elim) (fun _ _ => trivial) HO6.out (Below.refl _ _) HD6.out.lt (by omega) ?_; (case aP => exact k112_mkM _ _ _ ⟨s1, s2⟩); intro v7 w7 ho7 hb7 hg7 hat7; have HO7 := Lib.hid ho7; have HD7 := Lib.hid (HD6.out.low hb7); have HB7 := Lib.hid (HB6.out.trans (hb7.mono (Nat.le_trans HG.out (Nat.le_succ g)))); clear ho7 hb7 hg7 hat7))
      go_roundw
      case rel => exact ⟨k + 1, by go_num, by omega, by rw [HS.out]; exact HD7.out, by rw [HS.out]; exact HO7.out, HB7.out⟩
      case measure => simp [intOf]; omega
    · have hki : ¬ (k : Int) < (m : Int) := by omega
      have hkm : k = m := by omega
      subst hkm
      rw [HRS.out] at HRL
      generalize labsS b1 e1 k = S at *
      obtain ⟨ls, b2, e2⟩ := S
      simp only at hd ho HRL
      have HDO := Lib.hid (done_any g b2 e2 wr hd)
      have HRI := Lib.hid (right_any Ao co ls wr (HT.out.below hb) (Kd.R_reads' ho).2.2)
      have HO := Lib.hid (Kd.R_lower ho (Nat.le_trans HG.out (Nat.le_succ g)))
      have HBW := Lib.hid hb
      clear hd ho hb
      generalize doneG b2 e2 = dn at *
      by_cases h0 : dn = 0
      · subst h0
        cases hR : rightL ls with
        | true =>
          have HE : Hid (readL bs = (ls, 0)) := Lib.hid (by rw [HRL.out, if_neg (by simp [hR])])
          rw [hR] at HRI
          clear hR HRL
          go_wp2_with (first | (go_at_call 89; (with_reducible refine (HDO.out).mono ?_); rintro e w5 ⟨rfl, rfl⟩) | (go_at_call 95; (with_reducible refine (HRI.out).mono ?_); rintro e w6 ⟨rfl, hb6⟩; have HB6 := Lib.hid (below_step HBW.out hb6); have HO6 := Lib.hid (Kd.R_below HO.out hb6); clear hb6))
          go_ret2
          exact ⟨_, by rw [HE.out]; rfl, by rw [HE.out]; exact HO6.out, HB6.out⟩
        | false =>
          have HE : Hid (readL bs = ([], 21)) := Lib.hid (by rw [HRL.out, if_pos (.inr hR)])
          rw [hR] at HRI
          clear hR HRL
          go_wp2_with (first | (go_at_call 89; (with_reducible refine (HDO.out).mono ?_); rintro e w5 ⟨rfl, rfl⟩) | (go_at_call 95; (with_reducible refine (HRI.out).mono ?_); rintro e w6 ⟨rfl, hb6⟩; have HB6 := Lib.hid (below_step HBW.out hb6); clear hb6))
          go_ret2
          exact ⟨_, by rw [HE.out]; rfl, by rw [HE.out]; exact Kd.R_nil _ _ _ _ _, HB6.out⟩
      · have HE : Hid (readL bs = ([], 21)) := Lib.hid (by rw [HRL.out, if_pos (.inl h0)])
        have hne : (dn != 0) = true := by simp [h0]
        clear h0 HRL
        go_wp2_with (first | (go_at_call 89; (with_reducible refine (HDO.out).mono ?_); rintro e w5 ⟨rfl, rfl⟩))
        go_ret2
        exact ⟨_, by rw [HE.out]; rfl, by rw [HE.out]; exact Kd.R_nil _ _ _ _ _, HBW.out⟩
end Go.Proofs.YtojocffjajcdmaaDoor
namespace Go.Proofs.YtojocffjajcdmaaDoor
open Go.RowKit Go.Proofs.YtojocffjajcdmaaDoorW.PrintWords Go.Proofs.YtojocffjajcdmaaDoorW.PrintLast Go.Proofs.YtojocffjajcdmaaDoorW.PrintMore PChunkAll
set_option linter.unusedVariables false
set_option linter.unusedSimpArgs false

theorem textS_size (bs : List Int) (er : Int) : (textS bs er).1.size ≤ 65536 := by
  unfold textS
  split
  · show (0 : Nat) ≤ 65536; omega
  · split
    · show (0 : Nat) ≤ 65536; omega
    · split
      · show (0 : Nat) ≤ 65536; omega
      · show (strOfNums _).size ≤ 65536
        rw [strOfNums_size, List.length_take]; omega
theorem byt_bytesOf (s : ByteArray) : Byt (bytesOf s) := by
  intro x hx
  unfold bytesOf at hx
  obtain ⟨b, _, rfl⟩ := List.mem_map.1 hx
  have := b.toNat_lt
  omega
theorem C_bytes {w : World} {A : Option Addr} {n : Nat} {xs : List Int} (h : ReadsInt w .u8 A n xs) : Kd.C KB w A n xs := by
  refine ⟨h.1, h.2.1, fun hn => ?_⟩
  obtain ⟨ad, e, hc⟩ := h.2.2 hn
  refine ⟨ad, e, fun j p hj => ?_⟩
  have hjl : j < xs.length := (List.getElem?_eq_some_iff.1 hj).1
  have hcj := hc j (by have := h.1; omega)
  have hp : xs.getD j 0 = p := by rw [List.getD_eq_getElem?_getD, hj]; rfl
  refine ⟨[.int .u8 p], rfl, rfl, fun i u hu => ?_⟩
  have hi : i = 0 := by
    have := (List.getElem?_eq_some_iff.1 hu).1
    simp at this
    exact this
  subst hi
  simp only [List.getElem?_cons_zero, Option.some.injEq] at hu
  subst hu
  rw [show j * KB.sz + 0 = j from Nat.mul_one j, ← hp]
  exact hcj
theorem str_C (W : World) (s : ByteArray) (hs : s.size ≤ 65536) : Kd.C KB (Lib.bytesWorld W 5 s) (some ⟨W.heap.size, 0, none⟩) (bytesOf s).length (bytesOf s) := by
  rw [bytesOf_length]; exact C_bytes (bytes_reads W 5 s (by omega))
theorem DecAt.set {w : World} {g E i : Nat} {bs : List Int} {er : Int} {u : Value} (h : DecAt w g bs er) (hE : g < E) : DecAt (w.setCell ⟨E, i, none⟩ u) g bs er := h.grown (set_grown (World.grownBy.refl w (some E)) i u) hE
end Go.Proofs.YtojocffjajcdmaaDoor
