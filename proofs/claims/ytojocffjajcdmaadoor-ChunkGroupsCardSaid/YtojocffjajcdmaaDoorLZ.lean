/- codec.Signed: a number with its sign, zigzag, in sevens. -/
import Derived.Test.YtojocffjajcdmaaDoorLA
import Derived.Test.YtojocffjajcdmaaDoorVx4
import Derived.Laws.Bits64
import Derived.Test.YtojocffjajcdmaaDoorLY
import Derived.Test.YtojocffjajcdmaaDoorVx2
namespace Go.Proofs.YtojocffjajcdmaaDoor.RF
open Go Go.RowKit Go.Proofs.YtojocffjajcdmaaDoor Go.Proofs.YtojocffjajcdmaaDoorW.PrintWords Go.Proofs.YtojocffjajcdmaaDoorW.PrintLast Go.Proofs.YtojocffjajcdmaaDoorW.PrintMore PChunkAll
set_option linter.unusedVariables false
set_option linter.unusedSimpArgs false

/-- Zigzag. -/
def zig (d : Int) : Nat := if d < 0 then (-2 * d - 1).toNat else (2 * d).toNat
theorem xor_ones (x : Nat) (h : x < 18446744073709551616) : x ^^^ 18446744073709551615 = 18446744073709551615 - x := by
  have e : (18446744073709551615 : Nat) = 2^64 - 1 := by decide
  apply Nat.eq_of_testBit_eq
  intro i
  rw [Nat.testBit_xor, show (18446744073709551615 - x) = 2^64 - (x+1) by omega, Nat.testBit_two_pow_sub_succ (by simpa using h), e, Nat.testBit_two_pow_sub_one]
  by_cases hi : i < 64
  · simp [hi]
  · have : x.testBit i = false := Nat.testBit_lt_two_pow (Nat.lt_of_lt_of_le h (by rw [show (18446744073709551616:Nat) = 2^64 by decide]; exact Nat.pow_le_pow_right (by decide) (by omega)))
    simp [hi, this]
theorem zig_xor (d : Int) (h1 : -36028797018963968 ≤ d) (h2 : d < 36028797018963968) : Go.bits .xor .u64 (IntKind.u64.wrap ((IntKind.u64.wrap d) * 2)) (IntKind.u64.wrap (d / 9223372036854775808)) = (zig d : Int) := by
  unfold zig
  by_cases h : d < 0
  · have e2 : d / 9223372036854775808 = -1 := by omega
    rw [if_pos h, e2]
    simp only [IntKind.wrap_u64]
    rw [show (d % 18446744073709551616 * 2 % 18446744073709551616) = ((18446744073709551616 + 2 * d).toNat : Int) by omega, show ((-1 : Int) % 18446744073709551616) = ((18446744073709551615 : Nat) : Int) by decide,
      bits_xor_u64_nat _ _ (by omega) (by omega), xor_ones _ (by omega)]
    omega
  · have e2 : d / 9223372036854775808 = 0 := by omega
    rw [if_neg h, e2]
    simp only [IntKind.wrap_u64]
    rw [show (d % 18446744073709551616 * 2 % 18446744073709551616) = ((2 * d).toNat : Int) by omega, show ((0 : Int) % 18446744073709551616) = ((0 : Nat) : Int) by decide,
      bits_xor_u64_nat _ _ (by omega) (by omega), Nat.xor_zero]
theorem seven64 : ∀ (k : Nat) (n : Int) (acc : List Int), codec_seven_uint64.l0 k n acc = codec_seven_int.l0 k n acc
  | 0, _, _ => rfl
  | k + 1, n, acc => by
    rw [codec_seven_uint64.l0, codec_seven_int.l0]
    simp only [seven64 k]
theorem zig_lt (d : Int) (h1 : -36028797018963968 ≤ d) (h2 : d < 36028797018963968) : zig d < 72057594037927936 := by
  unfold zig; split <;> omega
theorem signed_any (d : Int) (w : World) (h1 : -36028797018963968 ≤ d) (h2 : d < 36028797018963968) : Calls Tryd.prog 113 #[.int .i64 d] w (TupBelow (num7 (zig d)) 0 w) :=
  codec_Signed.calls 9 d (num7 (zig d)) 0 w (by
    unfold codec_Signed.f codec_seven_uint64.f
    rw [if_neg (by omega), if_neg (by omega), zig_xor d h1 h2, seven64, seven_l0 8 (zig d) [] (by have := zig_lt d h1 h2; omega) (by simp)]
    rfl)
end Go.Proofs.YtojocffjajcdmaaDoor.RF
/- chunk.Put: a chunk as bytes. -/
namespace Go.Proofs.YtojocffjajcdmaaDoor.RF
open Go Go.RowKit Go.Shelf Go.Sort Go.Proofs.YtojocffjajcdmaaDoor Go.Proofs.YtojocffjajcdmaaDoorW.PrintWords Go.Proofs.YtojocffjajcdmaaDoorW.PrintLast Go.Proofs.YtojocffjajcdmaaDoorW.PrintMore PChunkAll
set_option linter.unusedVariables false
set_option linter.unusedSimpArgs false
attribute [local go_sem] Oper.semAt_some

/-! ### Bytes -/
def seqB (f : Bool) (p x : S71) : List Int := if f = true then num7 x.f0.toNat else num7 (zig (x.f0 - p.f0))
/-- A row as bytes, behind the one ahead of it. -/
def pairB (f : Bool) (p x : S71) : List Int := num7 (x.f1 - p.f1).toNat ++ (seqB f p x ++ text7 x.f2)
def pairsB : Bool → List (S71 × S71) → List Int
  | _, [] => []
  | f, y :: l => pairB f y.1 y.2 ++ pairsB false l
theorem pairsB_snoc (l : List (S71 × S71)) (y : S71 × S71) : ∀ f, pairsB f (l ++ [y]) = pairsB f l ++ pairB (f && l.isEmpty) y.1 y.2 := by
  induction l with
  | nil => intro f; simp [pairsB]
  | cons a l ih => intro f; show _ ++ pairsB false (l ++ [y]) = _; rw [ih]; simp [pairsB]
def headB (ls : List S112) (n : Nat) : List Int := text7 (strOfNums (bytesL ls)) ++ num7 n
def bytesC (ls : List S112) (rows : List S71) : List Int := headB ls rows.length ++ pairsB true (pairsL z71 rows)
def putC (ls : List S112) (rows : List S71) : List Int × Int := if rightC ls rows = true then (bytesC ls rows, 0) else ([], 1)

/-- What a right chunk says of two rows that stand side by side. -/
structure PairOk (ls : List S112) (p x : S71) : Prop where
  right : rightE ⟨x.f0, x.f1, ls, x.f2⟩ = true
  time : p.f1 ≤ x.f1
  t0 : 0 ≤ p.f1
  s0 : 0 ≤ p.f0
  s1 : p.f0 < 1099511627776
theorem okP_pair {ls : List S112} : ∀ (rows : List S71) (p : S71) (seen : List Int), okP ls seen (pairsL p rows) = true → 0 ≤ p.f1 → 0 ≤ p.f0 → p.f0 < 1099511627776 → ∀ y ∈ pairsL p rows, PairOk ls y.1 y.2
  | [], _, _, _, _, _, _ => fun y hy => by cases hy
  | x :: l, p, seen, h, h1, h2, h3 => fun y hy => by
    have h' : okAt ls seen p x = true ∧ okP ls (x.f0 :: seen) (pairsL x l) = true := by
      have : (okAt ls seen p x && okP ls (x.f0 :: seen) (pairsL x l)) = true := h
      simpa using this
    obtain ⟨ha, hb⟩ := h'
    unfold okAt at ha
    simp only [Bool.and_eq_true, Bool.not_eq_true'] at ha
    obtain ⟨_, hr, hbf⟩ := ha
    have hg := rightE_get hr
    simp only at hg
    rcases List.mem_cons.1 hy with rfl | hy
    · refine ⟨hr, ?_, h1, h2, h3⟩
      show p.f1 ≤ x.f1
      rw [Int.not_lt.symm]
      intro hlt
      unfold beforeE cmpE orI cmpI at hbf
      have hne : x.f1 < p.f1 := hlt
      simp [hne] at hbf
    · exact okP_pair l x _ hb (by omega) (by omega) (by omega) y hy
theorem right_pair {ls : List S112} {rows : List S71} (h : rightC ls rows = true) {pre : List (S71 × S71)} {y : S71 × S71} (hp : (pre ++ [y]) <+: pairsL z71 rows) : PairOk ls y.1 y.2 := by
  unfold rightC at h
  simp only [Bool.and_eq_true] at h
  exact okP_pair rows z71 [] h.1 (by decide) (by decide) (by decide) y (hp.subset (by simp))
theorem right_labs {ls : List S112} {rows : List S71} (h : rightC ls rows = true) : rightL ls = true := by
  cases rows with
  | nil => unfold rightC at h; simp at h
  | cons x l =>
    have hp : ([] ++ [((z71 : S71), x)]) <+: pairsL z71 (x :: l) := ⟨pairsL x l, rfl⟩
    exact (rightE_get (right_pair h hp).right).2.2.2.2.1
theorem PairOk.seq {ls : List S112} {p x : S71} (h : PairOk ls p x) : -1099511627776 ≤ x.f0 - p.f0 ∧ x.f0 - p.f0 < 1099511627776 ∧ 1 ≤ x.f0 ∧ x.f0 < 1099511627776 ∧ 0 ≤ x.f1 - p.f1 ∧ x.f1 - p.f1 < 1099511627776 ∧ x.f2.size ≤ 1024 := by
  have hg := rightE_get h.right
  simp only at hg
  have := h.time; have := h.t0; have := h.s0; have := h.s1
  omega
theorem PairOk.len {ls : List S112} {p x : S71} (h : PairOk ls p x) (f : Bool) : (pairB f p x).length ≤ 1100 := by
  obtain ⟨a1, a2, a3, a4, a5, a6, a7⟩ := h.seq
  have l1 := num7_len6 a5 a6
  have l2 := num7_len6 (n := x.f0) (by omega) a4
  have l3 := num7_len (zig (x.f0 - p.f0)) 7 (by have := zig_lt (x.f0 - p.f0) (by omega) (by omega); omega)
  have l4 := text7_len x.f2 (by omega)
  unfold pairB seqB
  rw [List.length_append, List.length_append]
  split <;> omega

/-- Bytes that lie there, out of the way of the loop's own blocks. -/
structure LiesB (B : Nat) (W : World) (v : Value) (bs : List Int) : Prop where
  out : ∃ A c, v = .slice A bs.length c ∧ bs.length ≤ c ∧ RowC W A (bs.flatMap fun x => [Value.int .u8 x]) ∧ ∀ b o, A = some ⟨b, o, none⟩ → b < B ∨ B + 3 ≤ b
theorem bytes_flat (bs : List Int) : (bs.flatMap fun x => [Value.int .u8 x]) = bs.map (Value.int .u8) := by
  induction bs with
  | nil => rfl
  | cons a l ih => rw [List.flatMap_cons, ih]; rfl
theorem LiesB.lies {B : Nat} {W : World} {v : Value} {bs : List Int} (h : LiesB B W v bs) (hm : bs.length ≤ 9223372036854775807) : Lies W v bs := by
  obtain ⟨A, c, e, h1, h2, _⟩ := h.out
  exact ⟨A, c, e, h1, C_of_cells (d := KB) (f := fun x => [Value.int .u8 x]) (fun _ => rfl) (fun x => rfl) (by decide) hm h2⟩
theorem RowC.grown {X Y : World} {row : Option Nat} {A : Option Addr} {xs : List Value} (h : RowC X A xs) (hg : X.grownBy Y row) (hne : ∀ b o, A = some ⟨b, o, none⟩ → row ≠ some b) : RowC Y A xs := fun hp => by
  obtain ⟨b, o, e, hc⟩ := h hp
  refine ⟨b, o, e, fun j u hu => ?_⟩
  have := hc j u hu
  rw [← this]
  unfold World.cell?
  rw [hg.block b (block_lt_of_cell this) (fun e' => hne b o e e'.symm)]
theorem LiesB.grown {B : Nat} {W W' : World} {row : Option Nat} {v : Value} {bs : List Int} (h : LiesB B W v bs) (hg : W.grownBy W' row) (hr : ∀ r, row = some r → B ≤ r ∧ r ≤ B + 2) : LiesB B W' v bs := by
  obtain ⟨A, c, e, h1, h2, h3⟩ := h.out
  exact ⟨A, c, e, h1, RowC.grown h2 hg (fun b o ea er => by have := hr _ er; have := h3 b o ea; omega), h3⟩
theorem LiesB.below {B : Nat} {W W' : World} {v : Value} {bs : List Int} (h : LiesB B W v bs) (hb : Below W.heap.size W W') : LiesB B W' v bs := by
  obtain ⟨A, c, e, h1, h2, h3⟩ := h.out
  exact ⟨A, c, e, h1, h2.below hb, h3⟩
theorem own_lies {W : World} {base B : Nat} {v : Value} {n : Nat} {bs : List Int} (h : W.ownsRow base 5 1 v n (bs.flatMap fun x => [Value.int .u8 x])) (hB : B + 3 ≤ base ∨ W.heap.size ≤ B) : LiesB B W v bs := by
  have hl : bs.length = n := by have := h.1; rw [bytes_flat, List.length_map] at this; omega
  subst hl
  obtain ⟨A, c, rfl, hc⟩ := own_slice h
  refine ⟨A, c, rfl, hc, own_rowC h, fun b o e => ?_⟩
  rcases h.2 with ⟨h1, _⟩ | ⟨g, cap, cur, h1, h2, h3, _⟩
  · injection h1 with h1; rw [e] at h1; cases h1
  · injection h1 with h1; rw [e] at h1; injection h1 with h1; injection h1 with h1
    have := (Array.getElem?_eq_some_iff.1 h3).1
    omega
theorem OwnB.row {W : World} {base : Nat} {v : Value} {bs : List Int} (h : OwnB W base v bs) : W.ownsRow base 5 1 v bs.length (bs.flatMap fun x => [Value.int .u8 x]) := by
  rw [bytes_flat]; exact Kd.own_of_R h
theorem pairsB_len {ls : List S112} : ∀ (pre : List (S71 × S71)) (f : Bool), (∀ y ∈ pre, PairOk ls y.1 y.2) → (pairsB f pre).length ≤ 1100 * pre.length
  | [], _, _ => by simp [pairsB]
  | y :: l, f, h => by
    have h1 := (h y List.mem_cons_self).len f
    have h2 := pairsB_len l false (fun z hz => h z (List.mem_cons_of_mem _ hz))
    show (pairB f y.1 y.2 ++ pairsB false l).length ≤ _
    rw [List.length_append, List.length_cons]
    omega
theorem right_pairs {ls : List S112} {rows : List S71} (h : rightC ls rows = true) {pre : List (S71 × S71)} (hp : pre <+: pairsL z71 rows) : ∀ y ∈ pre, PairOk ls y.1 y.2 := by
  unfold rightC at h
  simp only [Bool.and_eq_true] at h
  exact fun y hy => okP_pair rows z71 [] h.1 (by decide) (by decide) (by decide) y (hp.subset hy)
def PutC (r : List Int × Int) (w : World) (e : Ending) (w' : World) : Prop := ∃ v, e = .returned (.tuple #[v, .int .i64 r.2]) ∧ Lies w' v r.1 ∧ Below w.heap.size w w'

theorem own_ne {W : World} {B : Nat} {e : TypeId} {k n : Nat} {v : Value} {xs : List Value} {b t : Nat} {cs : Array Value} (h : W.ownsRow B e k v n xs) (hb : Blk W b cs t) (ht : t ≠ e) : v.ownBlock ≠ some b := by
  intro e'
  rcases h.2 with ⟨rfl, _⟩ | ⟨g', cap', cur', rfl, _, h6, _⟩
  · cases e'
  · simp [Value.ownBlock] at e'; subst e'; rw [hb.out] at h6; injection h6 with h6; injection h6 with _ h6 _; exact ht h6
theorem own_news {W : World} {B e : Nat} {g n c : Nat} {xs : List Value} (h : W.ownsRow B e 1 (.slice (some ⟨g, 0, none⟩) n c) n xs) : ∀ j u, xs[j]? = some u → W.cell? (Addr.add ⟨g, 0, none⟩ j) = some u := by
  intro j u hu
  rw [addr_add, Nat.zero_add]
  obtain ⟨b, o, e', hc⟩ := own_rowC h (by have := (List.getElem?_eq_some_iff.1 hu).1; omega)
  injection e' with e'; injection e' with e1 e2; subst e1 e2
  simpa using hc j u hu
theorem bytes_one (bs : List Int) : ∀ u ∈ (bs.flatMap fun x => [Value.int .u8 x]), u.oneCell' = true := by
  intro u hu
  rw [bytes_flat] at hu
  obtain ⟨x, _, rfl⟩ := List.mem_map.1 hu
  rfl
theorem bytes_len (bs : List Int) : (bs.flatMap fun x => [Value.int .u8 x]).length = bs.length * 1 := by rw [bytes_flat]; simp
theorem own_some {W : World} {B : Nat} {e : TypeId} {k n c : Nat} {A : Option Addr} {xs : List Value} (h : W.ownsRow B e k (.slice A n c) n xs) (hn : 0 < n) : ∃ g, A = some ⟨g, 0, none⟩ := by
  rcases h.2 with ⟨h1, h2⟩ | ⟨g', cap', cur', h1, _⟩
  · omega
  · injection h1 with h1; exact ⟨g', h1⟩
theorem LiesB.setOther {B b t : Nat} {W : World} {v u0 : Value} {bs : List Int} (h : LiesB B W v bs) (hb : Blk W b #[u0] t) (hu : ∀ x, u0 ≠ .int .u8 x) (u : Value) : LiesB B (W.setCell ⟨b, 0, none⟩ u) v bs := by
  obtain ⟨A, c, e, h1, h2, h3⟩ := h.out
  refine ⟨A, c, e, h1, fun hp => ?_, h3⟩
  obtain ⟨b', o', e', hc⟩ := h2 hp
  refine ⟨b', o', e', fun j y hj => ?_⟩
  have hcj := hc j y hj
  by_cases hbb : b' = b
  · subst hbb
    exfalso
    rw [bytes_flat] at hj
    have hz : (y : Value) ∈ bs.map (Value.int .u8) := List.mem_of_getElem? hj
    obtain ⟨x, _, rfl⟩ := List.mem_map.1 hz
    unfold World.cell? at hcj
    rw [hb.out] at hcj
    have : #[u0][o' + j]? = some (Value.int .u8 x) := by simpa using hcj
    rcases Nat.eq_zero_or_pos (o' + j) with h0 | h0
    · rw [h0] at this; simp at this; exact hu x this
    · rw [Array.getElem?_eq_none (by simp; omega)] at this; cases this
  · rw [← hcj]
    unfold World.cell?
    rw [Below.heap_setCell W ⟨b, 0, none⟩ u b' hbb]
theorem own_setOther {W : World} {B e k n b i : Nat} {v u : Value} {xs : List Value} (h : W.ownsRow B e k v n xs) (hne : v.ownBlock ≠ some b) : (W.setCell ⟨b, i, none⟩ u).ownsRow B e k v n xs := by
  refine ⟨h.1, ?_⟩
  rcases h.2 with h2 | ⟨g, cap, cur, rfl, h3, h4, h5⟩
  · exact .inl h2
  · refine .inr ⟨g, cap, cur, rfl, h3, ?_, h5⟩
    rw [Below.heap_setCell W ⟨b, i, none⟩ u g (fun e => hne (by simp [Value.ownBlock]; exact e))]
    exact h4
/-- What stands between two rounds. -/
structure PI (w : World) (A1 : Option Addr) (c1 : Nat) (ls : List S112) (A2 : Option Addr) (c2 : Nat) (rows : List S71) (g6 g10 B : Nat) (v : Value) (bs : List Int) (f : Bool) (W : World) : Prop where
  ch : Blk W w.heap.size #[.slice A1 ls.length c1, .slice A2 rows.length c2] 53
  b6 : Blk W g6 #[v] 23
  b10 : Blk W g10 #[.bool f] 4
  lies : LiesB B W v bs
  low : Below w.heap.size w W
theorem PI.grown {w : World} {A1 : Option Addr} {c1 : Nat} {ls : List S112} {A2 : Option Addr} {c2 : Nat} {rows : List S71} {g6 g10 B : Nat} {v : Value} {bs : List Int} {f : Bool} {W W' : World} {row : Option Nat} (h : PI w A1 c1 ls A2 c2 rows g6 g10 B v bs f W) (hw : w.heap.size < B) (h6 : g6 < B) (h10 : g10 < B) (hg : W.grownBy W' row) (hr : ∀ r, row = some r → B ≤ r ∧ r ≤ B + 2) : PI w A1 c1 ls A2 c2 rows g6 g10 B v bs f W' :=
  ⟨Blk.grown h.ch hg (fun e => by have := hr _ e; omega), Blk.grown h.b6 hg (fun e => by have := hr _ e; omega), Blk.grown h.b10 hg (fun e => by have := hr _ e; omega), h.lies.grown hg hr, h.low.grown hg h.low.size (fun k e => by have := hr _ e; omega)⟩
theorem PI.below {w : World} {A1 : Option Addr} {c1 : Nat} {ls : List S112} {A2 : Option Addr} {c2 : Nat} {rows : List S71} {g6 g10 B : Nat} {v : Value} {bs : List Int} {f : Bool} {W W' : World} (h : PI w A1 c1 ls A2 c2 rows g6 g10 B v bs f W) (hb : Below W.heap.size W W') : PI w A1 c1 ls A2 c2 rows g6 g10 B v bs f W' :=
  ⟨Blk.grown h.ch (grown_below hb) (fun e => by cases e), Blk.grown h.b6 (grown_below hb) (fun e => by cases e), Blk.grown h.b10 (grown_below hb) (fun e => by cases e), h.lies.below hb, below_step h.low hb⟩
/-- What a round reads. -/
structure RB (g6 g10 b1 b2 : Nat) (v : Value) (f : Bool) (p x : S71) (W : World) : Prop where
  k6 : Blk W g6 #[v] 23
  k10 : Blk W g10 #[.bool f] 4
  k1 : Blk W b1 (rowC p) 71
  k2 : Blk W b2 (rowC x) 71
theorem RB.below {g6 g10 b1 b2 : Nat} {v : Value} {f : Bool} {p x : S71} {W W' : World} (h : RB g6 g10 b1 b2 v f p x W) (hb : Below W.heap.size W W') : RB g6 g10 b1 b2 v f p x W' :=
  ⟨Blk.grown h.k6 (grown_below hb) (fun e => by cases e), Blk.grown h.k10 (grown_below hb) (fun e => by cases e), Blk.grown h.k1 (grown_below hb) (fun e => by cases e), Blk.grown h.k2 (grown_below hb) (fun e => by cases e)⟩
theorem RB.cells {g6 g10 b1 b2 : Nat} {v : Value} {f : Bool} {p x : S71} {W : World} (h : RB g6 g10 b1 b2 v f p x W) :
    W.cell? ⟨g6, 0, none⟩ = some v ∧ W.cell? ⟨g10, 0, none⟩ = some (.bool f) ∧ W.cell? ⟨b1, 0, none⟩ = some (.int .i64 p.f0) ∧ W.cell? ⟨b1, 1, none⟩ = some (.int .i64 p.f1) ∧ W.cell? ⟨b2, 0, none⟩ = some (.int .i64 x.f0) ∧ W.cell? ⟨b2, 1, none⟩ = some (.int .i64 x.f1) ∧ W.cell? ⟨b2, 2, none⟩ = some (.string x.f2) ∧ W.frozen? ⟨g6, 0, none⟩ = false ∧ W.frozen? ⟨g10, 0, none⟩ = false :=
  ⟨h.k6.cell 0 _ rfl, h.k10.cell 0 _ rfl, h.k1.cell 0 _ rfl, h.k1.cell 1 _ rfl, h.k2.cell 0 _ rfl, h.k2.cell 1 _ rfl, h.k2.cell 2 _ rfl, h.k6.frozen 0, h.k10.frozen 0⟩
def secondRF : Code → Option Code
  | .rangeFunc _ _ _ b => some b
  | .loop c => secondRF c
  | .seq a b => match secondRF a with
    | some c => some c
    | none => secondRF b
  | .block _ c => secondRF c
  | .scope c => secondRF c
  | .cond _ a b => match secondRF a with
    | some c => some c
    | none => secondRF b
  | _ => none
/-- A round of chunk.Put. -/
noncomputable def putRound : Code := unblock ((Tryd.f53.body.bind secondRF).getD .skip)
set_option maxHeartbeats 4000000 in
set_option maxRecDepth 100000 in
theorem put_round (l n : Nat) (c0 : Value) (cb g6 g10 b1 b2 B : Nat) (v : Value) (bs : List Int) (f : Bool) (p x : S71) (ls : List S112) (W : World) (hp : PairOk ls p x) (hRB : RB g6 g10 b1 b2 v f p x W) (hLB : LiesB B W v bs) (hB : B + 3 ≤ W.heap.size) (h6 : g6 < W.heap.size) (h10 : g10 < W.heap.size) (h610 : g6 ≠ g10) (hbs : bs.length ≤ 1099511000000)
    (Q : Exit → Act → World → Prop) (u2 u3 u4 u5 u7 u8 u9 u13 u14 u15 u16 u17 u18 u19 u20 u21 u22 u23 u24 u25 u26 u27 u28 u29 u30 u31 u32 u33 u34 u35 u36 u37 u38 u39 u40 u41 u42 u43 u44 u45 u46 u47 u48 u49 u50 u51 u52 u53 u54 u55 u56 u57 u58 u59 u60 u61 u62 u63 u64 u65 u66 u67 u68 u69 u70 u71 u72 u73 u74 u75 u76 u77 u78 u79 u80 u81 u82 u83 u84 u85 u86 : Value)
    (hQ : ∀ a' v' W1 W', Below W.heap.size W W1 → LiesB B W1 v' (bs ++ pairB f p x) → W' = (W1.setCell ⟨g6, 0, none⟩ v').setCell ⟨g10, 0, none⟩ (.bool false) → Q .normal a' W') :
    putRound.wpIn (Fence.wide.inRound l) n Tryd.prog Q ⟨#[c0, .pointer (some ⟨cb, 0, none⟩), u2, u3, u4, u5, .pointer (some ⟨g6, 0, none⟩), u7, u8, u9, .pointer (some ⟨g10, 0, none⟩), .pointer (some ⟨b1, 0, none⟩), .pointer (some ⟨b2, 0, none⟩), u13, u14, u15, u16, u17, u18, u19, u20, u21, u22, u23, u24, u25, u26, u27, u28, u29, u30, u31, u32, u33, u34, u35, u36, u37, u38, u39, u40, u41, u42, u43, u44, u45, u46, u47, u48, u49, u50, u51, u52, u53, u54, u55, u56, u57, u58, u59, u60, u61, u62, u63, u64, u65, u66, u67, u68, u69, u70, u71, u72, u73, u74, u75, u76, u77, u78, u79, u80, u81, u82, u83, u84, u85, u86], []⟩ W := by
  obtain ⟨A0, q0, rfl, -⟩ := hLB.out
  obtain ⟨a1, a2, a3, a4, a5, a6, a7⟩ := hp.seq
  have HN1 : Hid (∀ W, Calls Tryd.prog 78 #[.int .i64 (x.f1 - p.f1)] W (TupBelow (num7 (x.f1 - p.f1).toNat) 0 W)) := Lib.hid (fun W => by have := number_any (x.f1 - p.f1).toNat W (by omega); rwa [Int.toNat_of_nonneg (by omega)] at this)
  have HN2 : Hid (∀ W, Calls Tryd.prog 78 #[.int .i64 x.f0] W (TupBelow (num7 x.f0.toNat) 0 W)) := Lib.hid (fun W => by have := number_any x.f0.toNat W (by omega); rwa [Int.toNat_of_nonneg (by omega)] at this)
  have HS1 : Hid (∀ W, Calls Tryd.prog 113 #[.int .i64 (x.f0 - p.f0)] W (TupBelow (num7 (zig (x.f0 - p.f0))) 0 W)) := Lib.hid (fun W => signed_any _ W (by omega) (by omega))
  have HT3 : Hid (∀ W, Calls Tryd.prog 80 #[.string x.f2] W (TupBelow (text7 x.f2) 0 W)) := Lib.hid (fun W => text_any _ W (by omega))
  have hw1 : wrap64 (x.f1 - p.f1) = x.f1 - p.f1 := by unfold wrap64; omega
  have hw2 : wrap64 (x.f0 - p.f0) = x.f0 - p.f0 := by unfold wrap64; omega
  have hw3 : IntKind.i64.wrap (x.f1 - p.f1) = x.f1 - p.f1 := by rw [IntKind.wrap_i64]; omega
  have hw4 : IntKind.i64.wrap (x.f0 - p.f0) = x.f0 - p.f0 := by rw [IntKind.wrap_i64]; omega
  have HPL := Lib.hid (hp.len f)
  obtain ⟨d0, d1, d2, d3, d4, d5, d6, d7, d8⟩ := hRB.cells
  have HRB := Lib.hid hRB
  have HLB := Lib.hid hLB
  clear a1 a2 a3 a4 a5 a6 a7 hRB hLB hp
  have sqT : f = true → num7 x.f0.toNat = seqB f p x := fun e => by unfold seqB; rw [if_pos e]
  have sqF : f = false → num7 (zig (x.f0 - p.f0)) = seqB f p x := fun e => by unfold seqB; rw [if_neg (by rw [e]; decide)]
  have HCC : Hid (∀ W v' t s z, LiesB B W (.slice A0 bs.length q0) bs → Lies W v' (num7 (x.f1 - p.f1).toNat) → Lies W s (seqB f p x) → Lies W z (text7 x.f2) → Calls Tryd.prog 83 #[.slice (some ⟨W.heap.size, 0, none⟩) 4 4] (W.alloc (.cells #[.slice A0 bs.length q0, v', s, z] t)) (BytesBelow (bs ++ pairB f p x) (W.alloc (.cells #[.slice A0 bs.length q0, v', s, z] t)))) := Lib.hid (fun W v' t s z g1 g2 g3 g4 => by
    have hl := HPL.out
    have := concat_any _ 4 [_, _, _, _] _ (rows4 t (g1.lies (by omega)) g2 g3 g4) (by unfold pairB at hl; simp only [List.flatten_cons, List.flatten_nil, List.length_append, List.length_nil] at hl ⊢; omega)
    unfold pairB
    simpa using this)
  conv => arg 4; whnf
  cases f
  · have hsq := Lib.hid (sqF rfl)
    clear sqT sqF
    gi_wp2_with (first
      | (refine ⟨trivial, fun h => (by cases h), ?_⟩; gi_at_call 78; (with_reducible refine (CallsIn.inRound l (callsIn_wide.2 (HN1.out _))).mono ?_); rintro e w1 ⟨v1, rfl, ho, hb⟩; obtain ⟨Aa, qa, rfl⟩ := Kd.R_slice ho; have HR1 := Lib.hid (HRB.out.below hb); have HL1 := Lib.hid (HLB.out.below hb); have HX1 := Lib.hid (OwnB.lies ho); have HBB1 := Lib.hid hb; clear hb ho d0 d1 d2 d3 d4 d5 d6 d7 d8; obtain ⟨d0, d1, d2, d3, d4, d5, d6, d7, d8⟩ := HR1.out.cells)
      | (refine ⟨trivial, fun h => (by cases h), ?_⟩; gi_at_call 113; (with_reducible refine (CallsIn.inRound l (callsIn_wide.2 (HS1.out _))).mono ?_); rintro e w2 ⟨v2, rfl, ho, hb⟩; obtain ⟨Ab, qb, rfl⟩ := Kd.R_slice ho; have HR2 := Lib.hid (HR1.out.below hb); have HL2 := Lib.hid (HL1.out.below hb); have HX2 := Lib.hid (HX1.out.below hb); have HY2 := Lib.hid (OwnB.lies ho); have HBB2 := Lib.hid (below_step HBB1.out hb); clear hb ho d0 d1 d2 d3 d4 d5 d6 d7 d8; obtain ⟨d0, d1, d2, d3, d4, d5, d6, d7, d8⟩ := HR2.out.cells)
      | (refine ⟨trivial, fun h => (by cases h), ?_⟩; gi_at_call 80; (with_reducible refine (CallsIn.inRound l (callsIn_wide.2 (HT3.out _))).mono ?_); rintro e w4 ⟨v4, rfl, ho, hb⟩; obtain ⟨Ad, qd, rfl⟩ := Kd.R_slice ho; have HR4 := Lib.hid (HR2.out.below hb); have HL4 := Lib.hid (HL2.out.below hb); have HX4 := Lib.hid (HX2.out.below hb); have HY4 := Lib.hid (HY2.out.below hb); rw [hsq.out] at HY4; have HZ4 := Lib.hid (OwnB.lies ho); have HBB4 := Lib.hid (below_step HBB2.out hb); clear hb ho d0 d1 d2 d3 d4 d5 d6 d7 d8; obtain ⟨d0, d1, d2, d3, d4, d5, d6, d7, d8⟩ := HR4.out.cells)
      | (refine ⟨trivial, fun h => (by cases h), ?_⟩; gi_at_call 83; refine (CallsIn.inRound l (callsIn_wide.2 (HCC.out _ _ _ _ _ HL4.out HX4.out HY4.out HZ4.out))).mono ?_; rintro e w5 ⟨v5, rfl, ho, hb⟩; obtain ⟨Ae, qe, rfl⟩ := Kd.R_slice ho; have hb5 := (Below.refl _ w4).alloc (Nat.le_refl _) (.cells #[.slice A0 bs.length q0, .slice Aa (num7 (x.f1 - p.f1).toNat).length qa, .slice Ab (num7 (zig (x.f0 - p.f0))).length qb, .slice Ad (text7 x.f2).length qd] 23); have HR5 := Lib.hid ((HR4.out.below hb5).below hb); have HO5 := Lib.hid (own_lies (B := B) (OwnB.row ho) (.inl (Nat.le_trans (Nat.le_trans hB HBB4.out.size) hb5.size))); have HBB5 := Lib.hid (below_step (below_step HBB4.out hb5) hb); clear hb ho d0 d1 d2 d3 d4 d5 d6 d7 d8; obtain ⟨d0, d1, d2, d3, d4, d5, d6, d7, d8⟩ := HR5.out.cells; have e10 := (HR5.out.k10.far ⟨g6, 0, none⟩ (.slice Ae (bs ++ pairB false p x).length qe) (Ne.symm h610)).frozen 0))
    exact hQ _ (.slice Ae (bs ++ pairB false p x).length qe) w5 _ HBB5.out HO5.out (by rw [List.length_append])
  · have hsq := Lib.hid (sqT rfl)
    clear sqT sqF
    gi_wp2_with (first
      | (refine ⟨trivial, fun h => (by cases h), ?_⟩; gi_at_call 78; (with_reducible refine (CallsIn.inRound l (callsIn_wide.2 (HN1.out _))).mono ?_); rintro e w1 ⟨v1, rfl, ho, hb⟩; obtain ⟨Aa, qa, rfl⟩ := Kd.R_slice ho; have HR1 := Lib.hid (HRB.out.below hb); have HL1 := Lib.hid (HLB.out.below hb); have HX1 := Lib.hid (OwnB.lies ho); have HBB1 := Lib.hid hb; clear hb ho d0 d1 d2 d3 d4 d5 d6 d7 d8; obtain ⟨d0, d1, d2, d3, d4, d5, d6, d7, d8⟩ := HR1.out.cells)
      | (refine ⟨trivial, fun h => (by cases h), ?_⟩; gi_at_call 113; (with_reducible refine (CallsIn.inRound l (callsIn_wide.2 (HS1.out _))).mono ?_); rintro e w2 ⟨v2, rfl, ho, hb⟩; obtain ⟨Ab, qb, rfl⟩ := Kd.R_slice ho; have HR2 := Lib.hid (HR1.out.below hb); have HL2 := Lib.hid (HL1.out.below hb); have HX2 := Lib.hid (HX1.out.below hb); have HY2 := Lib.hid (OwnB.lies ho); have HBB2 := Lib.hid (below_step HBB1.out hb); clear hb ho d0 d1 d2 d3 d4 d5 d6 d7 d8; obtain ⟨d0, d1, d2, d3, d4, d5, d6, d7, d8⟩ := HR2.out.cells)
      | (refine ⟨trivial, fun h => (by cases h), ?_⟩; gi_at_call 78; (with_reducible refine (CallsIn.inRound l (callsIn_wide.2 (HN2.out _))).mono ?_); rintro e w3 ⟨v3, rfl, ho, hb⟩; obtain ⟨Ac, qc, rfl⟩ := Kd.R_slice ho; have HR3 := Lib.hid (HR2.out.below hb); have HL3 := Lib.hid (HL2.out.below hb); have HX3 := Lib.hid (HX2.out.below hb); have HY3 := Lib.hid (OwnB.lies ho); have HBB3 := Lib.hid (below_step HBB2.out hb); clear hb ho d0 d1 d2 d3 d4 d5 d6 d7 d8; obtain ⟨d0, d1, d2, d3, d4, d5, d6, d7, d8⟩ := HR3.out.cells)
      | (refine ⟨trivial, fun h => (by cases h), ?_⟩; gi_at_call 80; (with_reducible refine (CallsIn.inRound l (callsIn_wide.2 (HT3.out _))).mono ?_); rintro e w4 ⟨v4, rfl, ho, hb⟩; obtain ⟨Ad, qd, rfl⟩ := Kd.R_slice ho; have HR4 := Lib.hid (HR3.out.below hb); have HL4 := Lib.hid (HL3.out.below hb); have HX4 := Lib.hid (HX3.out.below hb); have HY4 := Lib.hid (HY3.out.below hb); rw [hsq.out] at HY4; have HZ4 := Lib.hid (OwnB.lies ho); have HBB4 := Lib.hid (below_step HBB3.out hb); clear hb ho d0 d1 d2 d3 d4 d5 d6 d7 d8; obtain ⟨d0, d1, d2, d3, d4, d5, d6, d7, d8⟩ := HR4.out.cells)
      | (refine ⟨trivial, fun h => (by cases h), ?_⟩; gi_at_call 83; refine (CallsIn.inRound l (callsIn_wide.2 (HCC.out _ _ _ _ _ HL4.out HX4.out HY4.out HZ4.out))).mono ?_; rintro e w5 ⟨v5, rfl, ho, hb⟩; obtain ⟨Ae, qe, rfl⟩ := Kd.R_slice ho; have hb5 := (Below.refl _ w4).alloc (Nat.le_refl _) (.cells #[.slice A0 bs.length q0, .slice Aa (num7 (x.f1 - p.f1).toNat).length qa, .slice Ac (num7 x.f0.toNat).length qc, .slice Ad (text7 x.f2).length qd] 23); have HR5 := Lib.hid ((HR4.out.below hb5).below hb); have HO5 := Lib.hid (own_lies (B := B) (OwnB.row ho) (.inl (Nat.le_trans (Nat.le_trans hB HBB4.out.size) hb5.size))); have HBB5 := Lib.hid (below_step (below_step HBB4.out hb5) hb); clear hb ho d0 d1 d2 d3 d4 d5 d6 d7 d8; obtain ⟨d0, d1, d2, d3, d4, d5, d6, d7, d8⟩ := HR5.out.cells; have e10 := (HR5.out.k10.far ⟨g6, 0, none⟩ (.slice Ae (bs ++ pairB true p x).length qe) (Ne.symm h610)).frozen 0))
    exact hQ _ (.slice Ae (bs ++ pairB true p x).length qe) w5 _ HBB5.out HO5.out (by rw [List.length_append])
set_option maxRecDepth 100000 in
set_option maxHeartbeats 4000000 in
theorem putC_any (A1 : Option Addr) (c1 : Nat) (ls : List S112) (A2 : Option Addr) (c2 : Nat) (rows : List S71) (w : World) (hT : Tabs w) (hls : ls.length < 4398046511104) (hm : rows.length < 4611686018427387904)
    (hL : Kd.C k112 w A1 ls.length ls) (hR : RowC w A2 (rcells rows)) (hwf : ∀ x ∈ rows, (Lit.int .i64 x.f0).wf = true) :
    Calls Tryd.prog 53 #[chV A1 ls.length c1 A2 rows.length c2] w (PutC (putC ls rows) w) := by
  have hb0 : Below w.heap.size w (w.alloc (.cells #[.slice A1 ls.length c1, .slice A2 rows.length c2] 53)) := (Below.refl _ _).alloc (Nat.le_refl _) _
  have HC := Lib.hid (cright_any A1 c1 ls A2 c2 rows (w.alloc (.cells #[.slice A1 ls.length c1, .slice A2 rows.length c2] 53)) (hT.below hb0) hls hm (Kd.C_below hL hb0) (hR.below hb0) hwf)
  have k0 : Blk (w.alloc (.cells #[.slice A1 ls.length c1, .slice A2 rows.length c2] 53)) w.heap.size #[.slice A1 ls.length c1, .slice A2 rows.length c2] 53 := Blk.new _ _ _ _ rfl
  have HR := Lib.hid hR
  have HT := Lib.hid hT
  have HL := Lib.hid hL
  clear hT hL hR hwf
  cases hr : rightC ls rows
  · rw [hr] at HC
    have HF : Hid (putC ls rows = ([], 1)) := by show _ = _; unfold putC; rw [hr]; rfl
    rw [HF.out]
    clear hr
    go_enter Tryd.func53, Tryd.ntmps53
    go_wp2_with (go_at_call 57; refine (HC.out).mono ?_; rintro e w1 ⟨rfl, hb⟩)
    go_ret2
    exact ⟨_, rfl, ⟨none, 0, rfl, Nat.le_refl _, rfl, by simp, fun h => absurd h (by simp)⟩, below_step hb0 hb⟩
  have HF : Hid (putC ls rows = (bytesC ls rows, 0)) := by show _ = _; unfold putC; rw [hr]; rfl
  rw [HF.out]
  rw [hr] at HC
  obtain ⟨h0, h1⟩ := rightC_pos hr
  have hrl := right_labs hr
  have hbl := bytesL_len hrl
  have HLB : Hid (∀ W, Below w.heap.size w W → Calls Tryd.prog 82 #[.slice A1 ls.length c1] W (TupBelow (bytesL ls) 0 W)) := Lib.hid (fun W hb => bytesL_any A1 c1 ls W (HT.out.below hb) (Kd.C_below HL.out hb) hrl)
  have HT2 : Hid (∀ W, Calls Tryd.prog 80 #[.string (strOfNums (bytesL ls))] W (TupBelow (text7 (strOfNums (bytesL ls))) 0 W)) := Lib.hid (fun W => text_any _ W (by rw [strOfNums_size]; omega))
  have HN0 : Hid (∀ W, Calls Tryd.prog 78 #[.int .i64 (rows.length : Int)] W (TupBelow (num7 rows.length) 0 W)) := Lib.hid (fun W => number_any rows.length W (by omega))
  have HTL : Hid ((text7 (strOfNums (bytesL ls))).length ≤ 4000) := Lib.hid (by have := text7_len (strOfNums (bytesL ls)) (by rw [strOfNums_size]; omega); rw [strOfNums_size] at this; omega)
  have HNL : Hid ((num7 rows.length).length ≤ 2 ∧ 0 < (num7 rows.length).length) := Lib.hid (by have := num7_len rows.length 1 (by simp; omega); omega)
  have HRT := Lib.hid hr
  have HMX : Hid ((text7 (strOfNums (bytesL ls))).length + (num7 rows.length).length ≤ maxLen ∧ ((text7 (strOfNums (bytesL ls))).length + (num7 rows.length).length) * 1 ≤ 140737488355328) := Lib.hid (by have := HTL.out; have := HNL.out; unfold maxLen; omega)
  clear hr hrl hbl
  obtain ⟨i0, hi0, hz0, hz1, hz2⟩ := info_parts info5
  refine (callsIn_wide (n := 3)).1 ?_
  refine callsIn_of_wp_marks Tryd.func53 rfl trivial ?_ rfl
  simp only [Tryd.ntmps53, List.size_toArray, List.length_cons, List.length_nil, Nat.reduceAdd, Nat.reduceSub, Array.replicate_succ, Array.replicate_zero, List.push_toArray, List.append_toArray, List.nil_append, List.cons_append]
  gi_wp2_with (first
    | (refine ⟨trivial, ?_⟩; gi_at_call 57; refine (callsIn_wide.2 HC.out).mono ?_; rintro e w1 ⟨rfl, hb⟩; have HB1 := Lib.hid (below_step hb0 hb); have k1 := Blk.grown k0 (grown_below hb) (fun e => by cases e); have c10 := k1.cell 0 _ rfl; clear hb)
    | (refine ⟨trivial, ?_⟩; gi_at_call 82; refine (callsIn_wide.2 (HLB.out _ HB1.out)).mono ?_; rintro e w2 ⟨v, rfl, ho, hb⟩; obtain ⟨Ac, qc, rfl⟩ := Kd.R_slice ho; have hcv := Kd.C_string (P := Tryd.prog) (A := Ac) (c := qc) Tryd.underlying23 Tryd.underlying5 Tryd.underlying9 (Kd.R_reads' ho).2.2; have HB2 := Lib.hid (below_step HB1.out hb); have k2 := Blk.grown k1 (grown_below hb) (fun e => by cases e); clear ho hb c10)
    | (refine ⟨trivial, ?_⟩; gi_at_call 80; refine (callsIn_wide.2 (HT2.out _)).mono ?_; rintro e w3 ⟨v, rfl, ho, hb⟩; obtain ⟨Ad, qd, rfl⟩ := Kd.R_slice ho; have HO3 := Lib.hid (OwnB.row ho); have HB3 := Lib.hid (below_step HB2.out hb); have HLT : Hid (w.heap.size < w3.heap.size) := (Blk.grown k2 (grown_below hb) (fun e => by cases e)).lt; have k3 := (Blk.grown k2 (grown_below hb) (fun e => by cases e)).alloc (.cells #[.slice Ad (text7 (strOfNums (bytesL ls))).length qd] 23); have c31 := k3.cell 1 _ rfl; have b3 : Blk (w3.alloc (.cells #[.slice Ad (text7 (strOfNums (bytesL ls))).length qd] 23)) w3.heap.size #[.slice Ad (text7 (strOfNums (bytesL ls))).length qd] 23 := Blk.new _ _ _ _ rfl; clear ho hb hcv)
    | (refine ⟨trivial, ?_⟩; gi_at_call 78; refine (callsIn_wide.2 (HN0.out _)).mono ?_; rintro e w4 ⟨v, rfl, ho, hb⟩; obtain ⟨Ae, qe, rfl⟩ := Kd.R_slice ho; have HO4 := Lib.hid (OwnB.row ho); obtain ⟨gE, rfl⟩ := own_some HO4.out HNL.out.2; have HO5 := Lib.hid (own_below (own_below (own_le HO3.out HB2.out.size) ((Below.refl _ _).alloc (Nat.le_refl _) (.cells #[.slice Ad (text7 (strOfNums (bytesL ls))).length qd] 23))) hb); have HB4 := Lib.hid (below_step (HB3.out.alloc HB3.out.size (.cells #[.slice Ad (text7 (strOfNums (bytesL ls))).length qd] 23)) hb); have k4 := Blk.grown k3 (grown_below hb) (fun e => by cases e); have b4 := Blk.grown b3 (grown_below hb) (fun e => by cases e); have c42 := b4.cell 0 _ rfl; clear ho hb)
    | (gi_at_builtin; refine wpListIn_append_own _ rfl _ _ 23 rfl w.heap.size 5 i0 _ 1 1 Tryd.underlying23 hi0 hz0 hz1 hz2 rfl (by decide) _ _ _ rfl HO5.out ⟨gE, 0, none⟩ (num7 rows.length).length qe ((num7 rows.length).flatMap fun x => [Value.int .u8 x]) rfl (bytes_len _) (own_news HO4.out) (bytes_one _) HMX.out.1 HMX.out.2 HB4.out.size ?_; intro v6 w6 hown hgrow _; obtain ⟨A6, q6, rfl, hq6⟩ := own_slice hown; have HO6 := Lib.hid hown; have HG6 := Lib.hid hgrow; clear hown hgrow; have b6 := Blk.grown b4 HG6.out (own_ne HO5.out b4 (by decide)); have k6 := Blk.grown k4 HG6.out (own_ne HO5.out k4 (by decide)); have HB6 := Lib.hid (HB4.out.grown HG6.out HB4.out.size (fun k e => own_ge HO5.out e)); have f60 := b6.frozen 0; have c60 := b6.cell 0 _ rfl; have k7 := (k6.far ⟨w3.heap.size, 0, none⟩ (.slice A6 ((text7 (strOfNums (bytesL ls))).length + (num7 rows.length).length) q6) (Nat.ne_of_lt HLT.out)).alloc (.cells #[.bool true] 4); have b7 := (b6.set 0 (.slice A6 ((text7 (strOfNums (bytesL ls))).length + (num7 rows.length).length) q6)).alloc (.cells #[.bool true] 4); have c71 := k7.cell 1 _ rfl; clear c42 c31)
    | (refine ⟨trivial, ?_⟩; gi_at_call 112; refine (callsIn_wide.2 (pairs_any _ _ _ _)).mono ?_; rintro e w' ⟨rfl, rfl⟩))

  have HBS : Hid (∀ pre, pre <+: pairsL z71 rows → (headB ls rows.length ++ pairsB true pre).length ≤ 1200000) := Lib.hid (fun pre hp => by
    have h1 := pairsB_len pre true (right_pairs HRT.out hp)
    have h2 := hp.length_le
    rw [pairsL_len] at h2
    have h3 := HTL.out
    have h4 := HNL.out.1
    unfold headB
    rw [List.length_append, List.length_append]
    omega)
  obtain ⟨W0, hW0⟩ : ∃ W0, W0 = ((w6.setCell ⟨w3.heap.size, 0, none⟩ (.slice A6 ((text7 (strOfNums (bytesL ls))).length + (num7 rows.length).length) q6)).alloc (.cells #[.bool true] 4)).alloc (.cells #[.slice A2 rows.length c2] 51) := ⟨_, rfl⟩
  rw [← hW0]
  have hsz : W0.heap.size = w6.heap.size + 2 := by rw [hW0]; simp [World.setCell]
  have hss : (w6.setCell ⟨w3.heap.size, 0, none⟩ (.slice A6 ((text7 (strOfNums (bytesL ls))).length + (num7 rows.length).length) q6)).heap.size = w6.heap.size := by simp [World.setCell]
  have h36 : w3.heap.size < w6.heap.size := b6.lt
  have hLT := HLT.out
  have hpi : PI w A1 c1 ls A2 c2 rows w3.heap.size w6.heap.size W0.heap.size (.slice A6 ((text7 (strOfNums (bytesL ls))).length + (num7 rows.length).length) q6) (headB ls rows.length ++ pairsB true []) true W0 := by
    refine ⟨?_, ?_, ?_, ?_, ?_⟩
    · rw [hW0]; exact k7.alloc _
    · rw [hW0]; have := b7.alloc (.cells #[.slice A2 rows.length c2] 51); simpa using this
    · rw [hW0]; exact (Blk.new _ _ _ _ hss.symm).alloc _
    · have ho := own_setOther HO6.out (b := w3.heap.size) (i := 0) (u := .slice A6 ((text7 (strOfNums (bytesL ls))).length + (num7 rows.length).length) q6) (own_ne HO6.out b6 (by decide))
      have ho2 := own_below (own_below ho ((Below.refl _ _).alloc (Nat.le_refl _) (.cells #[.bool true] 4))) ((Below.refl _ _).alloc (Nat.le_refl _) (.cells #[.slice A2 rows.length c2] 51))
      rw [← hW0, ← List.flatMap_append] at ho2
      have ho3 := own_lies (B := W0.heap.size) ho2 (.inr (Nat.le_refl _))
      have e : headB ls rows.length ++ pairsB true [] = text7 (strOfNums (bytesL ls)) ++ num7 rows.length := by unfold headB pairsB; rw [List.append_nil]
      rw [e]; exact ho3
    · rw [hW0]; exact ((HB6.out.setCell (p := ⟨w3.heap.size, 0, none⟩) (Nat.le_of_lt hLT) _).alloc (by rw [hss]; exact HB6.out.size) _).alloc (by have := HB6.out.size; simp only [World.size_alloc, hss]; omega) _
  have hbx : W0.cell? ⟨w6.heap.size + 1, 0, none⟩ = some (.slice A2 rows.length c2) := by
    rw [hW0]; exact (Blk.new _ _ _ (w6.heap.size + 1) (by simp only [World.size_alloc, hss])).cell 0 _ rfl
  have hrow : RowC W0 A2 (rcells rows) := HR.out.below hpi.low
  have hA2 : ∀ b o, A2 = some ⟨b, o, none⟩ → b < w.heap.size := fun b o e => rowC_lt HR.out (by rw [rcells_len]; omega) b o e
  have hpb : ((w6.setCell ⟨w3.heap.size, 0, none⟩ (.slice A6 ((text7 (strOfNums (bytesL ls))).length + (num7 rows.length).length) q6)).alloc (.cells #[.bool true] 4)).heap.size = w6.heap.size + 1 := by simp only [World.size_alloc, hss]
  refine wpIn_range rfl (by decide) (gf := 151) (lb := #[.pointer (some ⟨w6.heap.size + 1, 0, none⟩)]) (by first | rfl | (rw [← hpb]; rfl)) trivial (enters_of Tryd.func151 (by kernel_rfl) rfl)
    (pairs_seq (fun k => k = w3.heap.size ∨ k = w6.heap.size) (w6.heap.size + 1) A2 c2 rows 2 (by decide) W0 (fun k h => by omega) (fun b o e h => by have := hA2 b o e; omega) (fun h => by omega) hbx hrow hm)
    KpS.trans (fun W l o o' _ h ho => KpS.putObj W l o o' h ho) (Below.refl _ _) (fun _ => rfl)
    (fun pre W => ∃ v, PI w A1 c1 ls A2 c2 rows w3.heap.size w6.heap.size W0.heap.size v (headB ls rows.length ++ pairsB true pre) pre.isEmpty W) (fun _ _ _ => False)
    (fun s X Y row ⟨v, hs⟩ hg hr => ⟨v, hs.grown (by omega) (by omega) (by omega) hg hr⟩)
    (fun c s X Y row hs hg hr => hs.elim)
    ⟨_, hpi⟩ (fun x a' W => ∃ b1 b2, Blk W b1 (rowC x.1) 71 ∧ Blk W b2 (rowC x.2) 71 ∧ ∃ (u2 u3 u4 u5 u7 u8 u9 u13 u14 u15 u16 u17 u18 u19 u20 u21 u22 u23 u24 u25 u26 u27 u28 u29 u30 u31 u32 u33 u34 u35 u36 u37 u38 u39 u40 u41 u42 u43 u44 u45 u46 u47 u48 u49 u50 u51 u52 u53 u54 u55 u56 u57 u58 u59 u60 u61 u62 u63 u64 u65 u66 u67 u68 u69 u70 u71 u72 u73 u74 u75 u76 u77 u78 u79 u80 u81 u82 u83 u84 u85 u86 : Value), a' = ⟨#[(chV A1 ls.length c1 A2 rows.length c2), .pointer (some ⟨w.heap.size, 0, none⟩), u2, u3, u4, u5, .pointer (some ⟨w3.heap.size, 0, none⟩), u7, u8, u9, .pointer (some ⟨w6.heap.size, 0, none⟩), .pointer (some ⟨b1, 0, none⟩), .pointer (some ⟨b2, 0, none⟩), u13, u14, u15, u16, u17, u18, u19, u20, u21, u22, u23, u24, u25, u26, u27, u28, u29, u30, u31, u32, u33, u34, u35, u36, u37, u38, u39, u40, u41, u42, u43, u44, u45, u46, u47, u48, u49, u50, u51, u52, u53, u54, u55, u56, u57, u58, u59, u60, u61, u62, u63, u64, u65, u66, u67, u68, u69, u70, u71, u72, u73, u74, u75, u76, u77, u78, u79, u80, u81, u82, u83, u84, u85, u86], []⟩) ?hAx ?assign ?body ?done ?stop
  case hAx =>
    rintro x a' W l o o' ⟨b1, b2, B1, B2, h⟩ hl ho hc
    have hne : ∀ {b t cs}, Blk W b cs t → b ≠ l := fun hB e => by rw [← e, hB.out] at ho; cases ho; cases hc
    exact ⟨b1, b2, ⟨(World.putObj_heap_other (hne B1)).trans B1.out⟩, ⟨(World.putObj_heap_other (hne B2)).trans B2.out⟩, h⟩
  case assign =>
    rintro l pre x W K ⟨v, hpi⟩ hle hK
    gi_wp2
    have hb2 : Below W.heap.size W ((W.alloc (.cells (rowC x.1) 71)).alloc (.cells (rowC x.2) 71)) := ((Below.refl _ _).alloc (Nat.le_refl _) _).alloc (by simp) _
    refine hK _ _ (KeepsFrom.of_below hb2) (KpS.of_below hb2) ⟨v, hpi.below hb2⟩
      ⟨W.heap.size, W.heap.size + 1, (Blk.new _ _ _ _ rfl).alloc _, Blk.new _ _ _ _ (by simp), _, _, _, _, _, _, _, _, _, _, _, _, _, _, _, _, _, _, _, _, _, _, _, _, _, _, _, _, _, _, _, _, _, _, _, _, _, _, _, _, _, _, _, _, _, _, _, _, _, _, _, _, _, _, _, _, _, _, _, _, _, _, _, _, _, _, _, _, _, _, _, _, _, _, _, _, _, _, _, _, _, rfl⟩
  case body =>
    rintro l pre x a' W hle ⟨v, hpi⟩ ⟨b1, b2, B1, B2, u2, u3, u4, u5, u7, u8, u9, u13, u14, u15, u16, u17, u18, u19, u20, u21, u22, u23, u24, u25, u26, u27, u28, u29, u30, u31, u32, u33, u34, u35, u36, u37, u38, u39, u40, u41, u42, u43, u44, u45, u46, u47, u48, u49, u50, u51, u52, u53, u54, u55, u56, u57, u58, u59, u60, u61, u62, u63, u64, u65, u66, u67, u68, u69, u70, u71, u72, u73, u74, u75, u76, u77, u78, u79, u80, u81, u82, u83, u84, u85, u86, rfl⟩ hpre
    refine wpIn_block ?_
    refine put_round l _ _ w.heap.size w3.heap.size w6.heap.size b1 b2 W0.heap.size v (headB ls rows.length ++ pairsB true pre) pre.isEmpty x.1 x.2 ls W (right_pair HRT.out hpre) ⟨hpi.b6, hpi.b10, B1, B2⟩ hpi.lies hle (by omega) (by omega) (by omega) (Nat.le_trans (HBS.out pre ((List.prefix_append _ _).trans hpre)) (by decide)) _ u2 u3 u4 u5 u7 u8 u9 u13 u14 u15 u16 u17 u18 u19 u20 u21 u22 u23 u24 u25 u26 u27 u28 u29 u30 u31 u32 u33 u34 u35 u36 u37 u38 u39 u40 u41 u42 u43 u44 u45 u46 u47 u48 u49 u50 u51 u52 u53 u54 u55 u56 u57 u58 u59 u60 u61 u62 u63 u64 u65 u66 u67 u68 u69 u70 u71 u72 u73 u74 u75 u76 u77 u78 u79 u80 u81 u82 u83 u84 u85 u86 ?_
    intro a' v' W1 W' hb hl hW'
    subst hW'
    obtain ⟨A7, q7, rfl, -⟩ := hpi.lies.out
    have hp1 := hpi.below hb
    have g1 := grown_set W1 w3.heap.size 0 v'
    have hz1 : (W1.setCell ⟨w3.heap.size, 0, none⟩ v').heap.size = W1.heap.size := by simp [World.setCell]
    refine ⟨(KeepsFrom.of_below hb).trans (((KeepsOthers.setCell W1 _ _).from _).trans ((KeepsOthers.setCell _ _ _).from _)), (KpS.of_below hb).trans ((KpS.set (.inl rfl)).trans (KpS.set (.inr rfl))), v', ?_⟩
    refine ⟨(hp1.ch.far _ _ (by show w.heap.size ≠ w3.heap.size; omega)).far _ _ (by show w.heap.size ≠ w6.heap.size; omega), ?_, ?_, ?_, (hp1.low.setCell (p := ⟨w3.heap.size, 0, none⟩) (Nat.le_of_lt hLT) _).setCell (p := ⟨w6.heap.size, 0, none⟩) (by show w.heap.size ≤ w6.heap.size; omega) _⟩
    · have := (hp1.b6.set 0 v').far ⟨w6.heap.size, 0, none⟩ (.bool false) (by show w3.heap.size ≠ w6.heap.size; omega)
      simpa using this
    · have := (hp1.b10.far ⟨w3.heap.size, 0, none⟩ v' (by show w6.heap.size ≠ w3.heap.size; omega)).set 0 (.bool false)
      have e : (pre ++ [x]).isEmpty = false := by cases pre <;> rfl
      rw [e]; simpa using this
    · rw [pairsB_snoc, Bool.true_and, ← List.append_assoc]
      exact (hl.setOther hp1.b6 (fun x e => by cases e) v').setOther (hp1.b10.far ⟨w3.heap.size, 0, none⟩ v' (by show w6.heap.size ≠ w3.heap.size; omega)) (fun x e => by cases e) _
  case done =>
    rintro D xs W hD rfl ⟨v, hpi⟩ hK
    have hD' := hD
    have c6 := hpi.b6.cell 0 _ rfl
    have HV := Lib.hid (hpi.grown (by omega) (by omega) (by omega) (grownBy_putObj' W D (.deferred none)) (fun r e => by cases e; omega))
    obtain ⟨A7, q7, rfl, -⟩ := hpi.lies.out
    gi_wp2
    refine ⟨by simp, .inl ⟨_, _, rfl, run_takeDeferred hK, ?_⟩⟩
    refine ⟨_, results_tmp2 rfl _ _ _, ⟨_, rfl, ?_, HV.out.low⟩⟩
    have hv := HV.out.lies
    have hv2 := hv.lies (Nat.le_trans (HBS.out _ (List.prefix_refl _)) (by decide))
    have e : (headB ls rows.length ++ pairsB true (pairsL z71 rows)).length = (headB ls rows.length).length + (pairsB true (pairsL z71 rows)).length := List.length_append
    rw [e] at hv2
    exact hv2
  case stop =>
    rintro D c pre W hD hpre hx hK
    exact hx.elim
end Go.Proofs.YtojocffjajcdmaaDoor.RF
/- icehouselaw04.knows answers true. -/
namespace Go.Proofs.YtojocffjajcdmaaDoor.RF
open Go Go.RowKit Go.Shelf Go.Sort Go.Proofs.YtojocffjajcdmaaDoor Go.Proofs.YtojocffjajcdmaaDoorW.PrintWords Go.Proofs.YtojocffjajcdmaaDoorW.PrintLast Go.Proofs.YtojocffjajcdmaaDoorW.PrintMore PChunkAll
set_option linter.unusedVariables false
set_option linter.unusedSimpArgs false

def krows : List S71 := [⟨4, 10, ⟨#[117]⟩⟩, ⟨2, 11, ⟨#[118]⟩⟩]
theorem kright : rightC [lab0] krows = true := by decide +kernel
theorem kbytes : bytesC [lab0] krows = [5, 1, 1, 97, 1, 120, 2, 10, 4, 1, 117, 1, 3, 1, 118] := by
  unfold bytesC headB
  rw [bytesL0]
  simp [krows, pairsL, pairsB, pairB, seqB, zig, text7, num7_small, bytesOf, strOfNums, ByteArray.size, z71]
theorem kput : putC [lab0] krows = ([5, 1, 1, 97, 1, 120, 2, 10, 4, 1, 117, 1, 3, 1, 118], 0) := by unfold putC; rw [kright, kbytes]; rfl
theorem kstr : strOfNums [5, 1, 1, 97, 1, 120, 2, 10, 4, 1, 117, 1, 3, 1, 118] = ⟨#[5, 1, 1, 97, 1, 120, 2, 10, 4, 1, 117, 1, 3, 1, 118]⟩ := rfl
theorem kbnd : bndV [lab0] krows = #[.int .i64 10, .int .i64 11, .int .i64 2, .int .i64 4] := by unfold bndV; rw [kright]; rfl
theorem krow_at (w : World) : RowC (w.alloc (.cells #[.int .i64 4, .int .i64 10, .string ⟨#[117]⟩, .int .i64 2, .int .i64 11, .string ⟨#[118]⟩] 71)) (some ⟨w.heap.size, 0, none⟩) (rcells krows) := fun _ => by
  refine ⟨w.heap.size, 0, rfl, fun j u hu => ?_⟩
  rw [Nat.zero_add]
  refine (Blk.new w #[.int .i64 4, .int .i64 10, .string ⟨#[117]⟩, .int .i64 2, .int .i64 11, .string ⟨#[118]⟩] 71 w.heap.size rfl).cell j u ?_
  simpa [rcells, krows] using hu
set_option maxHeartbeats 400000 in
theorem num4_any (c : Int) (w : World) : Calls Tryd.prog 59 #[.int .i64 c] w fun e w' => e = .returned (.int .i64 c) ∧ w = w' := by
  go_enter Tryd.func59, Tryd.ntmps59
  go_wp2
  go_ret
  exact ⟨rfl, rfl⟩
set_option maxRecDepth 100000 in
set_option maxHeartbeats 4000000 in
theorem knows4_any (w : World) (hT : Tabs w) : Calls Tryd.prog 42 #[] w (BoolBelow true w) := by
  have hb1 : Below w.heap.size w (w.alloc (.cells #[.string ⟨#[97]⟩, .string ⟨#[120]⟩] 112)) := (Below.refl _ _).alloc (Nat.le_refl _) _
  have hb2 := hb1.alloc hb1.size (.cells #[.int .i64 4, .int .i64 10, .string ⟨#[117]⟩, .int .i64 2, .int .i64 11, .string ⟨#[118]⟩] 71)
  have hb3 := hb2.alloc hb2.size (.cells #[.slice (some ⟨w.heap.size, 0, none⟩) 1 1, .slice (some ⟨w.heap.size + 1, 0, none⟩) 2 2] 53)
  have hL := Kd.C_below (Kd.C_below (lab0_at w) ((Below.refl _ _).alloc (Nat.le_refl _) (.cells #[.int .i64 4, .int .i64 10, .string ⟨#[117]⟩, .int .i64 2, .int .i64 11, .string ⟨#[118]⟩] 71))) ((Below.refl _ _).alloc (Nat.le_refl _) (.cells #[.slice (some ⟨w.heap.size, 0, none⟩) 1 1, .slice (some ⟨w.heap.size + 1, 0, none⟩) 2 2] 53))
  have hR := (krow_at (w.alloc (.cells #[.string ⟨#[97]⟩, .string ⟨#[120]⟩] 112))).below ((Below.refl _ _).alloc (Nat.le_refl _) (.cells #[.slice (some ⟨w.heap.size, 0, none⟩) 1 1, .slice (some ⟨w.heap.size + 1, 0, none⟩) 2 2] 53))
  have kb : Blk (((w.alloc (.cells #[.string ⟨#[97]⟩, .string ⟨#[120]⟩] 112)).alloc (.cells #[.int .i64 4, .int .i64 10, .string ⟨#[117]⟩, .int .i64 2, .int .i64 11, .string ⟨#[118]⟩] 71)).alloc (.cells #[.slice (some ⟨w.heap.size, 0, none⟩) 1 1, .slice (some ⟨w.heap.size + 1, 0, none⟩) 2 2] 53)) (w.heap.size + 2) #[.slice (some ⟨w.heap.size, 0, none⟩) 1 1, .slice (some ⟨w.heap.size + 1, 0, none⟩) 2 2] 53 := Blk.new _ _ _ _ (by simp)
  rw [World.size_alloc] at hR
  generalize hW : ((w.alloc (.cells #[.string ⟨#[97]⟩, .string ⟨#[120]⟩] 112)).alloc (.cells #[.int .i64 4, .int .i64 10, .string ⟨#[117]⟩, .int .i64 2, .int .i64 11, .string ⟨#[118]⟩] 71)).alloc (.cells #[.slice (some ⟨w.heap.size, 0, none⟩) 1 1, .slice (some ⟨w.heap.size + 1, 0, none⟩) 2 2] 53) = W at *
  have hwf : ∀ x ∈ krows, (Lit.int .i64 x.f0).wf = true := by decide
  have HP := Lib.hid (putC_any (some ⟨w.heap.size, 0, none⟩) 1 [lab0] (some ⟨w.heap.size + 1, 0, none⟩) 2 krows W (hT.below hb3) (by decide) (by decide) hL hR hwf)
  have HBN := Lib.hid (fun W' (hb : Below W.heap.size W W') => cbounds_any (some ⟨w.heap.size, 0, none⟩) 1 [lab0] (some ⟨w.heap.size + 1, 0, none⟩) 2 krows W' ((hT.below hb3).below hb) (by decide) (by decide) (Kd.C_below hL hb) (hR.below hb) hwf)
  have HRT := Lib.hid (fun W' (hb : Below W.heap.size W W') => cright_any (some ⟨w.heap.size, 0, none⟩) 1 [lab0] (some ⟨w.heap.size + 1, 0, none⟩) 2 krows W' ((hT.below hb3).below hb) (by decide) (by decide) (Kd.C_below hL hb) (hR.below hb) hwf)
  rw [kput] at HP
  rw [kbnd] at HBN
  rw [kright] at HRT
  have HB3 := Lib.hid hb3
  have HW := Lib.hid hW
  have c0 := kb.cell 0 _ rfl
  have c1 := kb.cell 1 _ rfl
  clear hT hb1 hb2 hb3 hL hR hwf hW
  go_enter Tryd.func42, Tryd.ntmps42
  go_wp2_with fail
  (try simp only [Nat.add_assoc, Nat.reduceAdd])
  rw [HW.out]
  refine (HP.out).mono ?_
  rintro e w2 ⟨v, rfl, hl, hb⟩
  obtain ⟨A5, q5, rfl, hq5, hc5⟩ := hl
  have HC5 := Lib.hid hc5
  have HKB := Lib.hid (Blk.grown kb (grown_below hb) (fun e => by cases e))
  have d0 := HKB.out.cell 0 _ rfl
  have d1 := HKB.out.cell 1 _ rfl
  have HB2 := Lib.hid hb
  clear hb hc5 c0 c1
  go_wp2_with (first
    | (go_at_call 35; refine (HBN.out _ HB2.out).mono ?_; rintro e w3 ⟨rfl, hb⟩; have e0 := (Blk.grown HKB.out (grown_below hb) (fun e => by cases e)).cell 0 _ rfl; have e1 := (Blk.grown HKB.out (grown_below hb) (fun e => by cases e)).cell 1 _ rfl; have hcv := Kd.C_string (P := Tryd.prog) (A := A5) (c := q5) Tryd.underlying23 Tryd.underlying5 Tryd.underlying9 (Kd.C_below HC5.out hb); rw [kstr] at hcv; simp only [List.length_cons, List.length_nil, Nat.reduceAdd] at hcv; have HB4 := Lib.hid (below_step HB2.out hb); clear hb)
    | (go_at_call 59; (with_reducible refine (num4_any _ _).mono ?_); rintro e w4 ⟨rfl, rfl⟩)
    | (go_at_call 57; refine (HRT.out _ HB4.out).mono ?_; rintro e w5 ⟨rfl, hb⟩; have HB5 := Lib.hid (below_step HB4.out hb); clear hb))
  go_ret
  exact ⟨rfl, below_step HB3.out HB5.out⟩
end Go.Proofs.YtojocffjajcdmaaDoor.RF
/- law04.Own; the law ChunkTimes. -/
namespace Go.Proofs.YtojocffjajcdmaaDoor.RF
open Go Go.RowKit Go.Shelf Go.Sort Go.Proofs.YtojocffjajcdmaaDoor Go.Proofs.YtojocffjajcdmaaDoorW.PrintWords Go.Proofs.YtojocffjajcdmaaDoorW.PrintLast Go.Proofs.YtojocffjajcdmaaDoorW.PrintMore PChunkAll
set_option linter.unusedVariables false
set_option linter.unusedSimpArgs false

def t93 (x : S71) : S93 := ⟨x.f0, x.f1, x.f2⟩
theorem flat93 (l : List S71) : ((l.map t93).flatMap fun x => [Value.int .i64 x.f0, .int .i64 x.f1, .string x.f2]) = rcells l := by
  unfold rcells
  induction l with
  | nil => rfl
  | cons a l ih => rw [List.map_cons, List.flatMap_cons, List.flatMap_cons, ih]; rfl
theorem C93 {w : World} {A : Option Addr} {rows : List S71} (hm : rows.length ≤ 9223372036854775807) (h : RowC w A (rcells rows)) : Kd.C k93 w A rows.length (rows.map t93) := by
  have := C_of_cells (d := k93) (f := fun x => [Value.int .i64 x.f0, .int .i64 x.f1, .string x.f2]) (fun _ => rfl) (fun x => k93_mk w x) (by decide) (A := A) (xs := rows.map t93) (by simpa using hm) (by rw [flat93]; exact h)
  simpa using this
theorem C71 {w : World} {A : Option Addr} {rows : List S71} (hm : rows.length ≤ 9223372036854775807) (h : RowC w A (rcells rows)) : Kd.C k71 w A rows.length rows :=
  C_of_cells (d := k71) (f := fun x => [Value.int .i64 x.f0, .int .i64 x.f1, .string x.f2]) (fun _ => rfl) (fun x => k71_mk w x) (by decide) hm h
end Go.Proofs.YtojocffjajcdmaaDoor.RF
