import Derived.Test.YtojocffjajcdmaaDoorR4
import Derived.Lib.Varint
namespace Go.Proofs.YtojocffjajcdmaaDoor
open Go.RowKit Go.Proofs.YtojocffjajcdmaaDoorW.PrintWords Go.Proofs.YtojocffjajcdmaaDoorW.PrintLast Go.Proofs.YtojocffjajcdmaaDoorW.PrintMore PChunkAll
set_option linter.unusedVariables false
set_option linter.unusedSimpArgs false

/-! ### Bytes in plain words -/
/-- A number in sevens, the low ones first. -/
def num7 (n : Nat) : List Int := if h : 127 < n then ((n % 128 + 128 : Nat) : Int) :: num7 (n / 128) else [(n : Int)]
termination_by n
decreasing_by omega
theorem num7_big (n : Nat) (h : 127 < n) : num7 n = ((n % 128 + 128 : Nat) : Int) :: num7 (n / 128) := by rw [num7, dif_pos h]
theorem num7_small (n : Nat) (h : ¬ 127 < n) : num7 n = [(n : Int)] := by rw [num7, dif_neg h]
theorem num7_len (n : Nat) (k : Nat) (h : n < 128 ^ (k + 1)) : 1 ≤ (num7 n).length ∧ (num7 n).length ≤ k + 1 := by
  induction k generalizing n with
  | zero => rw [num7_small n (by simp at h; omega)]; simp
  | succ k ih =>
    by_cases hn : 127 < n
    · have := ih (n / 128) (by rw [Nat.div_lt_iff_lt_mul (by decide)]; rw [Nat.pow_succ] at h; exact h)
      rw [num7_big n hn, List.length_cons]
      omega
    · rw [num7_small n hn]; simp
theorem seven_l0 (k : Nat) (n : Nat) (acc : List Int) (h : n < 128 ^ (k + 1)) (ha : acc.length + k < 140737488355328) : codec_seven_int.l0 (k + 1) (n : Int) acc = some (acc ++ num7 n) := by
  induction k generalizing n acc with
  | zero =>
    have hn : ¬ 127 < n := by simp at h; omega
    rw [num7_small n hn, codec_seven_int.l0, if_neg (by omega), if_pos (by omega)]
    rw [show (n : Int) % 256 = (n : Int) by omega]
  | succ k ih =>
    rw [codec_seven_int.l0]
    by_cases hn : 127 < n
    · rw [if_pos (by omega), if_pos (by omega), Lib.u8_or128_any _ (by omega) (by omega)]
      rw [show (n : Int) / 128 = ((n / 128 : Nat) : Int) by omega, ih (n / 128) _ (by rw [Nat.div_lt_iff_lt_mul (by decide)]; rw [Nat.pow_succ] at h; exact h) (by simp; omega), num7_big n hn]
      rw [show (n : Int) % 256 % 128 + 128 = ((n % 128 + 128 : Nat) : Int) by omega]
      simp
    · rw [if_neg (by omega), if_pos (by omega), num7_small n hn]
      rw [show (n : Int) % 256 = (n : Int) by omega]
def text7 (s : ByteArray) : List Int := num7 s.size ++ bytesOf s
def TupBelow (bs : List Int) (c : Int) (w : World) (e : Ending) (w' : World) : Prop := ∃ v, e = .returned (.tuple #[v, .int .i64 c]) ∧ OwnB w' w.heap.size v bs ∧ Below w.heap.size w w'
theorem number_any (n : Nat) (w : World) (h : n < 72057594037927936) : Calls Tryd.prog 78 #[.int .i64 (n : Int)] w (TupBelow (num7 n) 0 w) :=
  codec_Number.calls 9 (n : Int) (num7 n) 0 w (by
    unfold codec_Number.f codec_seven_int.f
    rw [if_neg (by omega), if_neg (by omega), seven_l0 8 n [] (by omega) (by simp)]
    rfl)
theorem text_any (s : ByteArray) (w : World) (h : s.size ≤ 65536) : Calls Tryd.prog 80 #[.string s] w (TupBelow (text7 s) 0 w) :=
  codec_Text.calls 9 s (text7 s) 0 w (by
    have hl := num7_len s.size 8 (by omega)
    unfold codec_Text.f codec_seven_int.f
    rw [if_neg (by omega), seven_l0 8 s.size [] (by omega) (by simp)]
    simp only [Option.bind_some, List.nil_append]
    rw [if_pos (by omega)]
    rfl)
theorem text7_len (s : ByteArray) (h : s.size ≤ 65536) : s.size + 1 ≤ (text7 s).length ∧ (text7 s).length ≤ s.size + 3 := by
  have hl := num7_len s.size 2 (by omega)
  unfold text7
  rw [List.length_append, bytesOf_length]
  omega

/-! ### Rows of bytes -/
def Lies (w : World) (v : Value) (bs : List Int) : Prop := ∃ A c, v = .slice A bs.length c ∧ bs.length ≤ c ∧ Kd.C KB w A bs.length bs
theorem OwnB.lies {w : World} {b : Nat} {v : Value} {bs : List Int} (h : OwnB w b v bs) : Lies w v bs := by
  obtain ⟨A, c, rfl⟩ := Kd.R_slice h
  exact ⟨A, c, rfl, (Kd.R_reads' h).2.1, (Kd.R_reads' h).2.2⟩
theorem Lies.below {w w' : World} {v : Value} {bs : List Int} (h : Lies w v bs) (hb : Below w.heap.size w w') : Lies w' v bs := by
  obtain ⟨A, c, e, h1, h2⟩ := h
  exact ⟨A, c, e, h1, Kd.C_below h2 hb⟩
theorem rows_at (w : World) (vs : List Value) (xss : List (List Int)) (t : TypeId) (hl : xss.length = vs.length) (hm : xss.length ≤ 1000) (h : ∀ (i : Nat) (v : Value) (x : List Int), vs[i]? = some v → xss[i]? = some x → Lies w v x) : Kd.C KBs (w.alloc (.cells vs.toArray t)) (some ⟨w.heap.size, 0, none⟩) xss.length xss := by
  refine ⟨rfl, by omega, fun _ => ⟨_, rfl, fun j p hj => ?_⟩⟩
  have hjl : j < xss.length := (List.getElem?_eq_some_iff.1 hj).1
  have hv : vs[j]? = some vs[j] := List.getElem?_eq_getElem (by omega)
  have hL := (h j _ p hv hj).below (below_alloc (Below.refl w.heap.size w) (.cells vs.toArray t))
  obtain ⟨A, c, e, h1, h2⟩ := hL
  refine ⟨[vs[j]], rfl, ⟨A, c, by rw [e], h1, h2⟩, fun i u hu => ?_⟩
  have hi : i = 0 := by
    have := (List.getElem?_eq_some_iff.1 hu).1
    simp at this
    exact this
  subst hi
  simp only [List.getElem?_cons_zero, Option.some.injEq] at hu
  subst hu
  rw [addr_add, blk_cell (heap_alloc_new w _)]
  have e1 : 0 + (j * 1 + 0) = j := by omega
  show vs.toArray[0 + (j * KBs.sz + 0)]? = _
  rw [show (KBs.sz) = 1 from rfl, e1]
  simp
theorem rows3 {w : World} {a b c : Value} {x y z : List Int} (t : TypeId) (ha : Lies w a x) (hb : Lies w b y) (hc : Lies w c z) : Kd.C KBs (w.alloc (.cells #[a, b, c] t)) (some ⟨w.heap.size, 0, none⟩) [x, y, z].length [x, y, z] := by
  refine rows_at w [a, b, c] [x, y, z] t rfl (by simp) (fun i v p hv hp => ?_)
  match i with
  | 0 => simp at hv hp; subst hv hp; exact ha
  | 1 => simp at hv hp; subst hv hp; exact hb
  | 2 => simp at hv hp; subst hv hp; exact hc
  | n + 3 => simp at hv
theorem rows4 {w : World} {a b c d : Value} {x y z u : List Int} (t : TypeId) (ha : Lies w a x) (hb : Lies w b y) (hc : Lies w c z) (hd : Lies w d u) : Kd.C KBs (w.alloc (.cells #[a, b, c, d] t)) (some ⟨w.heap.size, 0, none⟩) [x, y, z, u].length [x, y, z, u] := by
  refine rows_at w [a, b, c, d] [x, y, z, u] t rfl (by simp) (fun i v p hv hp => ?_)
  match i with
  | 0 => simp at hv hp; subst hv hp; exact ha
  | 1 => simp at hv hp; subst hv hp; exact hb
  | 2 => simp at hv hp; subst hv hp; exact hc
  | 3 => simp at hv hp; subst hv hp; exact hd
  | n + 4 => simp at hv
end Go.Proofs.YtojocffjajcdmaaDoor
