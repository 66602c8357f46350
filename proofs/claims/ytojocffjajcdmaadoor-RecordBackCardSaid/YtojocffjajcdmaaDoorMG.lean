import Derived.Test.YtojocffjajcdmaaDoorMB
import Derived.Test.YtojocffjajcdmaaDoorME
namespace Go.Proofs.YtojocffjajcdmaaDoor
open Go.RowKit Go.Proofs.YtojocffjajcdmaaDoorW.PrintWords Go.Proofs.YtojocffjajcdmaaDoorW.PrintLast Go.Proofs.YtojocffjajcdmaaDoorW.PrintMore PChunkAll
set_option linter.unusedVariables false
set_option linter.unusedSimpArgs false

/-! ### What was written is read back -/
theorem str_bytes (s : ByteArray) : strOfNums (bytesOf s) = s := by
  obtain ⟨⟨l⟩⟩ := s
  unfold strOfNums bytesOf
  rw [List.map_map, List.map_congr_left (g := id)]
  · simp
  · intro x _
    simp
theorem bytes_str (bs : List Int) (h : Byt bs) : bytesOf (strOfNums bs) = bs := by
  unfold strOfNums bytesOf
  simp only [List.map_map]
  rw [List.map_congr_left (g := id)]
  · simp
  · intro x hx
    have := h x hx
    simp only [Function.comp, id, UInt8.toNat_ofNat']
    omega
theorem numA_num7 (k : Nat) : ∀ (i acc n : Nat) (r : List Int), n < 128 ^ k → (i = 0 ∨ 0 < n) → 0 < k → numA k i acc (num7 n ++ r) = (((acc + n * 128 ^ i : Nat) : Int), i + (num7 n).length, 0) := by
  induction k with
  | zero => intro i acc n r h h1 h2; omega
  | succ k ih =>
    intro i acc n r h h1 h2
    by_cases hn : 127 < n
    · have hk : 0 < k := by
        rcases Nat.eq_zero_or_pos k with h0 | h0
        · subst h0; simp at h; omega
        · exact h0
      have hlt : n / 128 < 128 ^ k := by rw [Nat.div_lt_iff_lt_mul (by decide)]; rw [Nat.pow_succ] at h; exact h
      rw [num7_big n hn, List.cons_append, numA, if_neg (by omega), ih (i + 1) _ (n / 128) r hlt (.inr (by omega)) hk]
      have e1 : ((((n % 128 + 128 : Nat) : Int) % 128).toNat) = n % 128 := by omega
      rw [e1]
      have e2 : acc + n % 128 * 128 ^ i + n / 128 * 128 ^ (i + 1) = acc + n * 128 ^ i := by
        have h3 : n * 128 ^ i = (128 * (n / 128) + n % 128) * 128 ^ i := by rw [Nat.div_add_mod]
        rw [h3, Nat.add_mul, Nat.pow_succ, Nat.mul_comm 128 (n / 128), Nat.mul_assoc, Nat.mul_comm (128 ^ i) 128]
        omega
      rw [e2]
      simp only [List.length_cons]
      congr 2
      omega
    · rw [num7_small n hn, List.cons_append, numA, if_pos (by omega), if_neg (by omega)]
      have e1 : ((n : Int) % 128).toNat = n := by omega
      rw [e1]
      rfl
theorem numG_num7 (n : Nat) (r : List Int) (h : n < 72057594037927936) : numG (num7 n ++ r) = ((n : Int), (num7 n).length, 0) := by
  unfold numG
  rw [numA_num7 8 0 0 n r (by simpa using h) (.inl rfl) (by decide)]
  simp
theorem numS_num7 (n : Nat) (r : List Int) (h : n < 72057594037927936) : numS (num7 n ++ r) 0 = ((n : Int), r, 0) := by
  unfold numS
  rw [if_neg (by simp), numG_num7 n r h]
  simp
theorem numS_int (n : Int) (r : List Int) (h0 : 0 ≤ n) (h : n < 72057594037927936) : numS (num7 n.toNat ++ r) 0 = (n, r, 0) := by
  rw [numS_num7 _ _ (by omega), Int.toNat_of_nonneg h0]
theorem textS_text7 (s : ByteArray) (r : List Int) (h : s.size ≤ 65536) : textS (text7 s ++ r) 0 = (s, r, 0) := by
  have e : numS (text7 s ++ r) 0 = ((s.size : Int), bytesOf s ++ r, 0) := by
    unfold text7
    rw [List.append_assoc, numS_num7 _ _ (by omega)]
  unfold textS
  rw [e]
  have hl := bytesOf_length s
  simp only
  rw [if_neg (by simp), if_neg (by omega), if_neg (by rw [List.length_append]; omega), Int.toNat_natCast]
  rw [List.take_append_of_le_length (by omega), List.take_of_length_le (by omega), List.drop_append_of_le_length (by omega), List.drop_of_length_le (by omega), str_bytes]
  simp
/-- A text whose last byte is gone is none. -/
theorem textS_short (s : ByteArray) (h : s.size ≤ 65536) : (textS (text7 s).dropLast 0).2.2 = 20 := by
  by_cases h0 : s.size = 0
  · have hb : bytesOf s = [] := List.eq_nil_of_length_eq_zero (by rw [bytesOf_length]; exact h0)
    unfold text7
    rw [h0, num7_small 0 (by decide), hb]
    decide
  · have hne : bytesOf s ≠ [] := fun e => h0 (by rw [← bytesOf_length, e]; rfl)
    have e : numS (text7 s).dropLast 0 = ((s.size : Int), (bytesOf s).dropLast, 0) := by
      unfold text7
      rw [List.dropLast_append_of_ne_nil hne, numS_num7 _ _ (by omega)]
    have hl : ((bytesOf s).dropLast).length = s.size - 1 := by rw [List.length_dropLast, bytesOf_length]
    unfold textS
    rw [e]
    simp only
    rw [if_neg (by simp), if_neg (by omega), if_pos (by omega)]
theorem text7_ne (s : ByteArray) (h : s.size ≤ 65536) : text7 s ≠ [] := fun e => by
  have := text7_len s h
  rw [e] at this
  simp at this

/-! Labels -/
theorem labsS_back (l : List S112) (r : List Int) (hl : ∀ k, k < l.length → (l.getD k z112).f0.size ≤ 64 ∧ (l.getD k z112).f1.size ≤ 128) (k : Nat) (hk : k ≤ l.length) :
    labsS (l.flatMap lab7 ++ r) 0 k = (l.take k, (l.drop k).flatMap lab7 ++ r, 0) := by
  induction k with
  | zero => simp [labsS]
  | succ k ih =>
    have hk' : k < l.length := by omega
    have hs := hl k hk'
    have hg : l.getD k z112 = l[k] := by simp [hk']
    rw [hg] at hs
    rw [labsS, ih (by omega)]
    have e : (l.drop k).flatMap lab7 ++ r = text7 l[k].f0 ++ (text7 l[k].f1 ++ ((l.drop (k + 1)).flatMap lab7 ++ r)) := by
      rw [List.drop_eq_getElem_cons hk', List.flatMap_cons]
      simp [lab7, List.append_assoc]
    simp only [e]
    rw [textS_text7 _ _ (by omega)]
    simp only
    rw [textS_text7 _ _ (by omega)]
    rw [List.take_succ_eq_append_getElem hk']
theorem readL_back (l : List S112) (h : rightL l = true) : readL (bytesL l) = (l, 0) := by
  obtain ⟨h1, h2, h3⟩ := rightL_get h
  have e : readS (bytesL l) = (l, [], 0) := by
    unfold readS bytesL
    rw [numS_num7 _ _ (by omega)]
    simp only
    have hc : cnt (l.length : Int) = l.length := by unfold cnt; omega
    rw [hc]
    have := labsS_back l [] h3 l.length (Nat.le_refl _)
    simpa using this
  unfold readL
  rw [e]
  simp only
  rw [if_neg (by simp [doneG, h])]

/-! Entries -/
theorem byt_num7 (n : Nat) (k : Nat) (h : n < 128 ^ (k + 1)) : Byt (num7 n) := by
  induction k generalizing n with
  | zero =>
    rw [num7_small n (by simp at h; omega)]
    intro x hx
    simp at hx h
    omega
  | succ k ih =>
    by_cases hn : 127 < n
    · rw [num7_big n hn]
      intro x hx
      rcases List.mem_cons.1 hx with e | e
      · omega
      · exact ih (n / 128) (by rw [Nat.div_lt_iff_lt_mul (by decide)]; rw [Nat.pow_succ] at h; exact h) x e
    · rw [num7_small n hn]
      intro x hx
      simp at hx
      omega
theorem Byt.append {a b : List Int} (ha : Byt a) (hb : Byt b) : Byt (a ++ b) := fun x hx => (List.mem_append.1 hx).elim (ha x) (hb x)
theorem byt_text7 (s : ByteArray) (h : s.size ≤ 65536) : Byt (text7 s) := (byt_num7 s.size 2 (by omega)).append (byt_bytesOf s)
theorem byt_bytesL (l : List S112) (h : rightL l = true) : Byt (bytesL l) := by
  obtain ⟨h1, h2, h3⟩ := rightL_get h
  refine (byt_num7 _ 2 (by omega)).append ?_
  intro x hx
  obtain ⟨a, ha, hx⟩ := List.mem_flatMap.1 hx
  obtain ⟨k, hk, rfl⟩ := List.mem_iff_getElem.1 ha
  have hs := h3 k hk
  have hg : l.getD k z112 = l[k] := by simp [hk]
  rw [hg] at hs
  exact ((byt_text7 _ (by omega)).append (byt_text7 _ (by omega))) x hx
theorem byt_bytesE (x : S33) (h : rightE x = true) : Byt (bytesE x) := by
  obtain ⟨h1, h2, h3, h4, h5, h6⟩ := rightE_get h
  have hs : (strOfNums (bytesL x.f2)).size ≤ 65536 := by rw [strOfNums_size]; have := bytesL_len h5; omega
  unfold bytesE
  simp only [List.flatten_cons, List.flatten_nil, List.append_nil]
  exact (byt_num7 _ 5 (by omega)).append ((byt_num7 _ 5 (by omega)).append ((byt_text7 _ hs).append (byt_text7 _ (by omega))))
/-- An entry's bytes, the line's turned to t. -/
def headE (x : S33) (t : List Int) : List Int := num7 x.f0.toNat ++ (num7 x.f1.toNat ++ (text7 (strOfNums (bytesL x.f2)) ++ t))
theorem headE_bytes (x : S33) (t : List Int) : bytesE x ++ t = headE x (text7 x.f3 ++ t) := by
  unfold bytesE headE
  simp [List.append_assoc]
theorem headE_get (x : S33) (h : rightE x = true) (t : List Int) : g1 (headE x t) = (x.f0, num7 x.f1.toNat ++ (text7 (strOfNums (bytesL x.f2)) ++ t), 0) ∧ g2 (headE x t) = (x.f1, text7 (strOfNums (bytesL x.f2)) ++ t, 0) ∧ g3 (headE x t) = (strOfNums (bytesL x.f2), t, 0) ∧ g4 (headE x t) = (x.f2, 0) ∧ g5 (headE x t) = textS t 0 := by
  obtain ⟨h1, h2, h3, h4, h5, h6⟩ := rightE_get h
  have hs : (strOfNums (bytesL x.f2)).size ≤ 65536 := by rw [strOfNums_size]; have := bytesL_len h5; omega
  have e1 : g1 (headE x t) = (x.f0, num7 x.f1.toNat ++ (text7 (strOfNums (bytesL x.f2)) ++ t), 0) := by
    unfold g1 headE; exact numS_int _ _ (by omega) (by omega)
  have e2 : g2 (headE x t) = (x.f1, text7 (strOfNums (bytesL x.f2)) ++ t, 0) := by
    unfold g2; rw [e1]; exact numS_int _ _ (by omega) (by omega)
  have e3 : g3 (headE x t) = (strOfNums (bytesL x.f2), t, 0) := by
    unfold g3; rw [e2]; exact textS_text7 _ _ hs
  refine ⟨e1, e2, e3, ?_, ?_⟩
  · unfold g4; rw [e3]; simp only; rw [bytes_str _ (byt_bytesL _ h5), readL_back _ h5]
  · unfold g5; rw [e3]
theorem getE_back (x : S33) (h : rightE x = true) : getE (bytesE x) = (x, 0) := by
  have e := headE_get x h (text7 x.f3 ++ [])
  have hb := headE_bytes x []
  rw [List.append_nil (bytesE x)] at hb
  rw [← hb] at e
  obtain ⟨e1, e2, e3, e4, e5⟩ := e
  rw [textS_text7 _ _ (by have := rightE_get h; omega)] at e5
  have hx : getX (bytesE x) = x := by unfold getX; rw [e1, e2, e4, e5]
  unfold getE
  rw [hx, e5]
  simp only
  rw [if_neg (by simp [doneG, h])]
theorem getE_more (x : S33) (h : rightE x = true) (m : Int) : getE (bytesE x ++ [m]) = (z33, 21) := by
  have e := headE_get x h (text7 x.f3 ++ [m])
  rw [← headE_bytes] at e
  obtain ⟨e1, e2, e3, e4, e5⟩ := e
  rw [textS_text7 _ _ (by have := rightE_get h; omega)] at e5
  unfold getE
  rw [e5]
  simp only
  rw [if_pos (by simp [doneG])]
theorem getE_less (x : S33) (h : rightE x = true) : getE (bytesE x).dropLast = (z33, 21) := by
  have hs : x.f3.size ≤ 65536 := by have := rightE_get h; omega
  have hne : text7 x.f3 ≠ [] := text7_ne _ hs
  have hb : (bytesE x).dropLast = headE x (text7 x.f3).dropLast := by
    have := headE_bytes x []
    rw [List.append_nil, List.append_nil] at this
    rw [this]
    unfold headE
    rw [List.dropLast_append_of_ne_nil (by simp [hne]), List.dropLast_append_of_ne_nil (by simp [hne]), List.dropLast_append_of_ne_nil hne]
  have e := headE_get x h (text7 x.f3).dropLast
  rw [← hb] at e
  obtain ⟨e1, e2, e3, e4, e5⟩ := e
  have h20 := textS_short x.f3 hs
  unfold getE
  rw [e5, if_pos]
  left
  unfold doneG
  rw [h20]
  simp
end Go.Proofs.YtojocffjajcdmaaDoor
namespace Go.Proofs.YtojocffjajcdmaaDoor
open Go.RowKit Go.Proofs.YtojocffjajcdmaaDoorW.PrintWords Go.Proofs.YtojocffjajcdmaaDoorW.PrintLast Go.Proofs.YtojocffjajcdmaaDoorW.PrintMore PChunkAll
set_option linter.unusedVariables false
set_option linter.unusedSimpArgs false

/-! ### Batches read -/
/-- k entries read; none: one of them was none. -/
def batN (b : List Int) (e : Int) (l : List S33) : Option (List S33 × List Int × Int) :=
  if (getE (bytesOf (textS b e).1)).2 ≠ 0 then none else some (l ++ [(getE (bytesOf (textS b e).1)).1], (textS b e).2)
def batS (bs : List Int) (er : Int) : Nat → Option (List S33 × List Int × Int)
  | 0 => some ([], bs, er)
  | k + 1 => (batS bs er k).bind fun s => batN s.2.1 s.2.2 s.1
def getB (bs : List Int) : List S33 × Int :=
  match batS (numS bs 0).2.1 (numS bs 0).2.2 (cnt (numS bs 0).1) with
  | none => ([], 21)
  | some s => if doneG s.2.1 s.2.2 ≠ 0 ∨ batchB s.1 = false then ([], 21) else (s.1, 0)
theorem batS_len {bs : List Int} {er : Int} {k : Nat} {s : List S33 × List Int × Int} (h : batS bs er k = some s) : s.1.length = k := by
  induction k generalizing s with
  | zero => rw [batS] at h; injection h with h; subst h; rfl
  | succ k ih =>
    rw [batS, Option.bind_eq_some_iff] at h
    obtain ⟨t, h1, h2⟩ := h
    unfold batN at h2
    split at h2
    · cases h2
    · injection h2 with h2
      subst h2
      simp [ih h1]
theorem batS_none {bs : List Int} {er : Int} {k m : Nat} (h : batS bs er k = none) (hm : k ≤ m) : batS bs er m = none := by
  induction m with
  | zero => have : k = 0 := by omega
            subst this; exact h
  | succ m ih =>
    rcases Nat.lt_or_ge m k with h1 | h1
    · have : k = m + 1 := by omega
      subst this; exact h
    · rw [batS, ih h1]; rfl
theorem batS_back (l : List S33) (r : List Int) (hl : ∀ k, k < l.length → rightE (l.getD k z33) = true) (k : Nat) (hk : k ≤ l.length) :
    batS (l.flatMap ent7 ++ r) 0 k = some (l.take k, (l.drop k).flatMap ent7 ++ r, 0) := by
  induction k with
  | zero => simp [batS]
  | succ k ih =>
    have hk' : k < l.length := by omega
    have hs := hl k hk'
    have hg : l.getD k z33 = l[k] := by simp [hk']
    rw [hg] at hs
    rw [batS, ih (by omega)]
    have e : (l.drop k).flatMap ent7 ++ r = text7 (strOfNums (bytesE l[k])) ++ ((l.drop (k + 1)).flatMap ent7 ++ r) := by
      rw [List.drop_eq_getElem_cons hk', List.flatMap_cons, List.append_assoc]
      rfl
    simp only [Option.bind_some, e]
    unfold batN
    rw [textS_text7 _ _ (by rw [strOfNums_size]; have := bytesE_len hs; omega)]
    simp only
    rw [bytes_str _ (byt_bytesE _ hs), getE_back _ hs, if_neg (by simp)]
    rw [List.take_succ_eq_append_getElem hk']
theorem batch_reads (l : List S33) (h : batchB l = true) (r : List Int) : batS (numS (bytesB l ++ r) 0).2.1 (numS (bytesB l ++ r) 0).2.2 (cnt (numS (bytesB l ++ r) 0).1) = some (l, r, 0) := by
  obtain ⟨h1, h2, h3⟩ := batchB_get h
  unfold bytesB
  rw [List.append_assoc, numS_num7 _ _ (by omega)]
  simp only
  have hc : cnt (l.length : Int) = l.length := by unfold cnt; omega
  rw [hc, batS_back l r h3 l.length (Nat.le_refl _)]
  simp
theorem getB_back (l : List S33) (h : batchB l = true) : getB (bytesB l) = (l, 0) := by
  have e := batch_reads l h []
  rw [List.append_nil] at e
  unfold getB
  rw [e]
  simp only
  rw [if_neg (by simp [doneG, h])]
theorem getB_more (l : List S33) (h : batchB l = true) (m : Int) : getB (bytesB l ++ [m]) = ([], 21) := by
  have e := batch_reads l h [m]
  unfold getB
  rw [e]
  simp only
  rw [if_pos (by simp [doneG])]
end Go.Proofs.YtojocffjajcdmaaDoor
namespace Go.Proofs.YtojocffjajcdmaaDoor
open Go.RowKit Go.Proofs.YtojocffjajcdmaaDoorW.PrintWords Go.Proofs.YtojocffjajcdmaaDoorW.PrintLast Go.Proofs.YtojocffjajcdmaaDoorW.PrintMore PChunkAll
attribute [local go_sem] max2_int min2_int max_two min_two
set_option linter.unusedVariables false
set_option linter.unusedSimpArgs false

/-! ### GetBatch: a batch read -/
def EntsBelow (l : List S33) (er : Int) (w : World) (e : Ending) (w' : World) : Prop := ∃ v, e = .returned (.tuple #[v, .int .i64 er]) ∧ Kd.S k33 33 w' w.heap.size (fun _ => True) v l ∧ Below w.heap.size w w'
def BtRel (b1 : List Int) (e1 : Int) (m : Nat) (g : Nat) (w : World) (v5 v13 : Value) (wr : World) : Prop :=
  ∃ (k : Nat) (s : List S33 × List Int × Int), v13 = .int .i64 (k : Int) ∧ k ≤ m ∧ batS b1 e1 k = some s ∧ DecAt wr g s.2.1 s.2.2 ∧ Kd.S k33 33 wr (g + 1) (fun _ => True) v5 s.1 ∧ Below w.heap.size w wr
/-- Rows that came later than g's block stay where it alone turns. -/
theorem ents_late {w w' : World} {g : Nat} {v : Value} {l : List S33} (h : Kd.S k33 33 w (g + 1) (fun _ => True) v l) (hg : w.grownBy w' (some g)) : Kd.S k33 33 w' (g + 1) (fun _ => True) v l :=
  Kd.S_mono (Kd.S_grown (Kd.S_bound h) hg (fun k hk e => by injection e with e; have := hk.2.1; omega)) (fun _ _ => trivial)
theorem getE_seq (bs : List Int) : -9223372036854775808 ≤ (getE bs).1.f0 ∧ (getE bs).1.f0 ≤ 9223372036854775807 := by
  unfold getE
  split
  · show -9223372036854775808 ≤ (0 : Int) ∧ (0 : Int) ≤ 9223372036854775807
    omega
  · show -9223372036854775808 ≤ (g1 bs).1 ∧ (g1 bs).1 ≤ _
    have := numS_val bs 0
    unfold g1
    omega
theorem batS_all {bs : List Int} {er : Int} {k : Nat} {s : List S33 × List Int × Int} (h : batS bs er k = some s) : ∀ x ∈ s.1, ∃ b, x = (getE b).1 := by
  induction k generalizing s with
  | zero => rw [batS] at h; injection h with h; subst h; intro x hx; cases hx
  | succ k ih =>
    rw [batS, Option.bind_eq_some_iff] at h
    obtain ⟨t, h1, h2⟩ := h
    unfold batN at h2
    split at h2
    · cases h2
    · injection h2 with h2
      subst h2
      intro x hx
      rcases List.mem_append.1 hx with hx | hx
      · exact ih h1 x hx
      · simp only [List.mem_singleton] at hx
        exact ⟨_, hx⟩
theorem seq_mem {l : List S33} (h : ∀ x ∈ l, ∃ b, x = (getE b).1) : SeqOk l := fun k hk => by
  have e : l.getD k z33 = l[k] := by simp [hk]
  obtain ⟨b, hb⟩ := h _ (List.getElem_mem hk)
  rw [e, hb]
  exact getE_seq b

set_option maxHeartbeats 8000000 in
set_option maxRecDepth 100000 in
theorem getB_any (A : Option Addr) (c : Nat) (bs : List Int) (w : World) (hT : Tabs w) (hr : Kd.C KB w A bs.length bs) (hl : bs.length ≤ 140737488355328) (hB : Byt bs) : Calls Tryd.prog 47 #[.slice A bs.length c] w (EntsBelow (getB bs).1 (getB bs).2 w) := by
  have HNW := Lib.hid (new_any A c bs w hr hl hB)
  have HT := Lib.hid hT
  have HGB : Hid (getB bs = match batS (numS bs 0).2.1 (numS bs 0).2.2 (cnt (numS bs 0).1) with
    | none => ([], 21)
    | some s => if doneG s.2.1 s.2.2 ≠ 0 ∨ batchB s.1 = false then ([], 21) else (s.1, 0)) := Lib.hid rfl
  have hv := numS_val bs 0
  clear hT hr hl hB
  obtain ⟨n, hn⟩ : ∃ n, n = (numS bs 0).1 := ⟨_, rfl⟩
  obtain ⟨b1, hb1⟩ : ∃ n, n = (numS bs 0).2.1 := ⟨_, rfl⟩
  obtain ⟨e1, he1⟩ : ∃ n, n = (numS bs 0).2.2 := ⟨_, rfl⟩
  have HDN : Hid (∀ g W, DecAt W g bs 0 → Calls Tryd.prog 86 #[.pointer (some ⟨g, 0, none⟩)] W fun e w' => e = .returned (.int .i64 n) ∧ DecAt w' g b1 e1 ∧ W.grownBy w' (some g)) := Lib.hid (fun g W h => by rw [hn, hb1, he1]; exact dnum_any g bs 0 W h)
  rw [← hn, ← hb1, ← he1] at HGB
  rw [← hn] at hv
  obtain ⟨m, hm⟩ : ∃ m : Nat, m = cnt n := ⟨_, rfl⟩
  have hmn : (if 17 < n then (17 : Int) else n) = (m : Int) := by rw [hm]; unfold cnt; split <;> omega
  rw [← hm] at HGB
  have hm17 : m ≤ 17 := by rw [hm]; unfold cnt; omega
  clear hn hb1 he1 hm
  generalize getB bs = GB at *
  go_enter Tryd.func47, Tryd.ntmps47
  go_wp2_with (first | (go_at_call 85; (with_reducible refine (HNW.out).mono ?_); rintro e w2 ⟨g, rfl, hg, hd, hb⟩; have HD := Lib.hid hd; have HB := Lib.hid hb; have HG := Lib.hid hg; clear hd hb hg) | (go_at_call 86; (with_reducible refine (HDN.out _ _ HD.out).mono ?_); rintro e w3 ⟨rfl, hd, hgr⟩; have HD3 := Lib.hid hd; have HB3 := Lib.hid (pw_below_grown HB.out (some g) HB.out.size hgr (fun k hk => by injection hk with hk; rw [← hk]; exact HG.out)); clear hd hgr))
  go_loopw [5, 13] (fun v5 v13 wr => BtRel b1 e1 m g w v5 v13 wr) (fun _ v13 _ => m - (intOf v13).toNat)
  case atStart => exact ⟨0, _, rfl, Nat.zero_le _, rfl, HD3.out, Kd.S_nil _ _ _ _ _, HB3.out⟩
  case round =>
    obtain ⟨k, ⟨ls, b2, e2⟩, rfl, hk, hS, hd, ho, hb⟩ := hrel
    simp only at hd ho
    have hll : ls.length = k := batS_len hS
    have HSA := Lib.hid (batS_all hS)
    have HS := Lib.hid hS
    clear hS
    obtain ⟨Ao, co, hso⟩ := Kd.S_slice ho
    subst hso
    by_cases hlt : k < m
    · have hki : (k : Int) < (m : Int) := by omega
      have hl17 : ls.length ≤ 17 := by omega
      have HN : Hid (batS b1 e1 (k + 1) = batN b2 e2 ls) := Lib.hid (by rw [batS, HS.out]; rfl)
      have HBN : Hid (batN b2 e2 ls = if (getE (bytesOf (textS b2 e2).1)).2 ≠ 0 then none else some (ls ++ [(getE (bytesOf (textS b2 e2).1)).1], (textS b2 e2).2)) := Lib.hid rfl
      have HTX := Lib.hid (fun W (h : DecAt W g b2 e2) => dtext_any g b2 e2 W h)
      have hts := textS_size b2 e2
      clear hll HS
      generalize textS b2 e2 = T at *
      obtain ⟨s1, b3, e3⟩ := T
      simp only at HTX HBN hts
      have HGX : Hid (∀ W, Tabs W → Calls Tryd.prog 27 #[.slice (some ⟨W.heap.size, 0, none⟩) s1.size (grownCap W s1.size 0 5)] (Lib.bytesWorld W 5 s1) (EntBelow (getE (bytesOf s1)).1 (getE (bytesOf s1)).2 (Lib.bytesWorld W 5 s1))) := Lib.hid (fun W hT' => by
        have h := getE_any (some ⟨W.heap.size, 0, none⟩) (grownCap W s1.size 0 5) (bytesOf s1) (Lib.bytesWorld W 5 s1) (hT'.below (bytes_below (Below.refl _ _) (Nat.le_refl _) 5 _)) (str_C W _ hts) (by rw [bytesOf_length]; omega) (byt_bytesOf _)
        rw [bytesOf_length] at h
        exact h)
      have KB3 := fun W => print_bytes (P := Tryd.prog) 9 23 5 Tryd.underlying9 Tryd.underlying23 Tryd.underlying5 s1 W
      generalize getE (bytesOf s1) = X at *
      obtain ⟨z, er⟩ := X
      simp only at HGX HBN
      have HD4 := Lib.hid hd
      have HO4 := Lib.hid ho
      have HB4 := Lib.hid hb
      clear hd ho hb hts
      by_cases h0 : er = 0
      · subst h0
        have HE : Hid (batS b1 e1 (k + 1) = some (ls ++ [z], b3, e3)) := Lib.hid (by rw [HN.out, HBN.out, if_neg (by simp)])
        clear HN HBN
        go_upto_region 8 with (first | (go_at_call 88; (with_reducible refine (HTX.out _ HD4.out).mono ?_); rintro e w5 ⟨rfl, hd, hgr⟩; have HD5 := Lib.hid hd; have HO5 := Lib.hid (ents_late HO4.out hgr); have HB5 := Lib.hid (pw_below_grown HB4.out (some g) HB4.out.size hgr (fun k hk => by injection hk with hk; rw [← hk]; exact HG.out)); clear hd hgr) | (go_at_call 27; (with_reducible refine (HGX.out _ (HT.out.below HB5.out)).mono ?_); rintro e w6 ⟨Al, cl, rfl, ho, hb⟩; have hsz6 := (bytes_below (Below.refl _ w5) (Nat.le_refl _) 5 s1).size; have hb6 := below_then (bytes_below (Below.refl _ w5) (Nat.le_refl _) 5 s1) hsz6 hb; have HB6 := Lib.hid (below_step HB5.out hb6); have HD6 := Lib.hid (HD5.out.below hb6); have HO6 := Lib.hid (Kd.S_elder' HO5.out (Kd.R_base (Kd.R_lower ho hsz6)) hb6); have HL6 := Lib.hid (Kd.R_lower ho (Nat.le_trans HD5.out.lt hsz6)); clear ho hb hb6 hsz6))
        obtain ⟨W, hW⟩ : ∃ W, W = w6.alloc (.cells (entC z Al cl) 33) := ⟨_, rfl⟩
        rw [← hW]
        have hbW : Below w6.heap.size w6 W := by rw [hW]; exact below_alloc (Below.refl _ _) _
        have HEW : Hid (Ent W w6.heap.size z Al cl) := Lib.hid (by rw [hW]; exact Ent.new (Kd.R_reads' HL6.out).2.2)
        have HDW := Lib.hid (HD6.out.below hbW)
        have HBW := Lib.hid (below_step HB6.out hbW)
        have HO7 := Lib.hid (Kd.S_below HO6.out hbW)
        have HLL : Hid (Kd.R k112 112 W (g + 1) (fun k => True ∧ some k ≠ (.slice Ao ls.length co : Value).ownBlock) (.slice Al z.f2.length cl) z.f2) := Lib.hid (Kd.R_mono (Kd.R_apart' (Kd.R_below HL6.out hbW) (Kd.S_typed HO7.out) (by decide)) (fun k hk => ⟨trivial, hk.2⟩))
        clear hW hbW
        generalize w6.heap.size = E at *
        obtain ⟨q0, q1, q2, q3⟩ := HEW.out.cell
        go_wp2_with ((with_reducible refine gate_builtin (b := .append) (xs := #[.tmp 24, .tmp 26]) rfl ?_); at_builtin; refine Kd.S_append k33 (w0 := W) (W := W) (g + 1) rfl (.tmp 24) (.tmp 26) 22 33 (.agg #[(.int .i64 0), (.int .i64 0), (.slice none 0 0), (.string ⟨#[]⟩)]) 56 rfl Tryd.underlying22 info33 rfl (by decide) (by omega) (.slice Ao ls.length co) ls z [.int .i64 z.f0, .int .i64 z.f1, .slice Al z.f2.length cl, .string z.f3] (fun _ => True) (fun k_ => some k_ = (.slice Al z.f2.length cl : Value).ownBlock) rfl rfl ?aP (fun k hk => HLL.out.1 k hk.symm) (fun _ _ => trivial) ?aO (Below.refl _ _) ?aS ?aL ?_; (case aP => exact k33_mkM _ _ _ z (Kd.R_mono (Kd.R_tight rfl HLL.out) (fun _ h_ => h_))); (case aO => exact Kd.S_mono HO7.out (fun k hk => ⟨trivial, fun e_ => hk.2 e_⟩)); (case aS => exact HDW.out.lt); (case aL => omega); intro v7 w7 ho7 hb7 hg7 hat7; have HO8 := Lib.hid ho7; have HD7 := Lib.hid (HDW.out.low hb7); have HB7 := Lib.hid (HBW.out.trans (hb7.mono (Nat.le_trans HG.out (Nat.le_succ g)))); clear ho7 hb7 hg7 hat7)
        go_roundw
        case rel => exact ⟨k + 1, _, by go_num, by omega, HE.out, HD7.out, HO8.out, HB7.out⟩
        case measure => simp [intOf]; omega
      · have HE : Hid (GB = ([], 21)) := Lib.hid (by rw [HGB.out, batS_none (by rw [HN.out, HBN.out, if_pos h0] : batS b1 e1 (k + 1) = none) (by omega)])
        have hne : (er != 0) = true := by simp [h0]
        clear h0 HN HBN
        go_wp2_with (first | (go_at_call 88; (with_reducible refine (HTX.out _ HD4.out).mono ?_); rintro e w5 ⟨rfl, hd, hgr⟩; have HD5 := Lib.hid hd; have HO5 := Lib.hid (ents_late HO4.out hgr); have HB5 := Lib.hid (pw_below_grown HB4.out (some g) HB4.out.size hgr (fun k hk => by injection hk with hk; rw [← hk]; exact HG.out)); clear hd hgr) | (go_at_call 27; (with_reducible refine (HGX.out _ (HT.out.below HB5.out)).mono ?_); rintro e w6 ⟨Al, cl, rfl, ho, hb⟩; have hsz6 := (bytes_below (Below.refl _ w5) (Nat.le_refl _) 5 s1).size; have hb6 := below_then (bytes_below (Below.refl _ w5) (Nat.le_refl _) 5 s1) hsz6 hb; have HB6 := Lib.hid (below_step HB5.out hb6); have HD6 := Lib.hid (HD5.out.below hb6); have HO6 := Lib.hid (Kd.S_elder' HO5.out (Kd.R_base (Kd.R_lower ho hsz6)) hb6); have HL6 := Lib.hid (Kd.R_lower ho (Nat.le_trans HD5.out.lt hsz6)); clear ho hb hb6 hsz6))
        go_ret2
        exact ⟨_, by rw [HE.out]; rfl, by rw [HE.out]; exact Kd.S_nil _ _ _ _ _, below_alloc HB6.out _⟩
    · have hki : ¬ (k : Int) < (m : Int) := by omega
      have hkm : k = m := by omega
      subst hkm
      rw [HS.out] at HGB
      simp only at HGB
      have HDO := Lib.hid (done_any g b2 e2 wr hd)
      have HRI := Lib.hid (batch_any Ao co ls wr (HT.out.below hb) (Kd.S_reads' ho).2.2 (seq_mem HSA.out))
      have HO := Lib.hid (Kd.S_lower ho (Nat.le_trans HG.out (Nat.le_succ g)))
      have HBW := Lib.hid hb
      clear hd ho hb hll HS HSA
      generalize doneG b2 e2 = dn at *
      by_cases h0 : dn = 0
      · subst h0
        cases hR : batchB ls with
        | true =>
          have HE : Hid (GB = (ls, 0)) := Lib.hid (by rw [HGB.out, if_neg (by simp [hR])])
          rw [hR] at HRI
          clear hR HGB
          go_wp2_with (first | (go_at_call 89; (with_reducible refine (HDO.out).mono ?_); rintro e w5 ⟨rfl, rfl⟩) | (go_at_call 77; (with_reducible refine (HRI.out).mono ?_); rintro e w6 ⟨rfl, hb6⟩; have HB6 := Lib.hid (below_step HBW.out hb6); have HO6 := Lib.hid (Kd.S_below HO.out hb6); clear hb6))
          go_ret2
          exact ⟨_, by rw [HE.out]; rfl, by rw [HE.out]; exact HO6.out, HB6.out⟩
        | false =>
          have HE : Hid (GB = ([], 21)) := Lib.hid (by rw [HGB.out, if_pos (.inr hR)])
          rw [hR] at HRI
          clear hR HGB
          go_wp2_with (first | (go_at_call 89; (with_reducible refine (HDO.out).mono ?_); rintro e w5 ⟨rfl, rfl⟩) | (go_at_call 77; (with_reducible refine (HRI.out).mono ?_); rintro e w6 ⟨rfl, hb6⟩; have HB6 := Lib.hid (below_step HBW.out hb6); clear hb6))
          go_ret2
          exact ⟨_, by rw [HE.out]; rfl, by rw [HE.out]; exact Kd.S_nil _ _ _ _ _, HB6.out⟩
      · have HE : Hid (GB = ([], 21)) := Lib.hid (by rw [HGB.out, if_pos (.inl h0)])
        have hne : (dn != 0) = true := by simp [h0]
        clear h0 HGB
        go_wp2_with (first | (go_at_call 89; (with_reducible refine (HDO.out).mono ?_); rintro e w5 ⟨rfl, rfl⟩))
        go_ret2
        exact ⟨_, by rw [HE.out]; rfl, by rw [HE.out]; exact Kd.S_nil _ _ _ _ _, HBW.out⟩
end Go.Proofs.YtojocffjajcdmaaDoor
namespace Go.Proofs.YtojocffjajcdmaaDoor
open Go.RowKit Go.Proofs.YtojocffjajcdmaaDoorW.PrintWords Go.Proofs.YtojocffjajcdmaaDoorW.PrintLast Go.Proofs.YtojocffjajcdmaaDoorW.PrintMore PChunkAll
set_option linter.unusedVariables false
set_option linter.unusedSimpArgs false

/-- Entries whose labels' names an int counts. -/
def SzE (l : List S33) : Prop := ∀ k, k < l.length → SzOk (l.getD k z33).f2

set_option maxHeartbeats 4000000 in
theorem rbatch_any (A : Option Addr) (c : Nat) (l : List S33) (w : World) (hr : Kd.C k33 w A l.length l) (hsz : SzE l) : Calls Tryd.prog 106 #[.slice A l.length c] w (BoolBelow (batchB l) w) := by
  have hmax := Kd.C_max hr
  have HR := Lib.hid hr
  have HSZ := Lib.hid hsz
  clear hr hsz
  go_enter Tryd.func106, Tryd.ntmps106
  go_wp2
  go_loopw [3] (fun v7 wr => BatRel l w v7 wr) (fun v7 _ => l.length - (intOf v7).toNat)
  case atStart => exact ⟨0, rfl, Nat.zero_le _, rfl, Below.refl _ _⟩
  case round =>
    obtain ⟨k, rfl, hk, heq, hb⟩ := hrel
    have HEQ := Lib.hid heq
    clear heq
    by_cases hlt : k < l.length
    · have hki : (k : Int) < (l.length : Int) := by omega
      obtain ⟨b, o, rfl, hx⟩ := ents_at HR.out (by omega)
      have HX := Lib.hid hx
      have HXA := Lib.hid ((hx k hlt).below hb)
      obtain ⟨A2, c2, c0, c1, c2', c3, hx4, hx5⟩ := HXA.out
      have HCW := Lib.hid hx5
      clear hx hx4 hx5
      have HXW : Hid (∀ i, i < l.length → wr.cell? ⟨b, o + i * 4, none⟩ = some (.int .i64 (l.getD i z33).f0)) := Lib.hid (fun i hi => by
        obtain ⟨_, _, h0, _⟩ := HX.out i hi
        exact pw_cell_below hb h0)
      have HST : Hid (entsB none l = (entB (aheadE l k) (l.getD k z33) && entsB (aheadE l (k + 1)) (l.drop (k + 1)))) := Lib.hid (by rw [HEQ.out, entsB_at l k hlt])
      have HSX := Lib.hid (HSZ.out k hlt)
      generalize l.getD k z33 = x at *
      go_wp2_with fail
      have HBW := Lib.hid hb
      clear hb HX HXA
      have C0 := fun d os => cell_regrown c0 d os
      have C1 := fun d os => cell_regrown c1 d os
      have C2 := fun d os => cell_regrown c2' d os
      have C3 := fun d os => cell_regrown c3 d os
      have HRE := Lib.hid (fun W' (hb' : Below wr.heap.size wr W') => rrightE_any x A2 c2 W' (Kd.C_below HCW.out hb') HSX.out)
      cases hn : rightE x with
      | false =>
        have HNM : Hid (∀ W', Below wr.heap.size wr W' → Calls Tryd.prog 30 #[entA x A2 c2] W' (BoolBelow false W')) := Lib.hid (fun W' hb' => by have := HRE.out W' hb'; rwa [hn] at this)
        have HF : Hid (batchB l = false) := Lib.hid (by unfold batchB; rw [HST.out, entB, hn]; simp)
        clear hn HRE
        have cN := fun d os => Calls.regrown_of (HNM.out (Go.Sort.grow (redrawn wr d) os) (below_regrown wr d os))
        refine wp_region_quiet_below (by kernel_rfl) (by kernel_rfl) ?_
        repeat (first | go_big_quiet_step ((exact cN _ _)) | quiet_step ((exact cN _ _)))
        refine wpQuiet_nil ?_
        intro _ hw'
        obtain ⟨⟨dq, osq⟩, hw''⟩ := hw'
        subst hw''
        go_wp2
        go_ret
        exact ⟨by rw [HF.out]; rfl, HBW.out.trans ((below_regrown wr dq osq).mono HBW.out.size)⟩
      | true =>
        have HNM : Hid (∀ W', Below wr.heap.size wr W' → Calls Tryd.prog 30 #[entA x A2 c2] W' (BoolBelow true W')) := Lib.hid (fun W' hb' => by have := HRE.out W' hb'; rwa [hn] at this)
        have HEB : Hid (entB (aheadE l k) x = folB (aheadE l k) x) := Lib.hid (by rw [entB, hn]; simp)
        have hx1 := (rightE_get hn).1
        have hx2 := (rightE_get hn).2.1
        clear hn HRE
        have cN := fun d os => Calls.regrown_of (HNM.out (Go.Sort.grow (redrawn wr d) os) (below_regrown wr d os))
        by_cases hk0 : k = 0
        · have hkz : decide ((0 : Int) < (k : Int)) = false := decide_eq_false (by omega)
          have hkz2 : decide (0 < k) = false := decide_eq_false (by omega)
          have HN : Hid (entsB none l = entsB (aheadE l (k + 1)) (l.drop (k + 1))) := Lib.hid (by rw [HST.out, HEB.out, hk0]; simp [aheadE, folB])
          clear hk0 hx1 hx2
          refine wp_region_quiet_below (by kernel_rfl) (by kernel_rfl) ?_
          repeat (first | go_big_quiet_step ((exact cN _ _)) | quiet_step ((exact cN _ _)))
          refine wpQuiet_nil ?_
          intro _ hw'
          obtain ⟨⟨dq, osq⟩, hw''⟩ := hw'
          subst hw''
          go_wp2_with fail
          go_roundw
          case rel => exact ⟨k + 1, by go_num, by omega, HN.out, HBW.out.trans ((below_regrown wr dq osq).mono HBW.out.size)⟩
          case measure => simp [intOf]; omega
        · obtain ⟨m, rfl⟩ : ∃ m, k = m + 1 := ⟨k - 1, by omega⟩
          have cP := HXW.out m (by omega)
          have HRS : Hid (folB (aheadE l (m + 1)) x = (x.f0 == (l.getD m z33).f0 + 1)) := Lib.hid (by simp [aheadE, folB])
          generalize (l.getD m z33).f0 = q at *
          have CP := fun d os => cell_regrown cP d os
          have hkz : decide ((0 : Int) < (m : Int) + 1) = true := decide_eq_true (by omega)
          have hw1 : IntKind.i64.wrap ((m : Int) + 1 - 1) = (m : Int) := by rw [IntWalk.i64_in _ ⟨by omega, by omega⟩]; omega
          have hm0 : (0 : Int) ≤ (m : Int) := by omega
          have hml : (m : Int) < (l.length : Int) := by omega
          obtain ⟨Aq, hAq⟩ : ∃ a, a = x.f0 - 1 := ⟨_, rfl⟩
          have hwx : IntKind.i64.wrap (x.f0 - 1) = Aq := by rw [IntWalk.i64_in _ ⟨by omega, by omega⟩, hAq]
          have HAQ := Lib.hid hAq
          clear hk0 hki hx1 hx2 hAq
          by_cases he : Aq = q
          · have HN : Hid (entsB none l = entsB (aheadE l (m + 1 + 1)) (l.drop (m + 1 + 1))) := Lib.hid (by rw [HST.out, HEB.out, HRS.out]; simp [show x.f0 = q + 1 from (by have := HAQ.out; omega)])
            have e1 : (Aq == q) = true := by simp [he]
            have e2 : (Aq != q) = false := by simp [he]
            have e3 : decide (Aq = q) = true := decide_eq_true he
            clear he
            refine wp_region_quiet_below (by kernel_rfl) (by kernel_rfl) ?_
            repeat (first | go_big_quiet_step ((exact cN _ _)) | quiet_step ((exact cN _ _)))
            refine wpQuiet_nil ?_
            intro _ hw'
            obtain ⟨⟨dq, osq⟩, hw''⟩ := hw'
            subst hw''
            go_wp2_with fail
            go_roundw
            case rel => exact ⟨m + 1 + 1, by go_num, by omega, HN.out, HBW.out.trans ((below_regrown wr dq osq).mono HBW.out.size)⟩
            case measure => simp [intOf]; omega
          · have HF : Hid (batchB l = false) := Lib.hid (by unfold batchB; rw [HST.out, HEB.out, HRS.out]; simp [show ¬ x.f0 = q + 1 from fun e => he (by have := HAQ.out; omega)])
            have e1 : (Aq == q) = false := by simp [he]
            have e2 : (Aq != q) = true := by simp [he]
            have e3 : decide (Aq = q) = false := decide_eq_false he
            clear he
            refine wp_region_quiet_below (by kernel_rfl) (by kernel_rfl) ?_
            repeat (first | go_big_quiet_step ((exact cN _ _)) | quiet_step ((exact cN _ _)))
            refine wpQuiet_nil ?_
            intro _ hw'
            obtain ⟨⟨dq, osq⟩, hw''⟩ := hw'
            subst hw''
            go_wp2
            go_ret
            exact ⟨by rw [HF.out]; rfl, HBW.out.trans ((below_regrown wr dq osq).mono HBW.out.size)⟩
    · have HB := Lib.hid hb
      have HA : Hid (entsB none l = true) := Lib.hid (by rw [HEQ.out, List.drop_eq_nil_of_le (by omega)]; rfl)
      clear hb
      by_cases h1 : 1 ≤ l.length
      · have h1i : decide ((1 : Int) ≤ (l.length : Int)) = true := decide_eq_true (by omega)
        by_cases h2 : l.length ≤ 16
        · have h2i : decide ((l.length : Int) ≤ 16) = true := decide_eq_true (by omega)
          have HF : Hid (batchB l = true) := Lib.hid (by unfold batchB; rw [HA.out]; simp [h1, h2])
          go_wp2
          go_ret
          exact ⟨by rw [HF.out]; rfl, HB.out⟩
        · have h2i : decide ((l.length : Int) ≤ 16) = false := decide_eq_false (by omega)
          have HF : Hid (batchB l = false) := Lib.hid (by unfold batchB; rw [decide_eq_false h2]; simp)
          go_wp2
          go_ret
          exact ⟨by rw [HF.out]; rfl, HB.out⟩
      · have h1i : decide ((1 : Int) ≤ (l.length : Int)) = false := decide_eq_false (by omega)
        have HF : Hid (batchB l = false) := Lib.hid (by unfold batchB; rw [decide_eq_false h1]; simp)
        go_wp2
        go_ret
        exact ⟨by rw [HF.out]; rfl, HB.out⟩

/-! ### PutBatch of the reference -/
def RPBRel (l : List S33) (w : World) (v4 v5 : Value) (wr : World) : Prop :=
  ∃ k : Nat, OwnB wr w.heap.size v4 (ents7 l k) ∧ v5 = .int .i64 (k : Int) ∧ k ≤ l.length ∧ Below w.heap.size w wr

set_option maxHeartbeats 4000000 in
set_option maxRecDepth 100000 in
theorem rputB_any (A : Option Addr) (c : Nat) (l : List S33) (w : World) (hr : Kd.C k33 w A l.length l) (hsz : SzE l) : Calls Tryd.prog 46 #[.slice A l.length c] w (PutRes (putB l) w) := by
  have hmax := Kd.C_max hr
  have HBA := Lib.hid (rbatch_any A c l w hr hsz)
  have HR := Lib.hid hr
  have HPE : Hid (putB l = if batchB l = true then (bytesB l, 0) else ([], 1)) := Lib.hid rfl
  clear hr hsz
  cases hx : batchB l with
  | true =>
    have HPR : Hid (putB l = (bytesB l, 0)) := Lib.hid (by rw [HPE.out, hx]; rfl)
    rw [hx] at HBA
    have HG := Lib.hid (batchB_get hx)
    have h16 := HG.out.1
    have HLL := Lib.hid (fun k hk => ents7_len hx k hk)
    have HNU : Hid (∀ W, Calls Tryd.prog 107 #[.int .i64 (l.length : Int)] W (BytesBelow (num7 l.length) W)) := Lib.hid (fun W => rbytes_any l.length W (by omega))
    rw [HPR.out]
    clear hx HPE HPR
    go_enter Tryd.func46, Tryd.ntmps46
    go_wp2_with (first | (go_at_call 106; (with_reducible refine (HBA.out).mono ?_); rintro e w2 ⟨rfl, hb⟩; have HB := Lib.hid hb; clear hb) | (go_at_call 107; (with_reducible refine (HNU.out _).mono ?_); rintro e w3 ⟨v, rfl, ho, hb⟩; obtain ⟨A3, q3, h3⟩ := Kd.R_slice ho; subst h3; have HO := Lib.hid (Kd.R_lower ho (below_size HB.out)); have HB3 := Lib.hid (below_step HB.out hb); clear ho hb))
    go_loopw [4, 5] (fun v4 v5 wr => RPBRel l w v4 v5 wr) (fun _ v5 _ => l.length - (intOf v5).toNat)
    case atStart => exact ⟨0, by have h := HO.out; simpa [ents7] using h, rfl, Nat.zero_le _, HB3.out⟩
    case round =>
      obtain ⟨k, ho, rfl, hk, hb⟩ := hrel
      obtain ⟨Av, qv, hsv⟩ := Kd.R_slice ho
      subst hsv
      have HBK := Lib.hid hb
      have HOK := Lib.hid ho
      by_cases hlt : k < l.length
      · have hki : (k : Int) < (l.length : Int) := by omega
        obtain ⟨b, o, rfl, hx⟩ := ents_at HR.out (by omega)
        obtain ⟨A2, c2, hx0, hx1, hx2, hx3, hx4, hx5⟩ := hx k hlt
        have hy0 := pw_cell_below hb hx0
        have hy1 := pw_cell_below hb hx1
        have hy2 := pw_cell_below hb hx2
        have hy3 := pw_cell_below hb hx3
        have HS := Lib.hid (ents7_succ l k hlt)
        have HXR := Lib.hid (HG.out.2.2 k hlt)
        have hll := HLL.out (k + 1) (by omega)
        rw [HS.out, List.length_append] at hll
        have HLK : Hid ((ents7 l k).length + (text7 (strOfNums (bytesE (l.getD k z33)))).length ≤ 1000000) := Lib.hid (by omega)
        have HX5 := Lib.hid (Kd.C_below hx5 hb)
        clear hx hx0 hx1 hx2 hx3 hx4 hx5 hb ho hll
        generalize ents7 l k = Y at *
        generalize l.getD k z33 = x at *
        have hle := bytesE_len HXR.out
        have HBY := Lib.hid (fun W (hb' : Below wr.heap.size wr W) => rbytesE_any x A2 c2 W (Kd.C_below HX5.out hb') HXR.out)
        have HTX : Hid (∀ W, Calls Tryd.prog 108 #[.string (strOfNums (bytesE x))] W (BytesBelow (text7 (strOfNums (bytesE x))) W)) := Lib.hid (fun W => rtextb_any _ W (by rw [strOfNums_size]; omega))
        clear hle
        generalize text7 (strOfNums (bytesE x)) = T at *
        go_wp2_with (first
          | (go_at_call 84; (with_reducible refine (HBY.out _ (Below.refl _ _)).mono ?_); rintro e w4 ⟨v4, rfl, ho4, hb4⟩; obtain ⟨A4, q4, h4⟩ := Kd.R_slice ho4; subst h4; have hcv := Kd.C_string (P := Tryd.prog) (A := A4) (c := q4) Tryd.underlying23 Tryd.underlying5 Tryd.underlying9 (Kd.R_reads' ho4).2.2; have HO4 := Lib.hid (Kd.R_below HOK.out hb4); have HB4 := Lib.hid (below_step HBK.out hb4); clear ho4 hb4)
          | (go_at_call 108; (with_reducible refine (HTX.out _).mono ?_); rintro e w5 ⟨v5, rfl, ho5, hb5⟩; obtain ⟨A5, q5, h5⟩ := Kd.R_slice ho5; subst h5; have HO5 := Lib.hid (Kd.R_below HO4.out hb5); have HC5 := Lib.hid (Kd.R_reads' ho5).2.2; have HB5 := Lib.hid (below_step HB4.out hb5); clear ho5 hb5 hcv)
          | ((with_reducible refine gate_builtin (b := .append) (xs := #[.tmp 18, .tmp 25]) rfl ?_); at_builtin; refine Kd.R_append_row (Value.int .u8) 0 (w0 := w) w.heap.size rfl (.tmp 18) (.tmp 25) 23 5 (.int .u8 0) 1 rfl Tryd.underlying23 info5 rfl (by omega) _ Y T A5 T.length q5 (fun _ => True) rfl rfl (fun _ _ => trivial) HO5.out HC5.out HB5.out (below_size HB5.out) (by have := HLK.out; omega) ?_; intro v6 w6 ho6 hb6 hg6 hat6; have HO6 := Lib.hid ho6; have HB6 := Lib.hid hb6; clear ho6 hb6 hg6 hat6))
        go_roundw
        case rel => exact ⟨k + 1, by rw [HS.out]; exact HO6.out, by go_num, by omega, HB6.out⟩
        case measure => simp [intOf]; omega
      · have hki : ¬ (k : Int) < (l.length : Int) := by omega
        have HE := Lib.hid (ents7_all l k hlt)
        clear hb ho
        go_wp2
        go_ret2
        exact ⟨_, rfl, by rw [← HE.out]; exact HOK.out, HBK.out⟩
  | false =>
    have HPR : Hid (putB l = ([], 1)) := Lib.hid (by rw [HPE.out, hx]; rfl)
    rw [HPR.out]
    rw [hx] at HBA
    clear hx HPE
    go_enter Tryd.func46, Tryd.ntmps46
    go_wp2_with (go_at_call 106; (with_reducible refine (HBA.out).mono ?_); rintro e w2 ⟨rfl, hb⟩; have HB := Lib.hid hb; clear hb)
    go_ret2
    exact ⟨_, rfl, Kd.R_nil _ _ _ _ _, HB.out⟩
end Go.Proofs.YtojocffjajcdmaaDoor
namespace Go.Proofs.YtojocffjajcdmaaDoor
open Go.RowKit Go.Proofs.YtojocffjajcdmaaDoorW.PrintWords Go.Proofs.YtojocffjajcdmaaDoorW.PrintLast Go.Proofs.YtojocffjajcdmaaDoorW.PrintMore PChunkAll
set_option linter.unusedVariables false
set_option linter.unusedSimpArgs false

/-! ### GetBatch of the reference -/
def RBtRel (b1 : List Int) (e1 : Int) (m : Nat) (g : Nat) (w : World) (v6 v7 : Value) (wr : World) : Prop :=
  ∃ (k : Nat) (s : List S33 × List Int × Int), v7 = .int .i64 (k : Int) ∧ k ≤ m ∧ batS b1 e1 k = some s ∧ RefAt wr g s.2.1 s.2.2 ∧ Kd.S k33 33 wr (g + 1) (fun _ => True) v6 s.1 ∧ Below w.heap.size w wr
theorem getE_sz (bs : List Int) : SzOk (getE bs).1.f2 := by
  unfold getE
  split
  · intro k hk; exact absurd hk (Nat.not_lt_zero _)
  · exact readL_sz _
theorem sze_mem {l : List S33} (h : ∀ x ∈ l, ∃ b, x = (getE b).1) : SzE l := fun k hk => by
  have e : l.getD k z33 = l[k] := by simp [hk]
  obtain ⟨b, hb⟩ := h _ (List.getElem_mem hk)
  rw [e, hb]
  exact getE_sz b

set_option maxHeartbeats 8000000 in
set_option maxRecDepth 100000 in
theorem rgetB_any (A : Option Addr) (c : Nat) (bs : List Int) (w : World) (hr : Kd.C KB w A bs.length bs) (hl : bs.length ≤ 140737488355328) (hB : Byt bs) : Calls Tryd.prog 48 #[.slice A bs.length c] w (EntsBelow (getB bs).1 (getB bs).2 w) := by
  have HNW := Lib.hid (rnew_any A c bs w hr hl hB)
  have HGB : Hid (getB bs = match batS (numS bs 0).2.1 (numS bs 0).2.2 (cnt (numS bs 0).1) with
    | none => ([], 21)
    | some s => if doneG s.2.1 s.2.2 ≠ 0 ∨ batchB s.1 = false then ([], 21) else (s.1, 0)) := Lib.hid rfl
  have hv := numS_val bs 0
  clear hr hl hB
  obtain ⟨n, hn⟩ : ∃ n, n = (numS bs 0).1 := ⟨_, rfl⟩
  obtain ⟨b1, hb1⟩ : ∃ n, n = (numS bs 0).2.1 := ⟨_, rfl⟩
  obtain ⟨e1, he1⟩ : ∃ n, n = (numS bs 0).2.2 := ⟨_, rfl⟩
  have HDN : Hid (∀ g W, RefAt W g bs 0 → Calls Tryd.prog 91 #[.pointer (some ⟨g, 0, none⟩)] W fun e w' => e = .returned (.int .i64 n) ∧ RefAt w' g b1 e1 ∧ W.grownBy w' (some g)) := Lib.hid (fun g W h => by rw [hn, hb1, he1]; exact rnum_any g bs 0 W h)
  rw [← hn, ← hb1, ← he1] at HGB
  rw [← hn] at hv
  obtain ⟨m, hm⟩ : ∃ m : Nat, m = cnt n := ⟨_, rfl⟩
  have HMN : Hid ((m : Int) = n ∧ n ≤ 17 ∨ m = 17 ∧ 17 < n) := Lib.hid (by rw [hm]; unfold cnt; omega)
  rw [← hm] at HGB
  have hm17 : m ≤ 17 := by rw [hm]; unfold cnt; omega
  clear hn hb1 he1 hm
  generalize getB bs = GB at *
  go_enter Tryd.func48, Tryd.ntmps48
  go_wp2_with (first | (go_at_call 90; (with_reducible refine (HNW.out).mono ?_); rintro e w2 ⟨g, rfl, hg, hd, hb⟩; have HD := Lib.hid hd; have HB := Lib.hid hb; have HG := Lib.hid hg; clear hd hb hg) | (go_at_call 91; (with_reducible refine (HDN.out _ _ HD.out).mono ?_); rintro e w3 ⟨rfl, hd, hgr⟩; have HD3 := Lib.hid hd; have HB3 := Lib.hid (pw_below_grown HB.out (some g) HB.out.size hgr (fun k hk => by injection hk with hk; rw [← hk]; exact HG.out)); clear hd hgr))
  go_loopw [6, 7] (fun v6 v7 wr => RBtRel b1 e1 m g w v6 v7 wr) (fun _ v7 _ => m - (intOf v7).toNat)
  case atStart => exact ⟨0, _, rfl, Nat.zero_le _, rfl, HD3.out, Kd.S_nil _ _ _ _ _, HB3.out⟩
  case round =>
    obtain ⟨k, ⟨ls, b2, e2⟩, rfl, hk, hS, hd, ho, hb⟩ := hrel
    simp only at hd ho
    have hll : ls.length = k := batS_len hS
    have HSA := Lib.hid (batS_all hS)
    have HS := Lib.hid hS
    clear hS
    obtain ⟨Ao, co, hso⟩ := Kd.S_slice ho
    subst hso
    by_cases hlt : k < m
    · have hkn : decide ((k : Int) < n) = true := decide_eq_true (by have := HMN.out; omega)
      have hk16 : decide ((k : Int) ≤ 16) = true := decide_eq_true (by omega)
      have hl17 : ls.length ≤ 17 := by omega
      have HN : Hid (batS b1 e1 (k + 1) = batN b2 e2 ls) := Lib.hid (by rw [batS, HS.out]; rfl)
      have HBN : Hid (batN b2 e2 ls = if (getE (bytesOf (textS b2 e2).1)).2 ≠ 0 then none else some (ls ++ [(getE (bytesOf (textS b2 e2).1)).1], (textS b2 e2).2)) := Lib.hid rfl
      have HTX := Lib.hid (fun W (h : RefAt W g b2 e2) => rtext_any g b2 e2 W h)
      have hts := textS_size b2 e2
      clear hll HS
      generalize textS b2 e2 = T at *
      obtain ⟨s1, b3, e3⟩ := T
      simp only at HTX HBN hts
      have HGX : Hid (∀ W, Calls Tryd.prog 28 #[.slice (some ⟨W.heap.size, 0, none⟩) s1.size (grownCap W s1.size 0 5)] (Lib.bytesWorld W 5 s1) (EntBelow (getE (bytesOf s1)).1 (getE (bytesOf s1)).2 (Lib.bytesWorld W 5 s1))) := Lib.hid (fun W => by
        have h := rgetE_any (some ⟨W.heap.size, 0, none⟩) (grownCap W s1.size 0 5) (bytesOf s1) (Lib.bytesWorld W 5 s1) (str_C W _ hts) (by rw [bytesOf_length]; omega) (byt_bytesOf _)
        rw [bytesOf_length] at h
        exact h)
      have KB3 := fun W => print_bytes (P := Tryd.prog) 9 23 5 Tryd.underlying9 Tryd.underlying23 Tryd.underlying5 s1 W
      generalize getE (bytesOf s1) = X at *
      obtain ⟨z, er⟩ := X
      simp only at HGX HBN
      have HD4 := Lib.hid hd
      have HO4 := Lib.hid ho
      have HB4 := Lib.hid hb
      clear hd ho hb hts
      by_cases h0 : er = 0
      · subst h0
        have HE : Hid (batS b1 e1 (k + 1) = some (ls ++ [z], b3, e3)) := Lib.hid (by rw [HN.out, HBN.out, if_neg (by simp)])
        clear HN HBN
        go_upto_region 10 with (first | (go_at_call 93; (with_reducible refine (HTX.out _ HD4.out).mono ?_); rintro e w5 ⟨rfl, hd, hgr⟩; have HD5 := Lib.hid hd; have HO5 := Lib.hid (ents_late HO4.out hgr); have HB5 := Lib.hid (pw_below_grown HB4.out (some g) HB4.out.size hgr (fun k hk => by injection hk with hk; rw [← hk]; exact HG.out)); clear hd hgr) | (go_at_call 28; (with_reducible refine (HGX.out _).mono ?_); rintro e w6 ⟨Al, cl, rfl, ho, hb⟩; have hsz6 := (bytes_below (Below.refl _ w5) (Nat.le_refl _) 5 s1).size; have hb6 := below_then (bytes_below (Below.refl _ w5) (Nat.le_refl _) 5 s1) hsz6 hb; have HB6 := Lib.hid (below_step HB5.out hb6); have HD6 := Lib.hid (HD5.out.below hb6); have HO6 := Lib.hid (Kd.S_elder' HO5.out (Kd.R_base (Kd.R_lower ho hsz6)) hb6); have HL6 := Lib.hid (Kd.R_lower ho (Nat.le_trans HD5.out.lt hsz6)); clear ho hb hb6 hsz6))
        obtain ⟨W, hW⟩ : ∃ W, W = w6.alloc (.cells (entC z Al cl) 33) := ⟨_, rfl⟩
        rw [← hW]
        have hbW : Below w6.heap.size w6 W := by rw [hW]; exact below_alloc (Below.refl _ _) _
        have HEW : Hid (Ent W w6.heap.size z Al cl) := Lib.hid (by rw [hW]; exact Ent.new (Kd.R_reads' HL6.out).2.2)
        have HDW := Lib.hid (HD6.out.below hbW)
        have HBW := Lib.hid (below_step HB6.out hbW)
        have HO7 := Lib.hid (Kd.S_below HO6.out hbW)
        have HLL : Hid (Kd.R k112 112 W (g + 1) (fun k => True ∧ some k ≠ (.slice Ao ls.length co : Value).ownBlock) (.slice Al z.f2.length cl) z.f2) := Lib.hid (Kd.R_mono (Kd.R_apart' (Kd.R_below HL6.out hbW) (Kd.S_typed HO7.out) (by decide)) (fun k hk => ⟨trivial, hk.2⟩))
        clear hW hbW
        generalize w6.heap.size = E at *
        obtain ⟨q0, q1, q2, q3⟩ := HEW.out.cell
        go_wp2_with ((with_reducible refine gate_builtin (b := .append) (xs := #[.tmp 32, .tmp 34]) rfl ?_); at_builtin; refine Kd.S_append k33 (w0 := W) (W := W) (g + 1) rfl (.tmp 32) (.tmp 34) 22 33 (.agg #[(.int .i64 0), (.int .i64 0), (.slice none 0 0), (.string ⟨#[]⟩)]) 56 rfl Tryd.underlying22 info33 rfl (by decide) (by omega) (.slice Ao ls.length co) ls z [.int .i64 z.f0, .int .i64 z.f1, .slice Al z.f2.length cl, .string z.f3] (fun _ => True) (fun k_ => some k_ = (.slice Al z.f2.length cl : Value).ownBlock) rfl rfl ?aP (fun k hk => HLL.out.1 k hk.symm) (fun _ _ => trivial) ?aO (Below.refl _ _) ?aS ?aL ?_; (case aP => exact k33_mkM _ _ _ z (Kd.R_mono (Kd.R_tight rfl HLL.out) (fun _ h_ => h_))); (case aO => exact Kd.S_mono HO7.out (fun k hk => ⟨trivial, fun e_ => hk.2 e_⟩)); (case aS => exact HDW.out.lt); (case aL => omega); intro v7 w7 ho7 hb7 hg7 hat7; have HO8 := Lib.hid ho7; have HD7 := Lib.hid (HDW.out.low hb7); have HB7 := Lib.hid (HBW.out.trans (hb7.mono (Nat.le_trans HG.out (Nat.le_succ g)))); clear ho7 hb7 hg7 hat7)
        go_roundw
        case rel => exact ⟨k + 1, _, by go_num, by omega, HE.out, HD7.out, HO8.out, HB7.out⟩
        case measure => simp [intOf]; omega
      · have HE : Hid (GB = ([], 21)) := Lib.hid (by rw [HGB.out, batS_none (by rw [HN.out, HBN.out, if_pos h0] : batS b1 e1 (k + 1) = none) (by omega)])
        have hne : (er != 0) = true := by simp [h0]
        clear h0 HN HBN
        go_wp2_with (first | (go_at_call 93; (with_reducible refine (HTX.out _ HD4.out).mono ?_); rintro e w5 ⟨rfl, hd, hgr⟩; have HD5 := Lib.hid hd; have HO5 := Lib.hid (ents_late HO4.out hgr); have HB5 := Lib.hid (pw_below_grown HB4.out (some g) HB4.out.size hgr (fun k hk => by injection hk with hk; rw [← hk]; exact HG.out)); clear hd hgr) | (go_at_call 28; (with_reducible refine (HGX.out _).mono ?_); rintro e w6 ⟨Al, cl, rfl, ho, hb⟩; have hsz6 := (bytes_below (Below.refl _ w5) (Nat.le_refl _) 5 s1).size; have hb6 := below_then (bytes_below (Below.refl _ w5) (Nat.le_refl _) 5 s1) hsz6 hb; have HB6 := Lib.hid (below_step HB5.out hb6); have HD6 := Lib.hid (HD5.out.below hb6); have HO6 := Lib.hid (Kd.S_elder' HO5.out (Kd.R_base (Kd.R_lower ho hsz6)) hb6); have HL6 := Lib.hid (Kd.R_lower ho (Nat.le_trans HD5.out.lt hsz6)); clear ho hb hb6 hsz6))
        go_ret2
        exact ⟨_, by rw [HE.out]; rfl, by rw [HE.out]; exact Kd.S_nil _ _ _ _ _, below_alloc HB6.out _⟩
    · have hkm : k = m := by omega
      subst hkm
      rw [HS.out] at HGB
      simp only at HGB
      have HDO := Lib.hid (rdone_any g b2 e2 wr hd)
      have HRI := Lib.hid (fun W (hbb : Below wr.heap.size wr W) => rbatch_any Ao co ls W (Kd.C_below (Kd.S_reads' ho).2.2 hbb) (sze_mem HSA.out))
      have HO := Lib.hid (Kd.S_lower ho (Nat.le_trans HG.out (Nat.le_succ g)))
      have HBW := Lib.hid hb
      have HKN : Hid (decide ((k : Int) < n) = false ∨ (decide ((k : Int) < n) = true ∧ decide ((k : Int) ≤ 16) = false)) := Lib.hid (by
        rcases HMN.out with h | h
        · exact .inl (decide_eq_false (by omega))
        · exact .inr ⟨decide_eq_true (by omega), decide_eq_false (by omega)⟩)
      clear hd ho hb hll HS HSA hlt
      generalize doneG b2 e2 = dn at *
      by_cases h0 : dn = 0
      · subst h0
        cases hR : batchB ls with
        | true =>
          have HE : Hid (GB = (ls, 0)) := Lib.hid (by rw [HGB.out, if_neg (by simp [hR])])
          rw [hR] at HRI
          clear hR HGB
          rcases HKN.out with hkn | ⟨hkn, hk16⟩
          all_goals
            go_wp2_with (first | (go_at_call 94; (with_reducible refine (HDO.out).mono ?_); rintro e w5 ⟨rfl, n5, rfl⟩; have hbn := pw_below_drewN (Below.refl wr.heap.size wr) n5) | (go_at_call 106; (with_reducible refine (HRI.out _ hbn).mono ?_); rintro e w6 ⟨rfl, hb6⟩; have HB6 := Lib.hid (below_step (below_step HBW.out hbn) hb6); have HO6 := Lib.hid (Kd.S_below (Kd.S_below HO.out hbn) hb6); clear hb6))
            go_ret2
            exact ⟨_, by rw [HE.out]; rfl, by rw [HE.out]; exact HO6.out, HB6.out⟩
        | false =>
          have HE : Hid (GB = ([], 21)) := Lib.hid (by rw [HGB.out, if_pos (.inr hR)])
          rw [hR] at HRI
          clear hR HGB
          rcases HKN.out with hkn | ⟨hkn, hk16⟩
          all_goals
            go_wp2_with (first | (go_at_call 94; (with_reducible refine (HDO.out).mono ?_); rintro e w5 ⟨rfl, n5, rfl⟩; have hbn := pw_below_drewN (Below.refl wr.heap.size wr) n5) | (go_at_call 106; (with_reducible refine (HRI.out _ hbn).mono ?_); rintro e w6 ⟨rfl, hb6⟩; have HB6 := Lib.hid (below_step (below_step HBW.out hbn) hb6); clear hb6))
            go_ret2
            exact ⟨_, by rw [HE.out]; rfl, by rw [HE.out]; exact Kd.S_nil _ _ _ _ _, HB6.out⟩
      · have HE : Hid (GB = ([], 21)) := Lib.hid (by rw [HGB.out, if_pos (.inl h0)])
        have hne : (dn != 0) = true := by simp [h0]
        clear h0 HGB
        rcases HKN.out with hkn | ⟨hkn, hk16⟩
        all_goals
          go_wp2_with (go_at_call 94; (with_reducible refine (HDO.out).mono ?_); rintro e w5 ⟨rfl, n5, rfl⟩; have hbn := pw_below_drewN (Below.refl wr.heap.size wr) n5)
          go_ret2
          exact ⟨_, by rw [HE.out]; rfl, by rw [HE.out]; exact Kd.S_nil _ _ _ _ _, below_step HBW.out hbn⟩
end Go.Proofs.YtojocffjajcdmaaDoor
namespace Go.Proofs.YtojocffjajcdmaaDoor
open Go.RowKit Go.Proofs.YtojocffjajcdmaaDoorW.PrintWords Go.Proofs.YtojocffjajcdmaaDoorW.PrintLast Go.Proofs.YtojocffjajcdmaaDoorW.PrintMore PChunkAll
set_option linter.unusedVariables false
set_option linter.unusedSimpArgs false

/-! ### Equal lists are the same -/
def LenE (l : List S33) : Prop := ∀ k, k < l.length → (l.getD k z33).f2.length < 4398046511104
def SaRel (l : List S33) (w : World) (v5 : Value) (wr : World) : Prop := ∃ k : Nat, v5 = .int .i64 k ∧ k ≤ l.length ∧ Below w.heap.size w wr

set_option maxHeartbeats 4000000 in
theorem sames_any (A B : Option Addr) (c d : Nat) (l : List S33) (w : World) (hA : Kd.C k33 w A l.length l) (hB : Kd.C k33 w B l.length l) (hl : LenE l) : Calls Tryd.prog 38 #[.slice A l.length c, .slice B l.length d] w (BoolBelow true w) := by
  have hmax := Kd.C_max hA
  have HA := Lib.hid hA
  have HB := Lib.hid hB
  have HL := Lib.hid hl
  clear hA hB hl
  go_enter Tryd.func38, Tryd.ntmps38
  go_wp2
  go_loopw [5] (fun v5 wr => SaRel l w v5 wr) (fun v5 _ => l.length - (intOf v5).toNat)
  case atStart => exact ⟨0, rfl, Nat.zero_le _, Below.refl _ _⟩
  case round =>
    obtain ⟨k, rfl, hk, hb⟩ := hrel
    by_cases hlt : k < l.length
    · have hki : (k : Int) < (l.length : Int) := by omega
      obtain ⟨b, o, rfl, hx⟩ := ents_at HA.out (by omega)
      obtain ⟨b', o', rfl, hy⟩ := ents_at HB.out (by omega)
      obtain ⟨A1, c1, p0, p1, p2, p3, p4, p5⟩ := (hx k hlt).below hb
      obtain ⟨A2, c2, q0, q1, q2, q3, q4, q5⟩ := (hy k hlt).below hb
      have HS := Lib.hid (fun W' (hb' : Below wr.heap.size wr W') => same_any (l.getD k z33) A1 A2 c1 c2 W' (Kd.C_below p5 hb') p4 (Kd.C_below q5 hb') q4 (HL.out k hlt))
      clear hx hy p4 p5 q4 q5
      generalize l.getD k z33 = x at *
      go_wp2_with fail
      have HBW := Lib.hid hb
      clear hb
      have P0 := fun d os => cell_regrown p0 d os
      have P1 := fun d os => cell_regrown p1 d os
      have P2 := fun d os => cell_regrown p2 d os
      have P3 := fun d os => cell_regrown p3 d os
      have Q0 := fun d os => cell_regrown q0 d os
      have Q1 := fun d os => cell_regrown q1 d os
      have Q2 := fun d os => cell_regrown q2 d os
      have Q3 := fun d os => cell_regrown q3 d os
      have cN := fun d os => Calls.regrown_of (HS.out (Go.Sort.grow (redrawn wr d) os) (below_regrown wr d os))
      refine wp_region_quiet_below (by kernel_rfl) (by kernel_rfl) ?_
      repeat (first | go_big_quiet_step ((exact cN _ _)) | quiet_step ((exact cN _ _)))
      refine wpQuiet_nil ?_
      intro _ hw'
      obtain ⟨⟨dq, osq⟩, hw''⟩ := hw'
      subst hw''
      go_wp2_with fail
      go_roundw
      case rel => exact ⟨k + 1, by go_num, by omega, HBW.out.trans ((below_regrown wr dq osq).mono HBW.out.size)⟩
      case measure => simp [intOf]; omega
    · have hki : ¬ (k : Int) < (l.length : Int) := by omega
      have HBW := Lib.hid hb
      clear hb
      go_wp2
      go_ret
      exact ⟨rfl, HBW.out⟩
theorem getB_len (bs : List Int) : LenE (getB bs).1 := by
  have h0 : LenE ([] : List S33) := fun k hk => absurd hk (Nat.not_lt_zero _)
  unfold getB
  split
  · exact h0
  · rename_i s hs
    split
    · exact h0
    · intro k hk
      have e : s.1.getD k z33 = s.1[k] := by simp [show k < s.1.length from hk]
      obtain ⟨b, hb⟩ := batS_all hs _ (List.getElem_mem hk)
      show (s.1.getD k z33).f2.length < _
      rw [e, hb]
      exact getE_len b

/-! ### RecordBatches -/
set_option maxHeartbeats 16000000 in
set_option maxRecDepth 100000 in
theorem batches_any (A : Option Addr) (c : Nat) (l : List S33) (B : Option Addr) (cb : Nat) (bs : List Int) (w : World) (hT : Tabs w) (hx : Kd.C k33 w A l.length l) (hc : l.length ≤ c) (hE : EntsOk l) (hsz : SzE l)
    (hb : Kd.C KB w B bs.length bs) (hbl : bs.length + 2 ≤ 140737488355328) (hB : Byt bs) : Calls Tryd.prog 8 #[.slice A l.length c, .slice B bs.length cb] w (LawRes w) := by
  have HT0 := Lib.hid hT
  have HX0 := Lib.hid hx
  have HC0 := Lib.hid hb
  have HLE := Lib.hid (fun W (h : Kd.C KB W B bs.length bs) => lent_any B cb bs W h hbl)
  have HAL := Lib.hid (fun W (h : Kd.C k33 W A l.length l) => all_any A c l W h hc hE)
  have HPU := Lib.hid (fun A' c' W (h1 : Tabs W) (h2 : Kd.C k33 W A' l.length l) => putB_any A' c' l W h1 h2 hE.2.1)
  have HRP := Lib.hid (fun W (h2 : Kd.C k33 W A l.length l) => rputB_any A c l W h2 hsz)
  have HGE := Lib.hid (fun A' c' W (h1 : Tabs W) (h2 : Kd.C KB W A' bs.length bs) => getB_any A' c' bs W h1 h2 (by omega) hB)
  have HRG := Lib.hid (fun W (h2 : Kd.C KB W B bs.length bs) => rgetB_any B cb bs W h2 (by omega) hB)
  have HS1 := Lib.hid (fun A1 B1 c1 d1 W (h1 : Kd.C k33 W A1 (getB bs).1.length (getB bs).1) (h3 : Kd.C k33 W B1 (getB bs).1.length (getB bs).1) => sames_any A1 B1 c1 d1 (getB bs).1 W h1 h3 (getB_len bs))
  have HS2 := Lib.hid (fun A1 c1 W (h1 : Kd.C k33 W A1 l.length l) (h3 : Kd.C k33 W A l.length l) => sames_any A1 A c1 c l W h1 h3 hE.2.2)
  have HST := Lib.hid (fun A' c' W (h1 : Kd.C KB W A' (bs ++ [77, 78]).length (bs ++ [77, 78])) (h2 : bs.length + 2 ≤ c') (h3 : Kd.C KB W B bs.length bs) => stays_any A' B c' cb bs W h1 h2 h3 hbl)
  unfold PutRes at HPU HRP
  clear hT hx hc hE hsz hb hbl hB
  generalize (putB l).1 = P1 at *
  generalize (putB l).2 = P2 at *
  generalize (getB bs).2 = er at *
  generalize (getB bs).1 = z at *
  go_enter Tryd.func8, Tryd.ntmps8
  go_wp2_with (first
    | (go_at_call 25; (with_reducible refine (HLE.out _ HC0.out).mono ?_); rintro e w1 ⟨A1, c1, rfl, ho, hb⟩; have HL1 := Lib.hid (Kd.R_reads' ho).2; have HB1 := Lib.hid hb; have HT1 := Lib.hid (HT0.out.below hb); have HC1 := Lib.hid (Kd.C_below HC0.out hb); have HX1 := Lib.hid (Kd.C_below HX0.out hb); clear ho hb)
    | (go_at_call 19; (with_reducible refine (HAL.out _ HX1.out).mono ?_); rintro e w2 ⟨A2, c2, rfl, hc2, hC2, hb⟩; have HY2 := Lib.hid hC2; have HB2 := Lib.hid (below_step HB1.out hb); have HT2 := Lib.hid (HT1.out.below hb); have HC2 := Lib.hid (Kd.C_below HC1.out hb); have HX2 := Lib.hid (Kd.C_below HX1.out hb); have HL2 := Lib.hid (Kd.C_below HL1.out.2 hb); clear hc2 hC2 hb)
    | (go_at_call 18; (with_reducible refine (HPU.out _ _ _ HT2.out HY2.out).mono ?_); rintro e w3 ⟨v3, rfl, ho, hb⟩; obtain ⟨A3, c3, h3⟩ := Kd.R_slice ho; subst h3; have HP3 := Lib.hid (Kd.R_reads' ho).2.2; have HY3 := Lib.hid (Kd.C_below HY2.out hb); have HB3 := Lib.hid (below_step HB2.out hb); have HT3 := Lib.hid (HT2.out.below hb); have HC3 := Lib.hid (Kd.C_below HC2.out hb); have HX3 := Lib.hid (Kd.C_below HX2.out hb); have HL3 := Lib.hid (Kd.C_below HL2.out hb); clear ho hb)
    | (go_at_call 46; (with_reducible refine (HRP.out _ HX3.out).mono ?_); rintro e w4 ⟨v4, rfl, ho, hb⟩; obtain ⟨A4, c4, h4⟩ := Kd.R_slice ho; subst h4; have HQ4 := Lib.hid (Kd.R_reads' ho).2.2; have HP4 := Lib.hid (Kd.C_below HP3.out hb); have HY4 := Lib.hid (Kd.C_below HY3.out hb); have HB4 := Lib.hid (below_step HB3.out hb); have HT4 := Lib.hid (HT3.out.below hb); have HC4 := Lib.hid (Kd.C_below HC3.out hb); have HX4 := Lib.hid (Kd.C_below HX3.out hb); have HL4 := Lib.hid (Kd.C_below HL3.out hb); have HLT := Lib.hid (by have h := take_C (u := bs.length) HL4.out (by simp); rwa [show (bs ++ [(77 : Int), 78]).take bs.length = bs by simp] at h : Kd.C KB w4 A1 bs.length bs); clear ho hb)
    | (go_at_call 47; (with_reducible refine (HGE.out _ _ _ HT4.out HLT.out).mono ?_); rintro e w5 ⟨v5, rfl, ho, hb⟩; obtain ⟨A5, c5, h5⟩ := Kd.S_slice ho; subst h5; have HZ5 := Lib.hid (Kd.S_reads' ho).2.2; have HQ5 := Lib.hid (Kd.C_below HQ4.out hb); have HP5 := Lib.hid (Kd.C_below HP4.out hb); have HY5 := Lib.hid (Kd.C_below HY4.out hb); have HB5 := Lib.hid (below_step HB4.out hb); have HT5 := Lib.hid (HT4.out.below hb); have HC5 := Lib.hid (Kd.C_below HC4.out hb); have HX5 := Lib.hid (Kd.C_below HX4.out hb); have HL5 := Lib.hid (Kd.C_below HL4.out hb); clear ho hb)
    | (go_at_call 48; (with_reducible refine (HRG.out _ HC5.out).mono ?_); rintro e W ⟨v6, rfl, ho, hb⟩; obtain ⟨A6, c6, h6⟩ := Kd.S_slice ho; subst h6; have HU := Lib.hid (Kd.S_reads' ho).2.2; have HZ := Lib.hid (Kd.C_below HZ5.out hb); have HQ := Lib.hid (Kd.C_below HQ5.out hb); have HP := Lib.hid (Kd.C_below HP5.out hb); have HY := Lib.hid (Kd.C_below HY5.out hb); have HBW := Lib.hid (below_step HB5.out hb); have HTW := Lib.hid (HT5.out.below hb); have HBS := Lib.hid (Kd.C_below HC5.out hb); have HX := Lib.hid (Kd.C_below HX5.out hb); have HL := Lib.hid (Kd.C_below HL5.out hb); have hcv1 := Kd.C_string (P := Tryd.prog) (A := A3) (c := c3) Tryd.underlying23 Tryd.underlying5 Tryd.underlying9 HP.out; have hcv2 := Kd.C_string (P := Tryd.prog) (A := A4) (c := c4) Tryd.underlying23 Tryd.underlying5 Tryd.underlying9 HQ.out; clear ho hb)
    | (go_at_call 20; (with_reducible refine (num_any _ _).mono ?_); rintro e wn ⟨rfl, rfl⟩)
    | (go_at_call 38; (with_reducible refine (HS1.out A5 A6 c5 c6 W HZ.out HU.out).mono ?_); rintro e w7 ⟨rfl, hb⟩; have HB7 := Lib.hid (below_step HBW.out hb); have HT7 := Lib.hid (HTW.out.below hb); have HY7 := Lib.hid (Kd.C_below HY.out hb); have HX7 := Lib.hid (Kd.C_below HX.out hb); have HL7 := Lib.hid (Kd.C_below HL.out hb); have HBS7 := Lib.hid (Kd.C_below HBS.out hb); clear hb hcv1 hcv2)
    | (go_at_call 38; (with_reducible refine (HS2.out A2 c2 w7 HY7.out HX7.out).mono ?_); rintro e w8 ⟨rfl, hb⟩; have HB8 := Lib.hid (below_step HB7.out hb); have HT8 := Lib.hid (HT7.out.below hb); have HL8 := Lib.hid (Kd.C_below HL7.out hb); have HBS8 := Lib.hid (Kd.C_below HBS7.out hb); clear hb)
    | (go_at_call 33; (with_reducible refine (HST.out A1 c1 w8 HL8.out HL1.out.1 HBS8.out).mono ?_); rintro e w9 ⟨rfl, n9, rfl⟩; have hb := pw_below_drewN (Below.refl w8.heap.size w8) n9; have HB9 := Lib.hid (below_step HB8.out hb); have HT9 := Lib.hid (HT8.out.below hb); clear hb)
    | (go_at_call 21; (with_reducible refine (knows_any _ HT9.out).mono ?_); rintro e w10 ⟨rfl, hb⟩; have HB10 := Lib.hid (below_step HB9.out hb); clear hb))
  go_ret
  exact ⟨rfl, HB10.out⟩
end Go.Proofs.YtojocffjajcdmaaDoor
namespace Go.Proofs.YtojocffjajcdmaaDoor
open Go.ChangeShapes Go.WideShapes Go.ChangeAt Go.RowKit Go.Proofs.YtojocffjajcdmaaDoorW.PrintWords Go.Proofs.YtojocffjajcdmaaDoorW.PrintLast Go.Proofs.YtojocffjajcdmaaDoorW.PrintMore PChunkAll
set_option linter.unusedVariables false
set_option linter.unusedSimpArgs false

section
variable {H : Type} {enc : TypeId × Value → H} {w : World} {held : Bool}
/-- An entry read, with its names' sizes. -/
theorem open_entS {n : Nat} {cs : List Value} {x : DataW H × List MemPlace} (h : DataW.trod enc Tryd.prog w 0 (fun _ => true) held n 33 cs = some x) (hz : ∀ k ∈ x.1.weights Tryd.prog 33, k ≤ reachBytes) :
    ∃ e : S33, (k33.K w e cs) ∧ (-9223372036854775808 ≤ e.f0 ∧ e.f0 ≤ 9223372036854775807) ∧ e.f2.length * 32 ≤ reachBytes ∧ SzOk e.f2 := by
  obtain ⟨y0, y1, y2, y3, m, rfl, hl, h0, h1, h2, h3⟩ := Joins.trod_struct4 Tryd.underlying33 h
  rw [cells33] at hl
  obtain ⟨c0, c1, c2, c3, rfl⟩ := list4 hl
  · simp only [cells9, cells3, cells31, List.drop_zero, List.take_succ_cons, List.take_zero, List.drop_succ_cons] at h0 h1 h2 h3
    obtain ⟨s, e0, _, w0⟩ := DataW.trod_int Tryd.underlying3 h0
    obtain ⟨t, e1, _, w1⟩ := DataW.trod_int Tryd.underlying3 h1
    obtain ⟨z, e3, _, _⟩ := DataW.trod_string Tryd.underlying9 h3
    obtain ⟨A, c, ls, rfl, hr, hlen, hb, hs⟩ := open_labelsS h2 (fun k hk => hz k (by
      simp only [DataW.weights, Tryd.underlying33]
      exact DataW.weights_mem_each (j := 2) rfl rfl k hk))
    simp at e0 e1 e3
    subst e0; subst e1; subst e3
    exact ⟨⟨s, t, ls, z⟩, k33_mk w ⟨s, t, ls, z⟩ hlen hr, by have hw := w0; simp [Lit.wf] at hw; have hm : IntKind.i64.min = -9223372036854775808 := rfl; rw [hm] at hw; exact hw, by simp; omega, hs⟩

/-- A row of entries read, with the names' sizes. -/
theorem open_entsS {n : Nat} {v : Value} {x : DataW H × List MemPlace} (h : DataW.trod enc Tryd.prog w 0 (fun _ => true) held n 22 [v] = some x) (hz : ∀ k ∈ x.1.weights Tryd.prog 22, k ≤ reachBytes) :
    ∃ (A : Option Addr) (c : Nat) (l : List S33), v = .slice A l.length c ∧ Kd.C k33 w A l.length l ∧ l.length ≤ c ∧ EntsOk l ∧ SzE l := by
  rcases Deep.open_slice Tryd.underlying22 h with ⟨hcs, hx⟩ | ⟨a, len, cap, m, n', D, Pl, hcs, _, hl, hm, hmm, rfl, hel⟩
  · injection hcs with hcs
    subst hcs
    exact ⟨none, 0, [], rfl, C_nil _ _, Nat.le_refl _, ⟨by simp, fun k hk => by simp at hk, fun k hk => by simp at hk⟩, fun k hk => by simp at hk⟩
  · injection hcs with hcs
    subst hcs
    simp only [if_true] at hmm
    subst hmm
    rw [cells33] at hel
    have hent : ∀ i, i < len → ∃ e : S33, (∃ cs base, w.cells? base (a.add (i * 4)) 4 = some cs ∧ k33.K w e cs) ∧ (-9223372036854775808 ≤ e.f0 ∧ e.f0 ≤ 9223372036854775807) ∧ e.f2.length * 32 ≤ reachBytes ∧ SzOk e.f2 := by
      intro i hi
      obtain ⟨cs', h1, h2⟩ := hel i (by omega)
      obtain ⟨e, hK, hs, hlb, hsz⟩ := open_entS h2 (fun k hk => hz k (by
        simp only [DataW.weights, Tryd.underlying22, List.mem_cons, List.mem_append]
        exact .inr (.inl (weights_all (d := D i) (List.mem_map_of_mem (List.mem_range.2 hi)) k hk))))
      exact ⟨e, ⟨_, _, h1, hK⟩, hs, hlb, hsz⟩
    have : Inhabited S33 := ⟨z33⟩
    obtain ⟨f, hf⟩ := Deep.choose_lt hent
    have hbytes : m * 56 ≤ reachBytes := by
      have := hz (m * 56) (by
        simp only [DataW.weights, Tryd.underlying22, List.mem_cons, bytes33, List.length_map, List.length_range]
        left; omega)
      exact this
    have hr := reachBytes_lt
    have hre : reachBytes = 140737488351232 := rfl
    have hget : ∀ k, k < len → ((List.range len).map f).getD k z33 = f k := fun k hk => by simp [hk]
    refine ⟨some a, m, (List.range len).map f, by simp, ?_, by simp; omega, ⟨by simp; omega, fun k hk => ?_, fun k hk => ?_⟩, fun k hk => ?_⟩
    · have := row_C k33 w a len 4 f rfl (by omega) (by decide) (fun i hi => (hf i hi).1)
      simpa using this
    · have hk' : k < len := by simpa using hk
      rw [hget k hk']
      exact (hf k hk').2.1
    · have hk' : k < len := by simpa using hk
      rw [hget k hk']
      have := (hf k hk').2.2.1
      omega
    · have hk' : k < len := by simpa using hk
      rw [hget k hk']
      exact (hf k hk').2.2.2
end
end Go.Proofs.YtojocffjajcdmaaDoor
