import Derived.Test.YtjfggmkfnofldaaC4
namespace Go.Proofs.Ytjfggmkfnofldaa
set_option linter.unusedVariables false

/-! ### the document's merge: head by head -/
def hdE (l : List Ent) : Ent := l.headD default
def rowAt (rows : List (List Ent)) (i : Nat) : List Ent := rows.getD i []
/-- The best row among the first k. -/
def bestTo (nw : Bool) (rows : List (List Ent)) : Nat → Option Nat
  | 0 => none
  | k + 1 => if (rowAt rows k).length = 0 then bestTo nw rows k else
    match bestTo nw rows k with
    | none => some k
    | some b => if entFirst nw (hdE (rowAt rows k)) (hdE (rowAt rows b)) then some k else some b
def isBest (nw : Bool) (rows : List (List Ent)) (k : Nat) (r : Option Nat) : Prop :=
  match r with
  | none => ∀ i, i < k → (rowAt rows i).length = 0
  | some b => b < k ∧ (rowAt rows b).length ≠ 0 ∧ (∀ i, i < k → (rowAt rows i).length ≠ 0 → ¬ ahead nw (hdE (rowAt rows i)) (hdE (rowAt rows b))) ∧ (∀ i, i < b → (rowAt rows i).length ≠ 0 → ahead nw (hdE (rowAt rows b)) (hdE (rowAt rows i)))
theorem ahead_asymm (nw : Bool) (a b : Ent) (h : ahead nw a b) : ¬ ahead nw b a := by
  unfold ahead at *; cases nw <;> simp at * <;> omega
theorem ahead_irrefl (nw : Bool) (a : Ent) : ¬ ahead nw a a := fun h => ahead_asymm nw a a h h
/-- a ahead of b, c not ahead of .. -/
theorem ahead_of (nw : Bool) (a b c : Ent) (h : ahead nw a b) (h2 : ¬ ahead nw c b) : ahead nw a c := by
  unfold ahead at *; cases nw <;> simp at * <;> omega
theorem nahead_trans (nw : Bool) (a b c : Ent) (h : ¬ ahead nw a b) (h2 : ¬ ahead nw b c) : ¬ ahead nw a c := by
  unfold ahead at *; cases nw <;> simp at * <;> omega
theorem bestTo_spec (nw : Bool) (rows : List (List Ent)) (k : Nat) : isBest nw rows k (bestTo nw rows k) := by
  induction k with
  | zero => intro i h; omega
  | succ k ih =>
    rw [bestTo]
    by_cases h0 : (rowAt rows k).length = 0
    · rw [if_pos h0]
      cases hb : bestTo nw rows k with
      | none =>
        rw [hb] at ih
        intro i hi
        rcases Nat.lt_or_ge i k with h | h
        · exact ih i h
        · obtain rfl : i = k := by omega
          exact h0
      | some b =>
        rw [hb] at ih
        obtain ⟨h1, h2, h3, h4⟩ := ih
        refine ⟨by omega, h2, fun i hi hne => ?_, h4⟩
        rcases Nat.lt_or_ge i k with h | h
        · exact h3 i h hne
        · obtain rfl : i = k := by omega
          exact absurd h0 hne
    · rw [if_neg h0]
      cases hb : bestTo nw rows k with
      | none =>
        rw [hb] at ih
        refine ⟨by omega, h0, fun i hi hne => ?_, fun i hi hne => absurd (ih i hi) hne⟩
        rcases Nat.lt_or_ge i k with h | h
        · exact absurd (ih i h) hne
        · obtain rfl : i = k := by omega
          exact ahead_irrefl _ _
      | some b =>
        rw [hb] at ih
        obtain ⟨h1, h2, h3, h4⟩ := ih
        simp only
        split
        · rename_i hf
          have hf := (first_iff nw _ _).1 hf
          refine ⟨by omega, h0, fun i hi hne => ?_, fun i hi hne => ?_⟩
          · rcases Nat.lt_or_ge i k with h | h
            · exact nahead_trans nw _ _ _ (h3 i h hne) (ahead_asymm _ _ _ hf)
            · obtain rfl : i = k := by omega
              exact ahead_irrefl _ _
          · exact ahead_of nw _ _ _ hf (h3 i hi hne)
        · rename_i hf
          have hf : ¬ ahead nw (hdE (rowAt rows k)) (hdE (rowAt rows b)) := fun e => hf ((first_iff nw _ _).2 e)
          refine ⟨by omega, h2, fun i hi hne => ?_, h4⟩
          rcases Nat.lt_or_ge i k with h | h
          · exact h3 i h hne
          · obtain rfl : i = k := by omega
            exact hf

/-- The rows that hold something, with their numbers. -/
def fullR (k : Int) : List (List Ent) → List (List Ent × Int)
  | [] => []
  | r :: l => if r.length = 0 then fullR (k + 1) l else (r, k) :: fullR (k + 1) l
theorem full_eq (rs : List Raw) : ∀ k, full k rs = fullR k (rs.map Raw.es) := by
  induction rs with
  | nil => intro k; rfl
  | cons a l ih => intro k; simp only [full, fullR, List.map_cons, ih]
theorem mem_fullR (rows : List (List Ent)) : ∀ (k : Int) (p : List Ent × Int), p ∈ fullR k rows ↔ ∃ i : Nat, i < rows.length ∧ rowAt rows i = p.1 ∧ p.1.length ≠ 0 ∧ p.2 = k + i := by
  induction rows with
  | nil => intro k p; simp [fullR]
  | cons a l ih =>
    intro k p
    have key : (∃ i : Nat, i < (a :: l).length ∧ rowAt (a :: l) i = p.1 ∧ p.1.length ≠ 0 ∧ p.2 = k + i) ↔ (a = p.1 ∧ p.1.length ≠ 0 ∧ p.2 = k) ∨ ∃ i : Nat, i < l.length ∧ rowAt l i = p.1 ∧ p.1.length ≠ 0 ∧ p.2 = k + 1 + i := by
      constructor
      · rintro ⟨i, h1, h2, h3, h4⟩
        cases i with
        | zero => exact .inl ⟨by simpa [rowAt] using h2, h3, by simpa using h4⟩
        | succ i => exact .inr ⟨i, by simpa using h1, by simpa [rowAt] using h2, h3, by push_cast at h4; omega⟩
      · rintro (⟨h1, h2, h3⟩ | ⟨i, h1, h2, h3, h4⟩)
        · exact ⟨0, by simp, by simpa [rowAt] using h1, h2, by simpa using h3⟩
        · exact ⟨i + 1, by simpa using h1, by simpa [rowAt] using h2, h3, by push_cast; omega⟩
    rw [key]
    unfold fullR
    by_cases h0 : a.length = 0
    · rw [if_pos h0, ih]
      constructor
      · exact .inr
      · rintro (⟨rfl, h2, _⟩ | h)
        · exact absurd h0 h2
        · exact h
    · rw [if_neg h0, List.mem_cons, ih]
      constructor
      · rintro (rfl | h)
        · exact .inl ⟨rfl, h0, rfl⟩
        · exact .inr h
      · rintro (⟨h1, h2, h3⟩ | h)
        · exact .inl (by cases p; simp_all)
        · exact .inr h
theorem fullR_set (rows : List (List Ent)) : ∀ (k : Int) (b : Nat), b < rows.length → (rowAt rows b).length ≠ 0 →
    (fullR k rows).Perm ((rowAt rows b, k + b) :: fullR k (rows.set b [])) ∧ ∀ r : List Ent, (fullR k (rows.set b r)).Perm ((if r.length = 0 then [] else [(r, k + b)]) ++ fullR k (rows.set b [])) := by
  induction rows with
  | nil => intro k b h; simp at h
  | cons a l ih =>
    intro k b hb hne
    cases b with
    | zero =>
      have h0 : a.length ≠ 0 := by simpa [rowAt] using hne
      constructor
      · simp [fullR, rowAt]
        rw [if_neg (by simpa using h0)]
      · intro r
        simp only [List.set_cons_zero, fullR]
        by_cases hr : r.length = 0 <;> simp [hr]
    | succ b =>
      have hb' : b < l.length := by simpa using hb
      have hne' : (rowAt l b).length ≠ 0 := by simpa [rowAt] using hne
      obtain ⟨h1, h2⟩ := ih (k + 1) b hb' hne'
      have e : k + 1 + (b : Int) = k + ((b + 1 : Nat) : Int) := by push_cast; omega
      rw [e] at h1 h2
      have er : rowAt (a :: l) (b + 1) = rowAt l b := by simp [rowAt]
      constructor
      · rw [er]
        simp only [List.set_cons_succ, fullR]
        by_cases h0 : a.length = 0
        · rw [if_pos h0, if_pos h0]; exact h1
        · rw [if_neg h0, if_neg h0]
          exact (h1.cons _).trans (List.Perm.swap _ _ _)
      · intro r
        simp only [List.set_cons_succ, fullR]
        by_cases h0 : a.length = 0
        · rw [if_pos h0, if_pos h0]; exact h2 r
        · rw [if_neg h0, if_neg h0]
          exact ((h2 r).cons _).trans (List.perm_middle.symm)

def rnextF (nw : Bool) : Nat → List (List Ent) → List Int → Int → Option Ent × List (List Ent) × List Int × Int
  | 0, rows, seen, sk => (none, rows, seen, sk)
  | f + 1, rows, seen, sk =>
    match bestTo nw rows rows.length with
    | none => (none, rows, seen, sk)
    | some b =>
      if (hdE (rowAt rows b)).s ∈ seen then rnextF nw f (rows.set b (rowAt rows b).tail) seen (sk + 1)
      else (some (hdE (rowAt rows b)), rows.set b (rowAt rows b).tail, (hdE (rowAt rows b)).s :: seen, sk)
def Sim (nw : Bool) (xs : List It) (rows : List (List Ent)) : Prop := HeapFrom nw xs xs.length 0 ∧ (xs.map itPair).Perm (fullR 0 rows)

theorem sim_empty {nw : Bool} {xs : List It} {rows : List (List Ent)} (h : Sim nw xs rows) : xs.length = 0 ↔ bestTo nw rows rows.length = none := by
  have hs := bestTo_spec nw rows rows.length
  constructor
  · intro h0
    cases hb : bestTo nw rows rows.length with
    | none => rfl
    | some b =>
      rw [hb] at hs
      have hm : (rowAt rows b, (0 : Int) + b) ∈ fullR 0 rows := (mem_fullR _ _ _).2 ⟨b, hs.1, rfl, hs.2.1, rfl⟩
      have := h.2.symm.subset hm
      rw [List.eq_nil_of_length_eq_zero h0] at this
      simp at this
  · intro hb
    rw [hb] at hs
    cases xs with
    | nil => rfl
    | cons x l =>
      have hm : itPair x ∈ fullR 0 rows := h.2.subset (by simp)
      obtain ⟨i, h1, h2, h3, _⟩ := (mem_fullR _ _ _).1 hm
      have := hs i h1
      rw [h2] at this
      exact absurd this h3
theorem sim_root {nw : Bool} {xs : List It} {rows : List (List Ent)} (h : Sim nw xs rows) {b : Nat} (hb : bestTo nw rows rows.length = some b) : 0 < xs.length ∧ itPair (getI xs 0) = (rowAt rows b, (b : Int)) := by
  have hp : 0 < xs.length := by
    rcases Nat.eq_zero_or_pos xs.length with h0 | h0
    · rw [(sim_empty h).1 h0] at hb; cases hb
    · exact h0
  have hs := bestTo_spec nw rows rows.length
  rw [hb] at hs
  obtain ⟨h1, h2, h3, h4⟩ := hs
  have hr : getI xs 0 ∈ xs := by rw [getI_lt _ _ hp]; exact List.getElem_mem hp
  have hm : itPair (getI xs 0) ∈ fullR 0 rows := h.2.subset (List.mem_map_of_mem hr)
  obtain ⟨i, i1, i2, i3, i4⟩ := (mem_fullR _ _ _).1 hm
  refine ⟨hp, ?_⟩
  by_cases e : i = b
  · subst e
    refine Prod.ext ?_ ?_
    · exact i2.symm
    · rw [i4]; omega
  · exfalso
    have hbm : (rowAt rows b, (0 : Int) + b) ∈ fullR 0 rows := (mem_fullR _ _ _).2 ⟨b, h1, rfl, h2, rfl⟩
    obtain ⟨y, hy, hye⟩ := List.mem_map.1 (h.2.symm.subset hbm)
    obtain ⟨j, hj, hjy⟩ := List.getElem_of_mem hy
    have hle := heap_least nw xs xs.length h.1 j hj
    apply hle
    rw [getI_lt _ _ hj, hjy]
    have e1 : y.hd = hdE (rowAt rows b) := by have := congrArg Prod.fst hye; simp only [itPair] at this; rw [It.hd, this]; rfl
    have e2 : y.ix = b := by have := congrArg Prod.snd hye; simp only [itPair] at this; omega
    have e3 : (getI xs 0).hd = hdE (rowAt rows i) := by rw [It.hd, show (getI xs 0).es = rowAt rows i from i2.symm]; rfl
    have e4 : (getI xs 0).ix = i := by have : (itPair (getI xs 0)).2 = 0 + (i : Int) := i4; simp only [itPair] at this; omega
    have i3' : (rowAt rows i).length ≠ 0 := by rw [i2]; exact i3
    unfold lessP
    rw [e1, e2, e3, e4]
    rcases Nat.lt_or_gt_of_ne e with hlt | hgt
    · exact .inl (h4 i hlt i3')
    · exact .inr ⟨h3 i i1 i3', by omega⟩
theorem sim_step {nw : Bool} {xs : List It} {rows : List (List Ent)} (h : Sim nw xs rows) {b : Nat} (hb : bestTo nw rows rows.length = some b) :
    (stepL nw xs).1 = hdE (rowAt rows b) ∧ Sim nw (stepL nw xs).2 (rows.set b (rowAt rows b).tail) := by
  obtain ⟨hp, hroot⟩ := sim_root h hb
  have hs := bestTo_spec nw rows rows.length
  rw [hb] at hs
  obtain ⟨h1, h2, _, _⟩ := hs
  have hes : (getI xs 0).es = rowAt rows b := congrArg Prod.fst hroot
  have hix : (getI xs 0).ix = b := congrArg Prod.snd hroot
  have hpp := pop_perm nw xs hp
  have hph := popL_heap nw xs hp h.1
  have hpl := popL_length nw xs
  have hta := heap_take nw (popL nw xs) (xs.length - 1) hph
  have htl : ((popL nw xs).take (xs.length - 1)).length = xs.length - 1 := by rw [List.length_take]; omega
  obtain ⟨f1, f2⟩ := fullR_set rows 0 b h1 h2
  have hrest : (((popL nw xs).take (xs.length - 1)).map itPair).Perm (fullR 0 (rows.set b [])) := by
    have p1 := ((hpp.map itPair).trans h.2).trans f1
    rw [List.map_cons, hroot] at p1
    have e : (0 : Int) + (b : Int) = b := by omega
    rw [e] at p1
    exact (List.perm_cons _).1 p1
  have hst := step_eq nw xs _ hp rfl
  rw [hst]
  refine ⟨by simp only [It.hd, hes]; rfl, ?_⟩
  simp only
  by_cases hl : (getI xs 0).es.length ≤ 1
  · rw [if_pos hl]
    refine ⟨by rw [htl]; exact hta, hrest.trans ?_⟩
    have := (f2 (rowAt rows b).tail).symm
    rw [if_pos (by rw [List.length_tail, ← hes]; omega)] at this
    exact this
  · rw [if_neg hl]
    have hpu := push_heap nw ((popL nw xs).take (xs.length - 1)) (getI xs 0).next (by rw [htl]; exact hta)
    refine ⟨?_, ?_⟩
    · have : (pushL nw ((popL nw xs).take (xs.length - 1)) (getI xs 0).next).length = ((popL nw xs).take (xs.length - 1)).length + 1 := by rw [hpu.2.length_eq]; rfl
      rw [this]; exact hpu.1
    · have p2 := (hpu.2.map itPair).trans (hrest.cons (itPair (getI xs 0).next))
      have e2 : itPair (getI xs 0).next = ((rowAt rows b).tail, (0 : Int) + b) := by
        simp only [itPair, It.next, hes, hix]; congr 1; omega
      rw [e2] at p2
      have := (f2 (rowAt rows b).tail).symm
      rw [if_neg (by rw [List.length_tail, ← hes]; omega)] at this
      exact p2.trans this
theorem sim_next {nw : Bool} (F : Nat) : ∀ (xs : List It) (rows : List (List Ent)) (seen : List Int) (sk : Int), Sim nw xs rows →
    (nextF nw F xs seen sk).1 = (rnextF nw F rows seen sk).1 ∧ Sim nw (nextF nw F xs seen sk).2.1 (rnextF nw F rows seen sk).2.1 ∧ (nextF nw F xs seen sk).2.2 = (rnextF nw F rows seen sk).2.2 := by
  induction F with
  | zero => intro xs rows seen sk h; exact ⟨rfl, h, rfl⟩
  | succ F ih =>
    intro xs rows seen sk h
    rw [nextF, rnextF]
    cases hb : bestTo nw rows rows.length with
    | none => rw [if_pos ((sim_empty h).2 hb)]; exact ⟨rfl, h, rfl⟩
    | some b =>
      obtain ⟨h1, h2⟩ := sim_step h hb
      have hp := (sim_root h hb).1
      rw [if_neg (by omega)]
      simp only [h1]
      split
      · exact ih _ _ _ _ h2
      · exact ⟨rfl, h2, rfl⟩
def totR (rows : List (List Ent)) : Nat := (rows.map List.length).sum
def rallL (nw : Bool) (most : Int) : Nat → List (List Ent) → List Int → Int → List Ent → List Ent
  | 0, _, _, _, acc => acc
  | f + 1, rows, seen, sk, acc =>
    if most ≠ 0 ∧ most ≤ acc.length then acc else
    match rnextF nw (totR rows + 1) rows seen sk with
    | (none, _, _, _) => acc
    | (some e, rows', seen', sk') => rallL nw most f rows' seen' sk' (acc ++ [e])
theorem fullR_tot (rows : List (List Ent)) : ∀ k, ((fullR k rows).map fun p => p.1.length).sum = totR rows := by
  induction rows with
  | nil => intro k; rfl
  | cons a l ih =>
    intro k
    unfold fullR
    by_cases h0 : a.length = 0
    · rw [if_pos h0, ih]; simp [totR, h0]
    · rw [if_neg h0, List.map_cons, List.sum_cons, ih]; simp [totR]
theorem sim_tot {nw : Bool} {xs : List It} {rows : List (List Ent)} (h : Sim nw xs rows) : tot xs = totR rows := by
  rw [← fullR_tot rows 0]
  have := (h.2.map fun p => p.1.length).sum_nat
  rw [← this]
  simp [tot, itPair, Function.comp_def]
theorem sim_all {nw : Bool} {most : Int} (f : Nat) : ∀ (xs : List It) (rows : List (List Ent)) (seen : List Int) (sk : Int) (acc : List Ent), Sim nw xs rows → allL nw most f xs seen sk acc = rallL nw most f rows seen sk acc := by
  induction f with
  | zero => intros; rfl
  | succ f ih =>
    intro xs rows seen sk acc h
    rw [allL, rallL]
    split
    · rfl
    · rw [sim_tot h]
      obtain ⟨h1, h2, h3⟩ := sim_next (totR rows + 1) xs rows seen sk h
      rcases hn : nextF nw (totR rows + 1) xs seen sk with ⟨r, ys, seen', sk'⟩
      rcases hr : rnextF nw (totR rows + 1) rows seen sk with ⟨r', rows', seen2, sk2⟩
      rw [hn, hr] at h1 h2 h3
      simp only [Prod.mk.injEq] at h1 h2 h3
      obtain ⟨rfl, rfl⟩ := h3
      subst h1
      cases r with
      | none => rfl
      | some e => exact ih _ _ _ _ _ h2
/-- All of the rows, or so many, as the document says. -/
def refAll (nw : Bool) (most : Int) (rows : List (List Ent)) : List Ent := rallL nw most (totR rows + 1) rows [] 0 []
theorem all_eq (nw : Bool) (most : Int) (rs : List Raw) (its : List It) (h : its.map itPair = full 0 rs) :
    allL nw most (tot its + 1) (initF nw its.length (its.length / 2) its) [] 0 [] = refAll nw most (rs.map Raw.es) := by
  have hi := init_heap nw its
  have hs : Sim nw (initF nw its.length (its.length / 2) its) (rs.map Raw.es) := by
    refine ⟨by rw [hi.2.length_eq]; exact hi.1, ?_⟩
    rw [← full_eq, ← h]
    exact hi.2.map _
  rw [sim_all _ _ _ _ _ _ hs, refAll, ← sim_tot hs, tot_perm hi.2]
end Go.Proofs.Ytjfggmkfnofldaa
