import Derived.Test.YtjfggmkfnofldaaQ2
namespace Go.Proofs.Ytjfggmkfnofldaa
set_option linter.unusedVariables false
set_option linter.unusedSimpArgs false

/-! ### rows that are dealt from one strictly ordered list -/
def aheadA (nw : Bool) (a b : AEnt) : Prop := if nw then b.t < a.t ∨ (b.t = a.t ∧ b.s < a.s) else a.t < b.t ∨ (a.t = b.t ∧ a.s < b.s)
theorem firstA_iff (nw : Bool) (a b : AEnt) : firstA nw a b = true ↔ aheadA nw a b := by
  unfold firstA firstE aheadA
  cases nw <;> simp [before_iff]
theorem firstA_false (nw : Bool) (a b : AEnt) : firstA nw a b = false ↔ ¬ aheadA nw a b := by
  rw [← firstA_iff]; simp
theorem aheadA_asymm {nw : Bool} {a b : AEnt} (h : aheadA nw a b) : ¬ aheadA nw b a := by
  unfold aheadA at *; cases nw <;> simp at * <;> omega
theorem aheadA_irrefl (nw : Bool) (a : AEnt) : ¬ aheadA nw a a := fun h => aheadA_asymm h h
theorem naheadA_trans {nw : Bool} {a b c : AEnt} (h : ¬ aheadA nw a b) (h2 : ¬ aheadA nw b c) : ¬ aheadA nw a c := by
  unfold aheadA at *; cases nw <;> simp at * <;> omega
theorem aheadA_total {nw : Bool} {a b : AEnt} (h : a.s ≠ b.s) (h2 : ¬ aheadA nw b a) : aheadA nw a b := by
  unfold aheadA at *; cases nw <;> simp at * <;> omega
theorem aheadA_turn (a b : AEnt) : aheadA true a b ↔ aheadA false b a := by
  unfold aheadA; simp

theorem best_specA (nw : Bool) (rows : List (List AEnt)) : ∀ k,
    match bestA nw rows k with
    | none => ∀ i, i < k → rows.getD i [] = []
    | some (b, a, l) => b < k ∧ rows.getD b [] = a :: l ∧ ∀ i c m, i < k → rows.getD i [] = c :: m → ¬ aheadA nw c a := by
  intro k
  induction k with
  | zero => intro i h; omega
  | succ k ih =>
    rw [bestA]
    cases hr : rows.getD k [] with
    | nil =>
      revert ih
      cases hb : bestA nw rows k with
      | none =>
        intro ih i hi
        rcases Nat.lt_or_ge i k with h | h
        · exact ih i h
        · obtain rfl : i = k := by omega
          exact hr
      | some p =>
        obtain ⟨b, a, l⟩ := p
        rintro ⟨h1, h2, h3⟩
        refine ⟨by omega, h2, fun i c m hi hc => ?_⟩
        rcases Nat.lt_or_ge i k with h | h
        · exact h3 i c m h hc
        · obtain rfl : i = k := by omega
          rw [hr] at hc; cases hc
    | cons a0 l0 =>
      revert ih
      cases hb : bestA nw rows k with
      | none =>
        intro ih
        refine ⟨by omega, hr, fun i c m hi hc => ?_⟩
        rcases Nat.lt_or_ge i k with h | h
        · rw [ih i h] at hc; cases hc
        · obtain rfl : i = k := by omega
          rw [hr] at hc; injection hc with e1 e2
          rw [e1]; exact aheadA_irrefl _ _
      | some p =>
        obtain ⟨b, a, l⟩ := p
        rintro ⟨h1, h2, h3⟩
        simp only
        cases hf : firstA nw a0 a with
        | true =>
          refine ⟨by omega, hr, fun i c m hi hc => ?_⟩
          have hf := (firstA_iff _ _ _).1 hf
          rcases Nat.lt_or_ge i k with h | h
          · exact naheadA_trans (h3 i c m h hc) (aheadA_asymm hf)
          · obtain rfl : i = k := by omega
            rw [hr] at hc; injection hc with e1 e2
            rw [e1]; exact aheadA_irrefl _ _
        | false =>
          have hf := (firstA_false _ _ _).1 hf
          refine ⟨by omega, h2, fun i c m hi hc => ?_⟩
          rcases Nat.lt_or_ge i k with h | h
          · exact h3 i c m h hc
          · obtain rfl : i = k := by omega
            rw [hr] at hc; injection hc with e1 e2
            rw [← e1]; exact hf

theorem totA_set (rows : List (List AEnt)) : ∀ (b : Nat) (a : AEnt) (l : List AEnt), b < rows.length → rows.getD b [] = a :: l → totA (rows.set b l) + 1 = totA rows := by
  induction rows with
  | nil => intro b a l h; simp at h
  | cons r rs ih =>
    intro b a l h hr
    cases b with
    | zero =>
      have : r = a :: l := by simpa using hr
      subst this
      simp [totA]; omega
    | succ b =>
      have := ih b a l (by simpa using h) (by simpa using hr)
      simp only [totA, List.set_cons_succ, List.map_cons, List.sum_cons] at *
      omega
theorem mem_getD {rows : List (List AEnt)} {r : List AEnt} (h : r ∈ rows) : ∃ i, i < rows.length ∧ rows.getD i [] = r := by
  obtain ⟨i, hi, e⟩ := List.getElem_of_mem h
  exact ⟨i, hi, by simp [hi, e]⟩
theorem getD_mem {rows : List (List AEnt)} {i : Nat} (h : i < rows.length) : rows.getD i [] ∈ rows := by
  simp [h]
theorem mem_set_cases {rows : List (List AEnt)} {b : Nat} {l r : List AEnt} (h : r ∈ rows.set b l) : r = l ∨ r ∈ rows := by
  rcases List.mem_or_eq_of_mem_set h with h | h
  · exact .inr h
  · exact .inl h
theorem mem_set_of {rows : List (List AEnt)} {b : Nat} {l r : List AEnt} (hb : b < rows.length) (h : r ∈ rows) : r ∈ rows.set b l ∨ r = rows.getD b [] := by
  obtain ⟨i, hi, e⟩ := List.getElem_of_mem h
  by_cases hib : i = b
  · subst hib
    exact .inr (by simp [hi, e])
  · refine .inl (List.mem_iff_getElem.2 ⟨i, by simpa using hi, ?_⟩)
    rw [List.getElem_set_ne (by omega)]; exact e
theorem self_mem_set {rows : List (List AEnt)} {b : Nat} {l : List AEnt} (hb : b < rows.length) : l ∈ rows.set b l :=
  List.mem_iff_getElem.2 ⟨b, by simpa using hb, by simp⟩

theorem merge_dealt (nw : Bool) (s : List AEnt) (hs : s.Pairwise (aheadA nw)) (hd : s.Pairwise (fun x y => x.s ≠ y.s)) :
    ∀ (f : Nat) (rows : List (List AEnt)) (seen : List Int), (∀ r ∈ rows, r.Sublist s) → (∀ y ∈ s, y.s ∈ seen ∨ ∃ r ∈ rows, y ∈ r) → totA rows ≤ f →
      dedupS seen (mergeA nw f rows) = s.filter (fun y => !decide (y.s ∈ seen)) := by
  intro f
  induction f with
  | zero =>
    intro rows seen hsub hcov ht
    have : ∀ y ∈ s, y.s ∈ seen := fun y hy => by
      rcases hcov y hy with h | ⟨r, hr, hyr⟩
      · exact h
      · exfalso
        obtain ⟨i, hi, e⟩ := mem_getD hr
        cases r with
        | nil => cases hyr
        | cons a l => have := totA_set rows i a l hi e; omega
    rw [mergeA, dedupS]
    exact (List.filter_eq_nil_iff.2 fun y hy => by simp [this y hy]).symm
  | succ f ih =>
    intro rows seen hsub hcov ht
    have hb := best_specA nw rows rows.length
    rw [mergeA]
    cases hbe : bestA nw rows rows.length with
    | none =>
      rw [hbe] at hb
      have : ∀ y ∈ s, y.s ∈ seen := fun y hy => by
        rcases hcov y hy with h | ⟨r, hr, hyr⟩
        · exact h
        · exfalso
          obtain ⟨i, hi, e⟩ := mem_getD hr
          rw [hb i hi] at e
          rw [← e] at hyr; cases hyr
      simp only [dedupS]
      exact (List.filter_eq_nil_iff.2 fun y hy => by simp [this y hy]).symm
    | some p =>
      obtain ⟨b, a, l⟩ := p
      rw [hbe] at hb
      obtain ⟨h1, h2, h3⟩ := hb
      simp only
      have hrow : (a :: l).Sublist s := hsub _ (h2 ▸ getD_mem h1)
      have hal : a ∈ s := hrow.subset List.mem_cons_self
      have hsub' : ∀ r ∈ rows.set b l, r.Sublist s := fun r hr => by
        rcases mem_set_cases hr with rfl | hr
        · exact (List.sublist_cons_self a r).trans hrow
        · exact hsub r hr
      have ht' : totA (rows.set b l) ≤ f := by have := totA_set rows b a l h1 h2; omega
      -- whoever stands ahead of a in s is in no row
      have hahead : ∀ y ∈ s, aheadA nw y a → y.s ∈ seen := fun y hy hya => by
        rcases hcov y hy with h | ⟨r, hr, hyr⟩
        · exact h
        · exfalso
          obtain ⟨i, hi, e⟩ := mem_getD hr
          cases r with
          | nil => cases hyr
          | cons c m =>
            have hca := h3 i c m hi e
            have hsr := hsub _ hr
            have hp := hs.sublist hsr
            rcases List.mem_cons.1 hyr with rfl | hm
            · exact hca hya
            · have hcy := (List.pairwise_cons.1 hp).1 y hm
              exact naheadA_trans (aheadA_asymm hcy) hca hya
      have hcov' : ∀ y ∈ s, y.s ∈ a.s :: seen ∨ ∃ r ∈ rows.set b l, y ∈ r := fun y hy => by
        rcases hcov y hy with h | ⟨r, hr, hyr⟩
        · exact .inl (List.mem_cons_of_mem _ h)
        · rcases mem_set_of (l := l) h1 hr with hr' | rfl
          · exact .inr ⟨r, hr', hyr⟩
          · rw [h2] at hyr
            rcases List.mem_cons.1 hyr with rfl | hm
            · exact .inl List.mem_cons_self
            · exact .inr ⟨l, self_mem_set h1, hm⟩
      by_cases hmem : a.s ∈ seen
      · rw [dedupS, if_pos hmem]
        refine ih _ _ hsub' (fun y hy => ?_) ht'
        rcases hcov' y hy with h | h
        · rcases List.mem_cons.1 h with h | h
          · exact .inl (h ▸ hmem)
          · exact .inl h
        · exact .inr h
      · rw [dedupS, if_neg hmem, ih _ _ hsub' hcov' ht']
        obtain ⟨pre, post, rfl⟩ := List.append_of_mem hal
        have hpa := List.pairwise_append.1 hs
        have hpd := List.pairwise_append.1 hd
        have hpre : ∀ y ∈ pre, y.s ∈ seen := fun y hy => hahead y (List.mem_append_left _ hy) (hpa.2.2 y hy a List.mem_cons_self)
        have hpost : ∀ y ∈ post, a.s ≠ y.s := (List.pairwise_cons.1 hpd.2.1).1
        have e1 : pre.filter (fun y => !decide (y.s ∈ seen)) = [] := List.filter_eq_nil_iff.2 fun y hy => by simp [hpre y hy]
        have e2 : pre.filter (fun y => !decide (y.s ∈ a.s :: seen)) = [] := List.filter_eq_nil_iff.2 fun y hy => by simp [hpre y hy]
        have e3 : post.filter (fun y => !decide (y.s ∈ a.s :: seen)) = post.filter (fun y => !decide (y.s ∈ seen)) := List.filter_congr fun y hy => by
          have := hpost y hy
          simp [this.symm]
        rw [List.filter_append, List.filter_append, e1, e2, List.filter_cons, List.filter_cons, e3]
        simp [hmem]
/-- Rows dealt from a strictly ordered list are merged to that list. -/
theorem allA_dealt (nw : Bool) (s : List AEnt) (rows : List (List AEnt)) (hs : s.Pairwise (aheadA nw)) (hd : s.Pairwise (fun x y => x.s ≠ y.s)) (hsub : ∀ r ∈ rows, r.Sublist s) (hcov : ∀ y ∈ s, ∃ r ∈ rows, y ∈ r) : allA nw rows = s := by
  rw [allA, merge_dealt nw s hs hd _ rows [] hsub (fun y hy => .inr (hcov y hy)) (Nat.le_refl _)]
  exact List.filter_eq_self.2 fun y hy => by simp

/-! ### sorting -/
def befA (a b : AEnt) : Bool := beforeE a.s a.t b.s b.t
def posA (x : AEnt) (out : List AEnt) : Nat → Nat
  | 0 => 0
  | k + 1 => match out[k]? with
    | none => k + 1
    | some y => if befA x y then posA x out k else k + 1
def insA (out : List AEnt) (x : AEnt) : List AEnt := out.take (posA x out out.length) ++ x :: out.drop (posA x out out.length)
def sortA (xs : List AEnt) : List AEnt := xs.foldl insA []
theorem befA_iff (a b : AEnt) : befA a b = true ↔ aheadA false a b := by
  unfold befA aheadA; simp [before_iff]
theorem posA_le (x : AEnt) (out : List AEnt) : ∀ k, posA x out k ≤ k
  | 0 => Nat.le_refl _
  | k + 1 => by
    rw [posA]
    split
    · exact Nat.le_refl _
    · split
      · exact Nat.le_succ_of_le (posA_le x out k)
      · exact Nat.le_refl _
theorem posA_spec (x : AEnt) (out : List AEnt) (hs : out.Pairwise (fun a b => ¬ aheadA false b a)) : ∀ k, k ≤ out.length →
    (∀ i (h : i < out.length), i < posA x out k → ¬ aheadA false x out[i]) ∧ (∀ i (h : i < out.length), posA x out k ≤ i → i < k → aheadA false x out[i]) := by
  intro k
  induction k with
  | zero => intro _; exact ⟨fun i h h2 => by simp [posA] at h2, fun i h h2 h3 => by omega⟩
  | succ k ih =>
    intro hk
    obtain ⟨i1, i2⟩ := ih (by omega)
    rw [posA, List.getElem?_eq_getElem (show k < out.length by omega)]
    simp only
    by_cases hb : befA x out[k] = true
    · rw [if_pos hb]
      refine ⟨i1, fun i h h2 h3 => ?_⟩
      rcases Nat.lt_or_ge i k with h4 | h4
      · exact i2 i h h2 h4
      · obtain rfl : i = k := by omega
        exact (befA_iff _ _).1 hb
    · rw [if_neg hb]
      have hb : ¬ aheadA false x out[k] := fun e => hb ((befA_iff _ _).2 e)
      refine ⟨fun i h h2 => ?_, fun i h h2 h3 => by omega⟩
      rcases Nat.lt_or_ge i k with h4 | h4
      · have := List.pairwise_iff_getElem.1 hs i k h (by omega) h4
        exact naheadA_trans hb this
      · obtain rfl : i = k := by omega
        exact hb
theorem insA_sorted (out : List AEnt) (x : AEnt) (hs : out.Pairwise (fun a b => ¬ aheadA false b a)) : (insA out x).Pairwise (fun a b => ¬ aheadA false b a) := by
  obtain ⟨i1, i2⟩ := posA_spec x out hs out.length (Nat.le_refl _)
  have hp := posA_le x out out.length
  unfold insA
  generalize posA x out out.length = p at *
  refine List.pairwise_append.2 ⟨hs.sublist (List.take_sublist _ _), List.pairwise_cons.2 ⟨fun y hy => ?_, hs.sublist (List.drop_sublist _ _)⟩, fun y hy z hz => ?_⟩
  · obtain ⟨j, hj, rfl⟩ := List.getElem_of_mem hy
    rw [List.getElem_drop]
    exact aheadA_asymm (i2 _ (by simp at hj; omega) (by omega) (by simp at hj; omega))
  · obtain ⟨j, hj, rfl⟩ := List.getElem_of_mem hy
    have hj' : j < out.length := by simp at hj; omega
    rw [List.getElem_take]
    rcases List.mem_cons.1 hz with rfl | hz
    · exact i1 j hj' (by simp at hj; omega)
    · obtain ⟨m, hm, rfl⟩ := List.getElem_of_mem hz
      rw [List.getElem_drop]
      exact List.pairwise_iff_getElem.1 hs j _ hj' (by simp at hm; omega) (by simp at hj; omega)
theorem insA_perm (out : List AEnt) (x : AEnt) : (insA out x).Perm (x :: out) := by
  unfold insA
  refine List.perm_middle.trans ?_
  rw [List.take_append_drop]
theorem foldl_insA (xs : List AEnt) : ∀ out, out.Pairwise (fun a b => ¬ aheadA false b a) → (xs.foldl insA out).Pairwise (fun a b => ¬ aheadA false b a) ∧ (xs.foldl insA out).Perm (xs ++ out) := by
  induction xs with
  | nil => intro out h; exact ⟨h, List.Perm.refl _⟩
  | cons a l ih =>
    intro out h
    obtain ⟨h1, h2⟩ := ih (insA out a) (insA_sorted out a h)
    exact ⟨h1, h2.trans (((insA_perm out a).append_left l).trans List.perm_middle)⟩
theorem sortA_sorted (xs : List AEnt) : (sortA xs).Pairwise (fun a b => ¬ aheadA false b a) := (foldl_insA xs [] List.Pairwise.nil).1
theorem sortA_perm (xs : List AEnt) : (sortA xs).Perm xs := by have h := (foldl_insA xs [] List.Pairwise.nil).2; rw [List.append_nil] at h; exact h
theorem sortA_strict (xs : List AEnt) (hd : xs.Pairwise (fun x y => x.s ≠ y.s)) : (sortA xs).Pairwise (aheadA false) ∧ (sortA xs).Pairwise (fun x y => x.s ≠ y.s) := by
  have h2 : (sortA xs).Pairwise (fun x y => x.s ≠ y.s) := (sortA_perm xs).symm.pairwise hd (fun h => h.symm)
  refine ⟨?_, h2⟩
  refine ((sortA_sorted xs).and h2).imp ?_
  rintro a b ⟨h, h3⟩
  exact aheadA_total h3 h
theorem dedupS_distinct (l : List AEnt) : ∀ seen, (dedupS seen l).Pairwise (fun x y => x.s ≠ y.s) ∧ ∀ x ∈ dedupS seen l, x.s ∉ seen := by
  induction l with
  | nil => intro seen; exact ⟨List.Pairwise.nil, fun x h => by cases h⟩
  | cons a l ih =>
    intro seen
    rw [dedupS]
    split
    · exact ih seen
    · rename_i h
      obtain ⟨h1, h2⟩ := ih (a.s :: seen)
      refine ⟨List.pairwise_cons.2 ⟨fun y hy e => h2 y hy (by rw [e]; exact List.mem_cons_self), h1⟩, fun x hx => ?_⟩
      rcases List.mem_cons.1 hx with rfl | hx
      · exact h
      · exact fun e => h2 x hx (List.mem_cons_of_mem _ e)

/-! ### dealing -/
def dealAt {α : Type} (rows : List (List α)) (a : Nat) (x : α) : List (List α) := rows.set a (rows.getD a [] ++ [x])
def deal2 {α : Type} (rows : List (List α)) (a b : Nat) (x : α) : List (List α) := if b = a then dealAt rows a x else dealAt (dealAt rows a x) b x
def dealN (dl : List Int) (i : Nat) : Int := if h : i < dl.length then dl[i] else i
def dealA4 (k : Int) : Nat := (((k.tmod 4) + 4).tmod 4).toNat
def dealB4 (k : Int) : Nat := ((((k.tdiv 4).tmod 4) + 4).tmod 4).toNat
def dealL {α : Type} (dl : List Int) : Nat → List α → List (List α) → List (List α)
  | _, [], rows => rows
  | i, x :: l, rows => dealL dl (i + 1) l (deal2 rows (dealA4 (dealN dl i)) (dealB4 (dealN dl i)) x)
def dealt {α : Type} (dl : List Int) (s : List α) : List (List α) := dealL dl 0 s [[], [], [], []]

theorem tmod4 (x : Int) : 0 ≤ (x.tmod 4 + 4).tmod 4 ∧ (x.tmod 4 + 4).tmod 4 < 4 := by
  have h1 : -4 < x.tmod 4 := by
    rcases Int.le_total 0 x with h | h
    · have := Int.tmod_nonneg 4 h; omega
    · have e : x = -(-x) := by omega
      rw [e, Int.neg_tmod]
      have := Int.tmod_lt_of_pos (-x) (b := 4) (by omega)
      omega
  have h2 := Int.tmod_lt_of_pos (x.tmod 4 + 4) (b := 4) (by omega)
  have h3 := Int.tmod_nonneg (a := x.tmod 4 + 4) 4 (by omega)
  omega
theorem dealA4_lt (k : Int) : dealA4 k < 4 := by unfold dealA4; have := tmod4 k; omega
theorem dealB4_lt (k : Int) : dealB4 k < 4 := by unfold dealB4; have := tmod4 (k.tdiv 4); omega
theorem dealAt_length {α : Type} (rows : List (List α)) (a : Nat) (x : α) : (dealAt rows a x).length = rows.length := by simp [dealAt]
theorem deal2_length {α : Type} (rows : List (List α)) (a b : Nat) (x : α) : (deal2 rows a b x).length = rows.length := by
  unfold deal2; split <;> simp [dealAt_length]
theorem dealAt_mem {α : Type} {rows : List (List α)} {a : Nat} {x : α} (h : a < rows.length) : (∃ r ∈ dealAt rows a x, x ∈ r) ∧ ∀ y, (∃ r ∈ rows, y ∈ r) → ∃ r ∈ dealAt rows a x, y ∈ r := by
  refine ⟨⟨_, List.mem_iff_getElem.2 ⟨a, by simpa [dealAt] using h, by simp [dealAt]; rfl⟩, by simp⟩, ?_⟩
  rintro y ⟨r, hr, hy⟩
  obtain ⟨i, hi, e⟩ := List.getElem_of_mem hr
  by_cases hia : i = a
  · subst hia
    refine ⟨_, List.mem_iff_getElem.2 ⟨i, by simpa [dealAt] using hi, by simp [dealAt]; rfl⟩, ?_⟩
    simp [hi, e, hy]
  · refine ⟨r, List.mem_iff_getElem.2 ⟨i, by simpa [dealAt] using hi, ?_⟩, hy⟩
    simp [dealAt, List.getElem_set_ne (show a ≠ i by omega), e]
theorem dealAt_sub {α : Type} {rows : List (List α)} {a : Nat} {x : α} {s : List α} (hx : ∀ r ∈ rows, r.Sublist s) (h : a < rows.length) : ∀ r ∈ dealAt rows a x, r.Sublist (s ++ [x]) := by
  intro r hr
  rcases List.mem_or_eq_of_mem_set hr with hr | rfl
  · exact (hx r hr).trans (List.sublist_append_left _ _)
  · refine List.Sublist.append (hx _ ?_) (List.Sublist.refl _)
    simp [h]
theorem deal2_facts {α : Type} {rows : List (List α)} {a b : Nat} {x : α} {s : List α} (ha : a < rows.length) (hb : b < rows.length) (hx : ∀ r ∈ rows, r.Sublist s) (hc : ∀ y ∈ s, ∃ r ∈ rows, y ∈ r) :
    (∀ r ∈ deal2 rows a b x, r.Sublist (s ++ [x])) ∧ ∀ y ∈ s ++ [x], ∃ r ∈ deal2 rows a b x, y ∈ r := by
  have hm := dealAt_mem (x := x) ha
  unfold deal2
  by_cases hab : b = a
  · rw [if_pos hab]
    refine ⟨dealAt_sub hx ha, fun y hy => ?_⟩
    rcases List.mem_append.1 hy with hy | hy
    · exact hm.2 y (hc y hy)
    · rw [List.mem_singleton] at hy; subst hy; exact hm.1
  · rw [if_neg hab]
    have hb' : b < (dealAt rows a x).length := by rw [dealAt_length]; exact hb
    have hm2 := dealAt_mem (x := x) hb'
    refine ⟨fun r hr => ?_, fun y hy => ?_⟩
    · rcases List.mem_or_eq_of_mem_set hr with hr | rfl
      · exact dealAt_sub hx ha r hr
      · have e : (dealAt rows a x).getD b [] = rows.getD b [] := by
          simp [dealAt, List.getElem?_set, show ¬ a = b from fun e => hab e.symm]
        rw [e]
        refine List.Sublist.append (hx _ ?_) (List.Sublist.refl _)
        simp [hb]
    · rcases List.mem_append.1 hy with hy | hy
      · exact hm2.2 y (hm.2 y (hc y hy))
      · rw [List.mem_singleton] at hy; subst hy; exact hm2.1
theorem dealL_facts {α : Type} (dl : List Int) : ∀ (l : List α) (i : Nat) (rows : List (List α)) (s : List α), rows.length = 4 → (∀ r ∈ rows, r.Sublist s) → (∀ y ∈ s, ∃ r ∈ rows, y ∈ r) →
    (∀ r ∈ dealL dl i l rows, r.Sublist (s ++ l)) ∧ (∀ y ∈ s ++ l, ∃ r ∈ dealL dl i l rows, y ∈ r) ∧ (dealL dl i l rows).length = 4 := by
  intro l
  induction l with
  | nil => intro i rows s hl hx hc; rw [dealL, List.append_nil]; exact ⟨hx, hc, hl⟩
  | cons x l ih =>
    intro i rows s hl hx hc
    rw [dealL]
    obtain ⟨h1, h2⟩ := deal2_facts (x := x) (show dealA4 (dealN dl i) < rows.length by rw [hl]; exact dealA4_lt _) (show dealB4 (dealN dl i) < rows.length by rw [hl]; exact dealB4_lt _) hx hc
    have := ih (i + 1) _ (s ++ [x]) (by rw [deal2_length]; exact hl) h1 h2
    rwa [List.append_assoc] at this
theorem dealt_facts {α : Type} (dl : List Int) (s : List α) : (∀ r ∈ dealt dl s, r.Sublist s) ∧ (∀ y ∈ s, ∃ r ∈ dealt dl s, y ∈ r) ∧ (dealt dl s).length = 4 := by
  have := dealL_facts dl s 0 [[], [], [], []] [] rfl (fun r hr => by simp at hr; rw [hr]; exact List.nil_sublist _) (fun y hy => by cases hy)
  simpa [dealt] using this
/-- P706: dealt in whatever way. -/
theorem dealt_false (dl : List Int) (xs : List AEnt) (hd : xs.Pairwise (fun x y => x.s ≠ y.s)) : allA false (dealt dl (sortA xs)) = sortA xs := by
  obtain ⟨h1, h2⟩ := sortA_strict xs hd
  obtain ⟨f1, f2, _⟩ := dealt_facts dl (sortA xs)
  exact allA_dealt false _ _ h1 h2 f1 f2
theorem dealt_true (dl : List Int) (xs : List AEnt) (hd : xs.Pairwise (fun x y => x.s ≠ y.s)) : allA true (dealt dl (sortA xs).reverse) = (sortA xs).reverse := by
  obtain ⟨h1, h2⟩ := sortA_strict xs hd
  obtain ⟨f1, f2, _⟩ := dealt_facts dl (sortA xs).reverse
  refine allA_dealt true _ _ ?_ ?_ f1 f2
  · rw [List.pairwise_reverse]
    exact h1.imp fun h => (aheadA_turn _ _).2 h
  · rw [List.pairwise_reverse]
    exact h2.imp fun h => h.symm

/-! ### raw entries, sorted -/
theorem pos_rel {R : Ent → AEnt → Prop} (hR : KeyR R) {e : Ent} {a : AEnt} (hea : R e a) {out : List Ent} {outA : List AEnt} (h : Rel2 R out outA) : ∀ k, k ≤ out.length → posF e out k = posA a outA k := by
  intro k
  induction k with
  | zero => intro _; rfl
  | succ k ih =>
    intro hk
    have h1 : k < out.length := by omega
    have h2 : k < outA.length := by rw [← h.len]; exact h1
    have hr := h.at_ k h1 h2
    have k1 := hR _ _ hea
    have k2 := hR _ _ hr
    rw [posF, posA, List.getElem?_eq_getElem h2, ih (by omega)]
    simp only [List.getD_eq_getElem?_getD, List.getElem?_eq_getElem h1, Option.getD_some, bef, befA, k1.1, k1.2, k2.1, k2.2]
    rfl
theorem Rel2.take {α β : Type} {R : α → β → Prop} {l : List α} {m : List β} (h : Rel2 R l m) (n : Nat) : Rel2 R (l.take n) (m.take n) :=
  ⟨by simp [h.len], fun i h1 h2 => by
    simp only [List.getElem_take]
    exact h.at_ i (by simp at h1; omega) (by simp at h2; omega)⟩
theorem Rel2.drop {α β : Type} {R : α → β → Prop} {l : List α} {m : List β} (h : Rel2 R l m) (n : Nat) : Rel2 R (l.drop n) (m.drop n) :=
  ⟨by simp [h.len], fun i h1 h2 => by
    simp only [List.getElem_drop]
    exact h.at_ (n + i) (by simp at h1; omega) (by simp at h2; omega)⟩
theorem Rel2.reverse {α β : Type} {R : α → β → Prop} {l : List α} {m : List β} (h : Rel2 R l m) : Rel2 R l.reverse m.reverse :=
  ⟨by simp [h.len], fun i h1 h2 => by
    have hl := h.len
    rw [List.getElem_reverse, List.getElem_reverse]
    simp only [hl]
    exact h.at_ _ _ _⟩
theorem ins_rel {R : Ent → AEnt → Prop} (hR : KeyR R) {e : Ent} {a : AEnt} (hea : R e a) {out : List Ent} {outA : List AEnt} (h : Rel2 R out outA) : Rel2 R (insE out e) (insA outA a) := by
  have hp := pos_rel hR hea h out.length (Nat.le_refl _)
  rw [insE, insA, hp, h.len]
  exact (h.take _).append ((h.drop _).cons hea)
theorem foldl_rel {R : Ent → AEnt → Prop} (hR : KeyR R) : ∀ (es : List Ent) (xs : List AEnt) (out : List Ent) (outA : List AEnt), Rel2 R es xs → Rel2 R out outA → Rel2 R (es.foldl insE out) (xs.foldl insA outA) := by
  intro es
  induction es with
  | nil =>
    intro xs out outA h k
    have : xs = [] := List.eq_nil_of_length_eq_zero h.len.symm
    subst this
    exact k
  | cons e l ih =>
    intro xs out outA h k
    cases xs with
    | nil => have := h.len; simp at this
    | cons a m =>
      obtain ⟨h1, h2⟩ := h.head
      exact ih m _ _ h2 (ins_rel hR h1 k)
theorem sort_rel {R : Ent → AEnt → Prop} (hR : KeyR R) {es : List Ent} {xs : List AEnt} (h : Rel2 R es xs) : Rel2 R (sortE es) (sortA xs) := foldl_rel hR es xs [] [] h Rel2.nil
theorem Rel2.imp {α β : Type} {R S : α → β → Prop} {l : List α} {m : List β} (h : Rel2 R l m) (k : ∀ a b, R a b → S a b) : Rel2 S l m := ⟨h.len, fun i h1 h2 => k _ _ (h.at_ i h1 h2)⟩
theorem deal2_rel {α β : Type} {R : α → β → Prop} {rows : List (List α)} {rowsA : List (List β)} (h : Rel2 (Rel2 R) rows rowsA) (a b : Nat) {x : α} {y : β} (hr : R x y) : Rel2 (Rel2 R) (deal2 rows a b x) (deal2 rowsA a b y) := by
  have h1 : Rel2 (Rel2 R) (dealAt rows a x) (dealAt rowsA a y) := h.set a ((h.getD a).append (Rel2.nil.cons hr))
  unfold deal2
  split
  · exact h1
  · exact h1.set b ((h1.getD b).append (Rel2.nil.cons hr))
theorem dealL_rel {α β : Type} {R : α → β → Prop} (dl : List Int) : ∀ (l : List α) (m : List β) (i : Nat) (rows : List (List α)) (rowsA : List (List β)), Rel2 R l m → Rel2 (Rel2 R) rows rowsA → Rel2 (Rel2 R) (dealL dl i l rows) (dealL dl i m rowsA) := by
  intro l
  induction l with
  | nil =>
    intro m i rows rowsA h k
    have : m = [] := List.eq_nil_of_length_eq_zero h.len.symm
    subst this
    exact k
  | cons x l ih =>
    intro m i rows rowsA h k
    cases m with
    | nil => have := h.len; simp at this
    | cons y m =>
      obtain ⟨h1, h2⟩ := h.head
      exact ih m _ _ _ h2 (deal2_rel k _ _ h1)
theorem dealt_rel {α β : Type} {R : α → β → Prop} (dl : List Int) {l : List α} {m : List β} (h : Rel2 R l m) : Rel2 (Rel2 R) (dealt dl l) (dealt dl m) :=
  dealL_rel dl l m 0 _ _ h (((((Rel2.nil).cons Rel2.nil).cons Rel2.nil).cons Rel2.nil).cons Rel2.nil)
end Go.Proofs.Ytjfggmkfnofldaa
