import Derived.Test.YtjfggmkfnofldaaC2
namespace Go.Proofs.Ytjfggmkfnofldaa
set_option linter.unusedVariables false

/-! ### the order of rows -/
theorem cmpI_neg (a b : Int) : cmpI a b < 0 ↔ a < b := by unfold cmpI; split <;> (try split) <;> omega
theorem cmpI_zero (a b : Int) : cmpI a b = 0 ↔ a = b := by unfold cmpI; split <;> (try split) <;> omega
theorem before_iff (s t s' t' : Int) : beforeE s t s' t' = true ↔ t < t' ∨ (t = t' ∧ s < s') := by
  unfold beforeE cmpE orI
  rw [decide_eq_true_iff]
  by_cases h : cmpI t t' = 0
  · rw [if_pos h, cmpI_neg]
    have := (cmpI_zero t t').1 h
    omega
  · rw [if_neg h, cmpI_neg]
    have : ¬ t = t' := fun e => h ((cmpI_zero t t').2 e)
    omega
/-- Does a stand ahead of b, newest first or not? -/
def ahead (nw : Bool) (a b : Ent) : Prop := if nw then b.t < a.t ∨ (b.t = a.t ∧ b.s < a.s) else a.t < b.t ∨ (a.t = b.t ∧ a.s < b.s)
theorem first_iff (nw : Bool) (a b : Ent) : entFirst nw a b = true ↔ ahead nw a b := by
  unfold entFirst firstE ahead
  cases nw <;> simp [before_iff]
def lessP (nw : Bool) (x y : It) : Prop := ahead nw x.hd y.hd ∨ (¬ ahead nw y.hd x.hd ∧ x.ix < y.ix)
theorem itLess_iff (nw : Bool) (x y : It) : itLess nw x y = true ↔ lessP nw x y := by
  unfold itLess lessP
  by_cases h : ahead nw x.hd y.hd
  · simp [(first_iff nw _ _).2 h, h]
  · have h1 : entFirst nw x.hd y.hd = false := by cases e : entFirst nw x.hd y.hd; rfl; exact absurd ((first_iff _ _ _).1 e) h
    by_cases h2 : ahead nw y.hd x.hd
    · simp [h1, (first_iff nw _ _).2 h2, h, h2]
    · have h3 : entFirst nw y.hd x.hd = false := by cases e : entFirst nw y.hd x.hd; rfl; exact absurd ((first_iff _ _ _).1 e) h2
      simp [h1, h3, h, h2]
theorem itLess_false (nw : Bool) (x y : It) : itLess nw x y = false ↔ ¬ lessP nw x y := by
  rw [← itLess_iff]; simp
theorem lessP_asymm (nw : Bool) (x y : It) (h : lessP nw x y) : ¬ lessP nw y x := by
  unfold lessP ahead at *
  cases nw <;> simp at * <;> omega
theorem lessP_irrefl (nw : Bool) (x : It) : ¬ lessP nw x x := fun h => lessP_asymm nw x x h h
/-- What is not ahead of y, and y not of z, is not ahead of z. -/
theorem nless_trans (nw : Bool) (x y z : It) (h1 : ¬ lessP nw x y) (h2 : ¬ lessP nw y z) : ¬ lessP nw x z := by
  unfold lessP ahead at *
  cases nw <;> simp at * <;> omega

/-! ### exchanges -/
theorem getI_swap (xs : List It) (i j c : Nat) (hi : i < xs.length) (hj : j < xs.length) : getI (swapL xs i j) c = if c = j then getI xs i else if c = i then getI xs j else getI xs c := by
  unfold swapL getI
  simp only [List.getD_eq_getElem?_getD, List.getElem?_set, List.length_set]
  by_cases h1 : c = j
  · subst h1; simp [hj]
  · rw [if_neg (fun e => h1 e.symm)]
    by_cases h2 : c = i
    · subst h2; simp [hi, h1]
    · rw [if_neg (fun e => h2 e.symm)]; simp [h1, h2]
theorem swapL_perm (xs : List It) (i j : Nat) (hi : i < xs.length) (hj : j < xs.length) : (swapL xs i j).Perm xs := by
  unfold swapL
  rw [getI_lt xs i hi, getI_lt xs j hj]
  exact List.set_set_perm hi hj

def kid (i n : Nat) (nw : Bool) (xs : List It) : Nat := if 2 * i + 2 < n then (if itLess nw (getI xs (2 * i + 2)) (getI xs (2 * i + 1)) then 2 * i + 2 else 2 * i + 1) else 2 * i + 1
theorem downF_succ (nw : Bool) (f : Nat) (xs : List It) (i n : Nat) : downF nw (f + 1) xs i n = if n ≤ 2 * i + 1 then xs else if itLess nw (getI xs (kid i n nw xs)) (getI xs i) then downF nw f (swapL xs i (kid i n nw xs)) (kid i n nw xs) n else xs := rfl
theorem kid_range (nw : Bool) (xs : List It) (i n : Nat) (h : 2 * i + 1 < n) : (kid i n nw xs = 2 * i + 1 ∨ kid i n nw xs = 2 * i + 2) ∧ kid i n nw xs < n := by
  unfold kid
  split
  · split <;> omega
  · omega
theorem kid_least (nw : Bool) (xs : List It) (i n c : Nat) (h : 2 * i + 1 < n) (hc : c < n) (hp : 0 < c) (hcp : (c - 1) / 2 = i) : ¬ lessP nw (getI xs c) (getI xs (kid i n nw xs)) := by
  have : c = 2 * i + 1 ∨ c = 2 * i + 2 := by omega
  unfold kid
  rcases this with rfl | rfl
  · split
    · split
      · rename_i hl
        exact lessP_asymm _ _ _ ((itLess_iff _ _ _).1 hl)
      · exact lessP_irrefl _ _
    · exact lessP_irrefl _ _
  · rw [if_pos hc]
    split
    · exact lessP_irrefl _ _
    · rename_i hl
      exact fun e => hl ((itLess_iff _ _ _).2 e)

theorem downF_perm (nw : Bool) (f : Nat) : ∀ (xs : List It) (i n : Nat), n ≤ xs.length → (downF nw f xs i n).Perm xs := by
  induction f with
  | zero => intros; exact List.Perm.refl _
  | succ f ih =>
    intro xs i n hn
    rw [downF_succ]
    by_cases h : n ≤ 2 * i + 1
    · rw [if_pos h]
    · rw [if_neg h]
      have hk := kid_range nw xs i n (by omega)
      split
      · refine (ih _ _ _ (by rw [swapL_length]; exact hn)).trans (swapL_perm xs i _ (by omega) (by omega))
      · exact List.Perm.refl _
theorem downF_ge (nw : Bool) (f : Nat) : ∀ (xs : List It) (i n c : Nat), n ≤ xs.length → n ≤ c → getI (downF nw f xs i n) c = getI xs c := by
  induction f with
  | zero => intros; rfl
  | succ f ih =>
    intro xs i n c hn hc
    rw [downF_succ]
    by_cases h : n ≤ 2 * i + 1
    · rw [if_pos h]
    · rw [if_neg h]
      have hk := kid_range nw xs i n (by omega)
      split
      · rw [ih _ _ _ _ (by rw [swapL_length]; exact hn) hc, getI_swap _ _ _ _ (by omega) (by omega), if_neg (by omega), if_neg (by omega)]
      · rfl

/-! ### heaps -/
def HeapFrom (nw : Bool) (xs : List It) (n i0 : Nat) : Prop := ∀ c, 0 < c → c < n → i0 ≤ (c - 1) / 2 → ¬ lessP nw (getI xs c) (getI xs ((c - 1) / 2))
def Hole (nw : Bool) (xs : List It) (n i0 i : Nat) : Prop :=
  (∀ c, 0 < c → c < n → i0 ≤ (c - 1) / 2 → (c - 1) / 2 ≠ i → ¬ lessP nw (getI xs c) (getI xs ((c - 1) / 2))) ∧
  (0 < i → i0 ≤ (i - 1) / 2 → ∀ c, 0 < c → c < n → (c - 1) / 2 = i → ¬ lessP nw (getI xs c) (getI xs ((i - 1) / 2)))

theorem downF_heap (nw : Bool) (n i0 : Nat) (f : Nat) : ∀ (xs : List It) (i : Nat), n ≤ xs.length → n ≤ f + i → i0 ≤ i → Hole nw xs n i0 i → HeapFrom nw (downF nw f xs i n) n i0 := by
  induction f with
  | zero =>
    intro xs i hn hf hi h c hc hcn hp
    exact h.1 c hc hcn hp (by omega)
  | succ f ih =>
    intro xs i hn hf hi h
    rw [downF_succ]
    by_cases h1 : n ≤ 2 * i + 1
    · rw [if_pos h1]
      intro c hc hcn hp
      exact h.1 c hc hcn hp (by omega)
    · rw [if_neg h1]
      have hk := kid_range nw xs i n (by omega)
      have hl := fun c => kid_least nw xs i n c (by omega)
      generalize kid i n nw xs = j at *
      have hj : j < xs.length := by omega
      have hii : i < xs.length := by omega
      split
      · rename_i hlt
        have hlt := (itLess_iff _ _ _).1 hlt
        refine ih _ _ (by rw [swapL_length]; exact hn) (by omega) (by omega) ⟨?_, ?_⟩
        · intro c hc hcn hp hpj
          rw [getI_swap _ _ _ _ hii hj, getI_swap _ _ _ _ hii hj]
          rw [if_neg (show ¬ (c - 1) / 2 = j from hpj)]
          by_cases e1 : c = j
          · subst e1
            rw [if_pos rfl, if_pos (by omega)]
            exact lessP_asymm _ _ _ hlt
          · rw [if_neg e1]
            by_cases e2 : c = i
            · subst e2
              rw [if_pos rfl, if_neg (by omega)]
              exact h.2 hc hp j (by omega) hk.2 (by omega)
            · rw [if_neg e2]
              by_cases e3 : (c - 1) / 2 = i
              · rw [if_pos e3]
                exact hl c hcn hc e3
              · rw [if_neg e3]
                exact h.1 c hc hcn hp e3
        · intro hj0 hp c hc hcn hcj
          have e : (j - 1) / 2 = i := by omega
          rw [e, getI_swap _ _ _ _ hii hj, getI_swap _ _ _ _ hii hj, if_neg (by omega), if_neg (by omega), if_neg (by omega), if_pos rfl]
          have := h.1 c hc hcn (by omega) (by omega)
          rwa [hcj] at this
      · rename_i hlt
        have hlt : ¬ lessP nw (getI xs j) (getI xs i) := fun e => hlt ((itLess_iff _ _ _).2 e)
        intro c hc hcn hp
        by_cases e : (c - 1) / 2 = i
        · rw [e]
          exact nless_trans _ _ _ _ (hl c hcn hc e) hlt
        · exact h.1 c hc hcn hp e

theorem initF_spec (nw : Bool) (n : Nat) : ∀ (k : Nat) (xs : List It), xs.length = n → k ≤ n → HeapFrom nw xs n k → HeapFrom nw (initF nw n k xs) n 0 ∧ (initF nw n k xs).Perm xs := by
  intro k
  induction k with
  | zero => intro xs hl _ h; exact ⟨h, List.Perm.refl _⟩
  | succ k ih =>
    intro xs hl hk h
    have hd := downF_heap nw n k n xs k (by omega) (by omega) (Nat.le_refl _) ⟨fun c hc hcn hp hne => h c hc hcn (by omega), fun h0 h1 => by omega⟩
    have hp := downF_perm nw n xs k n (by omega)
    obtain ⟨h1, h2⟩ := ih _ (by rw [downF_length]; exact hl) (by omega) hd
    exact ⟨h1, h2.trans hp⟩
theorem init_heap (nw : Bool) (xs : List It) : HeapFrom nw (initF nw xs.length (xs.length / 2) xs) xs.length 0 ∧ (initF nw xs.length (xs.length / 2) xs).Perm xs :=
  initF_spec nw _ _ _ rfl (by omega) (fun c hc hcn hp => by omega)

theorem heap_least (nw : Bool) (xs : List It) (n : Nat) (h : HeapFrom nw xs n 0) : ∀ c, c < n → ¬ lessP nw (getI xs c) (getI xs 0) := by
  intro c
  induction c using Nat.strongRecOn with
  | _ c ih =>
    intro hc
    by_cases e : c = 0
    · subst e; exact lessP_irrefl _ _
    · exact nless_trans _ _ _ _ (h c (by omega) hc (Nat.zero_le _)) (ih ((c - 1) / 2) (by omega) (by omega))

theorem popL_perm (nw : Bool) (xs : List It) (hp : 0 < xs.length) : (popL nw xs).Perm xs :=
  (downF_perm nw _ _ _ _ (by rw [swapL_length]; omega)).trans (swapL_perm xs _ _ (by omega) (by omega))
theorem popL_last (nw : Bool) (xs : List It) (hp : 0 < xs.length) : getI (popL nw xs) (xs.length - 1) = getI xs 0 := by
  rw [popL, downF_ge nw _ _ _ _ _ (by rw [swapL_length]; omega) (Nat.le_refl _), getI_swap _ _ _ _ (by omega) (by omega), if_pos rfl]
theorem popL_heap (nw : Bool) (xs : List It) (hp : 0 < xs.length) (h : HeapFrom nw xs xs.length 0) : HeapFrom nw (popL nw xs) (xs.length - 1) 0 := by
  refine downF_heap nw _ 0 _ _ 0 (by rw [swapL_length]; omega) (by omega) (Nat.le_refl _) ⟨?_, fun h0 => by omega⟩
  intro c hc hcn _ hne
  rw [getI_swap _ _ _ _ (by omega) (by omega), getI_swap _ _ _ _ (by omega) (by omega), if_neg (by omega), if_neg (by omega), if_neg (by omega), if_neg (by omega)]
  exact h c hc (by omega) (Nat.zero_le _)
theorem getI_take (xs : List It) (m c : Nat) (h : c < m) : getI (xs.take m) c = getI xs c := by
  simp [getI, h]
theorem heap_take (nw : Bool) (xs : List It) (m : Nat) (h : HeapFrom nw xs m 0) : HeapFrom nw (xs.take m) m 0 := by
  intro c hc hcm hp
  rw [getI_take _ _ _ hcm, getI_take _ _ _ (by omega)]
  exact h c hc hcm hp
/-- What popping leaves, and what it gives: the least one. -/
theorem pop_perm (nw : Bool) (xs : List It) (hp : 0 < xs.length) : (getI xs 0 :: (popL nw xs).take (xs.length - 1)).Perm xs := by
  have h := popL_perm nw xs hp
  rw [popL_split nw xs hp, popL_last nw xs hp] at h
  exact (List.perm_append_comm (l₁ := [getI xs 0])).trans h

def HoleUp (nw : Bool) (xs : List It) (j : Nat) : Prop :=
  (∀ c, 0 < c → c < xs.length → c ≠ j → ¬ lessP nw (getI xs c) (getI xs ((c - 1) / 2))) ∧
  (0 < j → ∀ c, 0 < c → c < xs.length → (c - 1) / 2 = j → ¬ lessP nw (getI xs c) (getI xs ((j - 1) / 2)))
theorem upF_heap (nw : Bool) (f : Nat) : ∀ (xs : List It) (j : Nat), j < xs.length → j < f → HoleUp nw xs j → HeapFrom nw (upF nw f xs j) xs.length 0 ∧ (upF nw f xs j).Perm xs := by
  induction f with
  | zero => intro xs j _ h; omega
  | succ f ih =>
    intro xs j hj hf h
    rw [upF]
    by_cases h0 : j = 0
    · rw [if_pos h0]
      exact ⟨fun c hc hcn _ => h.1 c hc hcn (by omega), List.Perm.refl _⟩
    · rw [if_neg h0]
      split
      · rename_i hlt
        have hlt := (itLess_iff _ _ _).1 hlt
        have hi : (j - 1) / 2 < xs.length := by omega
        have := ih (swapL xs ((j - 1) / 2) j) ((j - 1) / 2) (by rw [swapL_length]; exact hi) (by omega) ⟨?_, ?_⟩
        · rw [swapL_length] at this
          exact ⟨this.1, this.2.trans (swapL_perm xs _ _ hi hj)⟩
        · intro c hc hcn hne
          rw [swapL_length] at hcn
          rw [getI_swap _ _ _ _ hi hj, getI_swap _ _ _ _ hi hj]
          by_cases e1 : c = j
          · subst e1
            rw [if_pos rfl, if_neg (by omega), if_pos rfl]
            exact lessP_asymm _ _ _ hlt
          · rw [if_neg e1, if_neg hne]
            by_cases e2 : (c - 1) / 2 = j
            · rw [if_pos e2]
              exact h.2 (by omega) c hc hcn e2
            · rw [if_neg e2]
              by_cases e3 : (c - 1) / 2 = (j - 1) / 2
              · rw [if_pos e3]
                refine nless_trans _ _ _ _ (h.1 c hc hcn e1) ?_
                rw [e3]
                exact lessP_asymm _ _ _ hlt
              · rw [if_neg e3]
                exact h.1 c hc hcn e1
        · intro hi0 c hc hcn hcp
          rw [swapL_length] at hcn
          rw [getI_swap _ _ _ _ hi hj, getI_swap _ _ _ _ hi hj, if_neg (show ¬ ((j - 1) / 2 - 1) / 2 = j by omega), if_neg (show ¬ ((j - 1) / 2 - 1) / 2 = (j - 1) / 2 by omega)]
          have hpar := h.1 ((j - 1) / 2) (by omega) hi (by omega)
          by_cases e1 : c = j
          · subst e1
            rw [if_pos rfl]
            exact hpar
          · rw [if_neg e1, if_neg (by omega)]
            refine nless_trans _ _ _ _ (h.1 c hc hcn e1) ?_
            rw [hcp]
            exact hpar
      · rename_i hlt
        refine ⟨fun c hc hcn _ => ?_, List.Perm.refl _⟩
        by_cases e : c = j
        · subst e; exact fun e => hlt ((itLess_iff _ _ _).2 e)
        · exact h.1 c hc hcn e
theorem push_heap (nw : Bool) (xs : List It) (x : It) (h : HeapFrom nw xs xs.length 0) : HeapFrom nw (pushL nw xs x) (xs.length + 1) 0 ∧ (pushL nw xs x).Perm (x :: xs) := by
  have := upF_heap nw (xs.length + 1) (xs ++ [x]) xs.length (by simp) (by omega) ⟨?_, ?_⟩
  · simp only [List.length_append, List.length_singleton] at this
    exact ⟨this.1, this.2.trans (List.perm_append_comm)⟩
  · intro c hc hcn hne
    simp at hcn
    have e : ∀ d, d < xs.length → getI (xs ++ [x]) d = getI xs d := fun d hd => by simp [getI, List.getElem?_append_left hd]
    rw [e _ (by omega), e _ (by omega)]
    exact h c hc (by omega) (Nat.zero_le _)
  · intro h0 c hc hcn hcp
    simp at hcn
    omega
end Go.Proofs.Ytjfggmkfnofldaa
