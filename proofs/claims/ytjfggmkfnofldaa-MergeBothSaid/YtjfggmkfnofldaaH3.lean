import Derived.Test.YtjfggmkfnofldaaH2
namespace Go.Proofs.Ytjfggmkfnofldaa
open Go.RowKit
set_option linter.unusedVariables false

/-! ### the merge by what entries say -/
def firstA (nw : Bool) (a b : AEnt) : Bool := firstE nw a.s a.t b.s b.t
/-- The best head among the first k rows: its row's number, itself, what is left of the row. -/
def bestA (nw : Bool) (rows : List (List AEnt)) : Nat → Option (Nat × AEnt × List AEnt)
  | 0 => none
  | k + 1 => match rows.getD k [] with
    | [] => bestA nw rows k
    | a :: l => match bestA nw rows k with
      | none => some (k, a, l)
      | some (b, c, m) => if firstA nw a c then some (k, a, l) else some (b, c, m)
def totA (rows : List (List AEnt)) : Nat := (rows.map List.length).sum
/-- All heads, the best ahead. -/
def mergeA (nw : Bool) : Nat → List (List AEnt) → List AEnt
  | 0, _ => []
  | f + 1, rows => match bestA nw rows rows.length with
    | none => []
    | some (b, a, l) => a :: mergeA nw f (rows.set b l)
/-- Each number once. -/
def dedupS (seen : List Int) : List AEnt → List AEnt
  | [] => []
  | a :: l => if a.s ∈ seen then dedupS seen l else a :: dedupS (a.s :: seen) l
/-- What a merge must answer. -/
def allA (nw : Bool) (rows : List (List AEnt)) : List AEnt := dedupS [] (mergeA nw (totA rows) rows)
def limA (most : Int) (n : Nat) (l : List AEnt) : List AEnt := if most = 0 then l else l.take (most.toNat - n)

/-- Two lists, place by place. -/
structure Rel2 {α β : Type} (R : α → β → Prop) (l : List α) (m : List β) : Prop where
  len : l.length = m.length
  at_ : ∀ i (h : i < l.length) (h' : i < m.length), R l[i] m[i]
theorem Rel2.nil {α β : Type} {R : α → β → Prop} : Rel2 R ([] : List α) ([] : List β) := ⟨rfl, fun i h => by simp at h⟩
theorem Rel2.cons {α β : Type} {R : α → β → Prop} {a : α} {b : β} {l : List α} {m : List β} (h : R a b) (k : Rel2 R l m) : Rel2 R (a :: l) (b :: m) :=
  ⟨by simp [k.len], fun i h1 h2 => by
    cases i with
    | zero => exact h
    | succ i => exact k.at_ i (by simpa using h1) (by simpa using h2)⟩
theorem Rel2.head {α β : Type} {R : α → β → Prop} {a : α} {b : β} {l : List α} {m : List β} (h : Rel2 R (a :: l) (b :: m)) : R a b ∧ Rel2 R l m :=
  ⟨h.at_ 0 (by simp) (by simp), by simpa using h.len, fun i h1 h2 => h.at_ (i + 1) (by simpa using h1) (by simpa using h2)⟩
theorem Rel2.append {α β : Type} {R : α → β → Prop} {l l' : List α} {m m' : List β} (h : Rel2 R l m) (k : Rel2 R l' m') : Rel2 R (l ++ l') (m ++ m') :=
  ⟨by simp [h.len, k.len], fun i h1 h2 => by
    rcases Nat.lt_or_ge i l.length with hi | hi
    · simp only [List.getElem_append_left hi, List.getElem_append_left (show i < m.length by rw [← h.len]; exact hi)]
      exact h.at_ i hi (by rw [← h.len]; exact hi)
    · have hl := h.len
      simp at h1 h2
      simp only [List.getElem_append_right hi, List.getElem_append_right (show m.length ≤ i by omega), ← hl]
      exact k.at_ (i - l.length) (by omega) (by have := k.len; omega)⟩
theorem Rel2.set {α β : Type} {R : α → β → Prop} {l : List α} {m : List β} {a : α} {b : β} (h : Rel2 R l m) (i : Nat) (hr : R a b) : Rel2 R (l.set i a) (m.set i b) :=
  ⟨by simp [h.len], fun j h1 h2 => by
    rw [List.getElem_set, List.getElem_set]
    split
    · exact hr
    · exact h.at_ j (by simpa using h1) (by simpa using h2)⟩
theorem Rel2.getD {α β : Type} {R : α → β → Prop} {l : List (List α)} {m : List (List β)} (h : Rel2 (Rel2 R) l m) (i : Nat) : Rel2 R (l.getD i []) (m.getD i []) := by
  rcases Nat.lt_or_ge i l.length with hi | hi
  · have hm : i < m.length := by rw [← h.len]; exact hi
    simp only [List.getD_eq_getElem?_getD, List.getElem?_eq_getElem hi, List.getElem?_eq_getElem hm, Option.getD_some]
    exact h.at_ i hi hm
  · have hm : m.length ≤ i := by rw [← h.len]; exact hi
    simp only [List.getD_eq_getElem?_getD, List.getElem?_eq_none hi, List.getElem?_eq_none hm, Option.getD_none]
    exact Rel2.nil

def KeyR (R : Ent → AEnt → Prop) : Prop := ∀ e a, R e a → e.s = a.s ∧ e.t = a.t
theorem best_rel {R : Ent → AEnt → Prop} (hR : KeyR R) (nw : Bool) {rows : List (List Ent)} {rowsA : List (List AEnt)} (h : Rel2 (Rel2 R) rows rowsA) : ∀ k,
    match bestTo nw rows k, bestA nw rowsA k with
    | none, none => True
    | some b, some (b', a, l) => b = b' ∧ b < k ∧ ∃ e t, rowAt rows b = e :: t ∧ R e a ∧ Rel2 R t l ∧ rowsA.getD b [] = a :: l
    | _, _ => False := by
  intro k
  induction k with
  | zero => trivial
  | succ k ih =>
    rw [bestTo, bestA]
    have hk := h.getD k
    change Rel2 R (rowAt rows k) _ at hk
    cases hr : rowAt rows k with
    | nil =>
      rw [hr] at hk
      have hm : rowsA.getD k [] = [] := List.eq_nil_of_length_eq_zero hk.len.symm
      rw [if_pos (by simp), hm]
      revert ih
      cases bestTo nw rows k <;> cases bestA nw rowsA k <;> intro ih
      · trivial
      · exact ih
      · exact ih
      · rename_i b p
        obtain ⟨b', a, l⟩ := p
        obtain ⟨h1, h2, h3⟩ := ih
        exact ⟨h1, by omega, h3⟩
    | cons e t =>
      rw [hr] at hk
      cases hm : rowsA.getD k [] with
      | nil => rw [hm] at hk; have := hk.len; simp at this
      | cons a l =>
        rw [hm] at hk
        obtain ⟨hea, htl⟩ := hk.head
        rw [if_neg (by simp)]
        revert ih
        cases hb : bestTo nw rows k <;> cases hb2 : bestA nw rowsA k <;> intro ih
        · exact ⟨rfl, by omega, e, t, hr, hea, htl, hm⟩
        · exact ih.elim
        · exact ih.elim
        · rename_i b p
          obtain ⟨b', c, m⟩ := p
          obtain ⟨rfl, h2, e', t', h4, h5, h6, h7⟩ := ih
          have e1 : entFirst nw (hdE (e :: t)) (hdE (rowAt rows b)) = firstA nw a c := by
            rw [h4]
            have k1 := hR _ _ hea
            have k2 := hR _ _ h5
            simp only [entFirst, firstA, hdE, List.headD_cons, k1.1, k1.2, k2.1, k2.2]
          simp only [e1]
          cases firstA nw a c with
          | true => exact ⟨rfl, by omega, e, t, hr, hea, htl, hm⟩
          | false => exact ⟨rfl, by omega, e', t', h4, h5, h6, h7⟩
theorem tot_rel {R : Ent → AEnt → Prop} {rows : List (List Ent)} {rowsA : List (List AEnt)} (h : Rel2 (Rel2 R) rows rowsA) : totR rows = totA rowsA := by
  unfold totR totA
  congr 1
  apply List.ext_getElem
  · simp [h.len]
  · intro i h1 h2
    simp only [List.getElem_map]
    exact (h.at_ i (by simpa using h1) (by simpa using h2)).len
theorem mergeA_step {nw : Bool} {rowsA : List (List AEnt)} {b : Nat} {a : AEnt} {l : List AEnt} (h : bestA nw rowsA rowsA.length = some (b, a, l)) (ht : totA (rowsA.set b l) + 1 = totA rowsA) :
    mergeA nw (totA rowsA) rowsA = a :: mergeA nw (totA (rowsA.set b l)) (rowsA.set b l) := by
  rw [← ht, mergeA, h]
theorem mergeA_none {nw : Bool} {rowsA : List (List AEnt)} (h : bestA nw rowsA rowsA.length = none) : mergeA nw (totA rowsA) rowsA = [] := by
  cases hq : totA rowsA with
  | zero => rfl
  | succ n => rw [mergeA, h]

theorem next_rel {R : Ent → AEnt → Prop} (hR : KeyR R) (nw : Bool) : ∀ (F : Nat) (rows : List (List Ent)) (rowsA : List (List AEnt)) (seen : List Int) (sk : Int), Rel2 (Rel2 R) rows rowsA → totR rows < F →
    match rnextF nw F rows seen sk with
    | (none, _, _, _) => dedupS seen (mergeA nw (totA rowsA) rowsA) = []
    | (some x, rows', seen', sk') => ∃ a rowsA', Rel2 (Rel2 R) rows' rowsA' ∧ R x a ∧ dedupS seen (mergeA nw (totA rowsA) rowsA) = a :: dedupS seen' (mergeA nw (totA rowsA') rowsA') := by
  intro F
  induction F with
  | zero => intro rows rowsA seen sk h hF; omega
  | succ F ih =>
    intro rows rowsA seen sk h hF
    have hb := best_rel hR nw h rows.length
    rw [rnextF]
    rw [show bestA nw rowsA rows.length = bestA nw rowsA rowsA.length from by rw [h.len]] at hb
    cases h1 : bestTo nw rows rows.length with
    | none =>
      cases h2 : bestA nw rowsA rowsA.length with
      | none => simp only; rw [mergeA_none h2]; rfl
      | some p => rw [h1, h2] at hb; exact hb.elim
    | some b =>
      cases h2 : bestA nw rowsA rowsA.length with
      | none => rw [h1, h2] at hb; exact hb.elim
      | some p =>
        obtain ⟨b', a, l⟩ := p
        rw [h1, h2] at hb
        obtain ⟨rfl, hlt, e, t, h4, h5, h6, h7⟩ := hb
        have htl : (rowAt rows b).tail = t := by rw [h4]; rfl
        have hhd : hdE (rowAt rows b) = e := by rw [h4]; rfl
        have hrel : Rel2 (Rel2 R) (rows.set b t) (rowsA.set b l) := h.set b h6
        have ht := totR_set rows b hlt (by rw [h4]; simp)
        rw [htl] at ht
        have hta : totA (rowsA.set b l) + 1 = totA rowsA := by rw [← tot_rel hrel, ← tot_rel h]; exact ht
        rw [mergeA_step h2 hta]
        simp only [htl, hhd]
        have hk := hR _ _ h5
        by_cases hs : e.s ∈ seen
        · rw [if_pos hs, dedupS, if_pos (by rw [← hk.1]; exact hs)]
          exact ih _ _ _ _ hrel (by omega)
        · rw [if_neg hs, dedupS, if_neg (by rw [← hk.1]; exact hs)]
          exact ⟨a, _, hrel, h5, by rw [hk.1]⟩
theorem rall_rel {R : Ent → AEnt → Prop} (hR : KeyR R) (nw : Bool) (most : Int) : ∀ (f : Nat) (rows : List (List Ent)) (rowsA : List (List AEnt)) (seen : List Int) (sk : Int) (acc : List Ent) (accA : List AEnt), Rel2 (Rel2 R) rows rowsA → Rel2 R acc accA → totR rows < f →
    Rel2 R (rallL nw most f rows seen sk acc) (accA ++ limA most accA.length (dedupS seen (mergeA nw (totA rowsA) rowsA))) := by
  intro f
  induction f with
  | zero => intro rows rowsA seen sk acc accA h ha hf; omega
  | succ f ih =>
    intro rows rowsA seen sk acc accA h ha hf
    rw [rallL]
    by_cases hm : most ≠ 0 ∧ most ≤ acc.length
    · rw [if_pos hm]
      have : limA most accA.length (dedupS seen (mergeA nw (totA rowsA) rowsA)) = [] := by
        rw [limA, if_neg hm.1, ← ha.len, show most.toNat - acc.length = 0 from by omega]; rfl
      rw [this, List.append_nil]
      exact ha
    · rw [if_neg hm]
      have hn := next_rel hR nw (totR rows + 1) rows rowsA seen sk h (by omega)
      have hfc := fun r a b c hq => rnextF_facts nw (totR rows + 1) rows seen sk r a b c hq
      rcases hx : rnextF nw (totR rows + 1) rows seen sk with ⟨r, rows', seen', sk'⟩
      rw [hx] at hn
      have hfc := hfc _ _ _ _ hx
      cases r with
      | none =>
        simp only at hn ⊢
        rw [hn]
        have : limA most accA.length [] = [] := by unfold limA; split <;> simp
        rw [this, List.append_nil]
        exact ha
      | some x =>
        simp only at hn ⊢
        obtain ⟨a, rowsA', h1, h2, h3⟩ := hn
        have h4 := ih rows' rowsA' seen' sk' (acc ++ [x]) (accA ++ [a]) h1 (ha.append (Rel2.nil.cons h2)) (by have := hfc.1; simp at this; omega)
        rw [h3]
        have : accA ++ limA most accA.length (a :: dedupS seen' (mergeA nw (totA rowsA') rowsA')) = (accA ++ [a]) ++ limA most (accA ++ [a]).length (dedupS seen' (mergeA nw (totA rowsA') rowsA')) := by
          unfold limA
          by_cases h0 : most = 0
          · rw [if_pos h0, if_pos h0]; simp
          · rw [if_neg h0, if_neg h0]
            have hl := ha.len
            have e : most.toNat - accA.length = (most.toNat - (accA ++ [a]).length) + 1 := by simp; omega
            rw [e, List.take_succ_cons]; simp
        rw [this]
        exact h4
/-- The document's merge answers what must come. -/
theorem refAll_rel {R : Ent → AEnt → Prop} (hR : KeyR R) (nw : Bool) (most : Int) {rows : List (List Ent)} {rowsA : List (List AEnt)} (h : Rel2 (Rel2 R) rows rowsA) : Rel2 R (refAll nw most rows) (limA most 0 (allA nw rowsA)) := by
  have := rall_rel hR nw most (totR rows + 1) rows rowsA [] 0 [] [] h Rel2.nil (by omega)
  simpa [refAll, allA] using this
end Go.Proofs.Ytjfggmkfnofldaa
