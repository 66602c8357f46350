import Derived.Test.YtjfggmkfnofldaaS1
namespace Go.Proofs.Ytjfggmkfnofldaa
set_option linter.unusedVariables false

/-! ### what a merge of ordered rows has -/
def SortedA (nw : Bool) (l : List AEnt) : Prop := l.Pairwise (fun a b => ¬ aheadA nw b a)
theorem mergeA_mem (nw : Bool) : ∀ f rows, ∀ x ∈ mergeA nw f rows, ∃ r ∈ rows, x ∈ r := by
  intro f
  induction f with
  | zero => intro rows x h; rw [mergeA] at h; cases h
  | succ f ih =>
    intro rows x h
    have hb := best_specA nw rows rows.length
    rw [mergeA] at h
    cases hbe : bestA nw rows rows.length with
    | none => rw [hbe] at h; cases h
    | some p =>
      obtain ⟨b, a, l⟩ := p
      rw [hbe] at h hb
      obtain ⟨h1, h2, h3⟩ := hb
      simp only at h
      rcases List.mem_cons.1 h with rfl | h
      · exact ⟨_, getD_mem h1, by rw [h2]; exact List.mem_cons_self⟩
      · obtain ⟨r, hr, hx⟩ := ih _ _ h
        rcases mem_set_cases hr with rfl | hr
        · exact ⟨_, getD_mem h1, by rw [h2]; exact List.mem_cons_of_mem _ hx⟩
        · exact ⟨r, hr, hx⟩
theorem mergeA_all (nw : Bool) : ∀ f rows, totA rows ≤ f → ∀ r ∈ rows, ∀ x ∈ r, x ∈ mergeA nw f rows := by
  intro f
  induction f with
  | zero =>
    intro rows ht r hr x hx
    obtain ⟨i, hi, e⟩ := mem_getD hr
    cases r with
    | nil => cases hx
    | cons a l => have := totA_set rows i a l hi e; omega
  | succ f ih =>
    intro rows ht r hr x hx
    have hb := best_specA nw rows rows.length
    rw [mergeA]
    cases hbe : bestA nw rows rows.length with
    | none =>
      rw [hbe] at hb
      obtain ⟨i, hi, e⟩ := mem_getD hr
      rw [hb i hi] at e
      rw [← e] at hx; cases hx
    | some p =>
      obtain ⟨b, a, l⟩ := p
      rw [hbe] at hb
      obtain ⟨h1, h2, h3⟩ := hb
      simp only
      have ht' : totA (rows.set b l) ≤ f := by have := totA_set rows b a l h1 h2; omega
      rcases mem_set_of (l := l) h1 hr with hr' | rfl
      · exact List.mem_cons_of_mem _ (ih _ ht' r hr' x hx)
      · rw [h2] at hx
        rcases List.mem_cons.1 hx with rfl | hm
        · exact List.mem_cons_self
        · exact List.mem_cons_of_mem _ (ih _ ht' l (self_mem_set h1) x hm)
theorem mergeA_sorted (nw : Bool) : ∀ f rows, (∀ r ∈ rows, SortedA nw r) → SortedA nw (mergeA nw f rows) := by
  intro f
  induction f with
  | zero => intro rows _; exact List.Pairwise.nil
  | succ f ih =>
    intro rows hs
    have hb := best_specA nw rows rows.length
    rw [mergeA]
    cases hbe : bestA nw rows rows.length with
    | none => exact List.Pairwise.nil
    | some p =>
      obtain ⟨b, a, l⟩ := p
      rw [hbe] at hb
      obtain ⟨h1, h2, h3⟩ := hb
      simp only
      have hrow := hs _ (getD_mem h1)
      rw [h2] at hrow
      have hrow := List.pairwise_cons.1 hrow
      refine List.pairwise_cons.2 ⟨fun y hy => ?_, ih _ (fun r hr => ?_)⟩
      · obtain ⟨r, hr, hyr⟩ := mergeA_mem nw f _ y hy
        rcases mem_set_cases hr with rfl | hr
        · exact hrow.1 y hyr
        · obtain ⟨i, hi, e⟩ := mem_getD hr
          cases r with
          | nil => cases hyr
          | cons c m =>
            have hca := h3 i c m hi e
            rcases List.mem_cons.1 hyr with rfl | hm
            · exact hca
            · exact naheadA_trans ((List.pairwise_cons.1 (hs _ hr)).1 y hm) hca
      · rcases mem_set_cases hr with rfl | hr
        · exact hrow.2
        · exact hs r hr
theorem dedupS_sub (l : List AEnt) : ∀ seen, (dedupS seen l).Sublist l := by
  induction l with
  | nil => intro seen; exact List.Sublist.refl _
  | cons a l ih =>
    intro seen
    rw [dedupS]
    split
    · exact (ih seen).cons _
    · exact (ih _).cons_cons _
theorem dedupS_cov (l : List AEnt) : ∀ seen, ∀ x ∈ l, x.s ∈ seen ∨ ∃ y ∈ dedupS seen l, y.s = x.s := by
  induction l with
  | nil => intro seen x h; cases h
  | cons a l ih =>
    intro seen x h
    rw [dedupS]
    split
    · rename_i hs
      rcases List.mem_cons.1 h with rfl | h
      · exact .inl hs
      · exact ih seen x h
    · rcases List.mem_cons.1 h with rfl | h
      · exact .inr ⟨x, List.mem_cons_self, rfl⟩
      · rcases ih (a.s :: seen) x h with h | ⟨y, hy, e⟩
        · rcases List.mem_cons.1 h with h | h
          · exact .inr ⟨a, List.mem_cons_self, h.symm⟩
          · exact .inl h
        · exact .inr ⟨y, List.mem_cons_of_mem _ hy, e⟩
theorem allA_from (nw : Bool) (rows : List (List AEnt)) : ∀ x ∈ allA nw rows, ∃ r ∈ rows, x ∈ r := fun x hx => mergeA_mem nw _ _ x ((dedupS_sub _ _).subset hx)
theorem allA_cov (nw : Bool) (rows : List (List AEnt)) : ∀ r ∈ rows, ∀ x ∈ r, ∃ y ∈ allA nw rows, y.s = x.s := fun r hr x hx => by
  rcases dedupS_cov (mergeA nw (totA rows) rows) [] x (mergeA_all nw _ rows (Nat.le_refl _) r hr x hx) with h | h
  · cases h
  · exact h
theorem allA_distinct (nw : Bool) (rows : List (List AEnt)) : (allA nw rows).Pairwise (fun x y => x.s ≠ y.s) := (dedupS_distinct _ _).1
theorem allA_sorted (nw : Bool) (rows : List (List AEnt)) (h : ∀ r ∈ rows, SortedA nw r) : SortedA nw (allA nw rows) := (mergeA_sorted nw _ rows h).sublist (dedupS_sub _ _)

/-- How many numbers lie in entries, of those that are not yet seen. -/
def cntS (seen : List Int) (l : List AEnt) : Nat := (dedupS seen l).length
theorem cnt_eq (nw : Bool) (rows : List (List AEnt)) : cntS [] rows.flatten = (allA nw rows).length := by
  have d1 := dedupS_distinct rows.flatten []
  have d2 := allA_distinct nw rows
  have n1 : ((dedupS [] rows.flatten).map AEnt.s).Nodup := List.pairwise_map.2 d1.1
  have n2 : ((allA nw rows).map AEnt.s).Nodup := List.pairwise_map.2 d2
  have hp : ((dedupS [] rows.flatten).map AEnt.s).Perm ((allA nw rows).map AEnt.s) := (List.perm_ext_iff_of_nodup n1 n2).2 fun i => by
    constructor
    · intro h
      obtain ⟨x, hx, rfl⟩ := List.mem_map.1 h
      obtain ⟨r, hr, hxr⟩ := List.mem_flatten.1 ((dedupS_sub _ _).subset hx)
      obtain ⟨y, hy, e⟩ := allA_cov nw rows r hr x hxr
      exact List.mem_map.2 ⟨y, hy, e⟩
    · intro h
      obtain ⟨x, hx, rfl⟩ := List.mem_map.1 h
      obtain ⟨r, hr, hxr⟩ := allA_from nw rows x hx
      rcases dedupS_cov rows.flatten [] x (List.mem_flatten.2 ⟨r, hr, hxr⟩) with h | ⟨y, hy, e⟩
      · cases h
      · exact List.mem_map.2 ⟨y, hy, e⟩
  have := hp.length_eq
  simpa [cntS] using this
/-- rows of raw entries that are ordered are ordered. -/
theorem sorted_of_ordB {nw : Bool} {es : List Ent} {xs : List AEnt} (hk : es.map (fun e => (e.s, e.t)) = xs.map (fun e => (e.s, e.t))) (h : ordB nw es = true) : SortedA nw xs := by
  have hl : es.length = xs.length := by have := congrArg List.length hk; simpa using this
  have hkey : ∀ i (h1 : i < es.length) (h2 : i < xs.length), es[i].s = xs[i].s ∧ es[i].t = xs[i].t := fun i h1 h2 => by
    have := List.getElem_of_eq hk (i := i) (by simpa using h1)
    simpa using this
  have hadj : ∀ i (h : i + 1 < xs.length), ¬ aheadA nw xs[i + 1] xs[i] := fun i hi => by
    have h1 := (ordB_iff nw es).1 h i (by omega)
    obtain ⟨a1, a2⟩ := hkey i (by omega) (by omega)
    obtain ⟨b1, b2⟩ := hkey (i + 1) (by omega) (by omega)
    rw [← firstA_false]
    rw [entFirst, a1, a2, b1, b2] at h1
    exact h1
  refine List.pairwise_iff_getElem.2 fun i j hi hj hij => ?_
  obtain ⟨d, rfl⟩ : ∃ d, j = i + 1 + d := ⟨j - (i + 1), by omega⟩
  induction d with
  | zero => exact hadj i hj
  | succ d ih => exact naheadA_trans (hadj (i + 1 + d) (by omega)) (ih (by omega) (by omega))
theorem ordB_of_sorted {nw : Bool} {es : List Ent} {xs : List AEnt} (hk : es.map (fun e => (e.s, e.t)) = xs.map (fun e => (e.s, e.t))) (h : SortedA nw xs) : ordB nw es = true := by
  have hl : es.length = xs.length := by have := congrArg List.length hk; simpa using this
  have hkey : ∀ i (h1 : i < es.length) (h2 : i < xs.length), es[i].s = xs[i].s ∧ es[i].t = xs[i].t := fun i h1 h2 => by
    have := List.getElem_of_eq hk (i := i) (by simpa using h1)
    simpa using this
  refine (ordB_iff nw es).2 fun i hi => ?_
  obtain ⟨a1, a2⟩ := hkey i (by omega) (by omega)
  obtain ⟨b1, b2⟩ := hkey (i + 1) (by omega) (by omega)
  have := List.pairwise_iff_getElem.1 h i (i + 1) (by omega) (by omega) (by omega)
  rw [entFirst, a1, a2, b1, b2]
  exact (firstA_false nw _ _).2 this
/-! ### the law's own words: what it collects and counts -/
def seqs (l : List AEnt) : List Int := l.map AEnt.s
theorem dedupS_snoc (l : List AEnt) (x : AEnt) : ∀ seen, dedupS seen (l ++ [x]) = dedupS seen l ++ (if x.s ∈ seen ∨ x.s ∈ seqs l then [] else [x]) := by
  induction l with
  | nil =>
    intro seen
    simp only [List.nil_append, dedupS, seqs, List.map_nil, List.not_mem_nil, or_false]
  | cons a l ih =>
    intro seen
    rw [List.cons_append, dedupS, dedupS]
    by_cases h : a.s ∈ seen
    · rw [if_pos h, if_pos h, ih]
      have e : (x.s ∈ seen ∨ x.s ∈ seqs l) ↔ (x.s ∈ seen ∨ x.s ∈ seqs (a :: l)) := by
        simp only [seqs, List.map_cons, List.mem_cons]
        constructor
        · rintro (h1 | h1)
          · exact .inl h1
          · exact .inr (.inr h1)
        · rintro (h1 | h1 | h1)
          · exact .inl h1
          · exact .inl (h1 ▸ h)
          · exact .inr h1
      simp only [e]
    · rw [if_neg h, if_neg h, ih, List.cons_append]
      have e : (x.s ∈ a.s :: seen ∨ x.s ∈ seqs l) ↔ (x.s ∈ seen ∨ x.s ∈ seqs (a :: l)) := by
        simp only [seqs, List.map_cons, List.mem_cons]
        constructor
        · rintro ((h1 | h1) | h1)
          · exact .inr (.inl h1)
          · exact .inl h1
          · exact .inr (.inr h1)
        · rintro (h1 | h1 | h1)
          · exact .inl (.inr h1)
          · exact .inl (.inl h1)
          · exact .inr h1
      simp only [e]
theorem cnt_snoc (l : List AEnt) (x : AEnt) : (dedupS [] (l ++ [x])).length = (dedupS [] l).length + if x.s ∈ seqs l then 0 else 1 := by
  rw [dedupS_snoc]
  simp only [List.not_mem_nil, false_or, List.length_append]
  split <;> rfl
theorem seqs_snoc (l : List AEnt) (x : AEnt) (i : Int) : decide (i ∈ seqs (l ++ [x])) = if i = x.s then true else decide (i ∈ seqs l) := by
  simp only [seqs, List.map_append, List.mem_append, List.map_cons, List.map_nil, List.mem_singleton]
  by_cases h : i = x.s <;> simp [h]
theorem flatten_take_succ {α : Type} (xss : List (List α)) (i : Nat) (h : i < xss.length) : (xss.take (i + 1)).flatten = (xss.take i).flatten ++ xss[i] := by
  rw [List.take_succ_eq_append_getElem h, List.flatten_append, List.flatten_singleton]
theorem flatten_take_len (xss : List (List AEnt)) (i : Nat) : (xss.take i).flatten.length ≤ totA xss := by
  have h : (xss.take i).flatten.length + (xss.drop i).flatten.length = totA xss := by
    rw [← List.length_append, ← List.flatten_append, List.take_append_drop, List.length_flatten]; rfl
  omega
theorem flatten_row_len (xss : List (List AEnt)) (i : Nat) (h : i < xss.length) : (xss.take i).flatten.length + xss[i].length ≤ totA xss := by
  have := flatten_take_len xss (i + 1)
  rw [flatten_take_succ xss i h, List.length_append] at this
  exact this
end Go.Proofs.Ytjfggmkfnofldaa
