import Derived.Test.YtjfggmkfnofldaaU1
namespace Go.Proofs.Ytjfggmkfnofldaa
open Go.RowKit
set_option linter.unusedVariables false

/-! ### what the loops of the law hold -/
def WantRel (w : World) (mb : Nat) (nw : Bool) (rs : List Raw) (xss : List (List AEnt)) (v6 : Value) (wr : World) : Prop :=
  ∃ i : Nat, v6 = .int .i64 i ∧ i ≤ rs.length ∧ (∀ j (h : j < rs.length), j < i → ordB nw rs[j].es = true) ∧ SetIs wr mb (xss.take i).flatten.length (fun s => decide (s ∈ seqs (xss.take i).flatten)) ∧ Below w.heap.size w wr
def WantIn (w : World) (mb : Nat) (P xs : List AEnt) (v7 : Value) (wi : World) : Prop :=
  ∃ k : Nat, v7 = .int .i64 k ∧ k ≤ xs.length ∧ SetIs wi mb (P.length + k) (fun s => decide (s ∈ seqs (P ++ xs.take k))) ∧ Below w.heap.size w wi
def PassRel (w w3 : World) (mb N : Nat) (all L : List AEnt) (v9 : Value) (wr : World) : Prop :=
  ∃ i : Nat, v9 = .int .i64 i ∧ i ≤ L.length ∧ SetIs wr mb (N + i) (fun s => decide (s ∈ seqs all) && !decide (s ∈ seqs (L.take i))) ∧ KeepF w3 wr (fun k => k = mb) ∧ Below w.heap.size w wr
def FromRel (w4 : World) (a : AEnt) (xss : List (List AEnt)) (v11 v10 : Value) (wi : World) : Prop :=
  ∃ (k : Nat) (f : Bool), v11 = .int .i64 k ∧ v10 = .bool f ∧ k ≤ xss.length ∧ (f = true ∨ ∃ r ∈ xss.drop k, a ∈ r) ∧ Below w4.heap.size w4 wi
def FromIn (w4 : World) (a : AEnt) (x0 : List AEnt) (later : List (List AEnt)) (v12 v10 : Value) (wi : World) : Prop :=
  ∃ (k : Nat) (f : Bool), v12 = .int .i64 k ∧ v10 = .bool f ∧ k ≤ x0.length ∧ (f = true ∨ a ∈ x0.drop k ∨ ∃ r ∈ later, a ∈ r) ∧ Below w4.heap.size w4 wi
def CntRel (w w3 : World) (mb mb2 : Nat) (xss : List (List AEnt)) (v15 v13 : Value) (wr : World) : Prop :=
  ∃ i : Nat, v15 = .int .i64 i ∧ i ≤ xss.length ∧ v13 = .int .i64 ((dedupS [] (xss.take i).flatten).length : Nat) ∧ SetIs wr mb2 (xss.take i).flatten.length (fun s => decide (s ∈ seqs (xss.take i).flatten)) ∧ KeepF w3 wr (fun k => k = mb) ∧ Below w.heap.size w wr
def CntIn (w w3 : World) (mb mb2 : Nat) (P xs : List AEnt) (v16 v13 : Value) (wr : World) : Prop :=
  ∃ k : Nat, v16 = .int .i64 k ∧ k ≤ xs.length ∧ v13 = .int .i64 ((dedupS [] (P ++ xs.take k)).length : Nat) ∧ SetIs wr mb2 (P.length + k) (fun s => decide (s ∈ seqs (P ++ xs.take k))) ∧ KeepF w3 wr (fun k => k = mb) ∧ Below w.heap.size w wr

theorem setIs_congr {w : World} {b n m : Nat} {S T : Int → Bool} (h : SetIs w b n S) (hn : n = m) (e : ∀ i, S i = T i) : SetIs w b m T := by
  subst hn
  rw [show T = S from funext fun i => (e i).symm]
  exact h
theorem want_step {w : World} {mb n k : Nat} {P xs : List AEnt} {a : AEnt} (h : SetIs w mb (n + 1) (fun j => if j = a.s then true else decide (j ∈ seqs (P ++ xs.take k)))) (hk : k < xs.length) (ha : xs[k] = a) (hn : n = P.length + k) :
    SetIs w mb (P.length + (k + 1)) (fun s => decide (s ∈ seqs (P ++ xs.take (k + 1)))) := by
  refine setIs_congr h (by omega) fun i => ?_
  rw [List.take_succ_eq_append_getElem hk, ← List.append_assoc, seqs_snoc, ha]
theorem want_end {w : World} {mb : Nat} {xss : List (List AEnt)} {i k : Nat} (hi : i < xss.length) (h : SetIs w mb ((xss.take i).flatten.length + k) (fun s => decide (s ∈ seqs ((xss.take i).flatten ++ xss[i].take k)))) (hk : k = xss[i].length) :
    SetIs w mb (xss.take (i + 1)).flatten.length (fun s => decide (s ∈ seqs (xss.take (i + 1)).flatten)) := by
  subst hk
  rw [flatten_take_succ xss i hi]
  rw [List.take_of_length_le (Nat.le_refl _)] at h
  rw [List.length_append]
  exact h
theorem pass_step {w : World} {mb n i : Nat} {all L : List AEnt} {a : AEnt} (h : SetIs w mb (n + 1) (fun j => if j = a.s then false else (decide (j ∈ seqs all) && !decide (j ∈ seqs (L.take i))))) (hi : i < L.length) (ha : L[i] = a) :
    SetIs w mb (n + 1) (fun s => decide (s ∈ seqs all) && !decide (s ∈ seqs (L.take (i + 1)))) := by
  refine setIs_congr h rfl fun j => ?_
  rw [List.take_succ_eq_append_getElem hi, seqs_snoc, ha]
  by_cases e : j = a.s <;> simp [e]
theorem pass_has {nw : Bool} {xss : List (List AEnt)} {i : Nat} (hi : i < (allA nw xss).length) : (decide ((allA nw xss)[i].s ∈ seqs xss.flatten) && !decide ((allA nw xss)[i].s ∈ seqs ((allA nw xss).take i))) = true := by
  have h1 : (allA nw xss)[i].s ∈ seqs xss.flatten := by
    obtain ⟨r, hr, hx⟩ := allA_from nw xss _ (List.getElem_mem hi)
    exact List.mem_map.2 ⟨_, List.mem_flatten.2 ⟨r, hr, hx⟩, rfl⟩
  have h2 : (allA nw xss)[i].s ∉ seqs ((allA nw xss).take i) := by
    intro h
    obtain ⟨y, hy, e⟩ := List.mem_map.1 h
    obtain ⟨j, hj, rfl⟩ := List.getElem_of_mem hy
    rw [List.getElem_take] at e
    exact List.pairwise_iff_getElem.1 (allA_distinct nw xss) j i (by simp at hj; omega) hi (by simp at hj; omega) e
  simp [h1, h2]
theorem from_next {a : AEnt} {x0 : List AEnt} {later : List (List AEnt)} {k : Nat} (hk : k < x0.length) (h : a ∈ x0.drop k ∨ ∃ r ∈ later, a ∈ r) : decide (x0[k] = a) = true ∨ a ∈ x0.drop (k + 1) ∨ ∃ r ∈ later, a ∈ r := by
  rcases h with h | h
  · rw [List.drop_eq_getElem_cons hk] at h
    rcases List.mem_cons.1 h with h | h
    · exact .inl (by simp [h])
    · exact .inr (.inl h)
  · exact .inr (.inr h)
theorem from_row {a : AEnt} {xss : List (List AEnt)} {k : Nat} (hk : k < xss.length) {f : Bool} (h : f = true ∨ ∃ r ∈ xss.drop k, a ∈ r) : f = true ∨ a ∈ xss[k].drop 0 ∨ ∃ r ∈ xss.drop (k + 1), a ∈ r := by
  rcases h with h | ⟨r, hr, ha⟩
  · exact .inl h
  · rw [List.drop_eq_getElem_cons hk] at hr
    rcases List.mem_cons.1 hr with rfl | hr
    · exact .inr (.inl ha)
    · exact .inr (.inr ⟨r, hr, ha⟩)
theorem cnt_step {P xs : List AEnt} {a : AEnt} {k : Nat} (hk : k < xs.length) (ha : xs[k] = a) : (dedupS [] (P ++ xs.take (k + 1))).length = (dedupS [] (P ++ xs.take k)).length + if a.s ∈ seqs (P ++ xs.take k) then 0 else 1 := by
  rw [List.take_succ_eq_append_getElem hk, ← List.append_assoc, cnt_snoc, ha]
theorem cnt_same {w : World} {mb n k : Nat} {P xs : List AEnt} {a : AEnt} (h : SetIs w mb n (fun j => decide (j ∈ seqs (P ++ xs.take k)))) (hk : k < xs.length) (ha : xs[k] = a) (hm : a.s ∈ seqs (P ++ xs.take k)) :
    SetIs w mb n (fun s => decide (s ∈ seqs (P ++ xs.take (k + 1)))) := by
  refine setIs_congr h rfl fun i => ?_
  rw [List.take_succ_eq_append_getElem hk, ← List.append_assoc, seqs_snoc, ha]
  by_cases e : i = a.s
  · subst e; simp [hm]
  · simp [e]
theorem setIs_mono {w : World} {b n m : Nat} {S : Int → Bool} (h : SetIs w b n S) (hn : n ≤ m) : SetIs w b m S := by
  obtain ⟨D, ho, hD⟩ := h.out
  exact ⟨D, by
    obtain ⟨es, cl, h1, h2, h3⟩ := ho
    exact ⟨es, cl, h1, h2, Nat.le_trans h3.1 hn, h3.2⟩, hD⟩
end Go.Proofs.Ytjfggmkfnofldaa
