import Derived.Test.YtjfggmkfnofldaaO1
import Derived.Test.YtjfggmkfnofldaaH4
namespace Go.Proofs.Ytjfggmkfnofldaa
open Go.ChangeShapes Go.WideShapes Go.ChangeAt Go.RowKit
set_option linter.unusedVariables false

section
variable {H : Type} {enc : TypeId × Value → H} {w : World} {held : Bool}

theorem bulk_one {H : Type} (d : DataW H) : 1 ≤ Rows.uptoBulk d := by
  cases d with
  | lit l => cases l <;> simp [Rows.uptoBulk]
  | nil => simp [Rows.uptoBulk]
  | ptr d => simp [Rows.uptoBulk]
  | slice elems spare => simp [Rows.uptoBulk]
  | agg parts => simp [Rows.uptoBulk]
  | iface t d => simp [Rows.uptoBulk]
  | map entries => simp [Rows.uptoBulk]
  | held h => simp [Rows.uptoBulk]
theorem bulk_length {H : Type} (l : List (DataW H)) : l.length ≤ Rows.uptoBulkAll l := by
  induction l with
  | nil => simp [Rows.uptoBulkAll]
  | cons x r ih => have := bulk_one x; simp only [Rows.uptoBulkAll, List.length_cons]; omega
theorem rowData_bulk {H : Type} {d : DataW H} {n c : Nat} (h : RowData d n c) : n ≤ Rows.uptoBulk d := by
  rcases h with ⟨rfl, rfl, _⟩ | ⟨elems, spare, rfl, rfl, _⟩
  · omega
  · have := bulk_length elems
    simp only [Rows.uptoBulk]; omega
theorem sum_bulk {H : Type} (l : List (DataW H)) (xss : List (List AEnt)) (hl : l.length = xss.length) (h : ∀ i (h : i < l.length) (h' : i < xss.length), xss[i].length ≤ Rows.uptoBulk l[i]) : totA xss ≤ Rows.uptoBulkAll l := by
  induction l generalizing xss with
  | nil =>
    have : xss = [] := List.eq_nil_of_length_eq_zero (by simpa using hl.symm)
    subst this; simp [totA, Rows.uptoBulkAll]
  | cons a l ih =>
    cases xss with
    | nil => simp at hl
    | cons b m =>
      have h0 := h 0 (by simp) (by simp)
      have h1 := ih m (by simpa using hl) (fun i h2 h3 => h (i + 1) (by simpa using h2) (by simpa using h3))
      simp only [totA, List.map_cons, List.sum_cons, Rows.uptoBulkAll, List.getElem_cons_zero] at *
      omega

theorem open_rows {n : Nat} {v : Value} {x : DataW H × List MemPlace} (h : DataW.trod enc Try.prog w 0 (fun _ => true) held n 22 [v] = some x) (hz : ∀ k ∈ x.1.weights Try.prog 22, k ≤ reachBytes) :
    ∃ (A : Option Addr) (c : Nat) (rs : List Raw) (xss : List (List AEnt)), v = .slice A rs.length c ∧ RowsA w A rs xss ∧ (∀ xs ∈ xss, ∀ a ∈ xs, AOk a) ∧ (A = none → c = 0) ∧ (∀ xs ∈ xss, xs.length * 56 ≤ 140737488355328) ∧ rs.length ≤ Rows.uptoBulk x.1 ∧ totA xss ≤ Rows.uptoBulk x.1 := by
  rcases Deep.open_slice1 Try.underlying22 cells24 h with ⟨hcs, hx⟩ | ⟨a, len, cap, m, n', V, D, Pl, hcs, _, hl, hm, hmm, rfl, hel⟩
  · injection hcs with hcs
    subst hcs; subst hx
    exact ⟨none, 0, [], [], rfl, ⟨fun hp => by simp at hp, rfl, fun i h => by simp at h, fun r h => (by cases h)⟩, fun e h => (by cases h), fun _ => rfl, fun e h => (by cases h), by simp, by simp [totA]⟩
  · injection hcs with hcs
    subst hcs
    simp only [if_true] at hmm
    subst hmm
    have hrow : ∀ i, i < len → ∃ p : Raw × List AEnt, w.cell? (a.add i) = some p.1.val ∧ RowA w p.1.A p.1.es p.2 ∧ (∀ e ∈ p.1.es, EntOk w e) ∧ ((p.1.A = none → p.1.c = 0) ∧ p.1.es.length ≤ p.1.c) ∧ p.1.es.length * 56 ≤ 140737488355328 ∧ RowData (D i) p.1.es.length p.1.c := by
      intro i hi
      obtain ⟨h1, h2⟩ := hel i (by omega)
      obtain ⟨A, c, es, xs, hv, k1, k2, k3, k4, k5, k6⟩ := open_ents h2 (fun k hk => hz k (by
        simp only [DataW.weights, Try.underlying22, List.mem_cons, List.mem_append]
        exact .inr (.inl (weights_all (d := D i) (List.mem_map_of_mem (List.mem_range.2 hi)) k hk))))
      exact ⟨(⟨A, c, es⟩, xs), by rw [h1, hv], k1, k2, ⟨k3, k4⟩, k5, k6⟩
    have : Inhabited (Raw × List AEnt) := ⟨(⟨none, 0, []⟩, [])⟩
    obtain ⟨f, hf⟩ := Deep.choose_lt hrow
    have hlen : ((List.range len).map fun i => (f i).1).length = len := by simp
    refine ⟨some a, m, (List.range len).map fun i => (f i).1, (List.range len).map fun i => (f i).2, by rw [hlen], ⟨fun hp => ?_, by simp, fun i h1 h2 => ?_, fun r hr => ?_⟩, fun xs hxs b hb => ?_, fun e => (by cases e), fun xs hxs => ?_, ?_, ?_⟩
    · simp at hp
      obtain ⟨k0, _⟩ := hf 0 (by omega)
      have hsp := spot_none (a := a) (by rw [show a.add 0 = a from rfl] at k0; exact k0)
      refine ⟨a.block, a.off, by rw [← hsp], fun j u hu => ?_⟩
      have hj := (List.getElem?_eq_some_iff.1 hu).1
      simp at hj
      obtain ⟨q0, _⟩ := hf j hj
      rw [hsp, addr_add] at q0
      simp [hj] at hu
      rw [← hu]
      exact q0
    · simp only [List.getElem_map, List.getElem_range]
      exact (hf i (by simpa using h1)).2.1
    · obtain ⟨i, hi, rfl⟩ := List.mem_map.1 hr
      exact (hf i (List.mem_range.1 hi)).2.2.2.1
    · obtain ⟨i, hi, rfl⟩ := List.mem_map.1 hxs
      obtain ⟨_, k1, k2, _⟩ := hf i (List.mem_range.1 hi)
      obtain ⟨j, hj, rfl⟩ := List.getElem_of_mem hb
      have hj2 : j < (f i).1.es.length := by rw [k1.len]; exact hj
      have k3 := k1.ents j hj2 hj
      obtain ⟨k4, k5, _⟩ := k2 _ (List.getElem_mem hj2)
      exact ⟨by rw [← k3.s]; exact k4, by rw [← k3.t]; exact k5⟩
    · obtain ⟨i, hi, rfl⟩ := List.mem_map.1 hxs
      obtain ⟨_, k1, _, _, k5, _⟩ := hf i (List.mem_range.1 hi)
      rw [← k1.len]; exact k5
    · have := bulk_length ((List.range len).map D)
      simp at this
      simp only [hlen, Rows.uptoBulk]; omega
    · have := sum_bulk ((List.range len).map D) ((List.range len).map fun i => (f i).2) (by simp) (fun i h1 h2 => by
        simp at h1
        simp only [List.getElem_map, List.getElem_range]
        obtain ⟨_, k1, _, _, _, k6⟩ := hf i h1
        rw [← k1.len]; exact rowData_bulk k6)
      simp only [Rows.uptoBulk]; omega
end
end Go.Proofs.Ytjfggmkfnofldaa
