import Derived.Test.YtjfggmkfnofldaaH3
namespace Go.Proofs.Ytjfggmkfnofldaa
open Go.RowKit
set_option linter.unusedVariables false

theorem LabIs.uniq {w : World} {e : Ent} {ls ls' : List Lab} (h : LabIs w e ls) (h' : LabIs w e ls') : ls = ls' := by
  have hl : ls.length = ls'.length := h.2.1.trans h'.2.1.symm
  apply List.ext_getElem hl
  intro i h1 h2
  obtain ⟨b, o, e1, hc⟩ := h.1 (by rw [lcells_length]; omega)
  obtain ⟨b', o', e2, hc'⟩ := h'.1 (by rw [lcells_length]; omega)
  rw [e1] at e2
  injection e2 with e2; injection e2 with e3 e4
  subst e3; subst e4
  obtain ⟨g0, g1⟩ := lcells_get ls i h1
  obtain ⟨k0, k1⟩ := lcells_get ls' i h2
  have a0 := (hc _ _ g0).symm.trans (hc' _ _ k0)
  have a1 := (hc _ _ g1).symm.trans (hc' _ _ k1)
  injection a0 with a0; injection a0 with a0
  injection a1 with a1; injection a1 with a1
  exact Prod.ext a0 a1
def AOk (a : AEnt) : Prop := (Lit.int .i64 a.s).wf = true ∧ (Lit.int .i64 a.t).wf = true
theorem EntA.ok {w : World} {e : Ent} {a : AEnt} (h : EntA w e a) (k : AOk a) : EntOk w e := ⟨by rw [h.s]; exact k.1, by rw [h.t]; exact k.2, a.ls, h.ls⟩
theorem EntA.key (w : World) : KeyR (EntA w) := fun e a h => ⟨h.s, h.t⟩
theorem RowA.rel {w : World} {A : Option Addr} {es : List Ent} {xs : List AEnt} (h : RowA w A es xs) : Rel2 (EntA w) es xs := ⟨h.len, h.ents⟩
theorem RowsA.rel {w : World} {A : Option Addr} {rs : List Raw} {xss : List (List AEnt)} (h : RowsA w A rs xss) : Rel2 (Rel2 (EntA w)) (rs.map Raw.es) xss :=
  ⟨by simp [h.len], fun i h1 h2 => by
    simp only [List.getElem_map]
    exact (h.rows i (by simpa using h1) h2).rel⟩
theorem RowsA.ok {w : World} {A : Option Addr} {rs : List Raw} {xss : List (List AEnt)} (h : RowsA w A rs xss) (k : ∀ xs ∈ xss, ∀ a ∈ xs, AOk a) : ∀ r ∈ rs, ∀ e ∈ r.es, EntOk w e := by
  intro r hr e he
  obtain ⟨i, hi, rfl⟩ := List.getElem_of_mem hr
  have hx : i < xss.length := by rw [← h.len]; exact hi
  have h1 := h.rows i hi hx
  obtain ⟨j, hj, rfl⟩ := List.getElem_of_mem he
  have hj2 : j < xss[i].length := by rw [← h1.len]; exact hj
  exact (h1.ents j hj hj2).ok (k _ (List.getElem_mem hx) _ (List.getElem_mem hj2))
theorem out_own {w w' : World} {v : Value} {os es : List Ent} {xs : List AEnt} {base : Nat} (h : OutIs w w' base v os es) (k : Rel2 (EntA w) es xs) : OwnRowA w' base v os xs := by
  refine ⟨h.own, h.len.trans k.len, fun i h1 h2 => ?_⟩
  have h3 : i < es.length := by rw [k.len]; exact h2
  obtain ⟨a1, a2, a3, a4, ls, hls, ho⟩ := h.row i h1 h3
  have ke := k.at_ i h3 h2
  have hu := hls.uniq ke.ls
  refine ⟨a1.trans ke.s, a2.trans ke.t, a3.trans ke.x, ?_, ?_, ?_⟩
  · rw [a4]; exact ke.ls.2.1.symm
  · rw [a4]; exact ke.ls.2.2.2
  · rw [← hu, a4] at *; exact ho

def AllAPost (w : World) (xs : List AEnt) (e : Ending) (w' : World) : Prop :=
  ∃ v os, e = .returned v ∧ OwnRowA w' w.heap.size v os xs ∧ Below w.heap.size w w'
theorem sum_tot {rs : List Raw} : (rs.map fun r => r.es.length).sum = totR (rs.map Raw.es) := by simp [totR, Function.comp_def]
/-- merge.All, by what the entries say. -/
theorem all_A (A : Option Addr) (c : Nat) (nw : Bool) (most : Int) (rs : List Raw) (xss : List (List AEnt)) (w : World) (hr : RowsA w A rs xss) (hok : ∀ xs ∈ xss, ∀ a ∈ xs, AOk a) (hn : rs.length ≤ 100000000000) (ht : totA xss ≤ 100000000000) (hs : ∀ r ∈ rs, r.es.length * 56 ≤ 140737488355328) :
    Calls Try.prog 12 #[.slice A rs.length c, .bool nw, .int .i64 most] w (AllAPost w (limA most 0 (allA nw xss))) := by
  refine (all_any A c nw most rs w hr.cells (fun r h => ?_) hn (hr.ok hok) (by rw [sum_tot, tot_rel hr.rel]; exact ht)).mono ?_
  · obtain ⟨i, hi, rfl⟩ := List.getElem_of_mem h
    exact ⟨(hr.rows i hi (by rw [← hr.len]; exact hi)).cells, hs _ h⟩
  · rintro e w' ⟨its, v, os, hits, rfl, ho, hb⟩
    rw [all_eq _ _ _ _ hits] at ho
    exact ⟨v, os, rfl, out_own ho (refAll_rel (EntA.key w) nw most hr.rel), hb⟩
def RAllAPost (w : World) (xs : List AEnt) (e : Ending) (w' : World) : Prop :=
  ∃ A es c, e = .returned (.slice A es.length c) ∧ RowA w' A es xs ∧ Below w.heap.size w w'
/-- The document's All, by what the entries say. -/
theorem rall_A (A : Option Addr) (c : Nat) (nw : Bool) (most : Int) (rs : List Raw) (xss : List (List AEnt)) (w : World) (hr : RowsA w A rs xss) (hc : A = none → c = 0) (hok : ∀ xs ∈ xss, ∀ a ∈ xs, AOk a) (hn : rs.length ≤ 100000000000) (ht : totA xss ≤ 100000000000) :
    Calls Try.prog 14 #[.slice A rs.length c, .bool nw, .int .i64 most] w (RAllAPost w (limA most 0 (allA nw xss))) := by
  refine (rall_any A c nw most rs w hr.cells hc (fun r h => ?_) hn (hr.ok hok) (by rw [tot_rel hr.rel]; exact ht)).mono ?_
  · obtain ⟨i, hi, rfl⟩ := List.getElem_of_mem h
    exact ⟨(hr.rows i hi (by rw [← hr.len]; exact hi)).cells, (hr.cap _ h).2⟩
  · rintro e w' ⟨v, rfl, ho, hb⟩
    obtain ⟨A', c', rfl⟩ := own_sl ho
    have hrel := refAll_rel (EntA.key w) nw most hr.rel
    exact ⟨A', _, c', rfl, ⟨own_rowCells ho, hrel.len, fun i h1 h2 => (hrel.at_ i h1 h2).below hb⟩, hb⟩

/-! lengths -/
theorem dedupS_length (l : List AEnt) : ∀ seen, (dedupS seen l).length ≤ l.length := by
  induction l with
  | nil => intro seen; simp [dedupS]
  | cons a l ih =>
    intro seen
    rw [dedupS]
    split
    · have := ih seen; simp; omega
    · have := ih (a.s :: seen); simp; omega
theorem mergeA_length (nw : Bool) : ∀ f rows, (mergeA nw f rows).length ≤ f := by
  intro f
  induction f with
  | zero => intro rows; simp [mergeA]
  | succ f ih =>
    intro rows
    rw [mergeA]
    split
    · simp
    · rename_i b a l _
      have := ih (rows.set b l); simp; omega
theorem allA_length (nw : Bool) (rows : List (List AEnt)) : (allA nw rows).length ≤ totA rows := Nat.le_trans (dedupS_length _ _) (mergeA_length _ _ _)
theorem limA_length (most : Int) (n : Nat) (l : List AEnt) : (limA most n l).length ≤ l.length := by
  unfold limA; split
  · exact Nat.le_refl _
  · rw [List.length_take]; omega
end Go.Proofs.Ytjfggmkfnofldaa
