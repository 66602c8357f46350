import Derived.Test.YtjfggmkfnofldaaS1
namespace Go.Proofs.Ytjfggmkfnofldaa
open Go.RowKit
set_option linter.unusedVariables false

/-- Four rows being dealt: their block q; each row in memory of its own. -/
structure DealIs (W2 wr : World) (q : Nat) (rs : List Raw) : Prop where
  blk : Blk wr q (rs.map Raw.val).toArray 24
  own : ∀ i (h : i < rs.length), wr.ownsRow W2.heap.size 34 4 rs[i].val rs[i].es.length (ecells rs[i].es)
  apart : ∀ i j (hi : i < rs.length) (hj : j < rs.length), i ≠ j → ∀ g, rs[i].val.ownBlock = some g → rs[j].val.ownBlock ≠ some g
  keep : KeepF W2 wr (fun k => k = q)
theorem own_typed {w : World} {base n size : Nat} {v : Value} {e : TypeId} {xs : List Value} (h : w.ownsRow base e size v n xs) : ∀ g, v.ownBlock = some g → ∃ cs, w.heap[g]? = some (.cells cs e (0, 0)) := by
  intro g hg
  rcases h.2 with ⟨rfl, _⟩ | ⟨g', cap, cur, rfl, _, hc, _⟩
  · simp [Value.ownBlock] at hg
  · simp [Value.ownBlock] at hg
    subst hg; exact ⟨cur, hc⟩
theorem own_ne_blk {w : World} {base n size b t : Nat} {v : Value} {e : TypeId} {xs : List Value} {cs : Array Value} (h : w.ownsRow base e size v n xs) (hb : Blk w b cs t) (ht : t ≠ e) : v.ownBlock ≠ some b := by
  intro hg
  obtain ⟨cs', hc⟩ := own_typed h b hg
  rw [hb.out] at hc
  injection hc with hc; injection hc with _ hc
  exact ht hc
theorem DealIs.move {W2 wr w8 : World} {q : Nat} {rs : List Raw} (h : DealIs W2 wr q rs) (k : Below wr.heap.size wr w8) : DealIs W2 w8 q rs :=
  ⟨h.blk.below k h.blk.lt, fun i hi => ownsRow_keepF (h.own i hi) (KeepF.of_below k (fun _ => False)) (fun _ _ h => h), h.apart, h.keep.trans (KeepF.of_below k (fun _ => False)) (fun _ h => h.elim)⟩
theorem deal_step {W2 wr w8 w9 : World} {q a g cap H : Nat} {rs : List Raw} {x : Ent} (h : DealIs W2 wr q rs) (ha : a < rs.length) (hk : Below wr.heap.size wr w8)
    (ho : w9.ownsRow W2.heap.size 34 4 (.slice (some ⟨g, 0, none⟩) (rs[a].es.length + 1) cap) (rs[a].es.length + 1) (ecells rs[a].es ++ x.cells.toList))
    (hg : w8.grownBy w9 rs[a].val.ownBlock) (hat : rs[a].val.ownBlock = some g ∨ g = H) (hH : wr.heap.size ≤ H) :
    DealIs W2 (w9.setCell ⟨q, a, none⟩ (.slice (some ⟨g, 0, none⟩) (rs[a].es.length + 1) cap)) q (rs.set a ⟨some ⟨g, 0, none⟩, cap, rs[a].es ++ [x]⟩) := by
  have kA : KeepF wr w9 (fun k => some k = rs[a].val.ownBlock) := (KeepF.of_below hk _).trans (KeepF.of_grown hg) (fun q h => .inl h)
  have hq9 : Blk w9 q (rs.map Raw.val).toArray 24 := ⟨(kA.block q h.blk.lt (fun e => own_ne_blk (h.own a ha) h.blk (by decide) e.symm)).trans h.blk.out⟩
  have hgq : g ≠ q := fun e => by
    have := own_ne_blk ho hq9 (by decide)
    exact this (by rw [e]; rfl)
  have hv : (⟨some ⟨g, 0, none⟩, cap, rs[a].es ++ [x]⟩ : Raw).val = .slice (some ⟨g, 0, none⟩) (rs[a].es.length + 1) cap := by simp [Raw.val]
  have hset : (rs.set a ⟨some ⟨g, 0, none⟩, cap, rs[a].es ++ [x]⟩).map Raw.val = (rs.map Raw.val).set a (.slice (some ⟨g, 0, none⟩) (rs[a].es.length + 1) cap) := by
    rw [List.map_set, hv]
  have hlt : ∀ j (hj : j < rs.length), j ≠ a → ∀ b, rs[j].val.ownBlock = some b → b ≠ g := by
    intro j hj hne b hb e
    subst e
    rcases hat with hat | hat
    · exact h.apart j a hj ha hne b hb hat
    · have := ((h.own j hj).lt b hb).2
      omega
  refine ⟨?_, ?_, ?_, ?_⟩
  · have := hq9.set a (.slice (some ⟨g, 0, none⟩) (rs[a].es.length + 1) cap)
    rw [hset]
    simpa using this
  · intro i hi
    have hi' : i < rs.length := by simpa using hi
    rw [List.getElem_set]
    split
    · rw [hv]
      have e : ecells (rs[a].es ++ [x]) = ecells rs[a].es ++ x.cells.toList := by simp [ecells]
      simp only [e, List.length_append, List.length_singleton]
      exact ownsRow_setOther ho (by simp [Value.ownBlock]; exact hgq)
    · rename_i hne
      have h1 := ownsRow_keepF (h.own i hi') kA (fun b hb e => h.apart i a hi' ha (fun e => hne e.symm) b hb e.symm)
      exact ownsRow_setOther h1 (fun e => own_ne_blk (h.own i hi') h.blk (by decide) e)
  · intro i j hi hj hij b hb hb'
    have hi' : i < rs.length := by simpa using hi
    have hj' : j < rs.length := by simpa using hj
    rw [List.getElem_set] at hb hb'
    split at hb
    · rename_i e1
      split at hb'
      · rename_i e2; omega
      · rw [hv] at hb
        simp [Value.ownBlock] at hb
        subst hb
        exact hlt j hj' (by omega) g hb' rfl
    · split at hb'
      · rw [hv] at hb'
        simp [Value.ownBlock] at hb'
        subst hb'
        exact hlt i hi' (by omega) g hb rfl
      · exact h.apart i j hi' hj' hij b hb hb'
  · refine (h.keep.trans kA (fun b hb => ?_)).trans (KeepF.set w9 q a _) (fun b hb => .inl hb)
    exact .inr ((h.own a ha).lt b hb.symm).1
end Go.Proofs.Ytjfggmkfnofldaa
