import Derived.Test.YtjfggmkfnofldaaH4
namespace Go.Proofs.Ytjfggmkfnofldaa
open Go.RowKit
set_option linter.unusedVariables false

def nextA (nw : Bool) : Nat → List (List AEnt) → List Int → Int → Option AEnt × List (List AEnt) × List Int × Int
  | 0, rows, seen, sk => (none, rows, seen, sk)
  | f + 1, rows, seen, sk => match bestA nw rows rows.length with
    | none => (none, rows, seen, sk)
    | some (b, a, l) => if a.s ∈ seen then nextA nw f (rows.set b l) seen (sk + 1) else (some a, rows.set b l, a.s :: seen, sk)
def OptR {α β : Type} (R : α → β → Prop) : Option α → Option β → Prop
  | none, none => True
  | some x, some a => R x a
  | _, _ => False
theorem nextA_rel {R : Ent → AEnt → Prop} (hR : KeyR R) (nw : Bool) : ∀ (F : Nat) (rows : List (List Ent)) (rowsA : List (List AEnt)) (seen : List Int) (sk : Int), Rel2 (Rel2 R) rows rowsA →
    OptR R (rnextF nw F rows seen sk).1 (nextA nw F rowsA seen sk).1 ∧ Rel2 (Rel2 R) (rnextF nw F rows seen sk).2.1 (nextA nw F rowsA seen sk).2.1 ∧ (rnextF nw F rows seen sk).2.2 = (nextA nw F rowsA seen sk).2.2 := by
  intro F
  induction F with
  | zero => intro rows rowsA seen sk h; exact ⟨trivial, h, rfl⟩
  | succ F ih =>
    intro rows rowsA seen sk h
    have hb := best_rel hR nw h rows.length
    rw [rnextF, nextA]
    rw [show bestA nw rowsA rows.length = bestA nw rowsA rowsA.length from by rw [h.len]] at hb
    cases h1 : bestTo nw rows rows.length with
    | none =>
      cases h2 : bestA nw rowsA rowsA.length with
      | none => exact ⟨trivial, h, rfl⟩
      | some p => rw [h1, h2] at hb; exact hb.elim
    | some b =>
      cases h2 : bestA nw rowsA rowsA.length with
      | none => rw [h1, h2] at hb; exact hb.elim
      | some p =>
        obtain ⟨b', a, l⟩ := p
        rw [h1, h2] at hb
        obtain ⟨rfl, hlt, e, t, h4, h5, h6, h7⟩ := hb
        have htl : (rowAt rows b).tail = t := by rw [h4]; rfl
        have hhd : hdE (rowAt rows b) = e := by rw [h4]; rfl
        have hrel : Rel2 (Rel2 R) (rows.set b t) (rowsA.set b l) := h.set b h6
        have hk := hR _ _ h5
        simp only [htl, hhd]
        by_cases hs : e.s ∈ seen
        · rw [if_pos hs, if_pos (by rw [← hk.1]; exact hs)]
          exact ih _ _ _ _ hrel
        · rw [if_neg hs, if_neg (by rw [← hk.1]; exact hs)]
          exact ⟨h5, hrel, by rw [hk.1]⟩

theorem IterIs.move {w w' : World} {base ib hb mb : Nat} {v : Value} {nw : Bool} {xs : List It} {seen : List Int} {sk : Int} {F : Nat → Prop} (h : IterIs w base ib hb mb v nw xs seen sk) (k : KeepF w w' F) (h1 : ¬ F ib) (h2 : ¬ F hb) (h3 : ¬ F mb)
    (h4 : ∀ q, v.ownBlock = some q → ¬ F q) (h5 : ∀ it ∈ xs, ¬ F it.b) : IterIs w' base ib hb mb v nw xs seen sk :=
  ⟨⟨(k.block ib h.blk.lt h1).trans h.blk.out⟩, h.hs.move (k.block hb h.hs.blk.lt h2) (fun q hq => k.block q (h.hs.own.lt q hq).2 (h4 q hq)) (fun it hi => k.block it.b (h.hs.rows it hi).lt (h5 it hi)), h.met.same (k.block mb h.met.lt h3), h.gi, h.gm⟩
/-- A block of another type is none of the document's iterator's. -/
theorem RefIs.ne' {w : World} {base tb mb : Nat} {v : Value} {nw : Bool} {rs : List Raw} {seen : List Int} {sk : Int} (h : RefIs w base tb mb v nw rs seen sk) {b t : Nat} {cs : Array Value} {fr : Nat × Nat} (hb : w.heap[b]? = some (.cells cs t fr)) (ht : t ≠ 24 ∧ t ≠ 49) : ¬ (b = tb ∨ b = mb ∨ some b = v.ownBlock) := by
  obtain ⟨es, clock, hm⟩ := h.met.isMap
  rintro (rfl | rfl | e)
  · rw [h.blk.out] at hb
    injection hb with hb; injection hb with _ hb; exact ht.2 hb.symm
  · rw [hb] at hm; cases hm
  · rcases h.own.2 with ⟨rfl, _⟩ | ⟨g, cap, cur, rfl, hb2, hg, _⟩
    · simp [Value.ownBlock] at e
    · simp [Value.ownBlock] at e
      subst e
      rw [hg] at hb
      injection hb with hb; injection hb with _ hb; exact ht.1 hb.symm
theorem RefIs.map_ne {w : World} {base tb mb : Nat} {v : Value} {nw : Bool} {rs : List Raw} {seen : List Int} {sk : Int} (h : RefIs w base tb mb v nw rs seen sk) {b n : Nat} {S : Int → Bool} (hb : SetIs w b n S) (hne : b ≠ mb) : ¬ (b = tb ∨ b = mb ∨ some b = v.ownBlock) := by
  obtain ⟨es, clock, hm⟩ := hb.isMap
  rintro (rfl | e | e)
  · rw [h.blk.out] at hm; cases hm
  · exact hne e
  · rcases h.own.2 with ⟨rfl, _⟩ | ⟨g, cap, cur, rfl, hb2, hg, _⟩
    · simp [Value.ownBlock] at e
    · simp [Value.ownBlock] at e
      subst e
      rw [hg] at hm; cases hm
theorem IterIs.map_ne {w : World} {base ib hb mb : Nat} {v : Value} {nw : Bool} {xs : List It} {seen : List Int} {sk : Int} (h : IterIs w base ib hb mb v nw xs seen sk) {b n : Nat} {S : Int → Bool} (hs : SetIs w b n S) (hne : b ≠ mb) : ¬ iterF ib hb mb v b := by
  obtain ⟨es, clock, hm⟩ := hs.isMap
  rintro (rfl | rfl | e | e)
  · rw [h.blk.out] at hm; cases hm
  · rw [h.hs.blk.out] at hm; cases hm
  · exact hne e
  · rcases h.hs.own.2 with ⟨rfl, _⟩ | ⟨g, cap, cur, rfl, hb2, hg, _⟩
    · simp [Value.ownBlock] at e
    · simp [Value.ownBlock] at e
      subst e
      rw [hg] at hm; cases hm

/-- The two iterators side by side. -/
structure NxInv (W0 : World) (nw : Bool) (ib hb mb tb mb2 : Nat) (v v2 : Value) (ys : List It) (qs : List Raw) (seen : List Int) (sk : Int) (rowsX : List (List Ent)) (rowsA : List (List AEnt)) (wr : World) : Prop where
  it : IterIs wr W0.heap.size ib hb mb v nw ys seen sk
  sim : Sim nw ys rowsX
  relX : Rel2 (Rel2 (EntA W0)) rowsX rowsA
  ref : RefIs wr W0.heap.size tb mb2 v2 nw qs seen sk
  relR : Rel2 (Rel2 (EntA W0)) (qs.map Raw.es) rowsA
  okX : ∀ it ∈ ys, ∀ e ∈ it.es, EntOk W0 e
  okR : ∀ r ∈ qs, ∀ e ∈ r.es, EntOk W0 e
  old : ∀ r ∈ qs, ∀ b o, r.A = some ⟨b, o, none⟩ → 0 < r.es.length → b < W0.heap.size
  small : qs.length ≤ 100000000000
  bd : (seen.length : Int) + totA rowsA + sk ≤ 100000000000 ∧ 0 ≤ sk
  ne : mb ≠ mb2
  bel : Below W0.heap.size W0 wr
theorem NxInv.tots {W0 : World} {nw : Bool} {ib hb mb tb mb2 : Nat} {v v2 : Value} {ys : List It} {qs : List Raw} {seen : List Int} {sk : Int} {rowsX : List (List Ent)} {rowsA : List (List AEnt)} {wr : World} (h : NxInv W0 nw ib hb mb tb mb2 v v2 ys qs seen sk rowsX rowsA wr) :
    tot ys = totA rowsA ∧ totR rowsX = totA rowsA ∧ totR (qs.map Raw.es) = totA rowsA := by
  have := sim_tot h.sim; have := tot_rel h.relX; have := tot_rel h.relR
  omega
/-- The document's iterator behind a step of the other. -/
theorem NxInv.ref_kept {W0 : World} {nw : Bool} {ib hb mb tb mb2 : Nat} {v v2 : Value} {ys : List It} {qs : List Raw} {seen : List Int} {sk : Int} {rowsX : List (List Ent)} {rowsA : List (List AEnt)} {wr w2 : World} (h : NxInv W0 nw ib hb mb tb mb2 v v2 ys qs seen sk rowsX rowsA wr) (k : KeepF wr w2 (iterF ib hb mb v)) :
    RefIs w2 W0.heap.size tb mb2 v2 nw qs seen sk ∧ Below W0.heap.size W0 w2 := by
  refine ⟨h.ref.move k ?_ (h.it.map_ne h.ref.met (Ne.symm h.ne)) ?_ ?_, k.toBelow h.bel h.it.far2⟩
  · have := h.it.blk_ne h.ref.blk (by decide)
    rintro (e | e | e | e)
    · exact this.1 e
    · exact this.2.1 e
    · exact this.2.2.1 e
    · exact this.2.2.2 e
  · intro q hq
    rcases h.ref.own.2 with ⟨rfl, _⟩ | ⟨g, cap, cur, rfl, hb2, hg, _⟩
    · simp [Value.ownBlock] at hq
    · simp [Value.ownBlock] at hq
      subst hq
      have := h.it.blk_ne (b := q) (t := 24) (cs := cur) ⟨hg⟩ (by decide)
      rintro (e | e | e | e)
      · exact this.1 e
      · exact this.2.1 e
      · exact this.2.2.1 e
      · exact this.2.2.2 e
  · intro r hr b o e hp hF
    have h1 := h.old r hr b o e hp
    have h2 := h.it.far2 b hF
    omega
/-- The iterator behind a step of the document's. -/
theorem iter_kept {B : Nat} {nw : Bool} {ib hb mb tb mb2 : Nat} {v v2 : Value} {ys : List It} {qs : List Raw} {seen seen' : List Int} {sk sk' : Int} {w3 w4 : World} (h : IterIs w3 B ib hb mb v nw ys seen sk) (hr : RefIs w3 B tb mb2 v2 nw qs seen' sk') (hne : mb ≠ mb2)
    (k : KeepF w3 w4 (fun k => k = tb ∨ k = mb2 ∨ some k = v2.ownBlock)) : IterIs w4 B ib hb mb v nw ys seen sk := by
  refine h.move k (hr.ne' h.blk.out (by decide)) (hr.ne' h.hs.blk.out (by decide)) (hr.map_ne h.met hne) ?_ ?_
  · intro q hq
    rcases h.hs.own.2 with ⟨rfl, _⟩ | ⟨g, cap, cur, rfl, hb2, hg, _⟩
    · simp [Value.ownBlock] at hq
    · simp [Value.ownBlock] at hq
      subst hq
      exact hr.ne' hg (by decide)
  · intro it hi
    obtain ⟨cs, fr, hc⟩ := (h.hs.rows it hi).blk
    exact hr.ne' hc (by decide)

/-- What one step of both gives. -/
theorem nx_next {W0 : World} {nw : Bool} {ib hb mb tb mb2 : Nat} {v v2 v' : Value} {ys ys' : List It} {qs qs' : List Raw} {seen s1 s2 : List Int} {sk k1 k2 : Int} {rowsX : List (List Ent)} {rowsA : List (List AEnt)} {wr w4 : World} {r1 r2 : Option Ent} (h : NxInv W0 nw ib hb mb tb mb2 v v2 ys qs seen sk rowsX rowsA wr)
    (hx : nextF nw (totA rowsA + 1) ys seen sk = (r1, ys', s1, k1)) (hr : rnextF nw (totA rowsA + 1) (qs.map Raw.es) seen sk = (r2, qs'.map Raw.es, s2, k2))
    (it4 : IterIs w4 W0.heap.size ib hb mb v' nw ys' s1 k1) (ref4 : RefIs w4 W0.heap.size tb mb2 v2 nw qs' s2 k2) (okX : ∀ it ∈ ys', ∀ e ∈ it.es, EntOk W0 e) (okR : ∀ r ∈ qs', ∀ e ∈ r.es, EntOk W0 e)
    (old : ∀ r ∈ qs', ∀ b o, r.A = some ⟨b, o, none⟩ → 0 < r.es.length → b < W0.heap.size) (hl : qs'.length = qs.length) (bel : Below W0.heap.size W0 w4) :
    s1 = s2 ∧ k1 = k2 ∧ (∃ rowsX' rowsA', NxInv W0 nw ib hb mb tb mb2 v' v2 ys' qs' s1 k1 rowsX' rowsA' w4) ∧ ((r1 = none ∧ r2 = none) ∨ ∃ x y a, r1 = some x ∧ r2 = some y ∧ EntA W0 x a ∧ EntA W0 y a) := by
  obtain ⟨s_1, s_2, s_3⟩ := sim_next (totA rowsA + 1) ys rowsX seen sk h.sim
  obtain ⟨a1, a2, a3⟩ := nextA_rel (EntA.key W0) nw (totA rowsA + 1) rowsX rowsA seen sk h.relX
  obtain ⟨b1, b2, b3⟩ := nextA_rel (EntA.key W0) nw (totA rowsA + 1) (qs.map Raw.es) rowsA seen sk h.relR
  have hf := fun r a b c hq => rnextF_facts nw (totA rowsA + 1) (qs.map Raw.es) seen sk r a b c hq
  have hf := hf _ _ _ _ hr
  rw [hx] at s_1 s_2 s_3
  rw [hr] at b1 b2 b3
  simp only at s_1 s_2 s_3 b1 b2 b3
  have e23 : (s1, k1) = (s2, k2) := by rw [s_3, a3, ← b3]
  injection e23 with e2 e3
  refine ⟨e2, e3, ⟨_, _, it4, s_2, a2, by rw [e2, e3]; exact ref4, b2, okX, okR, old, by rw [hl]; exact h.small, ?_, h.ne, bel⟩, ?_⟩
  · have ht := tot_rel b2
    have ht0 := tot_rel h.relR
    have := h.bd
    rw [← ht, e2, e3]
    constructor
    · have := hf.2.1; omega
    · have := hf.2.2; omega
  · revert a1 b1
    rw [← s_1]
    cases r1 <;> cases r2 <;> cases (nextA nw (totA rowsA + 1) rowsA seen sk).1 <;> intro a1 b1
    · exact .inl ⟨rfl, rfl⟩
    · exact .inl ⟨rfl, rfl⟩
    · exact b1.elim
    · exact a1.elim
    · exact a1.elim
    · exact b1.elim
    · exact a1.elim
    · exact .inr ⟨_, _, _, rfl, rfl, a1, b1⟩
end Go.Proofs.Ytjfggmkfnofldaa
