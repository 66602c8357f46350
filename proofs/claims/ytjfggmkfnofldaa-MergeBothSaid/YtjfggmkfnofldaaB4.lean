import Derived.Test.YtjfggmkfnofldaaB3
namespace Go.Proofs.Ytjfggmkfnofldaa
open Go.RowKit
set_option linter.unusedVariables false

/-- From w to w' nothing of what was there has turned but block hb and the row's block. -/
structure Keep2 (w w' : World) (hb : Nat) (row : Option Nat) : Prop where
  os : w'.os = w.os
  tape : w'.tape = w.tape
  output : w'.output = w.output
  size : w.heap.size ≤ w'.heap.size
  block : ∀ k, k < w.heap.size → k ≠ hb → some k ≠ row → w'.heap[k]? = w.heap[k]?

theorem Keep2.of_below {w w' : World} (h : Below w.heap.size w w') (hb : Nat) (row : Option Nat) : Keep2 w w' hb row :=
  ⟨h.os, h.tape, h.output, h.size, fun k hk _ _ => h.block k hk⟩
theorem Keep2.refl (w : World) (hb : Nat) (row : Option Nat) : Keep2 w w hb row := ⟨rfl, rfl, rfl, Nat.le_refl _, fun _ _ _ _ => rfl⟩
theorem Keep2.of_grown {w w' : World} {row : Option Nat} (h : w.grownBy w' row) (hb : Nat) : Keep2 w w' hb row :=
  ⟨h.os, h.tape, h.output, h.size, fun k hk _ h2 => h.block k hk h2⟩
theorem Keep2.trans {w w1 w2 : World} {hb : Nat} {r r2 : Option Nat} (h : Keep2 w w1 hb r) (k : Keep2 w1 w2 hb r2) (hr : r2 = r ∨ ∀ q, r2 = some q → w.heap.size ≤ q) : Keep2 w w2 hb r :=
  ⟨k.os.trans h.os, k.tape.trans h.tape, k.output.trans h.output, Nat.le_trans h.size k.size, fun i hi h1 h2 =>
    (k.block i (Nat.lt_of_lt_of_le hi h.size) h1 (by
      rcases hr with rfl | hr
      · exact h2
      · intro e; have := hr i e.symm; omega)).trans (h.block i hi h1 h2)⟩
theorem Keep2.drew {w w' : World} {hb : Nat} {r : Option Nat} (h : Keep2 w w' hb r) : Keep2 w w'.drew hb r := ⟨h.os, h.tape, h.output, h.size, h.block⟩
theorem Keep2.alloc {w w' : World} {hb : Nat} {r : Option Nat} (h : Keep2 w w' hb r) (o : Obj) : Keep2 w (w'.alloc o) hb r :=
  ⟨h.os, h.tape, h.output, Nat.le_trans h.size (by simp), fun k hk h1 h2 => (Below.heap_alloc w' o k (Nat.lt_of_lt_of_le hk h.size)).trans (h.block k hk h1 h2)⟩
theorem Keep2.set {w w' : World} {hb : Nat} {r : Option Nat} (h : Keep2 w w' hb r) {b : Nat} (i : Nat) (u : Value) (hbr : b = hb ∨ some b = r ∨ w.heap.size ≤ b) : Keep2 w (w'.setCell ⟨b, i, none⟩ u) hb r :=
  ⟨h.os, h.tape, h.output, by simpa using h.size, fun k hk h1 h2 => (Below.heap_setCell w' ⟨b, i, none⟩ u k (by
    rcases hbr with e | e | e
    · exact fun e2 => h1 (e2.trans e)
    · intro e2; exact h2 (by rw [← e]; exact congrArg some e2)
    · intro e2; simp only at e2; omega)).trans (h.block k hk h1 h2)⟩

structure RowOk (w : World) (base : Nat) (it : It) : Prop where
  pos : 0 < it.es.length
  ge : base ≤ it.b
  blk : ∃ cs fr, w.heap[it.b]? = some (.cells cs 34 fr)
  ents : ∀ i (h : i < it.es.length), EntCells w it.b ((it.k + i) * 4) it.es[i]
  cap : it.es.length ≤ it.c

theorem RowOk.keep {w w' : World} {base : Nat} {it : It} (h : RowOk w base it) (hk : w'.heap[it.b]? = w.heap[it.b]?) : RowOk w' base it := by
  obtain ⟨cs, fr, hc⟩ := h.blk
  refine ⟨h.pos, h.ge, ⟨cs, fr, hk.trans hc⟩, fun i hi => ?_, h.cap⟩
  have he := h.ents i hi
  have hq : ∀ o, w'.cell? ⟨it.b, o, none⟩ = w.cell? ⟨it.b, o, none⟩ := fun o => World.cell?_of_block (a := ⟨it.b, o, none⟩) hk
  exact ⟨(hq _).trans he.c0, (hq _).trans he.c1, (hq _).trans he.c2, (hq _).trans he.c3⟩
theorem RowOk.lt {w : World} {base : Nat} {it : It} (h : RowOk w base it) : it.b < w.heap.size := by
  obtain ⟨cs, fr, hc⟩ := h.blk
  exact (Array.getElem?_eq_some_iff.1 hc).1
theorem headD_get (l : List Ent) (h : 0 < l.length) : l.headD default = l[0]'h := by
  cases l with
  | nil => simp at h
  | cons a l => rfl
theorem RowOk.hd {w : World} {base : Nat} {it : It} (h : RowOk w base it) : EntCells w it.b (it.k * 4) it.hd := by
  have := h.ents 0 h.pos
  have e : it.hd = it.es[0]'h.pos := by
    unfold It.hd
    exact headD_get it.es h.pos
  rw [e]; simpa using this

def itCells (it : It) : List Value := [it.sl, .int .i64 it.ix]
def hcells (xs : List It) : List Value := xs.flatMap itCells
theorem hcells_length (xs : List It) : (hcells xs).length = xs.length * 2 := by
  induction xs with
  | nil => rfl
  | cons a l ih => rw [show hcells (a :: l) = itCells a ++ hcells l from rfl, List.length_append, ih]; simp [itCells]; omega
theorem hcells_append (xs ys : List It) : hcells (xs ++ ys) = hcells xs ++ hcells ys := by simp [hcells]
theorem hcells_get0 (xs : List It) (i : Nat) (h : i < xs.length) : (hcells xs)[i * 2]? = some (xs[i]).sl := by
  induction xs generalizing i with
  | nil => simp at h
  | cons a l ih =>
    cases i with
    | zero => simp [hcells, itCells]
    | succ i =>
      have := ih i (by simpa using h)
      simp only [hcells, List.flatMap_cons, itCells] at this ⊢
      rw [show (i + 1) * 2 = i * 2 + 1 + 1 from by omega]
      simpa using this
theorem hcells_get1 (xs : List It) (i : Nat) (h : i < xs.length) : (hcells xs)[i * 2 + 1]? = some (.int .i64 (xs[i]).ix) := by
  induction xs generalizing i with
  | nil => simp at h
  | cons a l ih =>
    cases i with
    | zero => simp [hcells, itCells]
    | succ i =>
      have := ih i (by simpa using h)
      simp only [hcells, List.flatMap_cons, itCells] at this ⊢
      rw [show (i + 1) * 2 + 1 = (i * 2 + 1) + 1 + 1 from by omega]
      simpa using this
theorem hcells_set (xs : List It) (i : Nat) (x : It) : ((hcells xs).set (i * 2) x.sl).set (i * 2 + 1) (.int .i64 x.ix) = hcells (xs.set i x) := by
  induction xs generalizing i with
  | nil => simp [hcells]
  | cons a l ih =>
    cases i with
    | zero => simp [hcells, itCells]
    | succ i =>
      have := ih i
      simp only [hcells, List.flatMap_cons, itCells, List.set_cons_succ] at this ⊢
      rw [show (i + 1) * 2 + 1 = (i * 2 + 1) + 1 + 1 from by omega, show (i + 1) * 2 = i * 2 + 1 + 1 from by omega]
      simpa using this

def getI (xs : List It) (i : Nat) : It := xs.getD i ⟨0, 0, 0, [], 0⟩
theorem getI_lt (xs : List It) (i : Nat) (h : i < xs.length) : getI xs i = xs[i] := by simp [getI, h]
def swapL (xs : List It) (i j : Nat) : List It := (xs.set i (getI xs j)).set j (getI xs i)
theorem swapL_length (xs : List It) (i j : Nat) : (swapL xs i j).length = xs.length := by simp [swapL]

/-- The heap as it lies in memory. -/
structure HS (w : World) (base hb : Nat) (v : Value) (nw : Bool) (xs : List It) : Prop where
  blk : Blk w hb #[v, .bool nw] 60
  own : w.ownsRow base 62 2 v xs.length (hcells xs)
  gb : base ≤ hb
  rows : ∀ it ∈ xs, RowOk w base it
  small : xs.length ≤ 100000000000

section
variable {w w' : World} {base hb : Nat} {v : Value} {nw : Bool} {xs : List It}
theorem HS.form (h : HS w base hb v nw xs) (hp : 0 < xs.length) : ∃ ab cap, v = .slice (some ⟨ab, 0, none⟩) xs.length cap ∧ xs.length ≤ cap ∧ base ≤ ab ∧ (∃ cs, w.heap[ab]? = some (.cells cs 62 (0, 0))) ∧ hb ≠ ab := by
  rcases h.own.2 with ⟨_, h0⟩ | ⟨g, cap, cur, hv, hb', hg, hc, _⟩
  · omega
  · refine ⟨g, cap, hv, hc, hb', ⟨cur, hg⟩, ?_⟩
    rintro rfl
    have := h.blk.out
    rw [hg] at this
    injection this with this
    injection this with _ this
    exact absurd this (by decide)
theorem HS.row_ne (h : HS w base hb v nw xs) : v.ownBlock ≠ some hb := by
  rcases h.own.2 with ⟨rfl, _⟩ | ⟨g, cap, cur, rfl, hb', hg, _⟩
  · simp [Value.ownBlock]
  · intro e
    simp [Value.ownBlock] at e
    subst e
    have := h.blk.out
    rw [hg] at this
    injection this with this
    injection this with _ this
    exact absurd this (by decide)
theorem HS.it_ne (h : HS w base hb v nw xs) {it : It} (hi : RowOk w base it) : it.b ≠ hb ∧ some it.b ≠ v.ownBlock := by
  obtain ⟨cs, fr, hc⟩ := hi.blk
  refine ⟨fun e => ?_, fun e => ?_⟩
  · rw [e, h.blk.out] at hc
    injection hc with hc
    injection hc with _ hc
    exact absurd hc (by decide)
  · rcases h.own.2 with ⟨rfl, _⟩ | ⟨g, cap, cur, rfl, hb', hg, _⟩
    · simp [Value.ownBlock] at e
    · simp [Value.ownBlock] at e
      rw [e, hg] at hc
      injection hc with hc
      injection hc with _ hc
      exact absurd hc (by decide)
theorem HS.below (h : HS w base hb v nw xs) (hb1 : Below w.heap.size w w') : HS w' base hb v nw xs :=
  ⟨h.blk.below hb1 h.blk.lt, h.own.kept ⟨hb1.os, hb1.tape, hb1.output, hb1.size, fun k hk _ => hb1.block k hk⟩ (row := none) (by cases v.ownBlock <;> simp), h.gb,
    fun it hi => (h.rows it hi).keep (hb1.block _ (h.rows it hi).lt), h.small⟩
theorem HS.cells (h : HS w base hb v nw xs) {ab n cap : Nat} (hv : v = .slice (some ⟨ab, 0, none⟩) n cap) (i : Nat) (hi : i < xs.length) :
    w.cell? ⟨ab, i * 2, none⟩ = some (getI xs i).sl ∧ w.cell? ⟨ab, i * 2 + 1, none⟩ = some (.int .i64 (getI xs i).ix) ∧ w.frozen? ⟨ab, i * 2, none⟩ = false ∧ w.frozen? ⟨ab, i * 2 + 1, none⟩ = false := by
  have ha : ∀ o, (⟨ab, 0, none⟩ : Addr).add o = ⟨ab, o, none⟩ := fun o => by unfold Addr.add; split <;> simp_all
  have h0 := h.own.cells (g := ab) (by rw [hv]; rfl) (i * 2) _ (hcells_get0 xs i hi)
  have h1 := h.own.cells (g := ab) (by rw [hv]; rfl) (i * 2 + 1) _ (hcells_get1 xs i hi)
  rw [ha] at h0 h1
  rw [getI_lt xs i hi]
  have hf : ∀ o, w.frozen? ⟨ab, o, none⟩ = false := by
    intro o
    rcases h.own.2 with ⟨hv', _⟩ | ⟨g, cap', cur, hv', hb', hg, _⟩
    · rw [hv] at hv'; cases hv'
    · rw [hv] at hv'
      have : ab = g := by injection hv' with h' _ _; injection h' with h'; injection h' with h'
      subst this
      unfold World.frozen?; rw [hg]; simp
  exact ⟨h0, h1, hf _, hf _⟩

theorem HS.less (h : HS w base hb v nw xs) (i j : Nat) (hi : i < xs.length) (hj : j < xs.length) :
    Calls Try.prog 68 #[.pointer (some ⟨hb, 0, none⟩), .int .i64 i, .int .i64 j] w fun e w' => e = .returned (.bool (itLess nw (getI xs i) (getI xs j))) ∧ Below w.heap.size w w' := by
  obtain ⟨ab, cap, hv, hc, _, _, hne⟩ := h.form (by omega)
  obtain ⟨a0, a1, _, _⟩ := h.cells hv i hi
  obtain ⟨b0, b1, _, _⟩ := h.cells hv j hj
  have rx := h.rows (getI xs i) (by rw [getI_lt xs i hi]; exact List.getElem_mem hi)
  have ry := h.rows (getI xs j) (by rw [getI_lt xs j hj]; exact List.getElem_mem hj)
  have hs := h.small
  exact less_core hb ab xs.length cap nw i j _ _ w hi hj (by omega) rx.pos ry.pos (by rw [← hv]; exact h.blk.cell 0 _ rfl) (h.blk.cell 1 _ rfl) a0 a1 b0 b1 rx.hd ry.hd

theorem HS.stored (h : HS w base hb v nw xs) {ab n cap : Nat} (hv : v = .slice (some ⟨ab, 0, none⟩) n cap) (i : Nat) (x : It) (hx : RowOk w base x) :
    HS ((w.setCell ⟨ab, i * 2, none⟩ x.sl).setCell ⟨ab, i * 2 + 1, none⟩ (.int .i64 x.ix)) base hb v nw (xs.set i x) := by
  have hne : hb ≠ ab := fun e => h.row_ne (by rw [hv, e]; rfl)
  have hab : v.ownBlock = some ab := by rw [hv]; rfl
  have hn : n = xs.length := by
    rcases h.own.2 with ⟨hv', _⟩ | ⟨g, cap', cur, hv', _⟩
    · rw [hv] at hv'; cases hv'
    · rw [hv] at hv'; injection hv'
  subst hn
  have o1 := (show w.ownsRow base 62 2 (.slice (some ⟨ab, 0, none⟩) xs.length cap) xs.length (hcells xs) from hv ▸ h.own).stored (i * 2) x.sl
  have o2 := o1.1.stored (i * 2 + 1) (.int .i64 x.ix)
  rw [hcells_set] at o2
  refine ⟨(h.blk.far _ _ hne).far _ _ hne, by rw [List.length_set, hv]; exact o2.1, h.gb, ?_, by rw [List.length_set]; exact h.small⟩
  have keep : ∀ it, RowOk w base it → RowOk ((w.setCell ⟨ab, i * 2, none⟩ x.sl).setCell ⟨ab, i * 2 + 1, none⟩ (.int .i64 x.ix)) base it := fun it hi =>
    hi.keep (by
      have hq : it.b ≠ ab := fun e => (h.it_ne hi).2 (by rw [hab, e])
      rw [Below.heap_setCell _ _ _ _ hq, Below.heap_setCell _ _ _ _ hq])
  intro it hi
  rcases List.mem_or_eq_of_mem_set hi with hi | rfl
  · exact keep it (h.rows it hi)
  · exact keep it hx

theorem HS.drew (h : HS w base hb v nw xs) : HS w.drew base hb v nw xs := h.below (Below.refl _ _).drew
theorem HS.alloc (h : HS w base hb v nw xs) (o : Obj) : HS (w.alloc o) base hb v nw xs := h.below ((Below.refl _ _).alloc (Nat.le_refl _) o)

def SwapPost (w : World) (base hb : Nat) (v : Value) (nw : Bool) (ys : List It) (e : Ending) (w' : World) : Prop :=
  e = .returned (.tuple #[]) ∧ HS w' base hb v nw ys ∧ Keep2 w w' hb v.ownBlock

theorem HS.swap (h : HS w base hb v nw xs) (i j : Nat) (hi : i < xs.length) (hj : j < xs.length) :
    Calls Try.prog 71 #[.pointer (some ⟨hb, 0, none⟩), .int .i64 i, .int .i64 j] w (SwapPost w base hb v nw (swapL xs i j)) := by
  obtain ⟨ab, cap, hv, hc, _, _, hne⟩ := h.form (by omega)
  obtain ⟨a0, a1, a2, a3⟩ := h.cells hv i hi
  obtain ⟨b0, b1, b2, b3⟩ := h.cells hv j hj
  have rx := h.rows (getI xs i) (by rw [getI_lt xs i hi]; exact List.getElem_mem hi)
  have ry := h.rows (getI xs j) (by rw [getI_lt xs j hj]; exact List.getElem_mem hj)
  have hab : v.ownBlock = some ab := by rw [hv]; rfl
  have fin : HS (((((w.setCell ⟨ab, i * 2, none⟩ (getI xs j).sl).setCell ⟨ab, i * 2 + 1, none⟩ (.int .i64 (getI xs j).ix)).setCell ⟨ab, j * 2, none⟩ (getI xs i).sl).setCell ⟨ab, j * 2 + 1, none⟩ (.int .i64 (getI xs i).ix)).drew) base hb v nw (swapL xs i j) := by
    have s1 := h.stored hv i _ ry
    have rx' : RowOk ((w.setCell ⟨ab, i * 2, none⟩ (getI xs j).sl).setCell ⟨ab, i * 2 + 1, none⟩ (.int .i64 (getI xs j).ix)) base (getI xs i) :=
      rx.keep (by
        have hq : (getI xs i).b ≠ ab := fun e => (h.it_ne rx).2 (by rw [hab, e])
        rw [Below.heap_setCell _ _ _ _ hq, Below.heap_setCell _ _ _ _ hq])
    exact (s1.stored hv j _ rx').drew
  have kp : Keep2 w (((((w.setCell ⟨ab, i * 2, none⟩ (getI xs j).sl).setCell ⟨ab, i * 2 + 1, none⟩ (.int .i64 (getI xs j).ix)).setCell ⟨ab, j * 2, none⟩ (getI xs i).sl).setCell ⟨ab, j * 2 + 1, none⟩ (.int .i64 (getI xs i).ix)).drew) hb v.ownBlock :=
    (((((Keep2.refl w hb _).set _ _ (.inr (.inl hab.symm))).set _ _ (.inr (.inl hab.symm))).set _ _ (.inr (.inl hab.symm))).set _ _ (.inr (.inl hab.symm))).drew
  have hcell : w.cell? ⟨hb, 0, none⟩ = some (.slice (some ⟨ab, 0, none⟩) xs.length cap) := by rw [← hv]; exact h.blk.cell 0 _ rfl
  rcases Nat.lt_trichotomy i j with hlt | rfl | hgt
  · refine (swap_lt hb ab xs.length cap i j _ _ w hlt hi hj hne hcell a0 a1 b0 b1 a2 a3 b2 b3).mono fun e w' ⟨he, hw⟩ => ?_
    subst hw; exact ⟨he, fin, kp⟩
  · refine (swap_eq hb ab xs.length cap i _ w hi hne hcell a0 a1 a2 a3).mono fun e w' ⟨he, hw⟩ => ?_
    subst hw; exact ⟨he, fin, kp⟩
  · refine (swap_gt hb ab xs.length cap i j _ _ w hgt hi hj hne hcell a0 a1 b0 b1 a2 a3 b2 b3).mono fun e w' ⟨he, hw⟩ => ?_
    subst hw; exact ⟨he, fin, kp⟩
end
end Go.Proofs.Ytjfggmkfnofldaa
