import Derived.Test.YtjfggmkfnofldaaP1
namespace Go.Proofs.Ytjfggmkfnofldaa
open Go.RowKit
set_option linter.unusedVariables false

structure KeepF (w w' : World) (F : Nat → Prop) : Prop where
  os : w'.os = w.os
  tape : w'.tape = w.tape
  output : w'.output = w.output
  size : w.heap.size ≤ w'.heap.size
  block : ∀ k, k < w.heap.size → ¬ F k → w'.heap[k]? = w.heap[k]?
theorem KeepF.refl (w : World) (F : Nat → Prop) : KeepF w w F := ⟨rfl, rfl, rfl, Nat.le_refl _, fun _ _ _ => rfl⟩
theorem KeepF.trans {w w1 w2 : World} {F G : Nat → Prop} (h : KeepF w w1 F) (k : KeepF w1 w2 G) (hG : ∀ q, G q → F q ∨ w.heap.size ≤ q) : KeepF w w2 F :=
  ⟨k.os.trans h.os, k.tape.trans h.tape, k.output.trans h.output, Nat.le_trans h.size k.size, fun i hi h1 =>
    (k.block i (Nat.lt_of_lt_of_le hi h.size) (fun g => by rcases hG i g with e | e; exact h1 e; omega)).trans (h.block i hi h1)⟩
theorem KeepF.of_keep2 {w w' : World} {hb : Nat} {r : Option Nat} (h : Keep2 w w' hb r) : KeepF w w' (fun k => k = hb ∨ some k = r) :=
  ⟨h.os, h.tape, h.output, h.size, fun k hk hn => h.block k hk (fun e => hn (.inl e)) (fun e => hn (.inr e))⟩
theorem KeepF.of_below {w w' : World} (h : Below w.heap.size w w') (F : Nat → Prop) : KeepF w w' F := ⟨h.os, h.tape, h.output, h.size, fun k hk _ => h.block k hk⟩
theorem KeepF.of_grown {w w' : World} {row : Option Nat} (h : w.grownBy w' row) : KeepF w w' (fun k => some k = row) := ⟨h.os, h.tape, h.output, h.size, fun k hk hn => h.block k hk hn⟩
theorem KeepF.set (w : World) (b i : Nat) (u : Value) : KeepF w (w.setCell ⟨b, i, none⟩ u) (fun k => k = b) :=
  ⟨rfl, rfl, rfl, by simp, fun k hk hn => Below.heap_setCell w ⟨b, i, none⟩ u k hn⟩
theorem KeepF.drew {w w1 : World} {F : Nat → Prop} (h : KeepF w w1 F) : KeepF w w1.drew F := ⟨h.os, h.tape, h.output, h.size, h.block⟩
theorem KeepF.mono {w w1 : World} {F G : Nat → Prop} (h : KeepF w w1 F) (hG : ∀ q, F q → G q) : KeepF w w1 G := ⟨h.os, h.tape, h.output, h.size, fun k hk hn => h.block k hk (fun e => hn (hG k e))⟩

/-- The labels of an entry, read in w. -/
def LabIs (w : World) (e : Ent) (ls : List Lab) : Prop := RowCells w e.A (lcells ls) ∧ ls.length = e.n ∧ (e.n ≤ e.c ∧ (e.A = none → e.c = 0)) ∧ e.n * 32 ≤ 140737488355328
def EntOk (w : World) (e : Ent) : Prop := (Lit.int .i64 e.s).wf = true ∧ (Lit.int .i64 e.t).wf = true ∧ ∃ ls, LabIs w e ls

def It.next (x : It) : It := ⟨x.b, x.k + 1, x.c - 1, x.es.tail, x.ix⟩
def stepL (nw : Bool) (xs : List It) : Ent × List It :=
  let x := getI (popL nw xs) (xs.length - 1)
  let ys := (popL nw xs).take (xs.length - 1)
  (x.hd, if x.es.length ≤ 1 then ys else pushL nw ys x.next)
def nextF (nw : Bool) : Nat → List It → List Int → Int → Option Ent × List It × List Int × Int
  | 0, xs, seen, sk => (none, xs, seen, sk)
  | f + 1, xs, seen, sk =>
    if xs.length = 0 then (none, xs, seen, sk) else
    if (stepL nw xs).1.s ∈ seen then nextF nw f (stepL nw xs).2 seen (sk + 1) else (some (stepL nw xs).1, (stepL nw xs).2, (stepL nw xs).1.s :: seen, sk)
def tot (xs : List It) : Nat := (xs.map fun it => it.es.length).sum

def iterF (ib hb mb : Nat) (v : Value) (k : Nat) : Prop := k = ib ∨ k = hb ∨ k = mb ∨ some k = v.ownBlock

structure NInv (w0 w : World) (ib hb mb : Nat) (v : Value) (nw : Bool) (F : Nat) (xs : List It) (seen : List Int) (sk : Int) (g : Nat) (v' : Value) (ys : List It) (seen' : List Int) (sk' : Int) (wr : World) : Prop where
  it : IterIs wr w0.heap.size ib hb mb v' nw ys seen' sk'
  eq : nextF nw g ys seen' sk' = nextF nw F xs seen sk
  left : tot ys < g
  bd : (seen'.length : Int) + tot ys + sk' ≤ 1000000000000000 ∧ 0 ≤ sk'
  keep : KeepF w wr (iterF ib hb mb v)
  res : Blk wr w.heap.size #[.int .i64 0, .int .i64 0, .slice none 0 0, .string ⟨#[]⟩] 34
  ok : ∀ it ∈ ys, ∀ e ∈ it.es, EntOk w0 e
  row : v'.ownBlock = v.ownBlock ∨ ∀ k, v'.ownBlock = some k → w.heap.size ≤ k
  small : ys.length ≤ xs.length
  old : ∀ it ∈ ys, it.b < w.heap.size

def NRel (w0 w : World) (ib hb mb : Nat) (v : Value) (nw : Bool) (F : Nat) (xs : List It) (seen : List Int) (sk : Int) (g : Nat) (wr : World) : Prop :=
  ∃ v' ys seen' sk', NInv w0 w ib hb mb v nw F xs seen sk g v' ys seen' sk' wr

def entVal (e : Ent) (v : Value) : Value := .agg #[.int .i64 e.s, .int .i64 e.t, v, .string e.x]
theorem res26 (W : World) (b : Nat) (tmps : Array Value) (c0 c1 c2 c3 : Value) (h : Blk W b #[c0, c1, c2, c3] 34) (ok : Bool) (h2 : tmps[2]?.getD undef = .pointer (some ⟨b, 0, none⟩)) (h3 : tmps[3]?.getD undef = .bool ok) :
    (results Try.f26 tmps).run Try.prog W = .ok (.tuple #[.agg #[c0, c1, c2, c3], .bool ok]) W := by
  have k0 : W.cell? ⟨b, 0, none⟩ = some c0 := h.cell 0 _ rfl
  have k1 : W.cell? ⟨b, 1, none⟩ = some c1 := h.cell 1 _ rfl
  have k2 : W.cell? ⟨b, 2, none⟩ = some c2 := h.cell 2 _ rfl
  have k3 : W.cell? ⟨b, 3, none⟩ = some c3 := h.cell 3 _ rfl
  simp [results, Try.results26, go_sem, k0, k1, k2, k3, h2, h3]
def SliceCut (w1 : World) (x : It) (wc : World) : Prop := ∃ A', (2 ≤ x.es.length → A' = ⟨x.b, (x.k + 1) * 4, none⟩) ∧ Blk wc w1.heap.size #[.slice (some A') (x.es.length - 1) (x.c - 1), .int .i64 x.ix] 62 ∧
  Blk wc (w1.heap.size + 1) x.hd.cells 34 ∧ Below w1.heap.size w1 wc
theorem sliceCut1 {w1 W : World} {x : It} (hb : Below w1.heap.size w1 W) (br : Blk W w1.heap.size #[x.sl, .int .i64 x.ix] 62) (be : Blk W (w1.heap.size + 1) x.hd.cells 34) (hc : x.c = 1) (hl : x.es.length = 1) :
    SliceCut w1 x (W.setCell ⟨w1.heap.size, 0, none⟩ (.slice (some ⟨x.b, x.k * 4, none⟩) 0 0)) :=
  ⟨⟨x.b, x.k * 4, none⟩, fun h => by omega, by rw [hl, hc]; exact br.set 0 _, be.far _ _ (by simp), hb.setCell (Nat.le_refl _) _⟩
theorem sliceCut2 {w1 W : World} {x : It} (hb : Below w1.heap.size w1 W) (br : Blk W w1.heap.size #[x.sl, .int .i64 x.ix] 62) (be : Blk W (w1.heap.size + 1) x.hd.cells 34) :
    SliceCut w1 x (W.setCell ⟨w1.heap.size, 0, none⟩ (.slice (some ⟨x.b, x.k * 4 + 4, none⟩) (x.es.length - 1) (x.c - 1))) :=
  ⟨⟨x.b, x.k * 4 + 4, none⟩, fun h => by rw [Nat.add_mul], br.set 0 _, be.far _ _ (by simp), hb.setCell (Nat.le_refl _) _⟩
theorem RowOk.next {w : World} {base : Nat} {x : It} (h : RowOk w base x) (h2 : 2 ≤ x.es.length) : RowOk w base x.next := by
  refine ⟨by simp [It.next]; omega, h.ge, h.blk, fun i hi => ?_, by have := h.cap; simp [It.next]; omega⟩
  have hi' : i + 1 < x.es.length := by simp [It.next] at hi; omega
  have := h.ents (i + 1) hi'
  simp only [It.next, List.getElem_tail]
  rw [show x.k + 1 + i = x.k + (i + 1) from by omega]
  exact this
theorem Keep2.cell {w w' : World} {hb : Nat} {row : Option Nat} (k : Keep2 w w' hb row) {a : Addr} {u : Value} (h : w.cell? a = some u) (h1 : a.block ≠ hb) (h2 : some a.block ≠ row) : w'.cell? a = some u :=
  (World.cell?_of_block (k.block _ (World.block_lt_of_cell? w a h) h1 h2)).trans h
theorem IterIs.ne_hb {w : World} {base ib hb mb : Nat} {v : Value} {nw : Bool} {xs : List It} {seen : List Int} {sk : Int} (h : IterIs w base ib hb mb v nw xs seen sk) : ib ≠ hb ∧ some ib ≠ v.ownBlock := by
  refine ⟨fun e => ?_, fun e => ?_⟩
  · have h1 := h.blk.out
    rw [e, h.hs.blk.out] at h1
    injection h1 with h1
    injection h1 with _ h1
    exact absurd h1 (by decide)
  · rcases h.hs.own.2 with ⟨rfl, _⟩ | ⟨g, cap, cur, rfl, hb', hg, _⟩
    · simp [Value.ownBlock] at e
    · simp [Value.ownBlock] at e
      have h1 := h.blk.out
      rw [e, hg] at h1
      injection h1 with h1
      injection h1 with _ h1
      exact absurd h1 (by decide)
def StepCut (w0 wr w1 : World) (hb : Nat) (v' : Value) (nw : Bool) (ys : List It) (x : It) (wd : World) : Prop :=
  ∃ v2, HS wd w0.heap.size hb v2 nw (if x.es.length ≤ 1 then (popL nw ys).take (ys.length - 1) else pushL nw ((popL nw ys).take (ys.length - 1)) x.next) ∧ Keep2 wr wd hb v'.ownBlock ∧
    (v2.ownBlock = v'.ownBlock ∨ ∀ k, v2.ownBlock = some k → wr.heap.size ≤ k) ∧ Blk wd (w1.heap.size + 1) x.hd.cells 34
theorem next_val (x : It) : x.next.val = .agg #[.slice (some ⟨x.b, (x.k + 1) * 4, none⟩) (x.es.length - 1) (x.c - 1), .int .i64 x.ix] := by
  simp [It.next]
theorem take_small {nw : Bool} {ys : List It} (h : ys.length ≤ 100000000000) (hp : 0 < ys.length) : ((popL nw ys).take (ys.length - 1)).length < 100000000000 := by
  rw [List.length_take]; omega
theorem Keep2.undrew {w w' : World} {hb : Nat} {row : Option Nat} (k : Keep2 w.drew w' hb row) : Keep2 w w' hb row := ⟨k.os, k.tape, k.output, k.size, k.block⟩
theorem SetIs.same {w w' : World} {b n : Nat} {S : Int → Bool} (h : SetIs w b n S) (hb : w'.heap[b]? = w.heap[b]?) : SetIs w' b n S := by
  obtain ⟨D, ⟨es, clock, h1, h2⟩, hD⟩ := h.out
  exact ⟨D, ⟨es, clock, hb.trans h1, h2⟩, hD⟩
theorem hd_mem {x : It} (h : 0 < x.es.length) : x.hd ∈ x.es := by
  unfold It.hd; rw [headD_get _ h]; exact List.getElem_mem h
theorem IterIs.ne_met {w : World} {base ib hb mb : Nat} {v : Value} {nw : Bool} {xs : List It} {seen : List Int} {sk : Int} (h : IterIs w base ib hb mb v nw xs seen sk) : mb ≠ hb ∧ some mb ≠ v.ownBlock ∧ mb ≠ ib := by
  obtain ⟨es, clock, hm⟩ := h.met.isMap
  refine ⟨fun e => ?_, fun e => ?_, fun e => ?_⟩
  · rw [e, h.hs.blk.out] at hm; cases hm
  · rcases h.hs.own.2 with ⟨rfl, _⟩ | ⟨g, cap, cur, rfl, hb', hg, _⟩
    · simp [Value.ownBlock] at e
    · simp [Value.ownBlock] at e
      rw [e, hg] at hm; cases hm
  · rw [e, h.blk.out] at hm; cases hm
theorem SetIs.update {w : World} {b n : Nat} {S : Int → Bool} (h : SetIs w b n S) (i : Int) (hi : (Lit.int .i64 i).wf = true) (hn : n < maxLen) (x : Bool) :
    ∃ w', (Instr.mapUpdate 30 (.map (some b)) (.int .i64 i) (.bool x)).run Try.prog w = .ok () w' ∧ SetIs w' b (n + 1) (fun j => if j = i then x else S j) ∧ w.grownBy w' (some b) := by
  obtain ⟨D, ho, hD⟩ := h.out
  obtain ⟨w', hrun, h1, h2⟩ := ho.update keyed3 Try.underlying30 hn (Go.Maps.keyOf_int_mk Try.underlying3 hi) (plainElem_bool Try.underlying4 x)
  exact ⟨w', hrun, SetIs.put (isMap_of_owns ho) hD i x h1, h2⟩
theorem HS.move {w w' : World} {base hb : Nat} {v : Value} {nw : Bool} {xs : List It} (h : HS w base hb v nw xs) (h1 : w'.heap[hb]? = w.heap[hb]?) (h2 : ∀ k, v.ownBlock = some k → w'.heap[k]? = w.heap[k]?) (h3 : ∀ it ∈ xs, w'.heap[it.b]? = w.heap[it.b]?) : HS w' base hb v nw xs := by
  refine ⟨⟨h1.trans h.blk.out⟩, ?_, h.gb, fun it hi => (h.rows it hi).keep (h3 it hi), h.small⟩
  refine ⟨h.own.1, ?_⟩
  rcases h.own.2 with h' | ⟨g, cap, cur, rfl, hb', hg, r⟩
  · exact .inl h'
  · exact .inr ⟨g, cap, cur, rfl, hb', (h2 g rfl).trans hg, r⟩
theorem upF_perm (nw : Bool) (f : Nat) : ∀ (xs : List It) (j : Nat), j < xs.length → (upF nw f xs j).Perm xs := by
  induction f with
  | zero => intros; exact List.Perm.refl _
  | succ f ih =>
    intro xs j hj
    rw [upF]
    split
    · exact List.Perm.refl _
    · split
      · exact (ih _ _ (by rw [swapL_length]; omega)).trans (swapL_perm xs _ _ (by omega) hj)
      · exact List.Perm.refl _
theorem pushL_perm (nw : Bool) (xs : List It) (x : It) : (pushL nw xs x).Perm (x :: xs) := (upF_perm nw _ _ _ (by simp)).trans List.perm_append_comm
theorem tot_perm {xs ys : List It} (h : xs.Perm ys) : tot xs = tot ys := by unfold tot; exact (h.map _).sum_nat
theorem step_tot (nw : Bool) (ys : List It) (hp : 0 < ys.length) (h : ∀ it ∈ ys, 0 < it.es.length) : tot (stepL nw ys).2 + 1 = tot ys := by
  have hpp := pop_perm nw ys hp
  have h0 := h (getI ys 0) (hpp.subset List.mem_cons_self)
  have e := tot_perm hpp
  have e2 : tot (getI ys 0 :: (popL nw ys).take (ys.length - 1)) = (getI ys 0).es.length + tot ((popL nw ys).take (ys.length - 1)) := by simp [tot]
  unfold stepL
  simp only [popL_last nw ys hp]
  split
  · omega
  · rw [tot_perm (pushL_perm nw _ _)]
    have e3 : tot ((getI ys 0).next :: (popL nw ys).take (ys.length - 1)) = (getI ys 0).next.es.length + tot ((popL nw ys).take (ys.length - 1)) := by simp [tot]
    have e4 : (getI ys 0).next.es.length = (getI ys 0).es.length - 1 := by simp [It.next]
    omega
theorem step_length (nw : Bool) (ys : List It) (hp : 0 < ys.length) : (stepL nw ys).2.length ≤ ys.length := by
  unfold stepL
  simp only
  split
  · rw [List.length_take]; omega
  · rw [(pushL_perm nw _ _).length_eq, List.length_cons, List.length_take]; omega
theorem step_mem (nw : Bool) (ys : List It) (hp : 0 < ys.length) : ∀ it ∈ (stepL nw ys).2, ∃ it0 ∈ ys, it.b = it0.b ∧ ∀ e ∈ it.es, e ∈ it0.es := by
  have hpp := pop_perm nw ys hp
  have ht : ∀ it ∈ (popL nw ys).take (ys.length - 1), it ∈ ys := fun it hi => hpp.subset (List.mem_cons_of_mem _ hi)
  have h0 : getI ys 0 ∈ ys := hpp.subset List.mem_cons_self
  intro it hi
  unfold stepL at hi
  simp only [popL_last nw ys hp] at hi
  split at hi
  · exact ⟨it, ht it hi, rfl, fun _ h => h⟩
  · have := (pushL_perm nw _ _).mem_iff.1 hi
    rcases List.mem_cons.1 this with rfl | h
    · exact ⟨_, h0, rfl, fun e he => List.mem_of_mem_tail he⟩
    · exact ⟨it, ht it h, rfl, fun _ h => h⟩
theorem Blk.ne {w : World} {a b t t' : Nat} {cs cs' : Array Value} (h : Blk w a cs t) (h' : Blk w b cs' t') (ht : t ≠ t') : a ≠ b := by
  rintro rfl
  have := h.out
  rw [h'.out] at this
  injection this with this
  injection this with _ this
  exact ht this.symm
theorem IterIs.blk_ne {w : World} {base ib hb mb : Nat} {v : Value} {nw : Bool} {xs : List It} {seen : List Int} {sk : Int} (h : IterIs w base ib hb mb v nw xs seen sk) {b t : Nat} {cs : Array Value} (hb' : Blk w b cs t) (ht : t = 34 ∨ t = 55 ∨ t = 24 ∨ t = 49) :
    b ≠ ib ∧ b ≠ hb ∧ b ≠ mb ∧ some b ≠ v.ownBlock := by
  obtain ⟨es, clock, hm⟩ := h.met.isMap
  refine ⟨hb'.ne h.blk (by omega), hb'.ne h.hs.blk (by omega), ?_, ?_⟩
  · rintro rfl; rw [hb'.out] at hm; cases hm
  · intro e
    rcases h.hs.own.2 with ⟨rfl, _⟩ | ⟨g, cap, cur, rfl, hb2, hg, _⟩
    · simp [Value.ownBlock] at e
    · simp [Value.ownBlock] at e
      exact hb'.ne (t' := 62) (cs' := cur) ⟨hg⟩ (by omega) e
theorem IterIs.it_ne {w : World} {base ib hb mb : Nat} {v : Value} {nw : Bool} {xs : List It} {seen : List Int} {sk : Int} (h : IterIs w base ib hb mb v nw xs seen sk) {it : It} (hi : RowOk w base it) : it.b ≠ ib ∧ it.b ≠ mb := by
  obtain ⟨es, clock, hm⟩ := h.met.isMap
  obtain ⟨cs, fr, hc⟩ := hi.blk
  refine ⟨fun e => ?_, fun e => ?_⟩
  · rw [e, h.blk.out] at hc
    injection hc with hc
    injection hc with _ hc
    exact absurd hc (by decide)
  · rw [e, hm] at hc; cases hc
theorem step_eq (nw : Bool) (ys : List It) (x : It) (hp : 0 < ys.length) (hx : getI ys 0 = x) :
    stepL nw ys = (x.hd, if x.es.length ≤ 1 then (popL nw ys).take (ys.length - 1) else pushL nw ((popL nw ys).take (ys.length - 1)) x.next) := by
  unfold stepL; simp only [popL_last nw ys hp, hx]
/-- The iterator behind a step, before its set or its count is written. -/
theorem step_iter {w0 w wr wc : World} {ib hb mb : Nat} {v v' v2 : Value} {nw : Bool} {F g1 : Nat} {xs ys : List It} {seen seen' : List Int} {sk sk' : Int} (hi : NInv w0 w ib hb mb v nw F xs seen sk (g1 + 1) v' ys seen' sk' wr) (hp : 0 < ys.length) {x : It} (hx : getI ys 0 = x)
    (hs2 : HS wc w0.heap.size hb v2 nw (if x.es.length ≤ 1 then (popL nw ys).take (ys.length - 1) else pushL nw ((popL nw ys).take (ys.length - 1)) x.next)) (hk2 : Keep2 wr wc hb v'.ownBlock) :
    IterIs wc w0.heap.size ib hb mb v2 nw (stepL nw ys).2 seen' sk' ∧ Blk wc w.heap.size #[.int .i64 0, .int .i64 0, .slice none 0 0, .string ⟨#[]⟩] 34 ∧ KeepF w wc (iterF ib hb mb v) := by
  have hne := hi.it.ne_hb
  have hnm := hi.it.ne_met
  have hbn := hi.it.blk_ne hi.res (.inl rfl)
  refine ⟨⟨⟨(hk2.block _ hi.it.blk.lt hne.1 hne.2).trans hi.it.blk.out⟩, by rw [step_eq nw ys x hp hx]; exact hs2, hi.it.met.same (hk2.block _ hi.it.met.lt hnm.1 hnm.2.1), hi.it.gi, hi.it.gm⟩,
    ⟨(hk2.block _ hi.res.lt hbn.2.1 hbn.2.2.2).trans hi.res.out⟩, ?_⟩
  refine hi.keep.trans (KeepF.of_keep2 hk2) ?_
  rintro q (rfl | hq)
  · exact .inl (.inr (.inl rfl))
  · rcases hi.row with e | e
    · exact .inl (.inr (.inr (.inr (by rw [hq, e]))))
    · exact .inr (e q hq.symm)
theorem skip_inv {w0 w wr wc : World} {ib hb mb : Nat} {v v' v2 : Value} {nw : Bool} {F g1 : Nat} {xs ys : List It} {seen seen' : List Int} {sk sk' : Int} (hi : NInv w0 w ib hb mb v nw F xs seen sk (g1 + 1) v' ys seen' sk' wr) (hp : 0 < ys.length) {x : It} (hx : getI ys 0 = x)
    (hs2 : HS wc w0.heap.size hb v2 nw (if x.es.length ≤ 1 then (popL nw ys).take (ys.length - 1) else pushL nw ((popL nw ys).take (ys.length - 1)) x.next)) (hk2 : Keep2 wr wc hb v'.ownBlock)
    (hv2 : v2.ownBlock = v'.ownBlock ∨ ∀ k, v2.ownBlock = some k → wr.heap.size ≤ k) (hsn : x.hd.s ∈ seen') :
    NInv w0 w ib hb mb v nw F xs seen sk g1 v2 (stepL nw ys).2 seen' (sk' + 1) (wc.setCell ⟨ib, 2, none⟩ (.int .i64 (sk' + 1))).drew := by
  obtain ⟨it, res, kp⟩ := step_iter hi hp hx hs2 hk2
  have hse := step_eq nw ys x hp hx
  have hst := step_tot nw ys hp (fun it h => (hi.it.hs.rows it h).pos)
  have hsl := step_length nw ys hp
  have hsm := step_mem nw ys hp
  have hne := it.ne_hb
  have hnm := it.ne_met
  have hfar : ∀ k, k ≠ ib → ((wc.setCell ⟨ib, 2, none⟩ (.int .i64 (sk' + 1))).drew).heap[k]? = wc.heap[k]? := fun k hk => Below.heap_setCell _ _ _ _ hk
  refine ⟨⟨⟨(it.blk.set 2 _).out⟩, it.hs.move (hfar _ (Ne.symm hne.1)) (fun k hk => hfar k (fun e => hne.2 (by rw [hk, e]))) (fun q hq => hfar _ (it.it_ne (it.hs.rows q hq)).1), it.met.same (hfar _ hnm.2.2), it.gi, it.gm⟩,
    ?_, by have := hi.left; omega, ⟨by have := hi.bd; omega, by have := hi.bd; omega⟩, ?_, ⟨(hfar _ (it.blk_ne res (.inl rfl)).1).trans res.out⟩, ?_, ?_, by have := hi.small; omega, ?_⟩
  · rw [← hi.eq]
    conv => rhs; rw [nextF]
    rw [if_neg (by omega), if_pos (by rw [hse]; exact hsn)]
  · exact (kp.trans (KeepF.set wc ib 2 (.int .i64 (sk' + 1))) (fun q hq => .inl (.inl hq))).drew
  · intro q hq e he
    obtain ⟨q0, h0, _, h1⟩ := hsm q hq
    exact hi.ok q0 h0 e (h1 e he)
  · rcases hv2 with e | e
    · rw [e]; exact hi.row
    · exact .inr fun k hk => Nat.le_trans hi.keep.size (e k hk)
  · intro q hq
    obtain ⟨q0, h0, e, _⟩ := hsm q hq
    rw [e]; exact hi.old q0 h0
theorem KeepF.drew2 {w w1 : World} {F : Nat → Prop} (h : KeepF w.drew.drew w1 F) : KeepF w w1 F := ⟨h.os, h.tape, h.output, h.size, h.block⟩
theorem KeepF.toBelow {w0 w w' : World} {B : Nat} {F : Nat → Prop} (k : KeepF w w' F) (h : Below B w0 w) (hF : ∀ q, F q → B ≤ q) (hB : B ≤ w0.heap.size := by exact Nat.le_refl _) : Below B w0 w' :=
  h.trans ⟨k.os, k.tape, k.output, k.size, fun i hi => k.block i (Nat.lt_of_lt_of_le hi (Nat.le_trans hB h.size)) (fun e => by have := hF i e; omega)⟩
theorem RowCells.belowB {w w' : World} {A : Option Addr} {xs : List Value} (h : RowCells w A xs) (hb : Below w.heap.size w w') : RowCells w' A xs := h.below hb
theorem own_sl {w : World} {base n : Nat} {e : TypeId} {size : Nat} {v : Value} {xs : List Value} (h : w.ownsRow base e size v n xs) : ∃ A c, v = .slice A n c := by
  rcases h.2 with ⟨rfl, rfl⟩ | ⟨g, cap, cur, rfl, _⟩
  · exact ⟨none, 0, rfl⟩
  · exact ⟨_, cap, rfl⟩
def NextPost (w0 w : World) (ib hb mb : Nat) (v : Value) (nw : Bool) (F : Nat) (xs : List It) (seen : List Int) (sk : Int) (e : Ending) (w' : World) : Prop :=
  ∃ (r : Option Ent) (v' : Value) (ys : List It) (seen' : List Int) (sk' : Int), nextF nw F xs seen sk = (r, ys, seen', sk') ∧ IterIs w' w0.heap.size ib hb mb v' nw ys seen' sk' ∧ KeepF w w' (iterF ib hb mb v) ∧
    (v'.ownBlock = v.ownBlock ∨ ∀ k, v'.ownBlock = some k → w.heap.size ≤ k) ∧ ys.length ≤ xs.length ∧ (∀ it ∈ ys, ∀ e ∈ it.es, EntOk w0 e) ∧
    match r with
    | none => e = .returned (.tuple #[.agg #[.int .i64 0, .int .i64 0, .slice none 0 0, .string ⟨#[]⟩], .bool false])
    | some x => EntOk w0 x ∧ ∃ u ls, LabIs w0 x ls ∧ e = .returned (.tuple #[entVal x u, .bool true]) ∧ w'.ownsRow w.heap.size 55 2 u x.n (lcells ls)

def fin6 (w5 : World) (xb rb : Nat) (e : Ent) (u : Value) : World :=
  ((((w5.setCell ⟨xb, 2, none⟩ u).setCell ⟨rb, 0, none⟩ (.int .i64 e.s)).setCell ⟨rb, 1, none⟩ (.int .i64 e.t)).setCell ⟨rb, 2, none⟩ u).setCell ⟨rb, 3, none⟩ (.string e.x)
theorem fin6_keep (w5 : World) (xb rb : Nat) (e : Ent) (u : Value) : KeepF w5 (fin6 w5 xb rb e u) (fun k => k = xb ∨ k = rb) := by
  have k1 := (KeepF.set w5 xb 2 u).mono (G := fun k => k = xb ∨ k = rb) (fun q h => .inl h)
  have k2 := k1.trans (KeepF.set (w5.setCell ⟨xb, 2, none⟩ u) rb 0 (.int .i64 e.s)) (fun q h => .inl (.inr h))
  have k3 := k2.trans (KeepF.set _ rb 1 (.int .i64 e.t)) (fun q h => .inl (.inr h))
  have k4 := k3.trans (KeepF.set _ rb 2 u) (fun q h => .inl (.inr h))
  exact k4.trans (KeepF.set _ rb 3 (.string e.x)) (fun q h => .inl (.inr h))
theorem ownsRow_lower {w : World} {b b' : Nat} {e : TypeId} {size : Nat} {v : Value} {n : Nat} {xs : List Value} (h : w.ownsRow b e size v n xs) (hb : b' ≤ b) : w.ownsRow b' e size v n xs := by
  refine ⟨h.1, ?_⟩
  rcases h.2 with h' | ⟨g, cap, cur, rfl, hb2, r⟩
  · exact .inl h'
  · exact .inr ⟨g, cap, cur, rfl, Nat.le_trans hb hb2, r⟩
theorem ownsRow_keepF {w w' : World} {F : Nat → Prop} {b : Nat} {e : TypeId} {size : Nat} {v : Value} {n : Nat} {xs : List Value} (h : w.ownsRow b e size v n xs) (k : KeepF w w' F) (hF : ∀ q, v.ownBlock = some q → ¬ F q) : w'.ownsRow b e size v n xs := by
  refine ⟨h.1, ?_⟩
  rcases h.2 with h' | ⟨g, cap, cur, rfl, hb2, hg, r⟩
  · exact .inl h'
  · exact .inr ⟨g, cap, cur, rfl, hb2, (k.block g (Array.getElem?_eq_some_iff.1 hg).1 (hF g rfl)).trans hg, r⟩
theorem done_post {w0 w wr wc w4 w5 : World} {ib hb mb xb : Nat} {v v' v2 u : Value} {nw : Bool} {F g1 : Nat} {xs ys : List It} {seen seen' : List Int} {sk sk' : Int} (hi : NInv w0 w ib hb mb v nw F xs seen sk (g1 + 1) v' ys seen' sk' wr) (hp : 0 < ys.length) {x : It} (hx : getI ys 0 = x)
    (hv2 : v2.ownBlock = v'.ownBlock ∨ ∀ k, v2.ownBlock = some k → wr.heap.size ≤ k) (it2 : IterIs wc w0.heap.size ib hb mb v2 nw (stepL nw ys).2 seen' sk') (kp4 : KeepF w w4 (iterF ib hb mb v)) (hg4 : wc.drew.drew.grownBy w4 (some mb))
    (hset4 : SetIs w4 mb (seen'.length + 1) (fun j => if j = x.hd.s then true else decide (j ∈ seen'))) (hsn : ¬ x.hd.s ∈ seen') (hent : EntOk w0 x.hd) {ls : List Lab} (hls : LabIs w0 x.hd ls) (hb5 : Below w4.heap.size w4 w5)
    (hu : w5.ownsRow w4.heap.size 55 2 u x.hd.n (lcells ls)) (hxb : wr.heap.size ≤ xb ∧ xb < wc.heap.size ∧ w.heap.size < wr.heap.size) (bx : Blk wc xb x.hd.cells 34) (res2 : Blk wc w.heap.size #[.int .i64 0, .int .i64 0, .slice none 0 0, .string ⟨#[]⟩] 34) (hne : xb ≠ w.heap.size) (hr4 : w.heap.size < w4.heap.size) :
    NextPost w0 w ib hb mb v nw F xs seen sk (.returned (.tuple #[entVal x.hd u, .bool true])) (fin6 w5 xb w.heap.size x.hd u) := by
  have hse := step_eq nw ys x hp hx
  have hsm := step_mem nw ys hp
  have hk6 := fin6_keep w5 xb w.heap.size x.hd u
  have hk46 : KeepF w4 (fin6 w5 xb w.heap.size x.hd u) (fun k => k = xb ∨ k = w.heap.size) := (KeepF.of_below hb5 _).trans hk6 (fun q h => .inl h)
  have hkc : KeepF wc (fin6 w5 xb w.heap.size x.hd u) (fun k => k = mb ∨ k = xb ∨ k = w.heap.size) :=
    ((KeepF.drew2 (KeepF.of_grown hg4)).mono (fun q h => .inl (Option.some.inj h))).trans hk46 (fun q h => .inl (.inr h))
  have hbx := it2.blk_ne bx (.inl rfl)
  have hnm := it2.ne_met
  have hne2 := it2.ne_hb
  have hrs := it2.blk_ne res2 (.inl rfl)
  refine ⟨some x.hd, v2, (stepL nw ys).2, x.hd.s :: seen', sk', ?_, ⟨⟨?_⟩, ?_, ?_, it2.gi, it2.gm⟩, ?_, ?_, ?_, ?_, ?_⟩
  · rw [← hi.eq, nextF, if_neg (by omega), if_neg (by rw [hse]; exact hsn), hse]
  · exact (hkc.block ib it2.blk.lt (by
      rintro (e | e | e)
      · exact hnm.2.2 e.symm
      · exact hbx.1 e.symm
      · exact hrs.1 e.symm)).trans it2.blk.out
  · refine it2.hs.move (hkc.block hb it2.hs.blk.lt ?_) (fun k hk => hkc.block k (it2.hs.own.lt k hk).2 ?_) (fun q hq => hkc.block _ (it2.hs.rows q hq).lt ?_)
    · rintro (e | e | e)
      · exact hnm.1 e.symm
      · exact hbx.2.1 e.symm
      · exact hrs.2.1 e.symm
    · rintro (e | e | e)
      · exact hnm.2.1 (by rw [hk, e])
      · exact hbx.2.2.2 (by rw [hk, e])
      · exact hrs.2.2.2 (by rw [hk, e])
    · obtain ⟨q0, h0, e0, _⟩ := hsm q hq
      have h1 := hi.old q0 h0
      have h2 := (it2.it_ne (it2.hs.rows q hq)).2
      rintro (e | e | e)
      · exact h2 e
      · omega
      · omega
  · have hb2 := hk46.block mb hset4.lt (by
      rintro (e | e)
      · exact hbx.2.2.1 e.symm
      · exact hrs.2.2.1 e.symm)
    have := hset4.same hb2
    have e : (fun j => if j = x.hd.s then true else decide (j ∈ seen')) = (fun j => decide (j ∈ x.hd.s :: seen')) := by
      funext j
      by_cases h : j = x.hd.s <;> simp [h]
    rw [e] at this
    exact this
  · exact kp4.trans hk46 (by rintro q (rfl | rfl) <;> right <;> omega)
  · rcases hv2 with e | e
    · rw [e]; exact hi.row
    · exact .inr fun k hk => Nat.le_trans hi.keep.size (e k hk)
  · exact Nat.le_trans (step_length nw ys hp) hi.small
  · intro q hq e he
    obtain ⟨q0, h0, _, h1⟩ := hsm q hq
    exact hi.ok q0 h0 e (h1 e he)
  · refine ⟨hent, u, ls, hls, rfl, ownsRow_lower (ownsRow_keepF hu hk6 ?_) (Nat.le_of_lt hr4)⟩
    intro q hq
    have := (hu.lt q hq).1
    have := (KeepF.of_grown hg4).size
    simp at this
    rintro (e | e) <;> omega

theorem none_post {w0 w wr : World} {ib hb mb : Nat} {v v' : Value} {nw : Bool} {F g1 : Nat} {xs ys : List It} {seen seen' : List Int} {sk sk' : Int} (hi : NInv w0 w ib hb mb v nw F xs seen sk (g1 + 1) v' ys seen' sk' wr) (hp : ys.length = 0) :
    NextPost w0 w ib hb mb v nw F xs seen sk (.returned (.tuple #[.agg #[.int .i64 0, .int .i64 0, .slice none 0 0, .string ⟨#[]⟩], .bool false]))
      ((((wr.setCell ⟨w.heap.size, 0, none⟩ (.int .i64 0)).setCell ⟨w.heap.size, 1, none⟩ (.int .i64 0)).setCell ⟨w.heap.size, 2, none⟩ (.slice none 0 0)).setCell ⟨w.heap.size, 3, none⟩ (.string ⟨#[]⟩)) := by
  have k1 := KeepF.set wr w.heap.size 0 (.int .i64 0)
  have k2 := k1.trans (KeepF.set _ w.heap.size 1 (.int .i64 0)) (fun q h => .inl h)
  have k3 := k2.trans (KeepF.set _ w.heap.size 2 (.slice none 0 0)) (fun q h => .inl h)
  have k4 := k3.trans (KeepF.set _ w.heap.size 3 (.string ⟨#[]⟩)) (fun q h => .inl h)
  have hrs := hi.it.blk_ne hi.res (.inl rfl)
  refine ⟨none, v', ys, seen', sk', by rw [← hi.eq]; simp [nextF, hp], ⟨⟨(k4.block ib hi.it.blk.lt (Ne.symm hrs.1)).trans hi.it.blk.out⟩, ?_, hi.it.met.same (k4.block _ hi.it.met.lt (Ne.symm hrs.2.2.1)), hi.it.gi, hi.it.gm⟩,
    hi.keep.trans k4 (fun q h => .inr (by omega)), hi.row, hi.small, hi.ok, rfl⟩
  exact hi.it.hs.move (k4.block hb hi.it.hs.blk.lt (Ne.symm hrs.2.1)) (fun k hk => k4.block k (hi.it.hs.own.lt k hk).2 (fun e => hrs.2.2.2 (by rw [hk, e])))
    (fun q hq => k4.block _ (hi.it.hs.rows q hq).lt (by have := hi.old q hq; omega))

set_option maxHeartbeats 2000000 in
theorem next_any (w0 w : World) (ib hb mb : Nat) (v : Value) (nw : Bool) (F : Nat) (xs : List It) (seen : List Int) (sk : Int) (h : IterIs w w0.heap.size ib hb mb v nw xs seen sk) (hF : tot xs < F)
    (hbd : (seen.length : Int) + tot xs + sk ≤ 1000000000000000) (hsk : 0 ≤ sk) (hok : ∀ it ∈ xs, ∀ e ∈ it.es, EntOk w0 e) (hb0 : Below w0.heap.size w0 w) :
    Calls Try.prog 26 #[.pointer (some ⟨ib, 0, none⟩)] w (NextPost w0 w ib hb mb v nw F xs seen sk) := by
  have hst : NInv w0 w ib hb mb v nw F xs seen sk F v xs seen sk (w.alloc (.cells #[.int .i64 0, .int .i64 0, .slice none 0 0, .string ⟨#[]⟩] 34)) :=
    ⟨⟨h.blk.alloc _, h.hs.alloc _, h.met.below ((Below.refl _ _).alloc (Nat.le_refl _) _), h.gi, h.gm⟩, rfl, hF, ⟨hbd, hsk⟩, KeepF.of_below ((Below.refl _ _).alloc (Nat.le_refl _) _) _, Blk.new _ _ _ _ rfl, hok, .inl rfl, Nat.le_refl _, fun it hi => (h.hs.rows it hi).lt⟩
  go_enter Try.func26, Try.ntmps26
  go_wp2
  go_loopg [4] F (fun g v4 wr => NRel w0 w ib hb mb v nw F xs seen sk g wr)
  case atStart => exact ⟨v, xs, seen, sk, hst⟩
  case round =>
    obtain ⟨v', ys, seen', sk', hi⟩ := hrel
    have c0 : wr.cell? ⟨ib, 0, none⟩ = some (.pointer (some ⟨hb, 0, none⟩)) := hi.it.blk.cell 0 _ rfl
    have ch : wr.cell? ⟨hb, 0, none⟩ = some v' := hi.it.hs.blk.cell 0 _ rfl
    have lb0 : wr.cell? ⟨w.heap.size, 0, none⟩ = some (.int .i64 0) := hi.res.cell 0 _ rfl
    have lb1 : wr.cell? ⟨w.heap.size, 1, none⟩ = some (.int .i64 0) := hi.res.cell 1 _ rfl
    have lb2 : wr.cell? ⟨w.heap.size, 2, none⟩ = some (.slice none 0 0) := hi.res.cell 2 _ rfl
    have lb3 : wr.cell? ⟨w.heap.size, 3, none⟩ = some (.string ⟨#[]⟩) := hi.res.cell 3 _ rfl
    have fz0 := hi.res.frozen 0
    have fz1 := hi.res.frozen 1
    have fz2 := hi.res.frozen 2
    have fz3 := hi.res.frozen 3
    have HI := Lib.hid hi; clear hi
    obtain ⟨g1, rfl⟩ : ∃ m, gk = m + 1 := ⟨gk - 1, by have := HI.out.left; omega⟩
    by_cases hx : ys.length = 0
    · have H0 := Lib.hid hx; clear hx
      go_wp2_with fail
      refine (none_made ib _ _ c0).mono ?_
      rintro e w' ⟨rfl, rfl⟩
      go_wp2_with fail
      refine (HS.len _ _ _ _ _ _ HI.out.it.hs).mono ?_
      rintro e w' ⟨rfl, rfl⟩
      rw [H0.out]
      go_wp2_with fail
      have hB := (((HI.out.res.set 0 (.int .i64 0)).set 1 (.int .i64 0)).set 2 (.slice none 0 0)).set 3 (.string ⟨#[]⟩)
      refine bodyPost_ret (v := .tuple #[.agg #[.int .i64 0, .int .i64 0, .slice none 0 0, .string ⟨#[]⟩], .bool false]) (res26 _ w.heap.size _ _ _ _ _ hB _ rfl rfl) rfl ?_
      exact none_post HI.out H0.out
    · have hx' : 0 < ys.length := by omega
      clear hx
      go_wp2_with fail
      refine (none_made ib _ _ c0).mono ?_
      rintro e w' ⟨rfl, rfl⟩
      go_wp2_with fail
      refine (HS.len _ _ _ _ _ _ HI.out.it.hs).mono ?_
      rintro e w' ⟨rfl, rfl⟩
      have hta := assert62
      have hmem : getI ys 0 ∈ ys := by rw [getI_lt ys 0 hx']; exact List.getElem_mem hx'
      have hro := HI.out.it.hs.rows _ hmem
      go_wp2_with fail
      refine (hpop_any wr w0.heap.size hb v' nw ys HI.out.it.hs hx').mono ?_
      rintro e w1 ⟨rfl, v1, hs1, hk1, hv1⟩
      rw [popL_last nw ys hx']
      have hro1 : RowOk w1 w0.heap.size (getI ys 0) := hro.keep (hk1.block _ hro.lt (HI.out.it.hs.it_ne hro).1 (HI.out.it.hs.it_ne hro).2)
      have hold := HI.out.old _ hmem
      generalize hxe : getI ys 0 = x at hmem hro hro1 hold hs1 ⊢
      have HX := Lib.hid hxe; clear hxe
      have hp0 := hro1.pos
      obtain ⟨q0, q1, q2, q3⟩ := hro1.hd
      have lx := hro1.lt
      go_upto_region 4 with fail
      refine wp_gen (fun W => Below w1.heap.size w1 W ∧ Blk W w1.heap.size #[x.sl, .int .i64 x.ix] 62 ∧ Blk W (w1.heap.size + 1) x.hd.cells 34)
        ⟨((Below.refl _ _).alloc (Nat.le_refl _) _).alloc (by simp) _, (Blk.new w1 _ _ _ rfl).alloc _, Blk.new _ _ _ _ (by simp)⟩ ?_
      rintro W ⟨hbW, br, be⟩
      have r0 : W.cell? ⟨w1.heap.size, 0, none⟩ = some (.slice (some ⟨x.b, x.k * 4, none⟩) x.es.length x.c) := br.cell 0 _ rfl
      have rf := br.frozen 0
      clear q0 q1 q2 q3
      go_cut [4] (fun v4 wc => v4 = .pointer (some ⟨w1.heap.size, 0, none⟩) ∧ SliceCut w1 x wc)
      case first =>
        by_cases hc1 : x.c = 1
        · have hl1 : x.es.length = 1 := by have := hro1.cap; omega
          have HC := Lib.hid hc1
          go_wp2_with fail
          go_meet
          exact ⟨rfl, sliceCut1 hbW br be (by omega) (by omega)⟩
        · have hc2 : 1 < x.c := by have := hro1.cap; omega
          go_wp2_with fail
          go_meet
          exact ⟨rfl, sliceCut2 hbW br be⟩
      case rest =>
        obtain ⟨rfl, A', hA, b1, b2, hb2⟩ := hcut
        have e0 : wc.cell? ⟨w1.heap.size, 0, none⟩ = some (.slice (some A') (x.es.length - 1) (x.c - 1)) := b1.cell 0 _ rfl
        have e1 : wc.cell? ⟨w1.heap.size, 1, none⟩ = some (.int .i64 x.ix) := b1.cell 1 _ rfl
        have hsw := hs1.below hb2
        have hkw := hk1.trans (Keep2.of_below hb2 hb v'.ownBlock) (.inl rfl)
        have hrow := hro1.keep (hb2.block _ lx)
        have hne := HI.out.it.ne_hb
        have c0w : wc.cell? ⟨ib, 0, none⟩ = some (.pointer (some ⟨hb, 0, none⟩)) := hkw.cell c0 hne.1 hne.2
        go_upto_if 35 with fail
        go_cut [5] (fun v5 wd => v5 = .pointer (some ⟨w1.heap.size + 1, 0, none⟩) ∧ StepCut w0 wr w1 hb v' nw ys x wd)
        case first =>
          by_cases hl : 2 ≤ x.es.length
          · obtain rfl := hA hl
            have hnx := hrow.next hl
            have hbse : w0.heap.size ≤ wc.heap.size := Nat.le_trans (Nat.le_trans hnx.ge (Nat.le_of_lt hnx.lt)) (Nat.le_refl _)
            have hsml := hsw.small
            have hq := hpush_any wc.drew w0.heap.size hb v1 nw _ x.next hsw.drew (hnx.keep rfl) hbse (take_small HI.out.it.hs.small hx')
            rw [next_val] at hq
            have HQ := Lib.hid hq; clear hq
            go_wp2_with fail
            go_region_law
              (first
                | (go_simp; go_at_call 40; refine (HQ.out).mono ?_; rintro e w2 ⟨rfl, v2, hs2, hk2, hv2⟩))
            all_goals
              go_wp2_with fail
              go_meet
              refine ⟨rfl, v2, by rw [if_neg (by omega)]; exact hs2, ?_, ?_, ?_⟩
              · exact hkw.trans (Keep2.undrew hk2) (.inl hv1)
              · rcases hv2 with hv2 | hv2
                · exact .inl (hv2.trans hv1)
                · exact .inr fun k hk => Nat.le_trans hkw.size (hv2 k hk)
              · exact ⟨((Keep2.undrew hk2).block _ b2.lt (by have := hs1.blk.lt; omega) (fun e => by have := (hs1.own.lt _ e.symm).2; omega)).trans b2.out⟩
          · have hl' : x.es.length = 1 := by omega
            have HL := Lib.hid hl'; clear hl'
            rw [HL.out]
            go_wp2_with fail
            go_meet
            exact ⟨rfl, v1, by rw [if_pos (by rw [HL.out]; omega)]; exact hsw, hkw, .inl hv1, b2⟩
        case rest =>
          obtain ⟨rfl, v2, hs2, hk2, hv2, bx⟩ := hcut
          have i0 : wc.cell? ⟨ib, 0, none⟩ = some (.pointer (some ⟨hb, 0, none⟩)) := hk2.cell c0 hne.1 hne.2
          have i1 : wc.cell? ⟨ib, 1, none⟩ = some (.map (some mb)) := hk2.cell (HI.out.it.blk.cell 1 _ rfl) hne.1 hne.2
          have i2 : wc.cell? ⟨ib, 2, none⟩ = some (.int .i64 sk') := hk2.cell (HI.out.it.blk.cell 2 _ rfl) hne.1 hne.2
          have x0 : wc.cell? ⟨w1.heap.size + 1, 0, none⟩ = some (.int .i64 x.hd.s) := bx.cell 0 _ rfl
          have hnm := HI.out.it.ne_met
          have hset : SetIs wc mb seen'.length (fun i => decide (i ∈ seen')) := HI.out.it.met.same (hk2.block _ HI.out.it.met.lt hnm.1 hnm.2.1)
          have hent : EntOk w0 x.hd := HI.out.ok x hmem _ (hd_mem hp0)
          have hlook := (hset.below (Below.refl _ _).drew).lookup x.hd.s hent.1
          have hfr := fun i => HI.out.it.blk.frozen i
          have z2 : wc.frozen? ⟨ib, 2, none⟩ = false := (World.frozen?_of_block (a := ⟨ib, 2, none⟩) (hk2.block _ HI.out.it.blk.lt hne.1 hne.2)).trans (hfr 2)
          have hb1' : 0 ≤ sk' := HI.out.bd.2
          have hb2' : sk' ≤ 1000000000000000 := by have := HI.out.bd.1; omega
          clear hfr
          by_cases hsn : x.hd.s ∈ seen'
          · have hl2 : (Instr.lookup 30 (.map (some mb)) (.int .i64 x.hd.s) false).run Try.prog wc.drew = .ok (.bool true) wc.drew := by rw [hlook]; simp [hsn]
            have HSN := Lib.hid hsn
            clear hsn hlook
            go_wp2_with fail
            go_region
            go_wp2_with fail
            have hB : Blk wc ib #[.pointer (some ⟨hb, 0, none⟩), .map (some mb), .int .i64 sk'] 52 := ⟨(hk2.block _ HI.out.it.blk.lt hne.1 hne.2).trans HI.out.it.blk.out⟩
            have hi := HI.out
            go_roundg g1
            case rel =>
              exact ⟨v2, (stepL nw ys).2, seen', sk' + 1, skip_inv hi hx' HX.out hs2 hk2 hv2 HSN.out⟩
            case measure => exact Nat.lt_succ_self _
          · have hl2 : (Instr.lookup 30 (.map (some mb)) (.int .i64 x.hd.s) false).run Try.prog wc.drew = .ok (.bool false) wc.drew := by rw [hlook]; simp [hsn]
            have HSN := Lib.hid hsn
            clear hsn hlook
            go_wp2_with fail
            go_region
            go_wp2_with fail
            have hn4 : seen'.length < maxLen := by have := HI.out.bd; unfold maxLen; omega
            obtain ⟨w4, hrun, hset4, hg4⟩ := ((hset.below (Below.refl _ _).drew).below (Below.refl _ _).drew).update x.hd.s hent.1 hn4 true
            obtain ⟨ls, hls⟩ := hent.2.2
            obtain ⟨it2, res2, kp2⟩ := step_iter HI.out hx' HX.out hs2 hk2
            have hbn2 := it2.blk_ne bx (.inl rfl)
            have hrn2 := it2.blk_ne res2 (.inl rfl)
            have bx4 : Blk w4 (w1.heap.size + 1) x.hd.cells 34 := ⟨(hg4.block _ bx.lt (fun e => hbn2.2.2.1 (Option.some.inj e))).trans bx.out⟩
            have rs4 : Blk w4 w.heap.size #[.int .i64 0, .int .i64 0, .slice none 0 0, .string ⟨#[]⟩] 34 := ⟨(hg4.block _ res2.lt (fun e => hrn2.2.2.1 (Option.some.inj e))).trans res2.out⟩
            have x4 : w4.cell? ⟨w1.heap.size + 1, 2, none⟩ = some (.slice x.hd.A x.hd.n x.hd.c) := bx4.cell 2 _ rfl
            have kp4 : KeepF w w4 (iterF ib hb mb v) := kp2.trans (KeepF.drew2 (KeepF.of_grown hg4)) (fun q hq => .inl (.inr (.inr (.inl (Option.some.inj hq)))))
            have hbw4 : Below w0.heap.size w0 w4 := kp4.toBelow hb0 (by rintro q (rfl | rfl | rfl | hq); exact h.gi; exact h.hs.gb; exact h.gm; exact (h.hs.own.lt q hq.symm).1)
            have hne5 : w1.heap.size + 1 ≠ w.heap.size := by have := HI.out.res.lt; have := hk1.size; omega
            clear hl2
            go_region
            go_wp2_with fail
            refine (clone32 x.hd.A x.hd.n x.hd.c (lcells ls) w4 (by rw [lcells_length, hls.2.1]) (lcells_one _) (hls.1.belowB hbw4) hls.2.2.2).mono ?_
            rintro e w5 ⟨u, rfl, hu, hb5⟩
            obtain ⟨Au, cu, rfl⟩ := own_sl hu
            have bx5 := bx4.below hb5 bx4.lt
            have rs5 := rs4.below hb5 rs4.lt
            have y0 : w5.cell? ⟨w1.heap.size + 1, 0, none⟩ = some (.int .i64 x.hd.s) := bx5.cell 0 _ rfl
            have y1 : w5.cell? ⟨w1.heap.size + 1, 1, none⟩ = some (.int .i64 x.hd.t) := bx5.cell 1 _ rfl
            have y2 : w5.cell? ⟨w1.heap.size + 1, 2, none⟩ = some (.slice x.hd.A x.hd.n x.hd.c) := bx5.cell 2 _ rfl
            have y3 : w5.cell? ⟨w1.heap.size + 1, 3, none⟩ = some (.string x.hd.x) := bx5.cell 3 _ rfl
            have yf := bx5.frozen 2
            have r0' : w5.cell? ⟨w.heap.size, 0, none⟩ = some (.int .i64 0) := rs5.cell 0 _ rfl
            have r1' : w5.cell? ⟨w.heap.size, 1, none⟩ = some (.int .i64 0) := rs5.cell 1 _ rfl
            have r2' : w5.cell? ⟨w.heap.size, 2, none⟩ = some (.slice none 0 0) := rs5.cell 2 _ rfl
            have r3' : w5.cell? ⟨w.heap.size, 3, none⟩ = some (.string ⟨#[]⟩) := rs5.cell 3 _ rfl
            have g0 := rs5.frozen 0
            have g1' := rs5.frozen 1
            have g2 := rs5.frozen 2
            have g3 := rs5.frozen 3
            clear hrun
            go_wp2_with fail
            have hB := ((((rs5.far ⟨w1.heap.size + 1, 2, none⟩ (.slice Au x.hd.n cu) (Ne.symm hne5)).set 0 (.int .i64 x.hd.s)).set 1 (.int .i64 x.hd.t)).set 2 (.slice Au x.hd.n cu)).set 3 (.string x.hd.x)
            refine bodyPost_ret (v := .tuple #[entVal x.hd (.slice Au x.hd.n cu), .bool true]) (res26 _ w.heap.size _ _ _ _ _ hB _ rfl rfl) rfl ?_
            exact done_post HI.out hx' HX.out hv2 it2 kp4 hg4 hset4 HSN.out hent hls hb5 hu (by have := hk1.size; have := HI.out.it.blk.lt; have := HI.out.it.hs.blk.lt; have := HI.out.it.met.lt; have := bx.lt; have := HI.out.res.lt; omega) bx res2 hne5 rs4.lt
end Go.Proofs.Ytjfggmkfnofldaa
