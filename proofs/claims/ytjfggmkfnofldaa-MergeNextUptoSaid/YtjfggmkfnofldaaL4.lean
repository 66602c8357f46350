import Derived.Test.YtjfggmkfnofldaaH5
import Derived.Test.YtjfggmkfnofldaaL3
namespace Go.Proofs.Ytjfggmkfnofldaa
open Go.RowKit
set_option linter.unusedVariables false

/-- The world's first n blocks. -/
def cutW (w : World) (n : Nat) : World := { w with heap := w.heap.extract 0 n }
theorem cutW_size {w : World} {n : Nat} (h : n ≤ w.heap.size) : (cutW w n).heap.size = n := by
  show (w.heap.extract 0 n).size = n
  simp; omega
theorem cutW_block {w : World} {n k : Nat} (hk : k < n) : (cutW w n).heap[k]? = w.heap[k]? := by
  show (w.heap.extract 0 n)[k]? = _
  simp [Array.getElem?_extract]
  intro h
  omega
theorem cutW_below {w : World} {n : Nat} (h : n ≤ w.heap.size) : Below (cutW w n).heap.size (cutW w n) w := by
  rw [cutW_size h]
  exact ⟨rfl, rfl, rfl, by rw [cutW_size h]; exact h, fun k hk => (cutW_block hk).symm⟩
theorem LabIs.moved {w w' : World} {e : Ent} {ls : List Lab} (h : LabIs w e ls) (hk : ∀ b o, e.A = some ⟨b, o, none⟩ → 0 < ls.length → w'.heap[b]? = w.heap[b]?) : LabIs w' e ls := by
  refine ⟨fun hp => ?_, h.2⟩
  obtain ⟨b, o, e1, hc⟩ := h.1 hp
  refine ⟨b, o, e1, fun j u hu => ?_⟩
  rw [lcells_length] at hp
  exact (World.cell?_of_block (a := ⟨b, o + j, none⟩) (hk b o e1 (by omega))).trans (hc j u hu)

theorem spoil_empty (A : Option Addr) (c : Nat) (w : World) : Calls Try.prog 15 #[.slice A 0 c] w fun e w' => e = .returned (.tuple #[]) ∧ w = w' := by
  go_enter Try.func15, Try.ntmps15
  go_wp2
  refine wp_loop_rounds 1 ?_; rw [rounds_succ]
  go_wp2
  go_end0
  exact ⟨rfl, rfl⟩

def SpF (w w1 : World) (q : Nat) : Prop := w.heap.size ≤ q ∧ q < w1.heap.size ∧ ∃ cs, w1.heap[q]? = some (.cells cs 34 (0, 0))
/-- The copied rows while their numbers are overwritten. -/
structure SpInv (w w1 w4 : World) (v1 : Value) (rs1 : List Raw) (wr : World) : Prop where
  own : wr.ownsRow w.heap.size 24 1 v1 rs1.length (rs1.map Raw.val)
  rows : ∀ r ∈ rs1, 0 < r.es.length → ∃ g cs, r.A = some ⟨g, 0, none⟩ ∧ SpF w w1 g ∧ wr.heap[g]? = some (.cells cs 34 (0, 0)) ∧ r.es.length * 4 ≤ cs.size
  keep : KeepF w4 wr (SpF w w1)
theorem SpInv.start {w w1 w4 : World} {v1 : Value} {rs1 : List Raw} {xss : List (List AEnt)} (h : OwnRows w1 w.heap.size v1 rs1 xss) (hb : Below w1.heap.size w1 w4) : SpInv w w1 w4 v1 rs1 w4 := by
  refine ⟨(h.below hb).own, fun r hr hp => ?_, KeepF.refl _ _⟩
  obtain ⟨i, hi, rfl⟩ := List.getElem_of_mem hr
  have h1 := h.rows i hi (by rw [← h.len]; exact hi)
  rcases h1.own.2 with ⟨_, h0⟩ | ⟨g, cap, cur, hv, hbg, hg, hc, hm, hs, ht⟩
  · omega
  · injection hv with e1 e2 e3
    have hgl : g < w1.heap.size := (Array.getElem?_eq_some_iff.1 hg).1
    exact ⟨g, cur, e1, ⟨hbg, hgl, cur, hg⟩, (hb.block g hgl).trans hg, by omega⟩
theorem SpInv.step {w w1 w4 wr : World} {v1 : Value} {rs1 : List Raw} (h : SpInv w w1 w4 v1 rs1 wr) {g i : Nat} {cs : Array Value} (hF : SpF w w1 g) (hg : wr.heap[g]? = some (.cells cs 34 (0, 0))) (u : Value) : SpInv w w1 w4 v1 rs1 (wr.setCell ⟨g, i, none⟩ u) := by
  refine ⟨ownsRow_setOther h.own (fun e => ?_), fun r hr hp => ?_, h.keep.trans (KeepF.set wr g i u) (fun q hq => .inl (by rw [hq]; exact hF))⟩
  · rcases h.own.2 with ⟨rfl, _⟩ | ⟨g', cap, cur, rfl, _, hg', _⟩
    · simp [Value.ownBlock] at e
    · simp [Value.ownBlock] at e
      subst e
      rw [hg] at hg'
      injection hg' with hg'; injection hg' with _ hg'; exact absurd hg' (by decide)
  · obtain ⟨g', cs', e1, e2, e3, e4⟩ := h.rows r hr hp
    by_cases hq : g' = g
    · subst hq
      exact ⟨g', cs'.setIfInBounds i u, e1, e2, ((Blk.mk e3).set i u).out, by simpa using e4⟩
    · exact ⟨g', cs', e1, e2, (Below.heap_setCell wr _ u g' hq).trans e3, e4⟩

theorem tmod_bd60 (x : Int) : -60 < x.tmod 60 ∧ x.tmod 60 < 60 := by
  have h2 : x.tmod 60 = if 0 ≤ x then x % 60 else -((-x) % 60) := by
    rcases Int.le_total 0 x with h | h
    · rw [if_pos h, Int.tmod_eq_emod_of_nonneg h]
    · have e : x = -(-x) := by omega
      rw [e, Int.neg_tmod, Int.tmod_eq_emod_of_nonneg (by omega)]
      split
      · have : x = 0 := by omega
        subst this; rfl
      · simp
  split at h2 <;> omega
theorem calls_m (c : Int) : ∃ m : Nat, (wrap64 (c.tmod 60 + 60)).tmod 60 = m ∧ m ≤ 60 := by
  have hb := tmod_bd60 c
  have e1 : wrap64 (c.tmod 60 + 60) = c.tmod 60 + 60 := wrap64_in _ (by omega) (by omega)
  rw [e1, Int.tmod_eq_emod_of_nonneg (by omega)]
  exact ⟨((c.tmod 60 + 60) % 60).toNat, by omega, by omega⟩

/-- Both iterators at the beginning, the copied rows overwritten. -/
theorem nx_start {w w1 w2 w3 w4 wr : World} {nw : Bool} {ib hb mb tb mb2 : Nat} {v v1 v2 : Value} {rs rs1 : List Raw} {xss : List (List AEnt)} {its : List It} {A : Option Addr}
    (hr : RowsA w A rs xss) (hb1 : Below w.heap.size w w1) (ho : OwnRows w1 w.heap.size v1 rs1 xss) (hok : ∀ xs ∈ xss, ∀ a ∈ xs, AOk a) (ht : totA xss ≤ 100000000000) (hn : rs.length ≤ 100000000000)
    (hit : IterIs w2 w1.heap.size ib hb mb v nw (initF nw its.length (its.length / 2) its) [] 0) (hits : its.map itPair = full 0 rs1) (hb2 : Below w1.heap.size w1 w2)
    (href : RefIs w3 w2.heap.size tb mb2 v2 nw rs [] 0) (hb3 : Below w2.heap.size w2 w3) (hb4 : Below w3.heap.size w3 w4) (hsp : SpInv w w1 w4 v1 rs1 wr) :
    ∃ W0 : World, Below w.heap.size w W0 ∧ NxInv W0 nw ib hb mb tb mb2 v v2 (initF nw its.length (its.length / 2) its) rs [] 0 (rs1.map Raw.es) xss wr := by
  have hb24 : Below w2.heap.size w2 w4 := thenB hb3 hb4
  have hb14 : Below w1.heap.size w1 w4 := thenB hb2 hb24
  have hsz : w1.heap.size ≤ wr.heap.size := Nat.le_trans hb14.size hsp.keep.size
  have hF : ∀ q, w1.heap.size ≤ q → ¬ SpF w w1 q := fun q hq h => by have := h.2.1; omega
  have hmoved : ∀ b, b < w1.heap.size → ¬ SpF w w1 b → (cutW wr w1.heap.size).heap[b]? = w1.heap[b]? := fun b hb' hf => by
    rw [cutW_block hb', hsp.keep.block b (by have := hb14.size; omega) hf, hb14.block b hb']
  -- what raw entries say
  have hraw : ∀ i (h : i < rs.length) (h' : i < xss.length), Rel2 (EntA (cutW wr w1.heap.size)) rs[i].es xss[i] := fun i h h' => by
    have h1 := hr.rows i h h'
    refine ⟨h1.len, fun j hj hj' => ?_⟩
    have h2 := h1.ents j hj hj'
    refine ⟨h2.s, h2.t, h2.x, h2.ls.moved fun b o e hp => ?_⟩
    obtain ⟨b', o', e', hc⟩ := h2.ls.1 (by rw [lcells_length]; omega)
    rw [e] at e'; injection e' with e'; injection e' with e1 e2
    subst e1
    obtain ⟨g0, _⟩ := lcells_get _ 0 hp
    have hlt := World.block_lt_of_cell? w _ (hc _ _ g0)
    simp only at hlt
    have hs1 := hb1.size
    rw [hmoved b (by omega) (fun h => by have := h.1; omega), hb1.block b hlt]
  have hown : ∀ i (h : i < rs1.length) (h' : i < xss.length), Rel2 (EntA (cutW wr w1.heap.size)) rs1[i].es xss[i] := fun i h h' => by
    have h1 := ho.rows i h h'
    refine ⟨h1.len, fun j hj hj' => ?_⟩
    have h2 := h1.ents j hj hj'
    refine ⟨h2.s, h2.t, h2.x, h2.lab.moved fun b o e hp => ?_⟩
    rcases h2.labs.2 with ⟨hv, h0⟩ | ⟨g, cap, cur, hv, hbg, hg, _⟩
    · have := h2.n; omega
    · injection hv with e1 e2 e3
      rw [e] at e1; injection e1 with e1; injection e1 with e1 _
      subst e1
      refine hmoved b (Array.getElem?_eq_some_iff.1 hg).1 (fun h => ?_)
      obtain ⟨_, _, cs, hcs⟩ := h
      rw [hg] at hcs
      injection hcs with hcs; injection hcs with _ hcs; exact absurd hcs (by decide)
  have hl1 : rs1.length = xss.length := ho.len
  have hl0 : rs.length = xss.length := hr.len
  have relX : Rel2 (Rel2 (EntA (cutW wr w1.heap.size))) (rs1.map Raw.es) xss := ⟨by simp [hl1], fun i h h' => by simp only [List.getElem_map]; exact hown i (by simpa using h) h'⟩
  have relR : Rel2 (Rel2 (EntA (cutW wr w1.heap.size))) (rs.map Raw.es) xss := ⟨by simp [hl0], fun i h h' => by simp only [List.getElem_map]; exact hraw i (by simpa using h) h'⟩
  have okOf : ∀ (l : List (List Ent)), Rel2 (Rel2 (EntA (cutW wr w1.heap.size))) l xss → ∀ es ∈ l, ∀ e ∈ es, EntOk (cutW wr w1.heap.size) e := by
    intro l hrel es hes e he
    obtain ⟨i, hi, rfl⟩ := List.getElem_of_mem hes
    have hx : i < xss.length := by rw [← hrel.len]; exact hi
    have h1 := hrel.at_ i hi hx
    obtain ⟨j, hj, rfl⟩ := List.getElem_of_mem he
    have hj2 : j < xss[i].length := by rw [← h1.len]; exact hj
    exact (h1.at_ j hj hj2).ok (hok _ (List.getElem_mem hx) _ (List.getElem_mem hj2))
  have hi := init_heap nw its
  have hbw : Below w.heap.size w wr := hsp.keep.toBelow (thenB hb1 hb14) (fun q hq => hq.1)
  have hs01 := hb1.size
  refine ⟨cutW wr w1.heap.size, ⟨hbw.os, hbw.tape, hbw.output, by rw [cutW_size hsz]; exact hs01, fun k hk => (cutW_block (by omega)).trans (hbw.block k hk)⟩, ?_, ⟨by rw [hi.2.length_eq]; exact hi.1, ?_⟩, relX, ?_, relR, ?_, ?_, ?_, hn, ⟨by simp; omega, by omega⟩, ?_, cutW_below hsz⟩
  · rw [cutW_size hsz]
    have h4 : IterIs w4 w1.heap.size ib hb mb v nw (initF nw its.length (its.length / 2) its) [] 0 := hit.move (KeepF.of_below hb24 (fun _ => False)) (fun h => h) (fun h => h) (fun h => h) (fun _ _ h => h) (fun _ _ h => h)
    exact h4.move hsp.keep (hF _ h4.gi) (hF _ h4.hs.gb) (hF _ h4.gm) (fun q hq => hF _ (h4.hs.own.lt q hq).1) (fun it hi => hF _ (h4.hs.rows it hi).ge)
  · rw [← full_eq, ← hits]
    exact hi.2.map _
  · rw [cutW_size hsz]
    have h4 : RefIs w4 w2.heap.size tb mb2 v2 nw rs [] 0 := href.move (KeepF.of_below hb4 (fun _ => False)) (fun h => h) (fun h => h) (fun _ _ h => h) (fun _ _ _ _ _ _ h => h)
    have hle : w1.heap.size ≤ w2.heap.size := hb2.size
    have h5 : RefIs wr w2.heap.size tb mb2 v2 nw rs [] 0 := h4.move hsp.keep (hF _ (Nat.le_trans hle h4.gi)) (hF _ (Nat.le_trans hle h4.gm)) (fun q hq => hF _ (Nat.le_trans hle (h4.own.lt q hq.symm).1)) (fun r hr' b o e hp h => by
      obtain ⟨i, hi', rfl⟩ := List.getElem_of_mem hr'
      obtain ⟨b', o', e', hc⟩ := (hr.rows i hi' (by rw [← hl0]; exact hi')).cells (by rw [ecells_length]; omega)
      rw [e] at e'; injection e' with e'; injection e' with e1 e2
      subst e1
      have h0 : 0 < (ecells rs[i].es).length := by rw [ecells_length]; omega
      have hlt := World.block_lt_of_cell? w _ (hc 0 _ (List.getElem?_eq_getElem h0))
      have := h.1
      simp only at hlt
      omega)
    exact ⟨h5.blk, ownsRow_lower h5.own hle, h5.met, h5.rows, Nat.le_trans hle h5.gi, Nat.le_trans hle h5.gm⟩
  · intro it hit' e he
    have hm : itPair it ∈ full 0 rs1 := by rw [← hits]; exact List.mem_map_of_mem (hi.2.mem_iff.1 hit')
    obtain ⟨r, hr', hre⟩ := full_mem rs1 0 _ hm
    exact okOf _ relX r.es (List.mem_map_of_mem hr') e (by rw [← hre]; exact he)
  · intro r hr' e he
    exact okOf _ relR r.es (List.mem_map_of_mem hr') e he
  · intro r hr' b o e hp
    obtain ⟨i, hi', rfl⟩ := List.getElem_of_mem hr'
    obtain ⟨b', o', e', hc⟩ := (hr.rows i hi' (by rw [← hl0]; exact hi')).cells (by rw [ecells_length]; omega)
    rw [e] at e'; injection e' with e'; injection e' with e1 e2
    subst e1
    have h0 : 0 < (ecells rs[i].es).length := by rw [ecells_length]; omega
    have hlt := World.block_lt_of_cell? w _ (hc 0 _ (List.getElem?_eq_getElem h0))
    rw [cutW_size hsz]
    have := hb1.size
    simp only at hlt
    omega
  · have h1 := hit.met.lt
    have h2 := href.gm
    omega
end Go.Proofs.Ytjfggmkfnofldaa
