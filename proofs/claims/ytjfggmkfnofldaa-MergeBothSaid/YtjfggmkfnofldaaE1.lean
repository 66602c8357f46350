import Derived.Test.YtjfggmkfnofldaaP2
import Derived.Test.YtjfggmkfnofldaaD4
namespace Go.Proofs.Ytjfggmkfnofldaa
open Go.RowKit
set_option linter.unusedVariables false

theorem info24 : (Try.prog.info? 24).map (fun i => (i.zero, i.size, i.bytes)) = some (some (.slice none 0 0), 1, 24) := by kernel_rfl

/-- The document's iterator as it lies in memory. -/
structure RefIs (w : World) (base tb mb : Nat) (v : Value) (nw : Bool) (rs : List Raw) (seen : List Int) (sk : Int) : Prop where
  blk : Blk w tb #[v, .bool nw, .map (some mb), .int .i64 sk] 49
  own : w.ownsRow base 24 1 v rs.length (rs.map Raw.val)
  met : SetIs w mb seen.length (fun i => decide (i ∈ seen))
  rows : ∀ r ∈ rs, RowCells w r.A (ecells r.es) ∧ r.es.length ≤ r.c
  gi : base ≤ tb
  gm : base ≤ mb

def RNewPost (w : World) (nw : Bool) (rs : List Raw) (e : Ending) (w' : World) : Prop :=
  ∃ tb mb v, e = .returned (.pointer (some ⟨tb, 0, none⟩)) ∧ RefIs w' w.heap.size tb mb v nw rs [] 0 ∧ Below w.heap.size w w'

theorem rnew_post {w w1 : World} {nw : Bool} {rs : List Raw} {v : Value} (ho : w1.ownsRow w.heap.size 24 1 v rs.length (rs.map Raw.val)) (hb : Below w.heap.size w w1) (hrs : ∀ r ∈ rs, RowCells w r.A (ecells r.es) ∧ r.es.length ≤ r.c) :
    RNewPost w nw rs (.returned (.pointer (some ⟨w1.heap.size + 1, 0, none⟩))) ((w1.alloc (.map #[] 0)).alloc (.cells #[v, .bool nw, .map (some w1.heap.size), .int .i64 0] 49)) := by
  have h2 : Below w.heap.size w ((w1.alloc (.map #[] 0)).alloc (.cells #[v, .bool nw, .map (some w1.heap.size), .int .i64 0] 49)) := (hb.alloc hb.size _).alloc (by have := hb.size; simp; omega) _
  have hset : SetIs ((w1.alloc (.map #[] 0)).alloc (.cells #[v, .bool nw, .map (some w1.heap.size), .int .i64 0] 49)) w1.heap.size 0 (fun i => decide (i ∈ ([] : List Int))) := by
    have h0 := (SetIs.made w1).below ((Below.refl _ _).alloc (Nat.le_refl _) (.cells #[v, .bool nw, .map (some w1.heap.size), .int .i64 0] 49))
    simpa using h0
  exact ⟨w1.heap.size + 1, w1.heap.size, v, rfl, ⟨Blk.new _ _ _ _ (by simp), (ho.alloc _).alloc _, hset, fun r hr => ⟨(hrs r hr).1.below h2, (hrs r hr).2⟩, by have := hb.size; omega, hb.size⟩, h2⟩

set_option maxHeartbeats 1000000 in
theorem rnew_any (A : Option Addr) (c : Nat) (nw : Bool) (rs : List Raw) (w : World) (hA : RowCells w A (rs.map Raw.val)) (hc : A = none → c = 0) (hrs : ∀ r ∈ rs, RowCells w r.A (ecells r.es) ∧ r.es.length ≤ r.c) (hn : rs.length * 24 ≤ 140737488355328) :
    Calls Try.prog 25 #[.slice A rs.length c, .bool nw] w (RNewPost w nw rs) := by
  obtain ⟨i0, hi0, hz0, hz1, hz2⟩ := info_parts info24
  have hmm := @run_makeMap Try.prog
  have hmade := World.ownsRow_made w #[] 0 (base := w.heap.size) (e := 24) (size := 1) (Nat.le_refl _) (by unfold maxLen; omega) rfl
  have hbel : Below w.heap.size w (w.alloc (.cells #[] 24)) := (Below.refl _ _).alloc (Nat.le_refl _) _
  have h1 : ∀ u ∈ rs.map Raw.val, u.oneCell' = true := by
    intro u hu; obtain ⟨r, _, rfl⟩ := List.mem_map.1 hu; rfl
  rcases A with _ | ad
  · have hn0 : rs = [] := by
      rcases Nat.eq_zero_or_pos rs.length with h | h
      · exact List.eq_nil_of_length_eq_zero h
      · obtain ⟨b, o, e, _⟩ := hA (by simpa using h); cases e
    subst hn0
    obtain rfl := hc rfl
    have HM := Lib.hid hmade; clear hmade
    go_enter Try.func25, Try.ntmps25
    go_wp2_with (at_builtin; refine wpList_append_own_none rfl _ _ 22 rfl w.heap.size 24 i0 1 Try.underlying22 hi0 _ 0 [] rfl HM.out rfl ?_)
    go_ret
    have hfin := rnew_post (nw := nw) (w1 := w.alloc (.cells #[] 24)) (rs := []) HM.out hbel (fun r h => by simp at h)
    simp only [World.size_alloc] at hfin
    exact hfin
  · have hnews : ∀ j u, (rs.map Raw.val)[j]? = some u → (w.alloc (.cells #[] 24)).cell? (ad.add j) = some u := by
      intro j u hu
      have hj : j < (rs.map Raw.val).length := (List.getElem?_eq_some_iff.1 hu).1
      obtain ⟨b, o, e, hcc⟩ := hA (by omega)
      cases e
      rw [addr_add]
      exact keepc hbel (hcc j u hu)
    clear hA
    go_enter Try.func25, Try.ntmps25
    go_wp2_with (at_builtin; go_must (refine wpList_append_own _ rfl _ _ 22 rfl w.heap.size 24 i0 _ 1 24 Try.underlying22 hi0 hz0 hz1 hz2 rfl (by decide) _ 0 [] rfl hmade ad rs.length c (rs.map Raw.val) rfl (by simp) hnews h1 (by unfold maxLen; omega) (by omega) (by simp) ?_); intro v' w1 hown hgrow _; obtain ⟨Av, cv, rfl⟩ := own_sl hown)
    go_ret
    have hb1 : Below w.heap.size w w1 := hbel.grown hgrow (by simp) (by intro k hk; cases hk; exact Nat.le_refl _)
    rw [Nat.zero_add] at hown
    exact rnew_post (by simpa using hown) hb1 hrs

def bi : Option Nat → Int
  | none => -1
  | some b => b
theorem bi_none {r : Option Nat} : bi r < 0 ↔ r = none := by cases r <;> simp [bi]

structure RNInv (w0 w : World) (tb mb : Nat) (v : Value) (nw : Bool) (F : Nat) (rows : List (List Ent)) (seen : List Int) (sk : Int) (g : Nat) (rs : List Raw) (seen' : List Int) (sk' : Int) (wr : World) : Prop where
  it : RefIs wr w0.heap.size tb mb v nw rs seen' sk'
  eq : rnextF nw g (rs.map Raw.es) seen' sk' = rnextF nw F rows seen sk
  left : totR (rs.map Raw.es) < g
  bd : (seen'.length : Int) + totR (rs.map Raw.es) + sk' ≤ 1000000000000000 ∧ 0 ≤ sk'
  keep : KeepF w wr (fun k => k = tb ∨ k = mb ∨ some k = v.ownBlock)
  res : Blk wr w.heap.size #[.int .i64 0, .int .i64 0, .slice none 0 0, .string ⟨#[]⟩] 34
  ok : ∀ r ∈ rs, ∀ e ∈ r.es, EntOk w0 e
  old : ∀ r ∈ rs, ∀ b o, r.A = some ⟨b, o, none⟩ → 0 < r.es.length → b < w0.heap.size
  small : rs.length ≤ 100000000000
  len : rs.length = rows.length

def RNRel (w0 w : World) (tb mb : Nat) (v : Value) (nw : Bool) (F : Nat) (rows : List (List Ent)) (seen : List Int) (sk : Int) (g : Nat) (wr : World) : Prop :=
  ∃ rs seen' sk', RNInv w0 w tb mb v nw F rows seen sk g rs seen' sk' wr

def RNextPost (w0 w : World) (tb mb : Nat) (v : Value) (nw : Bool) (F : Nat) (rs : List Raw) (seen : List Int) (sk : Int) (e : Ending) (w' : World) : Prop :=
  ∃ (r : Option Ent) (rs' : List Raw) (seen' : List Int) (sk' : Int), rnextF nw F (rs.map Raw.es) seen sk = (r, rs'.map Raw.es, seen', sk') ∧ RefIs w' w0.heap.size tb mb v nw rs' seen' sk' ∧ KeepF w w' (fun k => k = tb ∨ k = mb ∨ some k = v.ownBlock) ∧
    (∀ r ∈ rs', ∀ e ∈ r.es, EntOk w0 e) ∧ (∀ r ∈ rs', ∀ b o, r.A = some ⟨b, o, none⟩ → 0 < r.es.length → b < w0.heap.size) ∧ rs'.length = rs.length ∧
    match r with
    | none => e = .returned (.tuple #[.agg #[.int .i64 0, .int .i64 0, .slice none 0 0, .string ⟨#[]⟩], .bool false])
    | some x => EntOk w0 x ∧ e = .returned (.tuple #[entVal x (.slice x.A x.n x.c), .bool true])

theorem own_row {w : World} {base n c m : Nat} {A : Option Addr} {e : TypeId} {xs : List Value} (h : w.ownsRow base e 1 (.slice A n c) m xs) (i : Nat) (hi : i < xs.length) : ∃ g, A = some ⟨g, 0, none⟩ ∧ w.cell? ⟨g, i, none⟩ = some xs[i] := by
  rcases h.2 with ⟨hv, h0⟩ | ⟨g, cap, cur, hv, hb, hg, hc, hm, hs, ht⟩
  · have := h.1; omega
  · injection hv with h1 h2 h3
    refine ⟨g, h1, ?_⟩
    have := h.cells (g := g) (by rw [h1]; rfl) i xs[i] (List.getElem?_eq_getElem hi)
    rwa [addr_add, Nat.zero_add] at this
theorem rowAt_map (rs : List Raw) (k : Nat) (h : k < rs.length) : rowAt (rs.map Raw.es) k = rs[k].es := by
  simp [rowAt, h]
def bestStep (nw : Bool) (rows : List (List Ent)) (k : Nat) (l : List Ent) (r : Option Nat) : Option Nat :=
  if l.length = 0 then r else match r with
    | none => some k
    | some b => if entFirst nw (hdE l) (hdE (rowAt rows b)) then some k else some b
theorem best_succ (nw : Bool) (rows : List (List Ent)) (k : Nat) (l : List Ent) (h : rowAt rows k = l) : bestTo nw rows (k + 1) = bestStep nw rows k l (bestTo nw rows k) := by
  subst h
  unfold bestStep
  rw [bestTo]
  cases bestTo nw rows k <;> rfl
theorem bestStep_empty {nw : Bool} {rows : List (List Ent)} {k : Nat} {l : List Ent} {r : Option Nat} (h : l.length = 0) : bestStep nw rows k l r = r := by unfold bestStep; rw [if_pos h]
theorem bestStep_none {nw : Bool} {rows : List (List Ent)} {k : Nat} {l : List Ent} (h : ¬ l.length = 0) : bestStep nw rows k l none = some k := by unfold bestStep; rw [if_neg h]
theorem bestStep_some {nw : Bool} {rows : List (List Ent)} {k b : Nat} {l : List Ent} (h : ¬ l.length = 0) : bestStep nw rows k l (some b) = if entFirst nw (hdE l) (hdE (rowAt rows b)) then some k else some b := by unfold bestStep; rw [if_neg h]
theorem hd_cells {w : World} {A : Option Addr} {es : List Ent} (h : RowCells w A (ecells es)) (hp : 0 < es.length) : ∃ b o, A = some ⟨b, o, none⟩ ∧ EntCells w b o (hdE es) := by
  obtain ⟨b, o, e, hc⟩ := h (by rw [ecells_length]; omega)
  have := entCells_of hc 0 hp
  refine ⟨b, o, e, ?_⟩
  rw [hdE, headD_get es hp]
  simpa using this
theorem res27 (W : World) (b : Nat) (tmps : Array Value) (c0 c1 c2 c3 : Value) (h : Blk W b #[c0, c1, c2, c3] 34) (ok : Bool) (h2 : tmps[2]?.getD undef = .pointer (some ⟨b, 0, none⟩)) (h3 : tmps[3]?.getD undef = .bool ok) :
    (results Try.f27 tmps).run Try.prog W = .ok (.tuple #[.agg #[c0, c1, c2, c3], .bool ok]) W := by
  have k0 : W.cell? ⟨b, 0, none⟩ = some c0 := h.cell 0 _ rfl
  have k1 : W.cell? ⟨b, 1, none⟩ = some c1 := h.cell 1 _ rfl
  have k2 : W.cell? ⟨b, 2, none⟩ = some c2 := h.cell 2 _ rfl
  have k3 : W.cell? ⟨b, 3, none⟩ = some c3 := h.cell 3 _ rfl
  simp [results, Try.results27, go_sem, k0, k1, k2, k3, h2, h3]
theorem own_frozen {w : World} {base n c m g : Nat} {e : TypeId} {sz : Nat} {xs : List Value} (h : w.ownsRow base e sz (.slice (some ⟨g, 0, none⟩) n c) m xs) (i : Nat) : w.frozen? ⟨g, i, none⟩ = false := by
  rcases h.2 with ⟨hv, h0⟩ | ⟨g', cap, cur, hv, hb, hg, _⟩
  · cases hv
  · injection hv with h1
    injection h1 with h1
    injection h1 with h1
    subst h1
    unfold World.frozen?; rw [hg]; simp
def RCut (w0 wr : World) (gv cv : Nat) (qs : List Raw) (b : Nat) (p : Raw) (hd : Ent) (bp op : Nat) (wc : World) : Prop :=
  ∃ A' : Addr, (2 ≤ p.es.length → A' = ⟨bp, op + 4, none⟩) ∧ wc.ownsRow w0.heap.size 24 1 (.slice (some ⟨gv, 0, none⟩) qs.length cv) qs.length ((qs.set b ⟨some A', p.c - 1, p.es.tail⟩).map Raw.val) ∧
    KeepF wr wc (fun k => k = gv) ∧ Blk wc wr.heap.size hd.cells 34
theorem _root_.Go.World.ownsRow.drew2 {w : World} {base : Nat} {e : TypeId} {size : Nat} {v : Value} {n : Nat} {xs : List Value} (h : w.ownsRow base e size v n xs) : w.drew.ownsRow base e size v n xs := h
theorem rcut_of {w0 wr : World} {gv cv b bp op : Nat} {qs : List Raw} {p : Raw} {hd : Ent} (ho : wr.ownsRow w0.heap.size 24 1 (.slice (some ⟨gv, 0, none⟩) qs.length cv) qs.length (qs.map Raw.val)) (hb : b < qs.length) (A' : Addr) (hA : 2 ≤ p.es.length → A' = ⟨bp, op + 4, none⟩) :
    RCut w0 wr gv cv qs b p hd bp op (((wr.setCell ⟨gv, b, none⟩ (.slice (some A') (p.es.length - 1) (p.c - 1))).alloc (.cells hd.cells 34)).drew) := by
  have h1 := ho.stored b (.slice (some A') (p.es.length - 1) (p.c - 1))
  have e : (qs.map Raw.val).set b (.slice (some A') (p.es.length - 1) (p.c - 1)) = (qs.set b ⟨some A', p.c - 1, p.es.tail⟩).map Raw.val := by
    rw [List.map_set]; simp only [Raw.val, List.length_tail]
  rw [e] at h1
  exact ⟨A', hA, (h1.1.alloc _).drew2, (((KeepF.set wr gv b _).trans (KeepF.of_below ((Below.refl _ _).alloc (Nat.le_refl _) _) (fun k => k = gv)) (fun q h => .inl h))).drew, (Blk.new _ _ _ _ (by simp)).drew⟩
theorem RowCells.keepF {w w' : World} {F : Nat → Prop} {A : Option Addr} {xs : List Value} (h : RowCells w A xs) (k : KeepF w w' F) (hF : ∀ b o, A = some ⟨b, o, none⟩ → 0 < xs.length → ¬ F b) : RowCells w' A xs := fun hp => by
  obtain ⟨b, o, e, hc⟩ := h hp
  refine ⟨b, o, e, fun j u hu => ?_⟩
  have h1 := hc j u hu
  exact (World.cell?_of_block (a := ⟨b, o + j, none⟩) (k.block b (World.block_lt_of_cell? w _ h1) (hF b o e hp))).trans h1
theorem rowCells_tail {w : World} {b o : Nat} {es : List Ent} (h : RowCells w (some ⟨b, o, none⟩) (ecells es)) : RowCells w (some ⟨b, o + 4, none⟩) (ecells es.tail) := fun hp => by
  cases es with
  | nil => simp [ecells] at hp
  | cons a l =>
    obtain ⟨b', o', e, hc⟩ := h (by rw [ecells_length]; simp)
    injection e with e
    injection e with e1 e2
    subst e1; subst e2
    refine ⟨b, o + 4, rfl, fun j u hu => ?_⟩
    have := hc (4 + j) u (by
      rw [show ecells (a :: l) = a.cells.toList ++ ecells l from rfl, List.getElem?_append_right (by simp)]
      simpa using hu)
    rwa [← Nat.add_assoc] at this
theorem RefIs.ne {w : World} {base tb mb : Nat} {v : Value} {nw : Bool} {rs : List Raw} {seen : List Int} {sk : Int} (h : RefIs w base tb mb v nw rs seen sk) {b t : Nat} {cs : Array Value} (hb : Blk w b cs t) (ht : t ≠ 24 ∧ t ≠ 49) : b ≠ tb ∧ b ≠ mb ∧ some b ≠ v.ownBlock := by
  obtain ⟨es, clock, hm⟩ := h.met.isMap
  refine ⟨hb.ne h.blk ht.2, ?_, ?_⟩
  · rintro rfl; rw [hb.out] at hm; cases hm
  · intro e
    rcases h.own.2 with ⟨rfl, _⟩ | ⟨g, cap, cur, rfl, hb2, hg, _⟩
    · simp [Value.ownBlock] at e
    · simp [Value.ownBlock] at e
      exact hb.ne (t' := 24) (cs' := cur) ⟨hg⟩ ht.1 e
theorem RefIs.ne2 {w : World} {base tb mb : Nat} {v : Value} {nw : Bool} {rs : List Raw} {seen : List Int} {sk : Int} (h : RefIs w base tb mb v nw rs seen sk) : tb ≠ mb ∧ some tb ≠ v.ownBlock ∧ some mb ≠ v.ownBlock := by
  obtain ⟨es, clock, hm⟩ := h.met.isMap
  refine ⟨?_, ?_, ?_⟩
  · rintro rfl; rw [h.blk.out] at hm; cases hm
  · intro e
    rcases h.own.2 with ⟨rfl, _⟩ | ⟨g, cap, cur, rfl, hb2, hg, _⟩
    · simp [Value.ownBlock] at e
    · simp [Value.ownBlock] at e
      exact h.blk.ne (t' := 24) (cs' := cur) ⟨hg⟩ (by decide) e
  · intro e
    rcases h.own.2 with ⟨rfl, _⟩ | ⟨g, cap, cur, rfl, hb2, hg, _⟩
    · simp [Value.ownBlock] at e
    · simp [Value.ownBlock] at e
      rw [e, hg] at hm; cases hm
theorem rstep_eq (nw : Bool) (rows : List (List Ent)) (seen : List Int) (sk : Int) (g b : Nat) (h : bestTo nw rows rows.length = some b) :
    rnextF nw (g + 1) rows seen sk = if (hdE (rowAt rows b)).s ∈ seen then rnextF nw g (rows.set b (rowAt rows b).tail) seen (sk + 1) else (some (hdE (rowAt rows b)), rows.set b (rowAt rows b).tail, (hdE (rowAt rows b)).s :: seen, sk) := by
  rw [rnextF, h]
theorem rstep_ref {w0 w wo wr wc : World} {tb mb gv cv b bp op F g1 : Nat} {nw : Bool} {rows : List (List Ent)} {qs : List Raw} {seen seen' : List Int} {sk sk' : Int} {p : Raw} {A' : Addr}
    (hi : RNInv w0 w tb mb (.slice (some ⟨gv, 0, none⟩) qs.length cv) nw F rows seen sk (g1 + 1) qs seen' sk' wo) (hbi : Below wo.heap.size wo wr) (hbl : b < qs.length) (hp : qs[b] = p) (ep : p.A = some ⟨bp, op, none⟩) (hpl : 0 < p.es.length)
    (hA : 2 ≤ p.es.length → A' = ⟨bp, op + 4, none⟩) (ho : wc.ownsRow w0.heap.size 24 1 (.slice (some ⟨gv, 0, none⟩) qs.length cv) qs.length ((qs.set b ⟨some A', p.c - 1, p.es.tail⟩).map Raw.val)) (hk : KeepF wr wc (fun k => k = gv)) :
    RefIs wc w0.heap.size tb mb (.slice (some ⟨gv, 0, none⟩) qs.length cv) nw (qs.set b ⟨some A', p.c - 1, p.es.tail⟩) seen' sk' ∧ Blk wc w.heap.size #[.int .i64 0, .int .i64 0, .slice none 0 0, .string ⟨#[]⟩] 34 ∧
      KeepF w wc (fun k => k = tb ∨ k = mb ∨ some k = (Value.slice (some ⟨gv, 0, none⟩) qs.length cv).ownBlock) := by
  have hn2 := hi.it.ne2
  have hnr := hi.it.ne hi.res (by decide)
  have hgv : w0.heap.size ≤ gv := (ho.lt gv rfl).1
  have hkk : KeepF wo wc (fun k => k = gv) := (KeepF.of_below hbi _).trans hk (fun q h => .inl h)
  have hne : ∀ k, some k ≠ (Value.slice (some ⟨gv, 0, none⟩) qs.length cv).ownBlock → ¬ k = gv := fun k h e => h (by rw [e]; rfl)
  have hpm : p ∈ qs := by rw [← hp]; exact List.getElem_mem hbl
  refine ⟨⟨⟨(hkk.block tb hi.it.blk.lt (hne _ hn2.2.1)).trans hi.it.blk.out⟩, by rw [List.length_set]; exact ho, hi.it.met.same (hkk.block mb hi.it.met.lt (hne _ hn2.2.2)), fun r hr => ?_, hi.it.gi, hi.it.gm⟩,
    ⟨(hkk.block _ hi.res.lt (hne _ hnr.2.2)).trans hi.res.out⟩, hi.keep.trans hkk (fun q h => .inl (.inr (.inr (by rw [h]; rfl))))⟩
  have hold : ∀ r ∈ qs, RowCells wc r.A (ecells r.es) := fun r hr => (hi.it.rows r hr).1.keepF hkk (fun b o e hl => by
    have := hi.old r hr b o e (by rw [ecells_length] at hl; omega)
    omega)
  rcases List.mem_or_eq_of_mem_set hr with hr | rfl
  · exact ⟨hold r hr, (hi.it.rows r hr).2⟩
  · refine ⟨?_, by have := (hi.it.rows p hpm).2; simp; omega⟩
    by_cases h2 : 2 ≤ p.es.length
    · have := hold p hpm
      rw [ep] at this
      rw [hA h2]
      exact rowCells_tail this
    · intro hl
      rw [ecells_length, List.length_tail] at hl
      omega
theorem totR_set (rows : List (List Ent)) : ∀ (b : Nat), b < rows.length → 0 < (rowAt rows b).length → totR (rows.set b (rowAt rows b).tail) + 1 = totR rows := by
  induction rows with
  | nil => intro b h; simp at h
  | cons a l ih =>
    intro b hb hp
    cases b with
    | zero => simp [rowAt] at hp ⊢; simp [totR]; omega
    | succ b =>
      have := ih b (by simpa using hb) (by simpa [rowAt] using hp)
      simp only [totR, rowAt, List.set_cons_succ, List.map_cons, List.sum_cons, List.getD_cons_succ] at this ⊢
      omega
theorem set_es (qs : List Raw) (b : Nat) (hb : b < qs.length) (A : Option Addr) (c : Nat) : (qs.set b ⟨A, c, qs[b].es.tail⟩).map Raw.es = (qs.map Raw.es).set b (rowAt (qs.map Raw.es) b).tail := by
  rw [List.map_set, rowAt_map _ _ hb]
theorem rnew_ok {w0 : World} {qs : List Raw} {b bp op : Nat} {p : Raw} {A' : Addr} {c : Nat} (hbl : b < qs.length) (hp : qs[b] = p) (ep : p.A = some ⟨bp, op, none⟩) (hpl : 0 < p.es.length) (hA : 2 ≤ p.es.length → A' = ⟨bp, op + 4, none⟩)
    (hok : ∀ r ∈ qs, ∀ e ∈ r.es, EntOk w0 e) (hold : ∀ r ∈ qs, ∀ b o, r.A = some ⟨b, o, none⟩ → 0 < r.es.length → b < w0.heap.size) :
    (∀ r ∈ qs.set b ⟨some A', c, p.es.tail⟩, ∀ e ∈ r.es, EntOk w0 e) ∧ (∀ r ∈ qs.set b ⟨some A', c, p.es.tail⟩, ∀ b o, r.A = some ⟨b, o, none⟩ → 0 < r.es.length → b < w0.heap.size) := by
  have hpm : p ∈ qs := by rw [← hp]; exact List.getElem_mem hbl
  refine ⟨fun r hr e he => ?_, fun r hr b' o' e hl => ?_⟩
  · rcases List.mem_or_eq_of_mem_set hr with hr | rfl
    · exact hok r hr e he
    · exact hok p hpm e (List.mem_of_mem_tail he)
  · rcases List.mem_or_eq_of_mem_set hr with hr | rfl
    · exact hold r hr b' o' e hl
    · simp only [List.length_tail] at hl
      rw [hA (by omega)] at e
      injection e with e
      injection e with e1 e2
      rw [← e1]
      exact hold p hpm bp op ep hpl
theorem RefIs.move {w w' : World} {base tb mb : Nat} {v : Value} {nw : Bool} {rs : List Raw} {seen : List Int} {sk : Int} {F : Nat → Prop} (h : RefIs w base tb mb v nw rs seen sk) (k : KeepF w w' F) (h1 : ¬ F tb) (h2 : ¬ F mb) (h3 : ∀ q, some q = v.ownBlock → ¬ F q)
    (h4 : ∀ r ∈ rs, ∀ b o, r.A = some ⟨b, o, none⟩ → 0 < r.es.length → ¬ F b) : RefIs w' base tb mb v nw rs seen sk :=
  ⟨⟨(k.block tb h.blk.lt h1).trans h.blk.out⟩, ownsRow_keepF h.own k (fun q hq => h3 q hq.symm), h.met.same (k.block mb h.met.lt h2),
    fun r hr => ⟨(h.rows r hr).1.keepF k (fun b o e hl => h4 r hr b o e (by rw [ecells_length] at hl; omega)), (h.rows r hr).2⟩, h.gi, h.gm⟩
theorem rskip_inv {w0 w wo wc : World} {tb mb gv cv b bp op F g1 : Nat} {nw : Bool} {rows : List (List Ent)} {qs : List Raw} {seen seen' : List Int} {sk sk' : Int} {p : Raw} {A' : Addr}
    (hi : RNInv w0 w tb mb (.slice (some ⟨gv, 0, none⟩) qs.length cv) nw F rows seen sk (g1 + 1) qs seen' sk' wo) (hbl : b < qs.length) (hp : qs[b] = p) (ep : p.A = some ⟨bp, op, none⟩) (hpl : 0 < p.es.length) (hA : 2 ≤ p.es.length → A' = ⟨bp, op + 4, none⟩)
    (it2 : RefIs wc w0.heap.size tb mb (.slice (some ⟨gv, 0, none⟩) qs.length cv) nw (qs.set b ⟨some A', p.c - 1, p.es.tail⟩) seen' sk') (res2 : Blk wc w.heap.size #[.int .i64 0, .int .i64 0, .slice none 0 0, .string ⟨#[]⟩] 34)
    (kp2 : KeepF w wc (fun k => k = tb ∨ k = mb ∨ some k = (Value.slice (some ⟨gv, 0, none⟩) qs.length cv).ownBlock)) (hbest : bestTo nw (qs.map Raw.es) (qs.map Raw.es).length = some b) (hsn : (hdE (rowAt (qs.map Raw.es) b)).s ∈ seen') :
    RNInv w0 w tb mb (.slice (some ⟨gv, 0, none⟩) qs.length cv) nw F rows seen sk g1 (qs.set b ⟨some A', p.c - 1, p.es.tail⟩) seen' (sk' + 1) ((wc.setCell ⟨tb, 3, none⟩ (.int .i64 (sk' + 1))).drew) := by
  have hes : (qs.set b ⟨some A', p.c - 1, p.es.tail⟩).map Raw.es = (qs.map Raw.es).set b (rowAt (qs.map Raw.es) b).tail := by
    have := set_es qs b hbl (some A') (p.c - 1); rw [hp] at this; exact this
  have hts := totR_set (qs.map Raw.es) b (by simpa using hbl) (by rw [rowAt_map _ _ hbl, hp]; exact hpl)
  obtain ⟨hok2, hold2⟩ := rnew_ok (c := p.c - 1) hbl hp ep hpl hA hi.ok hi.old
  have hk : KeepF wc ((wc.setCell ⟨tb, 3, none⟩ (.int .i64 (sk' + 1))).drew) (fun k => k = tb) := (KeepF.set wc tb 3 _).drew
  have hn2 := it2.ne2
  have hnr := it2.ne res2 (by decide)
  have hgt := it2.gi
  refine ⟨⟨⟨(it2.blk.set 3 _).out⟩, ownsRow_keepF it2.own hk (fun q hq e => hn2.2.1 (by rw [hq, e])), it2.met.same (hk.block mb it2.met.lt (fun e => hn2.1 e.symm)), fun r hr => ⟨(it2.rows r hr).1.keepF hk (fun b' o' e hl e2 => ?_), (it2.rows r hr).2⟩, it2.gi, it2.gm⟩,
    ?_, ?_, ⟨?_, ?_⟩, kp2.trans hk (fun q h => .inl (.inl h)), ⟨(hk.block _ res2.lt (fun e => hnr.1 e)).trans res2.out⟩, hok2, hold2, by rw [List.length_set]; exact hi.small, by rw [List.length_set]; exact hi.len⟩
  · have := hold2 r hr b' o' e (by rw [ecells_length] at hl; omega)
    omega
  · rw [hes, ← hi.eq, rstep_eq nw _ _ _ _ b hbest, if_pos hsn]
  · have := hi.left; rw [hes]; omega
  · have := hi.bd; rw [hes]; omega
  · have := hi.bd; omega
theorem rdone_post {w0 w wo wc w4 : World} {tb mb gv cv b bp op F g1 : Nat} {nw : Bool} {rs qs : List Raw} {seen seen' : List Int} {sk sk' : Int} {p : Raw} {A' : Addr} {hd : Ent}
    (hi : RNInv w0 w tb mb (.slice (some ⟨gv, 0, none⟩) qs.length cv) nw F (rs.map Raw.es) seen sk (g1 + 1) qs seen' sk' wo) (hbl : b < qs.length) (hp : qs[b] = p) (ep : p.A = some ⟨bp, op, none⟩) (hpl : 0 < p.es.length) (hA : 2 ≤ p.es.length → A' = ⟨bp, op + 4, none⟩)
    (it2 : RefIs wc w0.heap.size tb mb (.slice (some ⟨gv, 0, none⟩) qs.length cv) nw (qs.set b ⟨some A', p.c - 1, p.es.tail⟩) seen' sk')
    (kp2 : KeepF w wc (fun k => k = tb ∨ k = mb ∨ some k = (Value.slice (some ⟨gv, 0, none⟩) qs.length cv).ownBlock)) (hbest : bestTo nw (qs.map Raw.es) (qs.map Raw.es).length = some b) (hh : hdE (rowAt (qs.map Raw.es) b) = hd) (hsn : ¬ hd.s ∈ seen') (hent : EntOk w0 hd)
    (hset4 : SetIs w4 mb (seen'.length + 1) (fun j => if j = hd.s then true else decide (j ∈ seen'))) (hg4 : wc.drew.drew.grownBy w4 (some mb)) (res2 : Blk wc w.heap.size #[.int .i64 0, .int .i64 0, .slice none 0 0, .string ⟨#[]⟩] 34) (hr4 : w.heap.size < w4.heap.size) (hw0 : w0.heap.size ≤ w.heap.size) :
    RNextPost w0 w tb mb (.slice (some ⟨gv, 0, none⟩) qs.length cv) nw F rs seen sk (.returned (.tuple #[entVal hd (.slice hd.A hd.n hd.c), .bool true]))
      ((((w4.setCell ⟨w.heap.size, 0, none⟩ (.int .i64 hd.s)).setCell ⟨w.heap.size, 1, none⟩ (.int .i64 hd.t)).setCell ⟨w.heap.size, 2, none⟩ (.slice hd.A hd.n hd.c)).setCell ⟨w.heap.size, 3, none⟩ (.string hd.x)) := by
  have hes : (qs.set b ⟨some A', p.c - 1, p.es.tail⟩).map Raw.es = (qs.map Raw.es).set b (rowAt (qs.map Raw.es) b).tail := by
    have := set_es qs b hbl (some A') (p.c - 1); rw [hp] at this; exact this
  obtain ⟨hok2, hold2⟩ := rnew_ok (c := p.c - 1) hbl hp ep hpl hA hi.ok hi.old
  have k1 := (KeepF.set w4 w.heap.size 0 (.int .i64 hd.s)).trans (KeepF.set _ w.heap.size 1 (.int .i64 hd.t)) (fun q h => .inl h)
  have k2 := k1.trans (KeepF.set _ w.heap.size 2 (.slice hd.A hd.n hd.c)) (fun q h => .inl h)
  have k3 := k2.trans (KeepF.set _ w.heap.size 3 (.string hd.x)) (fun q h => .inl h)
  have kc := ((KeepF.drew2 (KeepF.of_grown hg4)).mono (G := fun k => k = mb ∨ k = w.heap.size) (fun q h => .inl (Option.some.inj h))).trans k3 (fun q h => .inl (.inr h))
  have hn2 := it2.ne2
  have hnr := it2.ne res2 (by decide)
  have hgm := it2.gm
  refine ⟨some hd, qs.set b ⟨some A', p.c - 1, p.es.tail⟩, hd.s :: seen', sk', ?_, ⟨⟨?_⟩, ?_, ?_, ?_, it2.gi, it2.gm⟩, ?_, hok2, hold2, ?_, hent, rfl⟩
  · rw [← hi.eq, rstep_eq nw _ _ _ _ b hbest, hh, if_neg hsn, hes]
  · exact (kc.block tb it2.blk.lt (by rintro (e | e); exact hn2.1 e; exact hnr.1 e.symm)).trans it2.blk.out
  · exact ownsRow_keepF it2.own kc (fun q hq => by
      rintro (e | e)
      · exact hn2.2.2 (by rw [hq, e])
      · exact hnr.2.2 (by rw [hq, e]))
  · have e : (fun j => if j = hd.s then true else decide (j ∈ seen')) = (fun j => decide (j ∈ hd.s :: seen')) := by
      funext j
      by_cases h : j = hd.s <;> simp [h]
    rw [e] at hset4
    exact hset4.same (k3.block mb hset4.lt (fun e => hnr.2.1 e.symm))
  · intro r hr
    refine ⟨(it2.rows r hr).1.keepF kc (fun b' o' e hl e2 => ?_), (it2.rows r hr).2⟩
    have h1 := hold2 r hr b' o' e (by rw [ecells_length] at hl; omega)
    rcases e2 with e2 | e2
    · omega
    · omega
  · exact (kp2.trans (KeepF.drew2 (KeepF.of_grown hg4)) (fun q hq => .inl (.inr (.inl (Option.some.inj hq))))).trans k3 (fun q h => .inr (by omega))
  · rw [List.length_set]; simpa using hi.len
theorem rnone_post {w0 w wo wr : World} {tb mb cv F g : Nat} {nw : Bool} {Av : Option Addr} {rs qs : List Raw} {seen seen' : List Int} {sk sk' : Int}
    (hi : RNInv w0 w tb mb (.slice Av qs.length cv) nw F (rs.map Raw.es) seen sk g qs seen' sk' wo) (hbi : Below wo.heap.size wo wr) (hbest : bestTo nw (qs.map Raw.es) (qs.map Raw.es).length = none) (hw0 : w0.heap.size ≤ w.heap.size) (hF : totR (rs.map Raw.es) < F) :
    RNextPost w0 w tb mb (.slice Av qs.length cv) nw F rs seen sk (.returned (.tuple #[.agg #[.int .i64 0, .int .i64 0, .slice none 0 0, .string ⟨#[]⟩], .bool false]))
      ((((wr.setCell ⟨w.heap.size, 0, none⟩ (.int .i64 0)).setCell ⟨w.heap.size, 1, none⟩ (.int .i64 0)).setCell ⟨w.heap.size, 2, none⟩ (.slice none 0 0)).setCell ⟨w.heap.size, 3, none⟩ (.string ⟨#[]⟩)) := by
  have k1 := (KeepF.set wr w.heap.size 0 (.int .i64 0)).trans (KeepF.set _ w.heap.size 1 (.int .i64 0)) (fun q h => .inl h)
  have k2 := k1.trans (KeepF.set _ w.heap.size 2 (.slice none 0 0)) (fun q h => .inl h)
  have k3 := k2.trans (KeepF.set _ w.heap.size 3 (.string ⟨#[]⟩)) (fun q h => .inl h)
  have kc := (KeepF.of_below hbi (fun k => k = w.heap.size)).trans k3 (fun q h => .inl h)
  have hnr := hi.it.ne hi.res (by decide)
  have hg : ∃ g1, g = g1 + 1 := ⟨g - 1, by have := hi.left; omega⟩
  obtain ⟨g1, rfl⟩ := hg
  refine ⟨none, qs, seen', sk', ?_, hi.it.move kc (Ne.symm hnr.1) (Ne.symm hnr.2.1) (fun q hq e => hnr.2.2 (by rw [← hq, e])) (fun r hr b' o' e hl e2 => ?_), hi.keep.trans kc (fun q h => .inr (by omega)), hi.ok, hi.old, by simpa using hi.len, rfl⟩
  · rw [← hi.eq, rnextF, hbest]
  · have := hi.old r hr b' o' e hl
    omega
def InnerRel (nw : Bool) (rs : List Raw) (wo : World) (v4 v5 : Value) (wr : World) : Prop :=
  ∃ k : Nat, v5 = .int .i64 k ∧ k ≤ rs.length ∧ v4 = .int .i64 (bi (bestTo nw (rs.map Raw.es) k)) ∧ Below wo.heap.size wo wr

set_option maxRecDepth 100000 in
set_option maxHeartbeats 4000000 in
theorem rnext_any (w0 w : World) (tb mb : Nat) (v : Value) (nw : Bool) (F : Nat) (rs : List Raw) (seen : List Int) (sk : Int) (h : RefIs w w0.heap.size tb mb v nw rs seen sk) (hF : totR (rs.map Raw.es) < F)
    (hbd : (seen.length : Int) + totR (rs.map Raw.es) + sk ≤ 1000000000000000) (hsk : 0 ≤ sk) (hok : ∀ r ∈ rs, ∀ e ∈ r.es, EntOk w0 e) (hold : ∀ r ∈ rs, ∀ b o, r.A = some ⟨b, o, none⟩ → 0 < r.es.length → b < w0.heap.size) (hb0 : Below w0.heap.size w0 w) (hsm : rs.length ≤ 100000000000) :
    Calls Try.prog 27 #[.pointer (some ⟨tb, 0, none⟩)] w (RNextPost w0 w tb mb v nw F rs seen sk) := by
  have hst : RNInv w0 w tb mb v nw F (rs.map Raw.es) seen sk F rs seen sk (w.alloc (.cells #[.int .i64 0, .int .i64 0, .slice none 0 0, .string ⟨#[]⟩] 34)) :=
    ⟨⟨h.blk.alloc _, h.own.alloc _, h.met.below ((Below.refl _ _).alloc (Nat.le_refl _) _), fun r hr => ⟨(h.rows r hr).1.below ((Below.refl _ _).alloc (Nat.le_refl _) _), (h.rows r hr).2⟩, h.gi, h.gm⟩, rfl, hF, ⟨hbd, hsk⟩, KeepF.of_below ((Below.refl _ _).alloc (Nat.le_refl _) _) _, Blk.new _ _ _ _ rfl, hok, hold, hsm, by simp⟩
  go_enter Try.func27, Try.ntmps27
  go_wp2
  go_loopg [4] F (fun g v4 wr => RNRel w0 w tb mb v nw F (rs.map Raw.es) seen sk g wr)
  case atStart => exact ⟨rs, seen, sk, hst⟩
  case round =>
    obtain ⟨qs, seen', sk', hi⟩ := hrel
    obtain ⟨wo, rfl⟩ : ∃ wo : World, wo = wr := ⟨_, rfl⟩
    obtain ⟨Av, cv, rfl⟩ := own_sl hi.it.own
    clear hst h
    have hlen := hi.small
    have c0 : wo.cell? ⟨tb, 0, none⟩ = some (.slice Av qs.length cv) := hi.it.blk.cell 0 _ rfl
    have c1 : wo.cell? ⟨tb, 1, none⟩ = some (.bool nw) := hi.it.blk.cell 1 _ rfl
    have HI := Lib.hid hi; clear hi
    go_wp2_with fail
    go_loopw [4, 5] (fun v4 v5 wi => InnerRel nw qs wo v4 v5 wi) (fun _ v5 _ => qs.length - (intOf v5).toNat)
    case atStart => exact ⟨0, rfl, Nat.zero_le _, rfl, Below.refl _ _⟩
    case round =>
      obtain ⟨k, rfl, hk, rfl, hbi⟩ := hrel
      have c0i := keepc hbi c0
      have c1i := keepc hbi c1
      by_cases hlt : k < qs.length
      · obtain ⟨gv, e0, e1⟩ := own_row HI.out.it.own k (by simpa using hlt)
        have e1 := keepc hbi e1
        rw [List.getElem_map] at e1
        have hk1 : (k : Int) < (qs.length : Int) := by omega
        have hk0 : (0 : Int) ≤ (k : Int) := by omega
        have HB : Hid (bestTo nw (qs.map Raw.es) (k + 1) = bestStep nw (qs.map Raw.es) k qs[k].es (bestTo nw (qs.map Raw.es) k)) := Lib.hid (best_succ nw _ _ _ (rowAt_map _ _ hlt))
        have HR := Lib.hid (HI.out.it.rows qs[k] (List.getElem_mem hlt))
        have HS := Lib.hid (bestTo_spec nw (qs.map Raw.es) k)
        generalize qs[k] = q at *
        by_cases hq : q.es.length = 0
        · have HQ := Lib.hid hq; clear hq
          rw [Raw.val, HQ.out] at e1
          cases e0
          go_wp2_with fail
          go_region
          go_wp2_with fail
          go_roundw
          case rel => exact ⟨k + 1, by go_num, by omega, by rw [HB.out, bestStep_empty HQ.out], hbi.drew⟩
          case measure => simp [intOf]; omega
        · have hq' : 0 < q.es.length := by omega
          have HQ := Lib.hid hq; clear hq
          cases hbt : bestTo nw (qs.map Raw.es) k with
          | none =>
            have HBT := Lib.hid hbt; clear hbt
            cases e0
            go_wp2_with fail
            have e2 : bi none = -1 := rfl
            rw [e2]
            go_region
            go_wp2_with fail
            go_roundw
            case rel => exact ⟨k + 1, by go_num, by omega, by rw [HB.out, HBT.out, bestStep_none HQ.out]; rfl, hbi.drew⟩
            case measure => simp [intOf]; omega
          | some b =>
            have hs := HS.out
            rw [hbt] at hs
            have hbk := hs.1
            have hbne := hs.2.1
            have HBT := Lib.hid hbt; clear hbt hs
            have hbl : b < qs.length := by omega
            obtain ⟨gv', e0', e3⟩ := own_row HI.out.it.own b (by simpa using hbl)
            have e3 := keepc hbi e3
            rw [List.getElem_map] at e3
            rw [rowAt_map _ _ hbl] at hbne
            have HRB := Lib.hid (HI.out.it.rows qs[b] (List.getElem_mem hbl))
            have HBB : Hid (hdE (rowAt (qs.map Raw.es) b) = hdE qs[b].es) := Lib.hid (by rw [rowAt_map _ _ hbl])
            generalize qs[b] = p at *
            cases e0
            cases e0'
            obtain ⟨bq, oq, eq1, eq2⟩ := hd_cells HR.out.1 hq'
            obtain ⟨bp, op, ep1, ep2⟩ := hd_cells HRB.out.1 (by omega)
            obtain ⟨x0, x1, x2, x3⟩ := eq2
            obtain ⟨y0, y1, y2, y3⟩ := ep2
            have x0 := keepc hbi x0
            have x1 := keepc hbi x1
            have x2 := keepc hbi x2
            have x3 := keepc hbi x3
            have y0 := keepc hbi y0
            have y1 := keepc hbi y1
            have y2 := keepc hbi y2
            have y3 := keepc hbi y3
            rw [Raw.val, eq1] at e1
            rw [Raw.val, ep1] at e3
            have hb0 : (0 : Int) ≤ (b : Int) := by omega
            have hb1 : (b : Int) < (qs.length : Int) := by omega
            have hpl : (0 : Int) < (p.es.length : Int) := by omega
            have hql : (0 : Int) < (q.es.length : Int) := by omega
            have hpl' : 0 < p.es.length := by omega
            have hbd' : decide ((b : Int) < 0) = false := by simp
            have HF : Hid (bestTo nw (qs.map Raw.es) (k + 1) = if firstE nw (hdE q.es).s (hdE q.es).t (hdE p.es).s (hdE p.es).t then some k else some b) := Lib.hid (by rw [HB.out, HBT.out, bestStep_some HQ.out, HBB.out]; rfl)
            generalize hdE q.es = hq1 at *
            generalize hdE p.es = hp1 at *
            have e2 : bi (some b) = (b : Int) := rfl
            rw [e2]
            clear e2
            go_wp2_with fail
            go_region_held3 (fun w' => w'.cell? ⟨tb, 0, none⟩ = some (.slice (some ⟨gv, 0, none⟩) qs.length cv) ∧ w'.cell? ⟨tb, 1, none⟩ = some (.bool nw) ∧ w'.cell? ⟨gv, k, none⟩ = some (.slice (some ⟨bq, oq, none⟩) q.es.length q.c) ∧ w'.cell? ⟨gv, b, none⟩ = some (.slice (some ⟨bp, op, none⟩) p.es.length p.c)
                ∧ w'.cell? ⟨bq, oq, none⟩ = some (.int .i64 hq1.s) ∧ w'.cell? ⟨bq, oq + 1, none⟩ = some (.int .i64 hq1.t) ∧ w'.cell? ⟨bq, oq + 2, none⟩ = some (.slice hq1.A hq1.n hq1.c) ∧ w'.cell? ⟨bq, oq + 3, none⟩ = some (.string hq1.x)
                ∧ w'.cell? ⟨bp, op, none⟩ = some (.int .i64 hp1.s) ∧ w'.cell? ⟨bp, op + 1, none⟩ = some (.int .i64 hp1.t) ∧ w'.cell? ⟨bp, op + 2, none⟩ = some (.slice hp1.A hp1.n hp1.c) ∧ w'.cell? ⟨bp, op + 3, none⟩ = some (.string hp1.x))
              (first | go_keep | (exact ⟨keepc hb2 c0i, keepc hb2 c1i, keepc hb2 e1, keepc hb2 e3, keepc hb2 x0, keepc hb2 x1, keepc hb2 x2, keepc hb2 x3, keepc hb2 y0, keepc hb2 y1, keepc hb2 y2, keepc hb2 y3⟩))
              (first | (go_at_call 31; refine (rfirst_any _ _ _ _ _ _ _ _ _ _).mono ?_; rintro e w2 ⟨rfl, hb2⟩))
            all_goals
              have hbb := thenB hbi (undrew hb2)
              clear x0 x1 x2 x3 y0 y1 y2 y3 hb2 e1 e3 c0i c1i hb0 hb1 hpl hql hpl' hbd'
              cases hf : firstE nw hq1.s hq1.t hp1.s hp1.t with
              | true =>
                have HFF := Lib.hid hf; clear hf
                go_wp2_with fail
                go_roundw
                case rel => exact ⟨k + 1, by go_num, by omega, by rw [HF.out, HFF.out]; rfl, hbb⟩
                case measure => simp [intOf]; omega
              | false =>
                have HFF := Lib.hid hf; clear hf
                go_wp2_with fail
                go_roundw
                case rel => exact ⟨k + 1, by go_num, by omega, by rw [HF.out, HFF.out]; rfl, hbb⟩
                case measure => simp [intOf]; omega
      · have hkn : k = qs.length := by omega
        have hsp := bestTo_spec nw (qs.map Raw.es) k
        have HSP := Lib.hid hsp; clear hsp
        have HL := Lib.hid hkn; clear hkn
        clear c1i c1
        cases hbt : bestTo nw (qs.map Raw.es) k with
        | none =>
          have HBT := Lib.hid hbt; clear hbt
          have e2 : bi none = -1 := rfl
          rw [e2]
          clear e2
          have hres := HI.out.res.below hbi HI.out.res.lt
          have lb0 : wr.cell? ⟨w.heap.size, 0, none⟩ = some (.int .i64 0) := hres.cell 0 _ rfl
          have lb1 : wr.cell? ⟨w.heap.size, 1, none⟩ = some (.int .i64 0) := hres.cell 1 _ rfl
          have lb2 : wr.cell? ⟨w.heap.size, 2, none⟩ = some (.slice none 0 0) := hres.cell 2 _ rfl
          have lb3 : wr.cell? ⟨w.heap.size, 3, none⟩ = some (.string ⟨#[]⟩) := hres.cell 3 _ rfl
          have fz0 := hres.frozen 0
          have fz1 := hres.frozen 1
          have fz2 := hres.frozen 2
          have fz3 := hres.frozen 3
          go_wp2_with fail
          have hB := (((hres.set 0 (.int .i64 0)).set 1 (.int .i64 0)).set 2 (.slice none 0 0)).set 3 (.string ⟨#[]⟩)
          refine bodyPost_ret (v := .tuple #[.agg #[.int .i64 0, .int .i64 0, .slice none 0 0, .string ⟨#[]⟩], .bool false]) (res27 _ w.heap.size _ _ _ _ _ hB _ rfl rfl) rfl ?_
          exact rnone_post HI.out hbi (by have := HBT.out; rw [HL.out] at this; simpa using this) hb0.size hF
        | some b =>
          have HBT := Lib.hid hbt; clear hbt
          have e2 : bi (some b) = (b : Int) := rfl
          rw [e2]
          clear e2
          have hspec := HSP.out
          rw [HBT.out] at hspec
          have hbk := hspec.1
          have hbne := hspec.2.1
          clear hspec
          have hbl : b < qs.length := by omega
          obtain ⟨gv, rfl, e3⟩ := own_row HI.out.it.own b (by simpa using hbl)
          have e3 := keepc hbi e3
          rw [List.getElem_map] at e3
          rw [rowAt_map _ _ hbl] at hbne
          have hmem : qs[b] ∈ qs := List.getElem_mem hbl
          have HRB := Lib.hid (HI.out.it.rows qs[b] hmem)
          have HP : Hid (rowAt (qs.map Raw.es) b = qs[b].es) := Lib.hid (rowAt_map _ _ hbl)
          have HMB := Lib.hid hmem; clear hmem
          generalize hpe : qs[b] = p at *
          have HPE := Lib.hid hpe; clear hpe
          have hpl' : 0 < p.es.length := by omega
          obtain ⟨bp, op, ep1, ep2⟩ := hd_cells HRB.out.1 hpl'
          obtain ⟨y0, y1, y2, y3⟩ := ep2
          have y0 := keepc hbi y0
          have y1 := keepc hbi y1
          have y2 := keepc hbi y2
          have y3 := keepc hbi y3
          rw [Raw.val, ep1] at e3
          have hpl : (0 : Int) < (p.es.length : Int) := by omega
          have hbI0 : (0 : Int) ≤ (b : Int) := by omega
          have hbI1 : (b : Int) < (qs.length : Int) := by omega
          have HH : Hid (hdE (rowAt (qs.map Raw.es) b) = hdE p.es) := Lib.hid (by rw [HP.out])
          have hcap := HRB.out.2
          have hent : EntOk w0 (hdE p.es) := HI.out.ok p HMB.out _ (by rw [hdE, headD_get p.es hpl']; exact List.getElem_mem _)
          generalize hhe : hdE p.es = hd at *
          have HHE := Lib.hid hhe; clear hhe
          have hor := HI.out.it.own.kept (row := none) ⟨hbi.os, hbi.tape, hbi.output, hbi.size, fun k hk _ => hbi.block k hk⟩ (.inr (by simp [Value.ownBlock]))
          have ltb := World.block_lt_of_cell? wr _ c0i
          simp only at ltb
          have lgv := (hor.lt gv rfl).2
          have zgv : wr.frozen? ⟨gv, b, none⟩ = false := own_frozen hor b
          have HOR := Lib.hid hor; clear hor
          go_upto_region 10 with fail
          go_cut [6] (fun v6 wc => v6 = .pointer (some ⟨wr.heap.size, 0, none⟩) ∧ RCut w0 wr gv cv qs b p hd bp op wc)
          case first =>
            by_cases hc1 : p.c = 1
            · have hl1 : p.es.length = 1 := by omega
              have HC := Lib.hid hc1
              go_region
              all_goals
                go_wp2_with fail
                go_meet
                exact ⟨rfl, by have := rcut_of (hd := hd) HOR.out hbl (p := p) (bp := bp) (op := op) ⟨bp, op, none⟩ (fun h => by omega); rw [hl1, HC.out] at this; exact this⟩
            · have hc2 : 1 < p.c := by omega
              go_region
              all_goals
                go_wp2_with fail
                go_meet
                exact ⟨rfl, rcut_of HOR.out hbl ⟨bp, op + 4, none⟩ (fun _ => rfl)⟩
          case rest =>
            obtain ⟨rfl, A', hA, ho, hk, hx⟩ := hcut
            obtain ⟨g1, rfl⟩ : ∃ m, gk = m + 1 := ⟨gk - 1, by have := HI.out.left; omega⟩
            obtain ⟨it2, res2, kp2⟩ := rstep_ref HI.out hbi hbl HPE.out ep1 hpl' hA ho hk
            have hbest : bestTo nw (qs.map Raw.es) (qs.map Raw.es).length = some b := by have := HBT.out; rw [HL.out] at this; simpa using this
            have HBEST := Lib.hid hbest; clear hbest
            have t0 : wc.cell? ⟨tb, 2, none⟩ = some (.map (some mb)) := it2.blk.cell 2 _ rfl
            have t3 : wc.cell? ⟨tb, 3, none⟩ = some (.int .i64 sk') := it2.blk.cell 3 _ rfl
            have z3 := it2.blk.frozen 3
            have x0 : wc.cell? ⟨wr.heap.size, 0, none⟩ = some (.int .i64 hd.s) := hx.cell 0 _ rfl
            have hlook := (it2.met.below (Below.refl _ _).drew).lookup hd.s hent.1
            have hb1' : 0 ≤ sk' := HI.out.bd.2
            have hb2' : sk' ≤ 1000000000000000 := by have := HI.out.bd.1; omega
            have ltb2 := it2.blk.lt
            clear y0 y1 y2 y3 e3 c0i
            by_cases hsn : hd.s ∈ seen'
            · have hl2 : (Instr.lookup 30 (.map (some mb)) (.int .i64 hd.s) false).run Try.prog wc.drew = .ok (.bool true) wc.drew := by rw [hlook]; simp [hsn]
              have HSN := Lib.hid hsn
              clear hsn hlook
              go_wp2_with fail
              go_region
              go_wp2_with fail
              go_roundg g1
              case rel => exact ⟨_, seen', sk' + 1, rskip_inv HI.out hbl HPE.out ep1 hpl' hA it2 res2 kp2 HBEST.out (by rw [HH.out]; exact HSN.out)⟩
              case measure => exact Nat.lt_succ_self _
            · have hl2 : (Instr.lookup 30 (.map (some mb)) (.int .i64 hd.s) false).run Try.prog wc.drew = .ok (.bool false) wc.drew := by rw [hlook]; simp [hsn]
              have HSN := Lib.hid hsn
              clear hsn hlook
              go_wp2_with fail
              go_region
              go_wp2_with fail
              have hn4 : seen'.length < maxLen := by have := HI.out.bd; unfold maxLen; omega
              obtain ⟨w4, hrun, hset4, hg4⟩ := ((it2.met.below (Below.refl _ _).drew).below (Below.refl _ _).drew).update hd.s hent.1 hn4 true
              clear hl2
              go_region
              clear hrun
              have bx4 : Blk w4 wr.heap.size hd.cells 34 := ⟨(hg4.block _ hx.lt (fun e => by cases e; obtain ⟨es, cl, hm⟩ := it2.met.isMap; rw [hx.out] at hm; cases hm)).trans hx.out⟩
              have rs4 : Blk w4 w.heap.size #[.int .i64 0, .int .i64 0, .slice none 0 0, .string ⟨#[]⟩] 34 := ⟨(hg4.block _ res2.lt (fun e => by cases e; obtain ⟨es, cl, hm⟩ := it2.met.isMap; rw [res2.out] at hm; cases hm)).trans res2.out⟩
              have y0 : w4.cell? ⟨wr.heap.size, 0, none⟩ = some (.int .i64 hd.s) := bx4.cell 0 _ rfl
              have y1 : w4.cell? ⟨wr.heap.size, 1, none⟩ = some (.int .i64 hd.t) := bx4.cell 1 _ rfl
              have y2 : w4.cell? ⟨wr.heap.size, 2, none⟩ = some (.slice hd.A hd.n hd.c) := bx4.cell 2 _ rfl
              have y3 : w4.cell? ⟨wr.heap.size, 3, none⟩ = some (.string hd.x) := bx4.cell 3 _ rfl
              have r0' : w4.cell? ⟨w.heap.size, 0, none⟩ = some (.int .i64 0) := rs4.cell 0 _ rfl
              have r1' : w4.cell? ⟨w.heap.size, 1, none⟩ = some (.int .i64 0) := rs4.cell 1 _ rfl
              have r2' : w4.cell? ⟨w.heap.size, 2, none⟩ = some (.slice none 0 0) := rs4.cell 2 _ rfl
              have r3' : w4.cell? ⟨w.heap.size, 3, none⟩ = some (.string ⟨#[]⟩) := rs4.cell 3 _ rfl
              have g0 := rs4.frozen 0
              have g1' := rs4.frozen 1
              have g2 := rs4.frozen 2
              have g3 := rs4.frozen 3
              go_wp2_with fail
              have hB := (((rs4.set 0 (.int .i64 hd.s)).set 1 (.int .i64 hd.t)).set 2 (.slice hd.A hd.n hd.c)).set 3 (.string hd.x)
              refine bodyPost_ret (v := .tuple #[entVal hd (.slice hd.A hd.n hd.c), .bool true]) (res27 _ w.heap.size _ _ _ _ _ hB _ rfl rfl) rfl ?_
              exact rdone_post HI.out hbl HPE.out ep1 hpl' hA it2 kp2 HBEST.out HH.out HSN.out hent hset4 hg4 res2 rs4.lt hb0.size
end Go.Proofs.Ytjfggmkfnofldaa
