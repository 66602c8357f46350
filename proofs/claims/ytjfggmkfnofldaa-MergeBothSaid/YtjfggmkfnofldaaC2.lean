import Derived.Test.YtjfggmkfnofldaaM1
import Derived.Deep.DeepMust
namespace Go.Proofs.Ytjfggmkfnofldaa
open Go.RowKit
set_option linter.unusedVariables false

/-- One of the rows that came in: its slice's address and capacity, its entries. -/
structure Raw where
  A : Option Addr
  c : Nat
  es : List Ent
abbrev Raw.val (r : Raw) : Value := .slice r.A r.es.length r.c
def Raw.ok (w : World) (r : Raw) : Prop := RowCells w r.A (ecells r.es) ∧ r.es.length * 56 ≤ 140737488355328
theorem Raw.ok.below {w w' : World} {r : Raw} (h : r.ok w) (hb : Below w.heap.size w w') : r.ok w' := ⟨h.1.below hb, h.2⟩

/-- The rows that hold something, with their numbers. -/
def full (k : Int) : List Raw → List (List Ent × Int)
  | [] => []
  | r :: l => if r.es.length = 0 then full (k + 1) l else (r.es, k) :: full (k + 1) l
theorem full_append (l : List Raw) (r : Raw) : ∀ k : Int, full k (l ++ [r]) = full k l ++ (if r.es.length = 0 then [] else [(r.es, k + l.length)]) := by
  induction l with
  | nil => intro k; simp only [List.nil_append, full, List.length_nil]; split <;> simp
  | cons a l ih =>
    intro k
    simp only [List.cons_append, full, ih, List.length_cons]
    have e : k + 1 + (l.length : Int) = k + ((l.length + 1 : Nat) : Int) := by omega
    rw [e]
    split <;> simp
def itPair (it : It) : List Ent × Int := (it.es, it.ix)

section
variable {w w' : World} {base hb : Nat} {v : Value} {nw : Bool} {xs : List It}
theorem HS.pushed (h : HS w base hb v nw xs) (x : It) (hx : RowOk w base x) (hl : xs.length < 100000000000) {g cap : Nat} {w1 : World}
    (ho : w1.ownsRow base 62 2 (.slice (some ⟨g, 0, none⟩) (xs.length + 1) cap) (xs.length + 1) (hcells xs ++ [x.sl, .int .i64 x.ix])) (hg : w.grownBy w1 v.ownBlock) (hat : v.ownBlock = some g ∨ w.heap.size ≤ g) :
    HS (w1.setCell ⟨hb, 0, none⟩ (.slice (some ⟨g, 0, none⟩) (xs.length + 1) cap)) base hb (.slice (some ⟨g, 0, none⟩) (xs.length + 1) cap) nw (xs ++ [x]) := by
  have hbl : w1.heap[hb]? = w.heap[hb]? := hg.block hb h.blk.lt (Ne.symm h.row_ne)
  have hb1 : Blk w1 hb #[v, .bool nw] 60 := ⟨hbl.trans h.blk.out⟩
  have hgne : hb ≠ g := by
    rcases hat with hat | hat
    · intro e; exact h.row_ne (by rw [hat, e])
    · have := h.blk.lt; omega
  have rk : ∀ it, RowOk w base it → RowOk (w1.setCell ⟨hb, 0, none⟩ (.slice (some ⟨g, 0, none⟩) (xs.length + 1) cap)) base it := fun it hi =>
    hi.keep ((Below.heap_setCell _ _ _ _ (h.it_ne hi).1).trans (hg.block _ hi.lt (h.it_ne hi).2))
  refine ⟨⟨(hb1.set 0 _).out⟩, ?_, h.gb, ?_, by simp; omega⟩
  · rw [hcells_append]
    have := ownsRow_setOther ho (b := hb) (i := 0) (u := .slice (some ⟨g, 0, none⟩) (xs.length + 1) cap) (by simp [Value.ownBlock]; exact fun e => hgne e.symm)
    simpa [hcells, itCells] using this
  · intro it hi
    rcases List.mem_append.1 hi with hi | hi
    · exact rk it (h.rows it hi)
    · rw [List.mem_singleton] at hi; subst hi; exact rk it hx
end

theorem ecells_get (es : List Ent) (i : Nat) (h : i < es.length) : (ecells es)[i * 4]? = some (.int .i64 es[i].s) ∧ (ecells es)[i * 4 + 1]? = some (.int .i64 es[i].t) ∧ (ecells es)[i * 4 + 2]? = some (.slice es[i].A es[i].n es[i].c) ∧ (ecells es)[i * 4 + 3]? = some (.string es[i].x) := by
  induction es generalizing i with
  | nil => simp at h
  | cons a l ih =>
    have e : ecells (a :: l) = .int .i64 a.s :: .int .i64 a.t :: .slice a.A a.n a.c :: .string a.x :: ecells l := rfl
    cases i with
    | zero => rw [e]; simp
    | succ i =>
      have := ih i (by simpa using h)
      rw [e, show (i + 1) * 4 = i * 4 + 1 + 1 + 1 + 1 from by omega]
      simpa using this

theorem rowOk_new {w1 : World} {B g cap : Nat} {es : List Ent} (ho : w1.ownsRow B 34 4 (.slice (some ⟨g, 0, none⟩) es.length cap) es.length (ecells es)) (hp : 0 < es.length) (base : Nat) (hb : base ≤ B) (ix : Int) :
    RowOk w1 base ⟨g, 0, cap, es, ix⟩ := by
  rcases ho.2 with ⟨hv, h0⟩ | ⟨g', cap', cur, hv, hb', hg, hc, hm, hs, ht⟩
  · omega
  · injection hv with h1 h2 h3
    injection h1 with h1
    injection h1 with h1
    subst h1; subst h3
    refine ⟨hp, Nat.le_trans hb hb', ⟨cur, _, hg⟩, fun i hi => ?_, hc⟩
    have hcell := fun j u hu => ho.cells (g := g) rfl j u hu
    simp only [addr_add, Nat.zero_add] at hcell
    obtain ⟨a0, a1, a2, a3⟩ := ecells_get es i hi
    have := hcell _ _ a0
    simp only [Nat.zero_add]
    exact ⟨hcell _ _ a0, hcell _ _ a1, hcell _ _ a2, hcell _ _ a3⟩

theorem grown_cell2 {w w1 : World} {o : Obj} {row : Option Nat} {a : Addr} {u : Value} (hg : (w.alloc o).grownBy w1 row) (h : w.cell? a = some u) (hne : row ≠ some a.block) : w1.cell? a = some u :=
  hg.cell ((World.cell?_alloc_lt w o a (World.block_lt_of_cell? w a h)).trans h) (Ne.symm hne)
theorem grown_frozen2 {w w1 : World} {o : Obj} {row : Option Nat} {b i : Nat} (hg : (w.alloc o).grownBy w1 row) (hl : b < w.heap.size) (h : w.frozen? ⟨b, i, none⟩ = false) (hne : row ≠ some b) : w1.frozen? ⟨b, i, none⟩ = false :=
  ((World.frozen?_of_block (a := ⟨b, i, none⟩) (hg.block b (by simp; omega) (Ne.symm hne))).trans (World.frozen?_alloc_old w o ⟨b, i, none⟩ (Nat.ne_of_lt hl))).trans h
theorem grown_over2 {w w1 : World} {o : Obj} {row : Option Nat} (h : (w.alloc o).grownBy w1 row) : w.grownBy w1 row :=
  ⟨h.os, h.tape, h.output, Nat.le_trans (by simp) h.size, fun k hk hne => (h.block k (by simp; omega) hne).trans (Below.heap_alloc w o k hk)⟩
/-- The iterator as it lies in memory. -/
structure IterIs (w : World) (base ib hb mb : Nat) (v : Value) (nw : Bool) (xs : List It) (seen : List Int) (sk : Int) : Prop where
  blk : Blk w ib #[.pointer (some ⟨hb, 0, none⟩), .map (some mb), .int .i64 sk] 52
  hs : HS w base hb v nw xs
  met : SetIs w mb seen.length (fun i => decide (i ∈ seen))
  gi : base ≤ ib
  gm : base ≤ mb

theorem Keep2.toBelow {w wr w3 : World} {hb B : Nat} {row : Option Nat} (k : Keep2 wr w3 hb row) (h : Below B w wr) (hB : B ≤ wr.heap.size) (h1 : B ≤ hb) (h2 : ∀ q, row = some q → B ≤ q) : Below B w w3 :=
  h.trans ⟨k.os, k.tape, k.output, k.size, fun i hi => k.block i (by omega) (by omega) (fun e => by have := h2 i e.symm; omega)⟩
def NewPost (w : World) (nw : Bool) (rs : List Raw) (e : Ending) (w' : World) : Prop :=
  ∃ ib hb mb v its, e = .returned (.pointer (some ⟨ib, 0, none⟩)) ∧ IterIs w' w.heap.size ib hb mb v nw (initF nw its.length (its.length / 2) its) [] 0 ∧ its.map itPair = full 0 rs ∧ Below w.heap.size w w'

def NewRel (w : World) (hb : Nat) (nw : Bool) (rs : List Raw) (v13 : Value) (wr : World) : Prop :=
  ∃ (k : Nat) (v : Value) (its : List It), v13 = .int .i64 k ∧ k ≤ rs.length ∧ HS wr w.heap.size hb v nw its ∧ its.map itPair = full 0 (rs.take k) ∧ Below w.heap.size w wr ∧ its.length ≤ k

set_option maxHeartbeats 2000000 in
theorem new_any (A : Option Addr) (c : Nat) (nw : Bool) (rs : List Raw) (w : World) (hA : RowCells w A (rs.map Raw.val)) (hrs : ∀ r ∈ rs, r.ok w) (hn : rs.length ≤ 100000000000) :
    Calls Try.prog 24 #[.slice A rs.length c, .bool nw] w (NewPost w nw rs) := by
  obtain ⟨i0, hi0, hz0, hz1, hz2⟩ := info_parts info62
  have hmm := @run_makeMap Try.prog
  go_enter Try.func24, Try.ntmps24
  go_wp2
  go_loopw [13] (fun v13 wr => NewRel w w.heap.size nw rs v13 wr) (fun v13 _ => rs.length - (intOf v13).toNat)
  case atStart =>
    exact ⟨0, .slice none 0 0, [], rfl, by omega, ⟨Blk.new _ _ _ _ rfl, World.ownsRow_nil _ _ _ _, Nat.le_refl _, by simp, by simp⟩, by simp [full], (Below.refl _ _).alloc (Nat.le_refl _) _, by simp⟩
  case round =>
    obtain ⟨k, v, its, rfl, hk, hs, hfull, hbel, hle⟩ := hrel
    have HF := Lib.hid hfull; clear hfull
    by_cases hlt : k < rs.length
    · obtain ⟨b, o, rfl, hc⟩ := hA (by simpa using (by omega : 0 < rs.length))
      have hck : wr.cell? ⟨b, o + k, none⟩ = some (rs[k]).val := keepc hbel (hc k _ (by simp [hlt]))
      clear hc
      have HR := Lib.hid (hrs rs[k] (List.getElem_mem hlt))
      have HQ : Hid (rs.take (k + 1) = rs.take k ++ [rs[k]]) := Lib.hid (by rw [List.take_succ_eq_append_getElem hlt])
      generalize rs[k] = r at hck HR HQ
      by_cases he : r.es.length = 0
      · have HE := Lib.hid he
        go_wp2_with fail
        go_roundw
        case rel => exact ⟨k + 1, v, its, by go_num, by omega, hs, by rw [HF.out, HQ.out, full_append, if_pos HE.out, List.append_nil], hbel, by omega⟩
        case measure => simp [intOf]; omega
      · have he' : 0 < r.es.length := by omega
        clear he
        have hl2 := hs.small
        have c0 := hs.blk.cell 0 v rfl
        have z0 := hs.blk.frozen 0
        have lh := hs.blk.lt
        have hbase := hbel.size
        go_wp2_with fail
        go_region_law
          (first
            | (go_simp; go_at_call 35; refine (clone24 r.A r.es.length r.c (ecells r.es) _ (ecells_length _) (ecells_one _) (HR.out.below hbel.drew).1 HR.out.2).mono ?_; rintro e w1 ⟨v1, rfl, ho1, hb1⟩
               obtain ⟨g, cap, rfl, hg0, hg1⟩ := ho1.form he'
               have hb2 := undrew hb1
               have c1 := keepc hb2 c0
               have hs1 := hs.below hb2
               have lh1 := hs1.blk.lt
               have hz := hb2.size)
            | (refine step_append_lies _ (by rfl) _ _ _ (by rfl) w.heap.size 62 i0 _ 2 32 Try.underlying58 hi0 hz0 hz1 hz2 rfl (by omega) v its.length (hcells its) (by rfl) (hs1.own.alloc _) ⟨w1.heap.size, 0, none⟩ 1 1 [.slice (some ⟨g, 0, none⟩) r.es.length cap, .int .i64 k] (by rfl) (by rfl) (World.news_of_block (cs := #[.slice (some ⟨g, 0, none⟩) r.es.length cap, .int .i64 k]) (t := 62) (fr := (0, 0)) (heap_alloc_new w1 _)) (by simp [Value.oneCell']) (by omega) (by simp only [maxLen]; omega) (by omega) (by simp; omega) (w1.heap.size + 1) (by simp) ?_; intro gg cap2 w2 hown2 hgrow hat hlt2
               have zz1 := grown_frozen2 hgrow (hs1.blk.lt) (hs1.blk.frozen 0) hs1.row_ne
               have zz0 := grown_cell2 hgrow c1 hs1.row_ne))
        all_goals
          have hx : RowOk w1 w.heap.size ⟨g, 0, cap, r.es, k⟩ := rowOk_new ho1 he' w.heap.size hbase k
          have hnew := hs1.pushed ⟨g, 0, cap, r.es, k⟩ hx (by omega) (by exact hown2) (grown_over2 hgrow) (hat.imp_right (fun h => by omega))
          have hbnew : Below w.heap.size w (w2.setCell ⟨w.heap.size, 0, none⟩ (.slice (some ⟨gg, 0, none⟩) (its.length + 1) cap2)) :=
            (Below.grown (thenB hbel hb2) (grown_over2 hgrow) (by omega) (fun q hq => (hs1.own.lt q hq).1)).setCell (Nat.le_refl _) _
          have HL : Hid ((its ++ [(⟨g, 0, cap, r.es, k⟩ : It)]).map itPair = full 0 (rs.take k) ++ [(r.es, (k : Int))]) := Lib.hid (by rw [List.map_append, HF.out]; rfl)
          have HT : Hid ((rs.take k).length = k) := Lib.hid (by rw [List.length_take]; omega)
          have HE : Hid (¬ r.es.length = 0) := Lib.hid (by omega)
          clear hown2 hgrow hat zz1 zz0 c1 hs1 hb2 hb1 ho1 hx c0 z0 hs hbel
          go_wp2_with fail
          go_roundw
          case rel => exact ⟨k + 1, _, _, by go_num, by omega, hnew, by rw [HL.out, HQ.out, full_append, if_neg HE.out, HT.out, Int.zero_add], hbnew, by simp; omega⟩
          case measure => simp [intOf]; omega
    · have hkn : Hid (k = rs.length) := Lib.hid (by omega)
      go_wp2_with fail
      refine (init_any wr w.heap.size w.heap.size v nw its hs).mono ?_
      rintro e w3 ⟨rfl, hs3, hk3⟩
      go_wp2_with fail
      go_ret
      have hbw : Below w.heap.size w w3 := hk3.toBelow hbel hbel.size (Nat.le_refl _) (fun q hq => (hs.own.lt q hq).1)
      have hz3 := hbw.size
      have hset : SetIs ((w3.alloc (.map #[] 0)).alloc (.cells #[.pointer (some ⟨w.heap.size, 0, none⟩), .map (some w3.heap.size), .int .i64 0] 52)) w3.heap.size 0 (fun i => decide (i ∈ ([] : List Int))) := by
        have h0 := (SetIs.made w3).below ((Below.refl _ _).alloc (Nat.le_refl _) (.cells #[.pointer (some ⟨w.heap.size, 0, none⟩), .map (some w3.heap.size), .int .i64 0] 52))
        simpa using h0
      exact ⟨w3.heap.size + 1, w.heap.size, w3.heap.size, v, its, rfl, ⟨Blk.new _ _ _ _ (by simp), (hs3.alloc _).alloc _, hset, by omega, by omega⟩, by rw [HF.out, hkn.out, List.take_length],
        (hbw.alloc hz3 _).alloc (by simp; omega) _⟩
end Go.Proofs.Ytjfggmkfnofldaa
