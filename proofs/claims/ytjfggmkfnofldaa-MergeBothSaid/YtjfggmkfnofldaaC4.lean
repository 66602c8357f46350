import Derived.Test.YtjfggmkfnofldaaC3
import Derived.Deep.DeepMust
namespace Go.Proofs.Ytjfggmkfnofldaa
open Go.RowKit
set_option linter.unusedVariables false

set_option maxHeartbeats 400000 in
theorem skipped_nil (w : World) : Calls Try.prog 28 #[.pointer none] w fun e w' => e = .returned (.int .i64 0) ∧ w = w' := by
  go_enter Try.func28, Try.ntmps28
  go_wp2_with (go_at_call 37; refine (none_nil _).mono ?_; rintro e w' ⟨rfl, rfl⟩)
  go_ret
  exact ⟨rfl, rfl⟩
set_option maxHeartbeats 400000 in
theorem skipped_unmade (a : Nat) (w : World) (h : w.cell? ⟨a, 0, none⟩ = some (.pointer none)) : Calls Try.prog 28 #[.pointer (some ⟨a, 0, none⟩)] w fun e w' => e = .returned (.int .i64 0) ∧ w = w' := by
  go_enter Try.func28, Try.ntmps28
  go_wp2_with (go_at_call 37; refine (none_unmade _ _ h).mono ?_; rintro e w' ⟨rfl, rfl⟩)
  go_ret
  exact ⟨rfl, rfl⟩
set_option maxHeartbeats 400000 in
theorem skipped_any {w : World} {base ib hb mb : Nat} {v : Value} {nw : Bool} {xs : List It} {seen : List Int} {sk : Int} (h : IterIs w base ib hb mb v nw xs seen sk) :
    Calls Try.prog 28 #[.pointer (some ⟨ib, 0, none⟩)] w fun e w' => e = .returned (.int .i64 sk) ∧ w = w' := by
  have c0 : w.cell? ⟨ib, 0, none⟩ = some (.pointer (some ⟨hb, 0, none⟩)) := h.blk.cell 0 _ rfl
  have c2 : w.cell? ⟨ib, 2, none⟩ = some (.int .i64 sk) := h.blk.cell 2 _ rfl
  clear h
  go_enter Try.func28, Try.ntmps28
  go_wp2_with (go_at_call 37; refine (none_made _ _ _ c0).mono ?_; rintro e w' ⟨rfl, rfl⟩)
  go_ret
  exact ⟨rfl, rfl⟩

/-- An entry that was answered: e, its labels in memory of their own. -/
structure OutRow (w0 w : World) (base : Nat) (o e : Ent) : Prop where
  s : o.s = e.s
  t : o.t = e.t
  x : o.x = e.x
  n : o.n = e.n
  labs : ∃ ls, LabIs w0 e ls ∧ w.ownsRow base 55 2 (.slice o.A o.n o.c) e.n (lcells ls)
structure OutIs (w0 w : World) (base : Nat) (v : Value) (os es : List Ent) : Prop where
  own : w.ownsRow base 34 4 v os.length (ecells os)
  len : os.length = es.length
  row : ∀ i (h : i < os.length) (h' : i < es.length), OutRow w0 w base os[i] es[i]
theorem OutRow.keep {w0 w w' : World} {F : Nat → Prop} {base : Nat} {o e : Ent} (h : OutRow w0 w base o e) (k : KeepF w w' F) (hF : ∀ q cs, w.heap[q]? = some (.cells cs 55 (0, 0)) → ¬ F q) : OutRow w0 w' base o e := by
  obtain ⟨ls, hl, ho⟩ := h.labs
  refine ⟨h.s, h.t, h.x, h.n, ls, hl, ownsRow_keepF ho k fun q hq => ?_⟩
  rcases ho.2 with ⟨hv, _⟩ | ⟨g, cap, cur, hv, _, hg, _⟩
  · rw [hv] at hq; cases hq
  · rw [hv] at hq
    cases hq
    exact hF _ _ hg
theorem OutIs.keep {w0 w w' : World} {F : Nat → Prop} {base : Nat} {v : Value} {os es : List Ent} (h : OutIs w0 w base v os es) (k : KeepF w w' F) (hF : ∀ q cs t, w.heap[q]? = some (.cells cs t (0, 0)) → t = 34 ∨ t = 55 → ¬ F q) : OutIs w0 w' base v os es := by
  refine ⟨ownsRow_keepF h.own k fun q hq => ?_, h.len, fun i h1 h2 => (h.row i h1 h2).keep k fun q cs hq => hF q cs 55 hq (.inr rfl)⟩
  rcases h.own.2 with ⟨hv, _⟩ | ⟨g, cap, cur, hv, _, hg, _⟩
  · rw [hv] at hq; cases hq
  · rw [hv] at hq
    cases hq
    exact hF _ _ 34 hg (.inl rfl)
theorem IterIs.far {w : World} {base ib hb mb : Nat} {v : Value} {nw : Bool} {xs : List It} {seen : List Int} {sk : Int} (h : IterIs w base ib hb mb v nw xs seen sk) :
    ∀ q cs t, w.heap[q]? = some (.cells cs t (0, 0)) → t = 34 ∨ t = 55 → ¬ iterF ib hb mb v q := by
  intro q cs t hq ht
  have := h.blk_ne (b := q) (t := t) (cs := cs) ⟨hq⟩ (by rcases ht with h | h <;> simp [h])
  rintro (e | e | e | e)
  · exact this.1 e
  · exact this.2.1 e
  · exact this.2.2.1 e
  · exact this.2.2.2 e

theorem OutIs.lower {w0 w : World} {base b' : Nat} {v : Value} {os es : List Ent} (h : OutIs w0 w base v os es) (hb : b' ≤ base) : OutIs w0 w b' v os es := by
  refine ⟨ownsRow_lower h.own hb, h.len, fun i h1 h2 => ?_⟩
  obtain ⟨a, b, c, d, ls, hl, ho⟩ := h.row i h1 h2
  exact ⟨a, b, c, d, ls, hl, ownsRow_lower ho hb⟩
def allL (nw : Bool) (most : Int) : Nat → List It → List Int → Int → List Ent → List Ent
  | 0, _, _, _, acc => acc
  | f + 1, xs, seen, sk, acc =>
    if most ≠ 0 ∧ most ≤ acc.length then acc else
    match nextF nw (tot xs + 1) xs seen sk with
    | (none, _, _, _) => acc
    | (some e, ys, seen', sk') => allL nw most f ys seen' sk' (acc ++ [e])

theorem full_mem (rs : List Raw) : ∀ (k : Int) (p : List Ent × Int), p ∈ full k rs → ∃ r ∈ rs, p.1 = r.es := by
  induction rs with
  | nil => intro k p h; simp [full] at h
  | cons a l ih =>
    intro k p h
    unfold full at h
    split at h
    · obtain ⟨r, h1, h2⟩ := ih _ _ h
      exact ⟨r, List.mem_cons_of_mem _ h1, h2⟩
    · rcases List.mem_cons.1 h with rfl | h
      · exact ⟨a, List.mem_cons_self, rfl⟩
      · obtain ⟨r, h1, h2⟩ := ih _ _ h
        exact ⟨r, List.mem_cons_of_mem _ h1, h2⟩
theorem full_tot (rs : List Raw) : ∀ (k : Int), ((full k rs).map fun p => p.1.length).sum ≤ (rs.map fun r => r.es.length).sum := by
  induction rs with
  | nil => intro k; simp [full]
  | cons a l ih =>
    intro k
    have := ih (k + 1)
    unfold full
    split <;> simp <;> omega
def AllPost (w : World) (nw : Bool) (rs : List Raw) (most : Int) (e : Ending) (w' : World) : Prop :=
  ∃ its v os, its.map itPair = full 0 rs ∧ e = .returned v ∧ OutIs w w' w.heap.size v os (allL nw most (tot its + 1) (initF nw its.length (its.length / 2) its) [] 0 []) ∧ Below w.heap.size w w'

theorem step_pos (nw : Bool) (ys : List It) (hp : 0 < ys.length) (h : ∀ it ∈ ys, 0 < it.es.length) : ∀ it ∈ (stepL nw ys).2, 0 < it.es.length := by
  have hpp := pop_perm nw ys hp
  have ht : ∀ it ∈ (popL nw ys).take (ys.length - 1), it ∈ ys := fun it hi => hpp.subset (List.mem_cons_of_mem _ hi)
  intro it hi
  unfold stepL at hi
  simp only [popL_last nw ys hp] at hi
  split at hi
  · exact h it (ht it hi)
  · have := (pushL_perm nw _ _).mem_iff.1 hi
    rcases List.mem_cons.1 this with rfl | h'
    · simp [It.next]; omega
    · exact h it (ht it h')
theorem nextF_facts (nw : Bool) (F : Nat) : ∀ (xs : List It) (seen : List Int) (sk : Int) (r : Option Ent) (ys : List It) (seen' : List Int) (sk' : Int), (∀ it ∈ xs, 0 < it.es.length) → nextF nw F xs seen sk = (r, ys, seen', sk') →
    (∀ it ∈ ys, ∃ it0 ∈ xs, it.b = it0.b) ∧ (tot ys : Int) + (if r.isSome then 1 else 0) ≤ tot xs ∧ (seen'.length : Int) + tot ys + sk' ≤ seen.length + tot xs + sk ∧ sk ≤ sk' := by
  induction F with
  | zero =>
    intro xs seen sk r ys seen' sk' hpos h
    simp only [nextF, Prod.mk.injEq] at h
    obtain ⟨rfl, rfl, rfl, rfl⟩ := h
    exact ⟨fun it hi => ⟨it, hi, rfl⟩, by simp, by omega, by omega⟩
  | succ F ih =>
    intro xs seen sk r ys seen' sk' hpos h
    rw [nextF] at h
    by_cases h0 : xs.length = 0
    · rw [if_pos h0] at h
      simp only [Prod.mk.injEq] at h
      obtain ⟨rfl, rfl, rfl, rfl⟩ := h
      exact ⟨fun it hi => ⟨it, hi, rfl⟩, by simp, by omega, by omega⟩
    · rw [if_neg h0] at h
      have hst := step_tot nw xs (by omega) hpos
      have hsm := step_mem nw xs (by omega)
      have hsp := step_pos nw xs (by omega) hpos
      by_cases hs : (stepL nw xs).1.s ∈ seen
      · rw [if_pos hs] at h
        obtain ⟨a1, a2, a3, a4⟩ := ih _ _ _ _ _ _ _ hsp h
        refine ⟨fun it hi => ?_, by omega, by omega, by omega⟩
        obtain ⟨i0, h1, h2⟩ := a1 it hi
        obtain ⟨j0, h3, h4, _⟩ := hsm i0 h1
        exact ⟨j0, h3, h2.trans h4⟩
      · rw [if_neg hs] at h
        simp only [Prod.mk.injEq] at h
        obtain ⟨rfl, rfl, rfl, rfl⟩ := h
        refine ⟨fun it hi => ?_, by simp; omega, by simp; omega, by omega⟩
        obtain ⟨j0, h3, h4, _⟩ := hsm it hi
        exact ⟨j0, h3, h4⟩
theorem IterIs.far2 {w : World} {base ib hb mb : Nat} {v : Value} {nw : Bool} {xs : List It} {seen : List Int} {sk : Int} (h : IterIs w base ib hb mb v nw xs seen sk) : ∀ q, iterF ib hb mb v q → base ≤ q := by
  rintro q (rfl | rfl | rfl | hq)
  · exact h.gi
  · exact h.hs.gb
  · exact h.gm
  · exact (h.hs.own.lt q hq.symm).1
theorem news_at (w : World) (cs : Array Value) (t b : Nat) (hb : b = w.heap.size) : ∀ j u, cs.toList[j]? = some u → (w.alloc (.cells cs t)).cell? ((⟨b, 0, none⟩ : Addr).add j) = some u := by
  intro j u hu
  rw [addr_add, Nat.zero_add]
  exact (Blk.new w cs t b hb).cell j u (by simpa using hu)
structure AInv (w : World) (nw : Bool) (most : Int) (its : List It) (B : Nat) (ib : Nat) (g : Nat) (hb mb : Nat) (v : Value) (ys : List It) (seen : List Int) (sk : Int) (out : Value) (os acc : List Ent) (wr : World) : Prop where
  it : IterIs wr w.heap.size ib hb mb v nw ys seen sk
  eq : allL nw most g ys seen sk acc = allL nw most (tot its + 1) (initF nw its.length (its.length / 2) its) [] 0 []
  left : tot ys < g
  bd : (seen.length : Int) + tot ys + sk ≤ 100000000000 ∧ 0 ≤ sk
  len : acc.length + tot ys ≤ 100000000000
  ok : ∀ it ∈ ys, ∀ e ∈ it.es, EntOk w e
  out : OutIs w wr B out os acc
  bel : Below w.heap.size w wr
  old : ∀ it ∈ ys, it.b < B
  hB : w.heap.size ≤ B ∧ B ≤ wr.heap.size

def ARel (w : World) (nw : Bool) (most : Int) (its : List It) (B ib hb mb : Nat) (g : Nat) (v7 : Value) (wr : World) : Prop :=
  ∃ v ys seen sk os acc, AInv w nw most its B ib g hb mb v ys seen sk v7 os acc wr

def outE (x : Ent) (Au : Option Addr) (cu : Nat) : Ent := ⟨x.s, x.t, Au, x.n, cu, x.x⟩
theorem all_inv {w wr w2 w9 : World} {nw : Bool} {most : Int} {its : List It} {B ib g1 hb mb : Nat} {v v2 v9 : Value} {ys zs : List It} {seen seen2 : List Int} {sk sk2 : Int} {Ao Au : Option Addr} {co cu : Nat} {os acc : List Ent} {x : Ent}
    (hv : AInv w nw most its B ib (g1 + 1) hb mb v ys seen sk (.slice Ao os.length co) os acc wr)
    (hgo : allL nw most (g1 + 1) ys seen sk acc = match nextF nw (tot ys + 1) ys seen sk with | (none, _, _, _) => acc | (some e, ys', seen', sk') => allL nw most g1 ys' seen' sk' (acc ++ [e]))
    (hnx : nextF nw (tot ys + 1) ys seen sk = (some x, zs, seen2, sk2)) (hit2 : IterIs w2 w.heap.size ib hb mb v2 nw zs seen2 sk2) (hk2 : KeepF wr w2 (iterF ib hb mb v)) (hok2 : ∀ it ∈ zs, ∀ e ∈ it.es, EntOk w e)
    {ls : List Lab} (hls : LabIs w x ls) (hu : w2.ownsRow wr.heap.size 55 2 (.slice Au x.n cu) x.n (lcells ls)) (ho : OutIs w w2 B (.slice Ao os.length co) os acc)
    (hown9 : w9.ownsRow B 34 4 v9 (os.length + 1) (ecells os ++ [.int .i64 x.s, .int .i64 x.t, .slice Au x.n cu, .string x.x]))
    (hgrow9 : ((w2.alloc (.cells #[.int .i64 x.s, .int .i64 x.t, .slice Au x.n cu, .string x.x] 34)).alloc (.cells #[.int .i64 x.s, .int .i64 x.t, .slice Au x.n cu, .string x.x] 34)).grownBy w9 (Value.ownBlock (.slice Ao os.length co))) :
    AInv w nw most its B ib g1 hb mb v2 zs seen2 sk2 v9 (os ++ [outE x Au cu]) (acc ++ [x]) w9 := by
  have hf := nextF_facts nw _ _ _ _ _ _ _ _ (fun it h => (hv.it.hs.rows it h).pos) hnx
  have hkA : KeepF w2 w9 (fun k => some k = Value.ownBlock (.slice Ao os.length co)) :=
    ((KeepF.of_below (((Below.refl w2.heap.size w2).alloc (Nat.le_refl _) (.cells #[.int .i64 x.s, .int .i64 x.t, .slice Au x.n cu, .string x.x] 34)).alloc (by simp) (.cells #[.int .i64 x.s, .int .i64 x.t, .slice Au x.n cu, .string x.x] 34)) _).trans (KeepF.of_grown hgrow9) (fun q h => .inl h))
  have hty : ∀ q, some q = Value.ownBlock (.slice Ao os.length co) → B ≤ q ∧ ∃ cs, w2.heap[q]? = some (.cells cs 34 (0, 0)) := by
    intro q hq
    rcases ho.own.2 with ⟨hv', _⟩ | ⟨g, cap, cur, hv', hb', hg, _⟩
    · rw [hv'] at hq; cases hq
    · rw [hv'] at hq; cases hq; exact ⟨hb', cur, hg⟩
  have hne : ∀ q, some q = Value.ownBlock (.slice Ao os.length co) → q ≠ ib ∧ q ≠ hb ∧ q ≠ mb ∧ some q ≠ v2.ownBlock := by
    intro q hq
    obtain ⟨_, cs, hc⟩ := hty q hq
    exact hit2.blk_ne (b := q) (t := 34) (cs := cs) ⟨hc⟩ (.inl rfl)
  have hsB : B ≤ wr.heap.size := hv.hB.2
  refine ⟨⟨⟨?_⟩, ?_, ?_, hit2.gi, hit2.gm⟩, ?_, ?_, ⟨?_, ?_⟩, ?_, hok2, ⟨?_, ?_, ?_⟩, ?_, ?_, ⟨hv.hB.1, ?_⟩⟩
  · exact (hkA.block ib hit2.blk.lt (fun e => (hne _ e).1 rfl)).trans hit2.blk.out
  · refine hit2.hs.move (hkA.block hb hit2.hs.blk.lt (fun e => (hne _ e).2.1 rfl)) (fun k hk => hkA.block k (hit2.hs.own.lt k hk).2 (fun e => (hne _ e).2.2.2 hk.symm)) (fun q hq => hkA.block _ (hit2.hs.rows q hq).lt (fun e => ?_))
    obtain ⟨q0, h0, e0⟩ := hf.1 q hq
    have h1 := hv.old q0 h0
    have h2 := (hty _ e).1
    omega
  · exact hit2.met.same (hkA.block mb hit2.met.lt (fun e => (hne _ e).2.2.1 rfl))
  · rw [← hv.eq, hgo, hnx]
  · have := hv.left; have := hf.2.1; simp at this; omega
  · have := hv.bd; have := hf.2.2.1; omega
  · have := hv.bd; have := hf.2.2.2; omega
  · have := hv.len; have := hf.2.1; simp at this ⊢; omega
  · have e : ecells (os ++ [outE x Au cu]) = ecells os ++ [.int .i64 x.s, .int .i64 x.t, .slice Au x.n cu, .string x.x] := by simp [ecells, outE]
    rw [e, List.length_append]
    exact hown9
  · simp [ho.len]
  · intro i h1 h2
    have hk55 : ∀ q cs, w2.heap[q]? = some (.cells cs 55 (0, 0)) → ¬ (some q = Value.ownBlock (.slice Ao os.length co)) := by
      intro q cs hq e
      obtain ⟨_, cs', hc⟩ := hty q e
      rw [hq] at hc
      injection hc with hc
      injection hc with _ hc
      exact absurd hc (by decide)
    rcases Nat.lt_or_ge i os.length with hi | hi
    · have hi' : i < acc.length := by rw [← ho.len]; exact hi
      rw [List.getElem_append_left hi, List.getElem_append_left hi']
      exact (ho.row i hi hi').keep hkA hk55
    · have hi2 : i = os.length := by simp at h1; omega
      subst hi2
      have e1 : (os ++ [outE x Au cu])[os.length] = outE x Au cu := by simp
      have e2 : (acc ++ [x])[os.length] = x := by simp [ho.len]
      rw [e1, e2]
      refine OutRow.keep (w := w2) ⟨rfl, rfl, rfl, rfl, ls, hls, ownsRow_lower hu hsB⟩ hkA hk55
  · exact hkA.toBelow (hk2.toBelow hv.bel hv.it.far2) (fun q hq => Nat.le_trans hv.hB.1 (hty q hq).1)
  · intro it hi
    obtain ⟨q0, h0, e0⟩ := hf.1 it hi
    rw [e0]; exact hv.old q0 h0
  · exact Nat.le_trans hsB (Nat.le_trans hk2.size hkA.size)

set_option maxHeartbeats 2000000 in
theorem all_any (A : Option Addr) (c : Nat) (nw : Bool) (most : Int) (rs : List Raw) (w : World) (hA : RowCells w A (rs.map Raw.val)) (hrs : ∀ r ∈ rs, r.ok w) (hn : rs.length ≤ 100000000000)
    (hok : ∀ r ∈ rs, ∀ e ∈ r.es, EntOk w e) (htot : (rs.map fun r => r.es.length).sum ≤ 100000000000) :
    Calls Try.prog 12 #[.slice A rs.length c, .bool nw, .int .i64 most] w (AllPost w nw rs most) := by
  obtain ⟨i0, hi0, hz0, hz1, hz2⟩ := info_parts info34
  go_enter Try.func12, Try.ntmps12
  go_wp2_with fail
  refine (new_any A c nw rs w hA hrs hn).mono ?_
  rintro e w1 ⟨ib, hb, mb, v, its, rfl, hit, hits, hbel⟩
  have hip := (init_heap nw its).2
  have hst : AInv w nw most its w1.heap.size ib (tot its + 1) hb mb v (initF nw its.length (its.length / 2) its) [] 0 (.slice none 0 0) [] [] w1 := by
    have e1 := tot_perm hip
    have e2 := full_tot rs 0
    rw [← hits] at e2
    have e3 : ((its.map itPair).map fun p => p.1.length).sum = tot its := by simp [tot, itPair, Function.comp_def]
    refine ⟨hit, rfl, by omega, by simp; omega, by simp; omega, fun it h e he => ?_, ⟨World.ownsRow_nil _ _ _ _, rfl, fun i h => by simp at h⟩, hbel, fun it h => (hit.hs.rows it h).lt, hbel.size, Nat.le_refl _⟩
    have : itPair it ∈ its.map itPair := List.mem_map_of_mem (hip.mem_iff.1 h)
    rw [hits] at this
    obtain ⟨r, hr, hre⟩ := full_mem rs 0 _ this
    exact hok r hr e (by rw [← hre]; exact he)
  have HI := Lib.hid hits; clear hits
  go_wp2_with fail
  go_loopg [7] (tot its + 1) (fun g v7 wr => ARel w nw most its w1.heap.size ib hb mb g v7 wr)
  case atStart => exact ⟨v, _, [], 0, [], [], hst⟩
  case round =>
    clear hst
    obtain ⟨v', ys, seen, sk, os, acc, hi⟩ := hrel
    obtain ⟨Ao, co, rfl⟩ := own_sl hi.out.own
    have hbd := hi.len
    have hleq := hi.out.len
    have hol : os.length ≤ 100000000000 := by omega
    have HLE := Lib.hid hleq; clear hleq hbd
    have HV := Lib.hid hi; clear hi
    obtain ⟨g1, rfl⟩ : ∃ m, gk = m + 1 := ⟨gk - 1, by have := HV.out.left; omega⟩
    by_cases hm : most ≠ 0 ∧ most ≤ os.length
    · obtain ⟨hm1, hm2⟩ := hm
      have hm1' : (most == 0) = false := by simpa using hm1
      have HM := Lib.hid hm1; clear hm1
      go_wp2_with fail
      go_ret
      exact ⟨its, _, os, HI.out, rfl, by rw [← HV.out.eq, allL, if_pos ⟨HM.out, by rw [← HLE.out]; exact hm2⟩]; exact HV.out.out.lower HV.out.hB.1, HV.out.bel⟩
    · have HM := Lib.hid hm
      have hgo : Hid (allL nw most (g1 + 1) ys seen sk acc = match nextF nw (tot ys + 1) ys seen sk with | (none, _, _, _) => acc | (some e, ys', seen', sk') => allL nw most g1 ys' seen' sk' (acc ++ [e])) := Lib.hid (by rw [allL, if_neg (by rw [← HLE.out]; exact hm)])
      have hnext := next_any w wr ib hb mb v' nw (tot ys + 1) ys seen sk HV.out.it (by omega) (by have := HV.out.bd; omega) HV.out.bd.2 HV.out.ok HV.out.bel
      have HN := Lib.hid hnext; clear hnext
      by_cases hm0 : most = 0
      · subst hm0
        clear hm
        go_wp2_with fail
        refine (HN.out).mono ?_
        rintro e w2 ⟨r, v2, zs, seen2, sk2, hnx, hit2, hk2, hrow2, hlen2, hok2, hend⟩
        cases r with
        | none =>
          obtain rfl := hend
          go_wp2_with fail
          go_ret
          exact ⟨its, _, os, HI.out, rfl, by rw [← HV.out.eq, hgo.out, hnx]; exact ((HV.out.out.keep hk2 HV.out.it.far).keep (KeepF.of_below ((Below.refl _ _).alloc (Nat.le_refl _) _) (fun _ => False)) (fun _ _ _ _ _ h => h)).lower HV.out.hB.1,
            (hk2.toBelow HV.out.bel HV.out.it.far2).alloc (by have := hk2.size; have := HV.out.bel.size; omega) _⟩
        | some x =>
          obtain ⟨hex, u, ls, hls, rfl, hu⟩ := hend
          obtain ⟨Au, cu, rfl⟩ := own_sl hu
          have hout2 := HV.out.out.keep hk2 HV.out.it.far
          have HO := Lib.hid hout2; clear hout2
          unfold entVal
          go_wp2_with (at_builtin; go_must (refine wpList_append_own _ rfl _ _ 24 rfl w1.heap.size 34 i0 _ 4 56 Try.underlying24 hi0 hz0 hz1 hz2 rfl (by decide) _ os.length (ecells os) rfl ((HO.out.own.alloc _).alloc _) ⟨w2.heap.size + 1, 0, none⟩ 1 1 [.int .i64 x.s, .int .i64 x.t, .slice Au x.n cu, .string x.x] rfl rfl (news_at _ #[.int .i64 x.s, .int .i64 x.t, .slice Au x.n cu, .string x.x] 34 _ (by simp)) (by simp [Value.oneCell']) (by unfold maxLen; omega) (by omega) (by have := hk2.size; have := HV.out.hB.2; simp; omega) ?_); intro v9 w9 hown9 hgrow9 _)
          have hfin := all_inv HV.out hgo.out hnx hit2 hk2 hok2 hls hu HO.out hown9 hgrow9
          clear hown9 hgrow9
          go_roundg g1
          case rel => exact ⟨v2, zs, seen2, sk2, _, _, hfin⟩
          case measure => exact Nat.lt_succ_self _
      · have hm1' : (most == 0) = false := by simpa using hm0
        have hlt : (os.length : Int) < most := by omega
        clear hm hm0
        go_wp2_with fail
        refine (HN.out).mono ?_
        rintro e w2 ⟨r, v2, zs, seen2, sk2, hnx, hit2, hk2, hrow2, hlen2, hok2, hend⟩
        cases r with
        | none =>
          obtain rfl := hend
          go_wp2_with fail
          go_ret
          exact ⟨its, _, os, HI.out, rfl, by rw [← HV.out.eq, hgo.out, hnx]; exact ((HV.out.out.keep hk2 HV.out.it.far).keep (KeepF.of_below ((Below.refl _ _).alloc (Nat.le_refl _) _) (fun _ => False)) (fun _ _ _ _ _ h => h)).lower HV.out.hB.1,
            (hk2.toBelow HV.out.bel HV.out.it.far2).alloc (by have := hk2.size; have := HV.out.bel.size; omega) _⟩
        | some x =>
          obtain ⟨hex, u, ls, hls, rfl, hu⟩ := hend
          obtain ⟨Au, cu, rfl⟩ := own_sl hu
          have hout2 := HV.out.out.keep hk2 HV.out.it.far
          have HO := Lib.hid hout2; clear hout2
          unfold entVal
          go_wp2_with (at_builtin; go_must (refine wpList_append_own _ rfl _ _ 24 rfl w1.heap.size 34 i0 _ 4 56 Try.underlying24 hi0 hz0 hz1 hz2 rfl (by decide) _ os.length (ecells os) rfl ((HO.out.own.alloc _).alloc _) ⟨w2.heap.size + 1, 0, none⟩ 1 1 [.int .i64 x.s, .int .i64 x.t, .slice Au x.n cu, .string x.x] rfl rfl (news_at _ #[.int .i64 x.s, .int .i64 x.t, .slice Au x.n cu, .string x.x] 34 _ (by simp)) (by simp [Value.oneCell']) (by unfold maxLen; omega) (by omega) (by have := hk2.size; have := HV.out.hB.2; simp; omega) ?_); intro v9 w9 hown9 hgrow9 _)
          have hfin := all_inv HV.out hgo.out hnx hit2 hk2 hok2 hls hu HO.out hown9 hgrow9
          clear hown9 hgrow9
          go_roundg g1
          case rel => exact ⟨v2, zs, seen2, sk2, _, _, hfin⟩
          case measure => exact Nat.lt_succ_self _
end Go.Proofs.Ytjfggmkfnofldaa
