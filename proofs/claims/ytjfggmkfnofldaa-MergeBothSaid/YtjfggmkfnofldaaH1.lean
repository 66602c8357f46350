import Derived.Test.YtjfggmkfnofldaaG4
namespace Go.Proofs.Ytjfggmkfnofldaa
open Go.RowKit
set_option linter.unusedVariables false

theorem rnextF_facts (nw : Bool) (F : Nat) : ∀ (rows : List (List Ent)) (seen : List Int) (sk : Int) (r : Option Ent) (rows' : List (List Ent)) (seen' : List Int) (sk' : Int), rnextF nw F rows seen sk = (r, rows', seen', sk') →
    (totR rows' : Int) + (if r.isSome then 1 else 0) ≤ totR rows ∧ (seen'.length : Int) + totR rows' + sk' ≤ seen.length + totR rows + sk ∧ sk ≤ sk' := by
  induction F with
  | zero =>
    intro rows seen sk r rows' seen' sk' h
    simp only [rnextF, Prod.mk.injEq] at h
    obtain ⟨rfl, rfl, rfl, rfl⟩ := h
    exact ⟨by simp, by omega, by omega⟩
  | succ F ih =>
    intro rows seen sk r rows' seen' sk' h
    rw [rnextF] at h
    cases hb : bestTo nw rows rows.length with
    | none =>
      rw [hb] at h
      simp only [Prod.mk.injEq] at h
      obtain ⟨rfl, rfl, rfl, rfl⟩ := h
      exact ⟨by simp, by omega, by omega⟩
    | some b =>
      rw [hb] at h
      have hs := bestTo_spec nw rows rows.length
      rw [hb] at hs
      have ht := totR_set rows b hs.1 (Nat.pos_of_ne_zero hs.2.1)
      simp only at h
      by_cases hm : (hdE (rowAt rows b)).s ∈ seen
      · rw [if_pos hm] at h
        obtain ⟨a1, a2, a3⟩ := ih _ _ _ _ _ _ _ h
        exact ⟨by omega, by omega, by omega⟩
      · rw [if_neg hm] at h
        simp only [Prod.mk.injEq] at h
        obtain ⟨rfl, rfl, rfl, rfl⟩ := h
        exact ⟨by simp; omega, by simp; omega, by omega⟩

structure RAInv (w : World) (nw : Bool) (most : Int) (rows0 : List (List Ent)) (tb mb g : Nat) (v : Value) (qs : List Raw) (seen : List Int) (sk : Int) (out : Value) (acc : List Ent) (wr : World) : Prop where
  it : RefIs wr w.heap.size tb mb v nw qs seen sk
  eq : rallL nw most g (qs.map Raw.es) seen sk acc = refAll nw most rows0
  left : totR (qs.map Raw.es) < g
  bd : (seen.length : Int) + totR (qs.map Raw.es) + sk ≤ 100000000000 ∧ 0 ≤ sk
  len : acc.length + totR (qs.map Raw.es) ≤ 100000000000
  ok : ∀ r ∈ qs, ∀ e ∈ r.es, EntOk w e
  old : ∀ r ∈ qs, ∀ b o, r.A = some ⟨b, o, none⟩ → 0 < r.es.length → b < w.heap.size
  out : wr.ownsRow w.heap.size 34 4 out acc.length (ecells acc)
  bel : Below w.heap.size w wr
  small : qs.length ≤ 100000000000
def RARel (w : World) (nw : Bool) (most : Int) (rows0 : List (List Ent)) (tb mb g : Nat) (v8 : Value) (wr : World) : Prop :=
  ∃ v qs seen sk acc, RAInv w nw most rows0 tb mb g v qs seen sk v8 acc wr

theorem RefIs.far {w : World} {base tb mb : Nat} {v : Value} {nw : Bool} {rs : List Raw} {seen : List Int} {sk : Int} (h : RefIs w base tb mb v nw rs seen sk) :
    ∀ q cs t, w.heap[q]? = some (.cells cs t (0, 0)) → t = 34 ∨ t = 55 → ¬ (q = tb ∨ q = mb ∨ some q = v.ownBlock) := by
  intro q cs t hq ht
  have := h.ne (b := q) (t := t) (cs := cs) ⟨hq⟩ (by rcases ht with h | h <;> simp [h])
  rintro (e | e | e)
  · exact this.1 e
  · exact this.2.1 e
  · exact this.2.2 e
theorem RefIs.far2 {w : World} {base tb mb : Nat} {v : Value} {nw : Bool} {rs : List Raw} {seen : List Int} {sk : Int} (h : RefIs w base tb mb v nw rs seen sk) : ∀ q, (q = tb ∨ q = mb ∨ some q = v.ownBlock) → base ≤ q := by
  rintro q (rfl | rfl | hq)
  · exact h.gi
  · exact h.gm
  · exact (h.own.lt q hq.symm).1
theorem own_keep34 {w w' : World} {F : Nat → Prop} {base n : Nat} {v : Value} {xs : List Value} (h : w.ownsRow base 34 4 v n xs) (k : KeepF w w' F) (hF : ∀ q cs t, w.heap[q]? = some (.cells cs t (0, 0)) → t = 34 ∨ t = 55 → ¬ F q) : w'.ownsRow base 34 4 v n xs := by
  refine ownsRow_keepF h k fun q hq => ?_
  rcases h.2 with ⟨hv, _⟩ | ⟨g, cap, cur, hv, _, hg, _⟩
  · rw [hv] at hq; cases hq
  · rw [hv] at hq; cases hq
    exact hF _ _ 34 hg (.inl rfl)

theorem rall_inv {w wr w2 w9 : World} {nw : Bool} {most : Int} {rows0 : List (List Ent)} {tb mb g1 : Nat} {v v9 : Value} {qs zs : List Raw} {seen seen2 : List Int} {sk sk2 : Int} {Ao : Option Addr} {co : Nat} {acc : List Ent} {x : Ent}
    (hv : RAInv w nw most rows0 tb mb (g1 + 1) v qs seen sk (.slice Ao acc.length co) acc wr)
    (hgo : rallL nw most (g1 + 1) (qs.map Raw.es) seen sk acc = match rnextF nw (totR (qs.map Raw.es) + 1) (qs.map Raw.es) seen sk with | (none, _, _, _) => acc | (some e, ys', seen', sk') => rallL nw most g1 ys' seen' sk' (acc ++ [e]))
    (hnx : rnextF nw (totR (qs.map Raw.es) + 1) (qs.map Raw.es) seen sk = (some x, zs.map Raw.es, seen2, sk2)) (hit2 : RefIs w2 w.heap.size tb mb v nw zs seen2 sk2) (hk2 : KeepF wr w2 (fun k => k = tb ∨ k = mb ∨ some k = v.ownBlock))
    (hok2 : ∀ r ∈ zs, ∀ e ∈ r.es, EntOk w e) (hold2 : ∀ r ∈ zs, ∀ b o, r.A = some ⟨b, o, none⟩ → 0 < r.es.length → b < w.heap.size) (hl2 : zs.length = qs.length)
    (ho : w2.ownsRow w.heap.size 34 4 (.slice Ao acc.length co) acc.length (ecells acc))
    (hown9 : w9.ownsRow w.heap.size 34 4 v9 (acc.length + 1) (ecells acc ++ [.int .i64 x.s, .int .i64 x.t, .slice x.A x.n x.c, .string x.x]))
    (hgrow9 : ((w2.alloc (.cells #[.int .i64 x.s, .int .i64 x.t, .slice x.A x.n x.c, .string x.x] 34)).alloc (.cells #[.int .i64 x.s, .int .i64 x.t, .slice x.A x.n x.c, .string x.x] 34)).grownBy w9 (Value.ownBlock (.slice Ao acc.length co))) :
    RAInv w nw most rows0 tb mb g1 v zs seen2 sk2 v9 (acc ++ [x]) w9 := by
  have hf := rnextF_facts nw _ _ _ _ _ _ _ _ hnx
  have hkA : KeepF w2 w9 (fun k => some k = Value.ownBlock (.slice Ao acc.length co)) :=
    ((KeepF.of_below (((Below.refl w2.heap.size w2).alloc (Nat.le_refl _) (.cells #[.int .i64 x.s, .int .i64 x.t, .slice x.A x.n x.c, .string x.x] 34)).alloc (by simp) (.cells #[.int .i64 x.s, .int .i64 x.t, .slice x.A x.n x.c, .string x.x] 34)) _).trans (KeepF.of_grown hgrow9) (fun q h => .inl h))
  have hty : ∀ q, some q = Value.ownBlock (.slice Ao acc.length co) → w.heap.size ≤ q ∧ ∃ cs, w2.heap[q]? = some (.cells cs 34 (0, 0)) := by
    intro q hq
    rcases ho.2 with ⟨hv', _⟩ | ⟨g, cap, cur, hv', hb', hg, _⟩
    · rw [hv'] at hq; cases hq
    · rw [hv'] at hq; cases hq; exact ⟨hb', cur, hg⟩
  have hne : ∀ q, some q = Value.ownBlock (.slice Ao acc.length co) → q ≠ tb ∧ q ≠ mb ∧ some q ≠ v.ownBlock := by
    intro q hq
    obtain ⟨_, cs, hc⟩ := hty q hq
    exact hit2.ne (b := q) (t := 34) (cs := cs) ⟨hc⟩ (by decide)
  have hw2 : w.heap.size ≤ w2.heap.size := Nat.le_trans hv.bel.size hk2.size
  refine ⟨⟨⟨?_⟩, ?_, ?_, ?_, hit2.gi, hit2.gm⟩, ?_, ?_, ⟨?_, ?_⟩, ?_, hok2, hold2, ?_, ?_, by rw [hl2]; exact hv.small⟩
  · exact (hkA.block tb hit2.blk.lt (fun e => (hne _ e).1 rfl)).trans hit2.blk.out
  · exact ownsRow_keepF hit2.own hkA (fun q hq e => (hne q e).2.2 hq.symm)
  · exact hit2.met.same (hkA.block mb hit2.met.lt (fun e => (hne _ e).2.1 rfl))
  · intro r hr
    refine ⟨(hit2.rows r hr).1.keepF hkA (fun b o e hp e2 => ?_), (hit2.rows r hr).2⟩
    have h1 := hold2 r hr b o e (by rw [ecells_length] at hp; omega)
    have h2 := (hty _ e2).1
    omega
  · rw [← hv.eq, hgo, hnx]
  · have := hv.left; have := hf.1; simp at this; omega
  · have := hv.bd; have := hf.2.1; omega
  · have := hv.bd; have := hf.2.2; omega
  · have := hv.len; have := hf.1; simp at this ⊢; omega
  · have e : ecells (acc ++ [x]) = ecells acc ++ [.int .i64 x.s, .int .i64 x.t, .slice x.A x.n x.c, .string x.x] := by simp [ecells]
    rw [e, List.length_append]
    exact hown9
  · exact hkA.toBelow (hk2.toBelow hv.bel hv.it.far2) (fun q hq => (hty q hq).1)

def RAllPost (w : World) (nw : Bool) (most : Int) (rows0 : List (List Ent)) (e : Ending) (w' : World) : Prop :=
  ∃ v, e = .returned v ∧ w'.ownsRow w.heap.size 34 4 v (refAll nw most rows0).length (ecells (refAll nw most rows0)) ∧ Below w.heap.size w w'

set_option maxHeartbeats 2000000 in
theorem rall_any (A : Option Addr) (c : Nat) (nw : Bool) (most : Int) (rs : List Raw) (w : World) (hA : RowCells w A (rs.map Raw.val)) (hc : A = none → c = 0) (hrs : ∀ r ∈ rs, RowCells w r.A (ecells r.es) ∧ r.es.length ≤ r.c) (hn : rs.length ≤ 100000000000)
    (hok : ∀ r ∈ rs, ∀ e ∈ r.es, EntOk w e) (htot : totR (rs.map Raw.es) ≤ 100000000000) :
    Calls Try.prog 14 #[.slice A rs.length c, .bool nw, .int .i64 most] w (RAllPost w nw most (rs.map Raw.es)) := by
  obtain ⟨i0, hi0, hz0, hz1, hz2⟩ := info_parts info34
  have hold : ∀ r ∈ rs, ∀ b o, r.A = some ⟨b, o, none⟩ → 0 < r.es.length → b < w.heap.size := by
    intro r hr b o e hp
    obtain ⟨b', o', e', hcc⟩ := (hrs r hr).1 (by rw [ecells_length]; omega)
    rw [e] at e'
    injection e' with e'; injection e' with e1 e2
    subst e1; subst e2
    have h0 : 0 < (ecells r.es).length := by rw [ecells_length]; omega
    exact World.block_lt_of_cell? w _ (hcc 0 _ (List.getElem?_eq_getElem h0))
  go_enter Try.func14, Try.ntmps14
  go_wp2_with fail
  refine (rnew_any A c nw rs w hA hc hrs (by omega)).mono ?_
  rintro e w1 ⟨tb, mb, v, rfl, hit, hbel⟩
  have hst : RAInv w nw most (rs.map Raw.es) tb mb (totR (rs.map Raw.es) + 1) v rs [] 0 (.slice none 0 0) [] w1 :=
    ⟨hit, rfl, by omega, ⟨by simp; omega, by omega⟩, by simp; omega, hok, hold, World.ownsRow_nil _ _ _ _, hbel, hn⟩
  go_wp2_with fail
  go_loopg [8] (totR (rs.map Raw.es) + 1) (fun g v8 wr => RARel w nw most (rs.map Raw.es) tb mb g v8 wr)
  case atStart => exact ⟨v, _, [], 0, [], hst⟩
  case round =>
    clear hst hit hA hrs
    obtain ⟨v', qs, seen, sk, acc, hi⟩ := hrel
    obtain ⟨Ao, co, rfl⟩ := own_sl hi.out
    have hbd := hi.len
    have hol : acc.length ≤ 100000000000 := by omega
    clear hbd
    have HV := Lib.hid hi; clear hi
    obtain ⟨g1, rfl⟩ : ∃ m, gk = m + 1 := ⟨gk - 1, by have := HV.out.left; omega⟩
    by_cases hm : most ≠ 0 ∧ most ≤ acc.length
    · obtain ⟨hm1, hm2⟩ := hm
      have hm1' : (most == 0) = false := by simpa using hm1
      have HM := Lib.hid hm1; clear hm1
      have heq : refAll nw most (rs.map Raw.es) = acc := by rw [← HV.out.eq, rallL, if_pos ⟨HM.out, hm2⟩]
      have HE := Lib.hid heq; clear heq
      go_wp2_with fail
      go_ret
      exact ⟨_, rfl, by rw [HE.out]; exact HV.out.out, HV.out.bel⟩
    · have hgo : Hid (rallL nw most (g1 + 1) (qs.map Raw.es) seen sk acc = match rnextF nw (totR (qs.map Raw.es) + 1) (qs.map Raw.es) seen sk with | (none, _, _, _) => acc | (some e, ys', seen', sk') => rallL nw most g1 ys' seen' sk' (acc ++ [e])) := Lib.hid (by rw [rallL, if_neg hm]; rfl)
      have hnext := rnext_any w wr tb mb v' nw (totR (qs.map Raw.es) + 1) qs seen sk HV.out.it (by omega) (by have := HV.out.bd; omega) HV.out.bd.2 HV.out.ok HV.out.old HV.out.bel HV.out.small
      have HN := Lib.hid hnext; clear hnext
      by_cases hm0 : most = 0
      · subst hm0
        clear hm
        go_wp2_with fail
        refine (HN.out).mono ?_
        rintro e w2 ⟨r, zs, seen2, sk2, hnx, hit2, hk2, hok2, hold2, hl2, hend⟩
        have HO := Lib.hid (own_keep34 HV.out.out hk2 HV.out.it.far)
        cases r with
        | none =>
          obtain rfl := hend
          have heq : refAll nw 0 (rs.map Raw.es) = acc := by rw [← HV.out.eq, hgo.out, hnx]
          have HE := Lib.hid heq; clear heq
          go_wp2_with fail
          go_ret
          exact ⟨_, rfl, by rw [HE.out]; exact HO.out.alloc _, (hk2.toBelow HV.out.bel HV.out.it.far2).alloc (by have := hk2.size; have := HV.out.bel.size; omega) _⟩
        | some x =>
          obtain ⟨hex, rfl⟩ := hend
          unfold entVal
          go_wp2_with (at_builtin; go_must (refine wpList_append_own _ rfl _ _ 24 rfl w.heap.size 34 i0 _ 4 56 Try.underlying24 hi0 hz0 hz1 hz2 rfl (by decide) _ acc.length (ecells acc) rfl ((HO.out.alloc _).alloc _) ⟨w2.heap.size + 1, 0, none⟩ 1 1 [.int .i64 x.s, .int .i64 x.t, .slice x.A x.n x.c, .string x.x] rfl rfl (news_at _ #[.int .i64 x.s, .int .i64 x.t, .slice x.A x.n x.c, .string x.x] 34 _ (by simp)) (by simp [Value.oneCell']) (by unfold maxLen; omega) (by omega) (by have := hk2.size; have := HV.out.bel.size; simp; omega) ?_); intro v9 w9 hown9 hgrow9 _)
          have hfin := rall_inv HV.out hgo.out hnx hit2 hk2 hok2 hold2 hl2 HO.out hown9 hgrow9
          clear hown9 hgrow9
          go_roundg g1
          case rel => exact ⟨v', zs, seen2, sk2, _, hfin⟩
          case measure => exact Nat.lt_succ_self _
      · have hm1' : (most == 0) = false := by simpa using hm0
        have hlt : (acc.length : Int) < most := by omega
        clear hm hm0
        go_wp2_with fail
        refine (HN.out).mono ?_
        rintro e w2 ⟨r, zs, seen2, sk2, hnx, hit2, hk2, hok2, hold2, hl2, hend⟩
        have HO := Lib.hid (own_keep34 HV.out.out hk2 HV.out.it.far)
        cases r with
        | none =>
          obtain rfl := hend
          have heq : refAll nw most (rs.map Raw.es) = acc := by rw [← HV.out.eq, hgo.out, hnx]
          have HE := Lib.hid heq; clear heq
          go_wp2_with fail
          go_ret
          exact ⟨_, rfl, by rw [HE.out]; exact HO.out.alloc _, (hk2.toBelow HV.out.bel HV.out.it.far2).alloc (by have := hk2.size; have := HV.out.bel.size; omega) _⟩
        | some x =>
          obtain ⟨hex, rfl⟩ := hend
          unfold entVal
          go_wp2_with (at_builtin; go_must (refine wpList_append_own _ rfl _ _ 24 rfl w.heap.size 34 i0 _ 4 56 Try.underlying24 hi0 hz0 hz1 hz2 rfl (by decide) _ acc.length (ecells acc) rfl ((HO.out.alloc _).alloc _) ⟨w2.heap.size + 1, 0, none⟩ 1 1 [.int .i64 x.s, .int .i64 x.t, .slice x.A x.n x.c, .string x.x] rfl rfl (news_at _ #[.int .i64 x.s, .int .i64 x.t, .slice x.A x.n x.c, .string x.x] 34 _ (by simp)) (by simp [Value.oneCell']) (by unfold maxLen; omega) (by omega) (by have := hk2.size; have := HV.out.bel.size; simp; omega) ?_); intro v9 w9 hown9 hgrow9 _)
          have hfin := rall_inv HV.out hgo.out hnx hit2 hk2 hok2 hold2 hl2 HO.out hown9 hgrow9
          clear hown9 hgrow9
          go_roundg g1
          case rel => exact ⟨v', zs, seen2, sk2, _, hfin⟩
          case measure => exact Nat.lt_succ_self _
end Go.Proofs.Ytjfggmkfnofldaa
