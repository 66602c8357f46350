import Derived.Test.YtjfggmkfnofldaaH1
namespace Go.Proofs.Ytjfggmkfnofldaa
open Go.RowKit
set_option linter.unusedVariables false

/-- Rows of entries as they came in. -/
structure RowsA (w : World) (A : Option Addr) (rs : List Raw) (xss : List (List AEnt)) : Prop where
  cells : RowCells w A (rs.map Raw.val)
  len : rs.length = xss.length
  rows : ∀ i (h : i < rs.length) (h' : i < xss.length), RowA w rs[i].A rs[i].es xss[i]
  cap : ∀ r ∈ rs, (r.A = none → r.c = 0) ∧ r.es.length ≤ r.c
/-- Rows of entries in memory of the call's own. -/
structure OwnRows (w : World) (base : Nat) (v : Value) (rs : List Raw) (xss : List (List AEnt)) : Prop where
  own : w.ownsRow base 24 1 v rs.length (rs.map Raw.val)
  len : rs.length = xss.length
  rows : ∀ i (h : i < rs.length) (h' : i < xss.length), OwnRowA w base rs[i].val rs[i].es xss[i]
theorem RowsA.below {w w' : World} {A : Option Addr} {rs : List Raw} {xss : List (List AEnt)} (h : RowsA w A rs xss) (hb : Below w.heap.size w w') : RowsA w' A rs xss :=
  ⟨h.cells.below hb, h.len, fun i h1 h2 => (h.rows i h1 h2).below hb, h.cap⟩
theorem OwnRows.keep {w w' : World} {F : Nat → Prop} {base : Nat} {v : Value} {rs : List Raw} {xss : List (List AEnt)} (h : OwnRows w base v rs xss) (k : KeepF w w' F) (hF : ∀ q cs t, base ≤ q → w.heap[q]? = some (.cells cs t (0, 0)) → t = 24 ∨ t = 34 ∨ t = 55 → ¬ F q) : OwnRows w' base v rs xss := by
  refine ⟨ownsRow_keepF h.own k fun q hq => ?_, h.len, fun i h1 h2 => (h.rows i h1 h2).keep k fun q cs t hq hc ht => hF q cs t hq hc (.inr ht)⟩
  rcases h.own.2 with ⟨hv, _⟩ | ⟨g, cap, cur, hv, hb, hg, _⟩
  · rw [hv] at hq; cases hq
  · rw [hv] at hq; cases hq
    exact hF _ _ 24 hb hg (.inl rfl)
theorem OwnRows.below {w w' : World} {base : Nat} {v : Value} {rs : List Raw} {xss : List (List AEnt)} (h : OwnRows w base v rs xss) (hb : Below w.heap.size w w') : OwnRows w' base v rs xss :=
  h.keep (KeepF.of_below hb (fun _ => False)) (fun _ _ _ _ _ _ h => h)
theorem OwnRows.lower {w : World} {base b : Nat} {v : Value} {rs : List Raw} {xss : List (List AEnt)} (h : OwnRows w base v rs xss) (hb : b ≤ base) : OwnRows w b v rs xss := ⟨ownsRow_lower h.own hb, h.len, fun i h1 h2 => (h.rows i h1 h2).lower hb⟩
theorem OwnRows.rowsA {w : World} {base n c : Nat} {A : Option Addr} {rs : List Raw} {xss : List (List AEnt)} (h : OwnRows w base (.slice A n c) rs xss) : RowsA w A rs xss ∧ (A = none → c = 0) ∧ n = rs.length := by
  have hn : n = rs.length := by
    rcases h.own.2 with ⟨hv, h0⟩ | ⟨g, cap, cur, hv, _⟩
    · injection hv with _ h2; omega
    · injection hv
  subst hn
  refine ⟨⟨own_rowCells h.own, h.len, fun i h1 h2 => (h.rows i h1 h2).rowA.2.1, fun r hr => ?_⟩, own_nilcap h.own, rfl⟩
  obtain ⟨i, hi, rfl⟩ := List.getElem_of_mem hr
  have hx : i < xss.length := by rw [← h.len]; exact hi
  have h3 := h.rows i hi hx
  refine ⟨h3.rowA.2.2, ?_⟩
  rcases h3.own.2 with ⟨hv, h0⟩ | ⟨g, cap, cur, hv, _, _, hle, _⟩
  · omega
  · injection hv with _ _ h5
    omega

theorem rows11_inv {w wr w2 w9 : World} {rs : List Raw} {xss : List (List AEnt)} {xs : List AEnt} {os : List Ent} {Ao Au : Option Addr} {co cu : Nat} {v9 : Value} (ho : OwnRows w2 w.heap.size (.slice Ao rs.length co) rs xss) (hoe : OwnRowA w2 wr.heap.size (.slice Au os.length cu) os xs)
    (hb : Below w.heap.size w wr) (hb2 : Below wr.heap.size wr w2) (hown9 : w9.ownsRow w.heap.size 24 1 v9 (rs.length + 1) (rs.map Raw.val ++ [.slice Au os.length cu]))
    (hgrow9 : (w2.alloc (.cells #[.slice Au os.length cu] 24)).grownBy w9 (Value.ownBlock (.slice Ao rs.length co))) :
    OwnRows w9 w.heap.size v9 (rs ++ [⟨Au, cu, os⟩]) (xss ++ [xs]) ∧ Below w.heap.size w w9 := by
  have hkA : KeepF w2 w9 (fun k => some k = Value.ownBlock (.slice Ao rs.length co)) :=
    ((KeepF.of_below ((Below.refl w2.heap.size w2).alloc (Nat.le_refl _) (.cells #[.slice Au os.length cu] 24)) _).trans (KeepF.of_grown hgrow9) (fun q h => .inl h))
  have hty : ∀ q, some q = Value.ownBlock (.slice Ao rs.length co) → w.heap.size ≤ q ∧ ∃ cs, w2.heap[q]? = some (.cells cs 24 (0, 0)) := by
    intro q hq
    rcases ho.own.2 with ⟨hv', _⟩ | ⟨g, cap, cur, hv', hb', hg, _⟩
    · rw [hv'] at hq; cases hq
    · rw [hv'] at hq; cases hq; exact ⟨hb', cur, hg⟩
  have hk : ∀ B q cs t, B ≤ q → w2.heap[q]? = some (.cells cs t (0, 0)) → t = 34 ∨ t = 55 → ¬ (some q = Value.ownBlock (.slice Ao rs.length co)) := by
    intro B q cs t _ hq ht e
    obtain ⟨_, cs', hc⟩ := hty q e
    rw [hq] at hc
    injection hc with hc
    injection hc with _ hc
    rcases ht with rfl | rfl <;> exact absurd hc (by decide)
  refine ⟨⟨?_, by simp [ho.len], fun i h1 h2 => ?_⟩, hkA.toBelow (thenB hb hb2) (fun q hq => (hty q hq).1)⟩
  · rw [List.map_append, List.length_append]
    exact hown9
  · rcases Nat.lt_or_ge i rs.length with hi | hi
    · have hi' : i < xss.length := by rw [← ho.len]; exact hi
      simp only [List.getElem_append_left hi, List.getElem_append_left hi']
      exact (ho.rows i hi hi').keep hkA (hk _)
    · have hi2 : i = rs.length := by simp at h1; omega
      subst hi2
      have e1 : (rs ++ [(⟨Au, cu, os⟩ : Raw)])[rs.length] = ⟨Au, cu, os⟩ := by simp
      have e2 : (xss ++ [xs])[rs.length] = xs := by simp [ho.len]
      rw [e1, e2]
      exact (hoe.lower hb.size).keep hkA (hk _)

theorem info24' : (Try.prog.info? 24).map (fun i => (i.zero, i.size, i.bytes)) = some (some (.slice none 0 0), 1, 24) := info24
def RowsRel (w : World) (xss : List (List AEnt)) (v4 v3 : Value) (wr : World) : Prop :=
  ∃ (k : Nat) (rs : List Raw), v4 = .int .i64 k ∧ k ≤ xss.length ∧ OwnRows wr w.heap.size v3 rs (xss.take k) ∧ Below w.heap.size w wr
def RowsPost (w : World) (xss : List (List AEnt)) (r : Ending) (w' : World) : Prop :=
  ∃ v rs, r = .returned v ∧ OwnRows w' w.heap.size v rs xss ∧ Below w.heap.size w w'

set_option maxHeartbeats 1000000 in
theorem rows11 (A : Option Addr) (c : Nat) (rs : List Raw) (xss : List (List AEnt)) (w : World) (hr : RowsA w A rs xss) (hs : ∀ r ∈ rs, r.es.length * 56 ≤ 140737488355328) (hn : rs.length * 24 ≤ 140737488355328) :
    Calls Try.prog 11 #[.slice A rs.length c] w (RowsPost w xss) := by
  obtain ⟨i0, hi0, hz0, hz1, hz2⟩ := info_parts info24
  have HLA := Lib.hid hr.len
  go_enter Try.func11, Try.ntmps11
  go_wp2
  go_loopw [4, 3] (fun v4 v3 wr => RowsRel w xss v4 v3 wr) (fun v4 _ _ => rs.length - (intOf v4).toNat)
  case atStart => exact ⟨0, [], rfl, Nat.zero_le _, ⟨World.ownsRow_nil _ _ _ _, rfl, fun i h => by simp at h⟩, Below.refl _ _⟩
  case round =>
    obtain ⟨k, os, rfl, hk, ho, hb⟩ := hrel
    have hk' : k ≤ rs.length := by have := HLA.out; omega
    have HLO := Lib.hid ho.len
    obtain ⟨Ao, co, rfl⟩ := own_sl ho.own
    by_cases hlt : k < rs.length
    · have hk3 : k < xss.length := by have := HLA.out; omega
      have ea := (hr.rows k hlt hk3).below hb
      have hsk := hs rs[k] (List.getElem_mem hlt)
      obtain ⟨b, o, rfl, hc⟩ := hr.cells (by simpa using (by omega : 0 < rs.length))
      have p0 : wr.cell? ⟨b, o + k, none⟩ = some rs[k].val := keepc hb (hc k _ (by simp [hlt]))
      have HE : Hid (xss.take (k + 1) = xss.take k ++ [xss[k]]) := Lib.hid (List.take_succ_eq_append_getElem hk3)
      have hol : os.length ≤ k := by have := HLO.out; rw [List.length_take] at this; omega
      clear hc hr
      have hi1 : (k : Int) < (rs.length : Int) := by omega
      generalize xss[k] = x at *
      generalize rs[k] = ex at *
      go_wp2_with fail
      refine (all29 ex.A ex.c ex.es x wr ea hsk).mono ?_
      rintro r w2 ⟨u, es2, rfl, hoe, hb2⟩
      obtain ⟨Au, cu, rfl⟩ := own_sl hoe.own
      have ho2 := ho.below hb2
      have hHO := Lib.hid ho2
      clear ho2
      go_wp2_with (at_builtin; go_must (refine wpList_append_own _ rfl _ _ 22 rfl w.heap.size 24 i0 _ 1 24 Try.underlying22 hi0 hz0 hz1 hz2 rfl (by decide) _ os.length (os.map Raw.val) rfl (hHO.out.own.alloc _) ⟨w2.heap.size, 0, none⟩ 1 1 [.slice Au es2.length cu] rfl rfl (news_at _ #[.slice Au es2.length cu] 24 _ rfl) (by simp [Value.oneCell']) (by unfold maxLen; omega) (by omega) (by have := hb2.size; have := hb.size; simp; omega) ?_); intro v9 w9 hown9 hgrow9 _)
      have hfin := rows11_inv hHO.out hoe hb hb2 hown9 hgrow9
      clear hown9 hgrow9
      go_roundw
      case rel => exact ⟨k + 1, _, by go_num, by omega, by rw [HE.out]; exact hfin.1, hfin.2⟩
      case measure => simp [intOf]; omega
    · have HF : Hid (xss.take k = xss) := Lib.hid (by have := HLA.out; rw [List.take_of_length_le (by omega)])
      go_wp2
      go_ret
      exact ⟨_, os, rfl, by rw [← HF.out]; exact ho, hb⟩
end Go.Proofs.Ytjfggmkfnofldaa
