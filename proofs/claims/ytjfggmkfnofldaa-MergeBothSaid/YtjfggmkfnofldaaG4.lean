import Derived.Test.YtjfggmkfnofldaaG3
namespace Go.Proofs.Ytjfggmkfnofldaa
open Go.RowKit
set_option linter.unusedVariables false

/-- The row that Turn works on: so many entries already have labels of their own. -/
structure TurnIs (w wr : World) (g c : Nat) (es os : List Ent) (xs : List AEnt) (k : Nat) : Prop where
  own : wr.ownsRow w.heap.size 34 4 (.slice (some ⟨g, 0, none⟩) es.length c) es.length (ecells os)
  len : os.length = es.length
  done : ∀ i (h : i < os.length) (h' : i < xs.length), i < k → OwnEnt wr w.heap.size os[i] xs[i]
  rest : ∀ i (h : i < os.length) (h' : i < es.length), k ≤ i → os[i] = es[i]
  bel : Below w.heap.size w wr
def TurnRel (w : World) (g c : Nat) (es : List Ent) (xs : List AEnt) (v9 : Value) (wr : World) : Prop :=
  ∃ (k : Nat) (os : List Ent), v9 = .int .i64 k ∧ k ≤ es.length ∧ TurnIs w wr g c es os xs k

theorem ecells_set2 (es : List Ent) (i : Nat) (h : i < es.length) (A : Option Addr) (n c : Nat) : (ecells es).set (i * 4 + 2) (.slice A n c) = ecells (es.set i { es[i] with A := A, n := n, c := c }) := by
  induction es generalizing i with
  | nil => simp at h
  | cons a l ih =>
    cases i with
    | zero => simp [ecells_cons]
    | succ i =>
      rw [List.set_cons_succ, ecells_cons, ecells_cons, show (i + 1) * 4 + 2 = i * 4 + 2 + 1 + 1 + 1 + 1 from by omega]
      simp only [List.set_cons_succ, List.getElem_cons_succ]
      rw [ih i (by simpa using h)]

theorem turn_step {w wr w2 : World} {g c k : Nat} {es os : List Ent} {xs : List AEnt} (h : TurnIs w wr g c es os xs k) (hk : k < es.length) (hx : k < xs.length) {Au : Option Addr} {cu : Nat} (ha : EntA w es[k] xs[k])
    (hu : w2.ownsRow wr.heap.size 55 2 (.slice Au es[k].n cu) es[k].n (lcells xs[k].ls)) (hb : Below wr.heap.size wr w2) :
    TurnIs w (w2.setCell ⟨g, k * 4 + 2, none⟩ (.slice Au es[k].n cu)) g c es (os.set k { es[k] with A := Au, c := cu }) xs (k + 1) := by
  have hko : k < os.length := by rw [h.len]; exact hk
  have h2 := ownsRow_keepF h.own (KeepF.of_below hb (fun _ => False)) (fun _ _ h => h)
  have h3 := (h2.stored (k * 4 + 2) (.slice Au es[k].n cu)).1
  rw [ecells_set2 os k hko, h.rest k hko hk (Nat.le_refl _)] at h3
  obtain ⟨g', e', hbg, cur, hcur⟩ := own_at h2 (by omega)
  injection e' with e'; injection e' with e'
  subst e'
  have hkF := KeepF.set w2 g (k * 4 + 2) (.slice Au es[k].n cu)
  have hno : ∀ B q cs, B ≤ q → w2.heap[q]? = some (.cells cs 55 (0, 0)) → ¬ q = g := by
    rintro B q cs _ hq rfl
    rw [hcur] at hq
    injection hq with hq; injection hq with _ hq; exact absurd hq (by decide)
  refine ⟨h3, by simp [h.len], fun i h1 h2 hi => ?_, fun i h1 h2 hi => ?_, (thenB h.bel hb).setCell hbg _⟩
  · rcases Nat.lt_or_ge i k with hlt | hge
    · have e : (os.set k { es[k] with A := Au, c := cu })[i] = os[i]'(by simpa using h1) := List.getElem_set_ne (by omega) _
      rw [e]
      exact ((h.done i (by simpa using h1) h2 hlt).keep (KeepF.of_below hb (fun _ => False)) (fun _ _ _ _ h => h)).keep hkF (hno _)
    · have hik : i = k := by omega
      subst hik
      rw [List.getElem_set_self]
      have hown : OwnEnt w2 w.heap.size { es[i] with A := Au, c := cu } xs[i] := ⟨ha.s, ha.t, ha.x, ha.ls.2.1.symm, ha.ls.2.2.2, ownsRow_lower hu h.bel.size⟩
      exact hown.keep hkF (hno _)
  · rw [List.getElem_set_ne (by omega)]
    exact h.rest i (by simpa using h1) h2 (by omega)

theorem turn_end {w wr w2 : World} {g c k : Nat} {es os : List Ent} {xs : List AEnt} (h : TurnIs w wr g c es os xs k) (hk : es.length ≤ k) (hx : es.length = xs.length)
    (ho : w2.ownsRow w.heap.size 34 4 (.slice (some ⟨g, 0, none⟩) es.length c) es.length (ecells os.reverse)) (hkp : KeepF wr w2 (fun q => some q = (Value.slice (some ⟨g, 0, none⟩) es.length c).ownBlock)) :
    OwnRowA w2 w.heap.size (.slice (some ⟨g, 0, none⟩) es.length c) os.reverse xs.reverse ∧ Below w.heap.size w w2 := by
  rcases Nat.eq_zero_or_pos es.length with h0 | hp
  · have e1 : os = [] := List.eq_nil_of_length_eq_zero (by rw [h.len]; exact h0)
    have e2 : xs = [] := List.eq_nil_of_length_eq_zero (by omega)
    subst e1; subst e2
    refine ⟨⟨?_, rfl, fun i h => by simp at h⟩, hkp.toBelow h.bel (fun q hq => (h.own.lt q hq.symm).1)⟩
    rw [h0] at ho ⊢
    exact ho
  · obtain ⟨g', e', hbg, cur, hcur⟩ := own_at h.own hp
    injection e' with e'; injection e' with e'
    subst e'
    have hno : ∀ q cs, w.heap.size ≤ q → wr.heap[q]? = some (.cells cs 55 (0, 0)) → ¬ some q = (Value.slice (some ⟨g, 0, none⟩) es.length c).ownBlock := by
      intro q cs _ hq e
      obtain rfl : q = g := by injection e
      rw [hcur] at hq
      injection hq with hq; injection hq with _ hq; exact absurd hq (by decide)
    have hol : os.reverse.length = es.length := by rw [List.length_reverse, h.len]
    refine ⟨⟨by rw [hol]; exact ho, by rw [hol, List.length_reverse, hx], fun i h1 h2 => ?_⟩, hkp.toBelow h.bel (fun q hq => (h.own.lt q hq.symm).1)⟩
    have hlen := h.len
    have h3 : i < es.length := by omega
    rw [List.getElem_reverse, List.getElem_reverse]
    have e : os.length - 1 - i = xs.length - 1 - i := by omega
    simp only [e]
    exact (h.done (xs.length - 1 - i) (by omega) (by omega) (by omega)).keep hkp hno

set_option maxHeartbeats 400000 in
theorem reverse43_nil (A : Option Addr) (c : Nat) (w : World) : Calls Try.prog 43 #[.slice A 0 c] w fun e w' => e = .returned (.tuple #[]) ∧ w = w' := by
  go_enter Try.func43, Try.ntmps43
  go_wp2
  refine wp_loop_rounds 1 ?_; rw [rounds_succ]
  go_wp2
  go_end0
  exact ⟨rfl, rfl⟩

def TurnPost (w : World) (xs : List AEnt) (r : Ending) (w' : World) : Prop :=
  ∃ v os, r = .returned v ∧ OwnRowA w' w.heap.size v os xs.reverse ∧ Below w.heap.size w w'

set_option maxHeartbeats 1000000 in
theorem turn30 (A : Option Addr) (c : Nat) (es : List Ent) (xs : List AEnt) (w : World) (hr : RowA w A es xs) (hs : es.length * 56 ≤ 140737488355328) :
    Calls Try.prog 30 #[.slice A es.length c] w (TurnPost w xs) := by
  have hcl := clone24 A es.length c (ecells es) w (ecells_length es) (ecells_one es) hr.cells hs
  have HCL := Lib.hid hcl; clear hcl
  go_enter Try.func30, Try.ntmps30
  go_wp2_with fail
  refine (HCL.out).mono ?_
  rintro r w1 ⟨v1, rfl, hown, hb1⟩
  obtain ⟨Av, cv, rfl⟩ := own_sl hown
  by_cases h0 : es.length = 0
  · have e1 : es = [] := List.eq_nil_of_length_eq_zero h0
    have e2 : xs = [] := List.eq_nil_of_length_eq_zero (by rw [← hr.len]; exact h0)
    subst e1; subst e2
    have HO := Lib.hid hown; clear hown
    go_wp2_with fail
    refine wp_loop_rounds 1 ?_; rw [rounds_succ]
    go_wp2_with (go_at_call 43; refine (reverse43_nil _ _ _).mono ?_; rintro r w2 ⟨rfl, rfl⟩)
    go_ret
    exact ⟨_, [], rfl, ⟨HO.out, rfl, fun i h => by simp at h⟩, hb1⟩
  · obtain ⟨g, rfl, hbg, _⟩ := own_at hown (by omega)
    have hst : TurnIs w w1 g cv es es xs 0 := ⟨hown, rfl, fun i _ _ h => by omega, fun i _ _ _ => rfl, hb1⟩
    have HH := Lib.hid h0; clear h0
    go_wp2_with fail
    go_loopw [9, 4] (fun v9 v4 wr => TurnRel w g cv es xs v9 wr) (fun v9 _ _ => es.length - (intOf v9).toNat)
    case atStart => exact ⟨0, es, rfl, Nat.zero_le _, hst⟩
    case round =>
      obtain ⟨k, os, rfl, hk, ht⟩ := hrel
      clear hst hown
      by_cases hlt : k < es.length
      · have hxk : k < xs.length := by have := hr.len; omega
        have ea := hr.ents k hlt hxk
        have hko : k < os.length := by rw [ht.len]; exact hlt
        obtain ⟨p0, p1, p2, p3⟩ := own_ecells ht.own k hko
        have hf := own_frozen ht.own (k * 4 + 2)
        have e1 := ht.rest k hko hlt (Nat.le_refl _)
        rw [e1] at p2
        have hc := clone32 es[k].A es[k].n es[k].c (lcells xs[k].ls) wr (by rw [lcells_length, ea.ls.2.1]) (lcells_one _) (ea.ls.1.below ht.bel) ea.ls.2.2.2
        have HC := Lib.hid hc; clear hc
        have HS := Lib.hid (fun Au cu w2 h1 h2 => turn_step (Au := Au) (cu := cu) (w2 := w2) ht hlt hxk ea h1 h2)
        have HI : Hid (∀ w2, Below wr.heap.size wr w2 → w2.frozen? ⟨g, k * 4 + 2, none⟩ = false ∧ w2.cell? ⟨g, k * 4 + 2, none⟩ = some (.slice es[k].A es[k].n es[k].c)) := Lib.hid (fun w2 h2 => by
          have hgl : g < wr.heap.size := World.block_lt_of_cell? wr _ p2
          exact ⟨(h2.frozen (p := ⟨g, k * 4 + 2, none⟩) hgl).trans hf, keepc h2 p2⟩)
        have hi1 : (k : Int) < (es.length : Int) := by omega
        clear p0 p1 p3 e1 ht ea
        generalize es[k] = ex at *
        generalize xs[k] = ax at *
        go_wp2_with fail
        refine (HC.out).mono ?_
        rintro r w2 ⟨u, rfl, hu, hb2⟩
        obtain ⟨Au, cu, rfl⟩ := own_sl hu
        have HS2 := Lib.hid (HS.out Au cu w2 hu hb2)
        obtain ⟨hf2, hc2⟩ := HI.out w2 hb2
        clear hu
        go_wp2_with fail
        go_roundw
        case rel => exact ⟨k + 1, _, by go_num, by omega, HS2.out⟩
        case measure => simp [intOf]; omega
      · have HT := Lib.hid ht
        have hrev := reverse43 g cv w.heap.size os wr (by rw [ht.len]; exact ht.own) (by have := ht.len; omega)
        rw [ht.len] at hrev
        have HR := Lib.hid hrev
        clear hrev ht
        go_wp2_with fail
        refine (HR.out).mono ?_
        rintro r w2 ⟨rfl, ho2, hk2⟩
        rw [HT.out.len] at ho2
        have hfin := turn_end HT.out (by omega) hr.len ho2 hk2
        clear ho2
        go_wp2_with fail
        go_ret
        exact ⟨_, _, rfl, hfin.1, hfin.2⟩
end Go.Proofs.Ytjfggmkfnofldaa
