import Derived.Test.YtjfggmkfnofldaaF1
namespace Go.Proofs.Ytjfggmkfnofldaa
open Go.RowKit
set_option linter.unusedVariables false

theorem ecells_cons (a : Ent) (l : List Ent) : ecells (a :: l) = .int .i64 a.s :: .int .i64 a.t :: .slice a.A a.n a.c :: .string a.x :: ecells l := by simp [ecells]
theorem ecells_set (es : List Ent) (i : Nat) (x : Ent) : ((((ecells es).set (i * 4) (.int .i64 x.s)).set (i * 4 + 1) (.int .i64 x.t)).set (i * 4 + 2) (.slice x.A x.n x.c)).set (i * 4 + 3) (.string x.x) = ecells (es.set i x) := by
  induction es generalizing i with
  | nil => simp [ecells]
  | cons a l ih =>
    cases i with
    | zero => simp [ecells_cons]
    | succ i =>
      rw [List.set_cons_succ, ecells_cons, ecells_cons, ← ih i, show (i + 1) * 4 = i * 4 + 1 + 1 + 1 + 1 from by omega]
      simp [List.set_cons_succ]
/-- An entry stored into a row. -/
def put4 (w : World) (g k : Nat) (x : Ent) : World :=
  (((w.setCell ⟨g, k, none⟩ (.int .i64 x.s)).setCell ⟨g, k + 1, none⟩ (.int .i64 x.t)).setCell ⟨g, k + 2, none⟩ (.slice x.A x.n x.c)).setCell ⟨g, k + 3, none⟩ (.string x.x)
theorem own_put4 {w : World} {base g n c : Nat} {es : List Ent} (h : w.ownsRow base 34 4 (.slice (some ⟨g, 0, none⟩) n c) n (ecells es)) (i : Nat) (x : Ent) :
    (put4 w g (i * 4) x).ownsRow base 34 4 (.slice (some ⟨g, 0, none⟩) n c) n (ecells (es.set i x)) := by
  have h1 := ((((h.stored (i * 4) (.int .i64 x.s)).1.stored (i * 4 + 1) (.int .i64 x.t)).1.stored (i * 4 + 2) (.slice x.A x.n x.c)).1.stored (i * 4 + 3) (.string x.x)).1
  rw [ecells_set] at h1
  exact h1
theorem keep_put4 (w : World) (g k : Nat) (x : Ent) : KeepF w (put4 w g k x) (fun q => q = g) := by
  unfold put4
  exact (((KeepF.set w g _ _).trans (KeepF.set _ g _ _) (fun q h => .inl h)).trans (KeepF.set _ g _ _) (fun q h => .inl h)).trans (KeepF.set _ g _ _) (fun q h => .inl h)
theorem own_ecells {w : World} {base g n c m : Nat} {es : List Ent} (h : w.ownsRow base 34 4 (.slice (some ⟨g, 0, none⟩) n c) m (ecells es)) (i : Nat) (hi : i < es.length) : EntCells w g (i * 4) es[i] := by
  have := entCells_of (w := w) (b := g) (o := 0) (es := es) (fun j u hu => by
    have := h.cells (g := g) rfl j u hu
    rwa [addr_add] at this) i hi
  simpa using this

/-- The first k and the last k entries are exchanged. -/
def RevTo (es L : List Ent) (k : Nat) : Prop := L.length = es.length ∧ ∀ m, m < es.length → L[m]? = if m < k ∨ es.length - k ≤ m then es[es.length - 1 - m]? else es[m]?
theorem revTo_zero (es : List Ent) : RevTo es es 0 := ⟨rfl, fun m hm => by rw [if_neg (by omega)]⟩
theorem revTo_end (es L : List Ent) (k : Nat) (h : RevTo es L k) (hk : es.length ≤ 2 * k + 1) : L = es.reverse := by
  apply List.ext_getElem?
  intro m
  rcases Nat.lt_or_ge m es.length with hm | hm
  · rw [h.2 m hm, List.getElem?_reverse hm]
    split
    · rfl
    · congr 1; omega
  · rw [List.getElem?_eq_none (by rw [h.1]; exact hm), List.getElem?_eq_none (by simpa using hm)]
theorem revTo_succ (es L : List Ent) (k : Nat) (h : RevTo es L k) (hk : 2 * k + 1 < es.length) (hi : k < L.length) (hj : es.length - 1 - k < L.length) : RevTo es ((L.set k L[es.length - 1 - k]).set (es.length - 1 - k) L[k]) (k + 1) := by
  refine ⟨by simp [h.1], fun m hm => ?_⟩
  have hl := h.1
  rw [List.getElem?_set]
  by_cases e : es.length - 1 - k = m
  · rw [if_pos e, if_pos (by simp; omega), if_pos (by omega)]
    have := h.2 k (by omega)
    rw [if_neg (by omega)] at this
    rw [show es.length - 1 - m = k from by omega, ← this, List.getElem?_eq_getElem hi]
  · rw [if_neg e, List.getElem?_set]
    by_cases e2 : k = m
    · rw [if_pos e2, if_pos (by omega), if_pos (by omega)]
      have := h.2 (es.length - 1 - k) (by omega)
      rw [if_neg (by omega)] at this
      rw [show es.length - 1 - m = es.length - 1 - k from by omega, ← this, List.getElem?_eq_getElem hj]
    · rw [if_neg e2, h.2 m hm]
      by_cases c : m < k ∨ es.length - k ≤ m
      · rw [if_pos c, if_pos (by omega)]
      · rw [if_neg c, if_neg (by omega)]

def RevRel (w : World) (base g c : Nat) (es : List Ent) (v2 v3 : Value) (wr : World) : Prop :=
  ∃ (k : Nat) (L : List Ent), v2 = .int .i64 k ∧ v3 = .int .i64 ((es.length : Int) - 1 - k) ∧ 2 * k ≤ es.length + 1 ∧ RevTo es L k ∧ wr.ownsRow base 34 4 (.slice (some ⟨g, 0, none⟩) es.length c) es.length (ecells L) ∧ KeepF w wr (fun q => q = g)
def RevPost (w : World) (base : Nat) (v : Value) (es : List Ent) (e : Ending) (w' : World) : Prop :=
  e = .returned (.tuple #[]) ∧ w'.ownsRow base 34 4 v es.length (ecells es.reverse) ∧ KeepF w w' (fun q => some q = v.ownBlock)

set_option maxHeartbeats 2000000 in
theorem reverse43 (g c base : Nat) (es : List Ent) (w : World) (h : w.ownsRow base 34 4 (.slice (some ⟨g, 0, none⟩) es.length c) es.length (ecells es)) (hs : es.length ≤ 9000000000000000) :
    Calls Try.prog 43 #[.slice (some ⟨g, 0, none⟩) es.length c] w (RevPost w base (.slice (some ⟨g, 0, none⟩) es.length c) es) := by
  have hw0 : IntKind.i64.wrap ((es.length : Int) - 1) = (es.length : Int) - 1 := wrap_in _ (by omega) (by omega)
  go_enter Try.func43, Try.ntmps43
  go_wp2
  go_loopw [2, 3] (fun v2 v3 wr => RevRel w base g c es v2 v3 wr) (fun v2 _ _ => es.length - (intOf v2).toNat)
  case atStart => exact ⟨0, es, rfl, by simp, by omega, revTo_zero es, h, KeepF.refl _ _⟩
  case round =>
    obtain ⟨k, L, rfl, rfl, hk, hL, ho, hkp⟩ := hrel
    by_cases hlt : 2 * k + 1 < es.length
    · have hlt2 : (k : Int) < (es.length : Int) - 1 - k := by omega
      have hkl : k < L.length := by rw [hL.1]; omega
      have hjl : es.length - 1 - k < L.length := by rw [hL.1]; omega
      obtain ⟨p0, p1, p2, p3⟩ := own_ecells ho k hkl
      obtain ⟨q0, q1, q2, q3⟩ := own_ecells ho (es.length - 1 - k) hjl
      have HS := Lib.hid (revTo_succ es L k hL hlt hkl hjl)
      have HP := Lib.hid (own_put4 (own_put4 ho k L[es.length - 1 - k]) (es.length - 1 - k) L[k])
      have HK := Lib.hid (((keep_put4 wr g (k * 4) L[es.length - 1 - k]).trans (keep_put4 _ g ((es.length - 1 - k) * 4) L[k]) (fun q h => .inl h)))
      have hfz := fun i => own_frozen ho i
      have f0 := hfz (k * 4)
      have f1 := hfz (k * 4 + 1)
      have f2 := hfz (k * 4 + 2)
      have f3 := hfz (k * 4 + 3)
      have g0 := hfz ((es.length - 1 - k) * 4)
      have g1 := hfz ((es.length - 1 - k) * 4 + 1)
      have g2 := hfz ((es.length - 1 - k) * 4 + 2)
      have g3 := hfz ((es.length - 1 - k) * 4 + 3)
      have hje : (es.length : Int) - 1 - k = ((es.length - 1 - k : Nat) : Int) := by omega
      have hne : k ≠ es.length - 1 - k := by omega
      clear hfz hL ho
      unfold put4 at HP HK
      generalize hX : L[k] = x at *
      generalize hY : L[es.length - 1 - k] = y at *
      rw [hje] at hlt2 ⊢
      generalize hJ : es.length - 1 - k = j at *
      have hj1 : (j : Int) < (es.length : Int) := by omega
      have hj2 : (k : Int) < (es.length : Int) := by omega
      go_wp2_with fail
      go_region
      have HJ := Lib.hid hJ
      clear hX hY hJ p0 p1 p2 p3 q0 q1 q2 q3 f0 f1 f2 f3 g0 g1 g2 g3
      go_wp2_with fail
      go_roundw
      case rel => exact ⟨k + 1, _, by go_num, by have := HJ.out; go_num, by omega, HS.out, HP.out.drew2, (hkp.trans HK.out (fun q h => .inl h)).drew⟩
      case measure => simp [intOf]; omega
    · have hge : ¬ ((k : Int) < (es.length : Int) - 1 - k) := by omega
      have HF := Lib.hid (revTo_end es L k hL (by omega))
      clear hL
      go_wp2
      go_end0
      exact ⟨rfl, by rw [← HF.out]; exact ho, hkp.mono (fun q h => by rw [h]; rfl)⟩
end Go.Proofs.Ytjfggmkfnofldaa
