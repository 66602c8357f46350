import Derived.Test.YtjfggmkfnofldaaC4
namespace Go.Proofs.Ytjfggmkfnofldaa
open Go.RowKit
set_option linter.unusedVariables false

theorem before_of {s t s' t' : Int} {b : Bool} (h : b = true ↔ t < t' ∨ (t = t' ∧ s < s')) : beforeE s t s' t' = b := by
  rw [Bool.eq_iff_iff, before_iff, h]

set_option maxHeartbeats 400000 in
theorem rbefore_any (s1 t1 s2 t2 : Int) (l1 l2 n1 n2 : Value) (w : World) :
    Calls Try.prog 34 #[.agg #[.int .i64 s1, .int .i64 t1, l1, n1], .agg #[.int .i64 s2, .int .i64 t2, l2, n2]] w
      fun e w' => e = .returned (.bool (beforeE s1 t1 s2 t2)) ∧ Below w.heap.size w w' := by
  have hbB : Below w.heap.size w ((w.alloc (.cells #[.int .i64 s1, .int .i64 t1, l1, n1] 34)).alloc (.cells #[.int .i64 s2, .int .i64 t2, l2, n2] 34)) := ((Below.refl _ _).alloc (Nat.le_refl _) _).alloc (by simp) _
  by_cases h1 : t1 < t2
  · have hr : beforeE s1 t1 s2 t2 = true := before_of (by simp [h1])
    have HR := Lib.hid hr; clear hr
    go_enter Try.func34, Try.ntmps34
    go_wp2
    go_ret
    exact ⟨by rw [HR.out]; rfl, hbB⟩
  · by_cases h2 : t1 = t2
    · have h2' : (t1 == t2) = true := by simpa using h2
      by_cases h3 : s1 < s2
      · have hr : beforeE s1 t1 s2 t2 = true := before_of (by simp [h2, h3])
        have HR := Lib.hid hr; clear hr h2
        go_enter Try.func34, Try.ntmps34
        go_wp2
        go_ret
        exact ⟨by rw [HR.out]; rfl, hbB⟩
      · have hr : beforeE s1 t1 s2 t2 = false := before_of (by simp [h2, h3])
        have HR := Lib.hid hr; clear hr h2
        go_enter Try.func34, Try.ntmps34
        go_wp2
        go_ret
        exact ⟨by rw [HR.out]; rfl, hbB⟩
    · have h2' : (t1 == t2) = false := by simpa using h2
      have hr : beforeE s1 t1 s2 t2 = false := before_of (by simp; omega)
      have HR := Lib.hid hr; clear hr h2
      go_enter Try.func34, Try.ntmps34
      go_wp2
      go_ret
      exact ⟨by rw [HR.out]; rfl, hbB⟩

set_option maxHeartbeats 400000 in
theorem rfirst_any (s1 t1 s2 t2 : Int) (l1 l2 n1 n2 : Value) (nw : Bool) (w : World) :
    Calls Try.prog 31 #[.agg #[.int .i64 s1, .int .i64 t1, l1, n1], .agg #[.int .i64 s2, .int .i64 t2, l2, n2], .bool nw] w
      fun e w' => e = .returned (.bool (firstE nw s1 t1 s2 t2)) ∧ Below w.heap.size w w' := by
  cases nw
  · go_enter Try.func31, Try.ntmps31
    go_wp2_with fail
    refine (rbefore_any s1 t1 s2 t2 l1 l2 n1 n2 _).mono ?_
    rintro e w1 ⟨rfl, hb1⟩
    go_wp2
    go_ret
    exact ⟨rfl, (((Below.refl _ _).alloc (by simp) _).alloc (by simp) _).trans (hb1.mono (by simp; omega))⟩
  · go_enter Try.func31, Try.ntmps31
    go_wp2_with fail
    refine (rbefore_any s2 t2 s1 t1 l2 l1 n2 n1 _).mono ?_
    rintro e w1 ⟨rfl, hb1⟩
    go_wp2
    go_ret
    exact ⟨rfl, (((Below.refl _ _).alloc (by simp) _).alloc (by simp) _).trans (hb1.mono (by simp; omega))⟩

theorem wrap_in (n : Int) (h0 : -9223372036854775808 ≤ n) (h1 : n ≤ 9223372036854775807) : IntKind.i64.wrap n = n := IntWalk.i64_in n ⟨h0, h1⟩
/-- Is a row ordered? -/
def ordB (nw : Bool) : List Ent → Bool
  | a :: b :: l => !entFirst nw b a && ordB nw (b :: l)
  | _ => true
theorem ordB_iff (nw : Bool) (l : List Ent) : ordB nw l = true ↔ ∀ i (h : i + 1 < l.length), entFirst nw l[i + 1] l[i] = false := by
  induction l with
  | nil => simp [ordB]
  | cons a l ih =>
    cases l with
    | nil => simp [ordB]
    | cons b l =>
      rw [ordB]
      simp only [Bool.and_eq_true, Bool.not_eq_true', ih]
      constructor
      · rintro ⟨h1, h2⟩ i hi
        cases i with
        | zero => exact h1
        | succ i => exact h2 i (by simpa using hi)
      · intro h
        exact ⟨h 0 (by simp), fun i hi => h (i + 1) (by simpa using hi)⟩
/-- No entry up to number k stands ahead of the one before it. -/
def ordTo (nw : Bool) (l : List Ent) (k : Nat) : Prop := ∀ i (h : i + 1 < l.length), i + 1 < k → entFirst nw l[i + 1] l[i] = false

theorem entCells_of {w : World} {b o : Nat} {es : List Ent} (hc : ∀ j u, (ecells es)[j]? = some u → w.cell? ⟨b, o + j, none⟩ = some u) (i : Nat) (h : i < es.length) : EntCells w b (o + i * 4) es[i] := by
  obtain ⟨a0, a1, a2, a3⟩ := ecells_get es i h
  exact ⟨hc _ _ a0, by have := hc _ _ a1; rwa [← Nat.add_assoc] at this, by have := hc _ _ a2; rwa [← Nat.add_assoc] at this, by have := hc _ _ a3; rwa [← Nat.add_assoc] at this⟩

def OrdRel (nw : Bool) (w : World) (es : List Ent) (v5 : Value) (wr : World) : Prop := ∃ k : Nat, v5 = .int .i64 k ∧ 1 ≤ k ∧ (k ≤ es.length ∨ k = 1) ∧ ordTo nw es k ∧ Below w.heap.size w wr

set_option maxHeartbeats 1000000 in
theorem rord_any (A : Option Addr) (c : Nat) (nw : Bool) (es : List Ent) (w : World) (hr : RowCells w A (ecells es)) (hs : es.length ≤ 9000000000000000000) :
    Calls Try.prog 17 #[.slice A es.length c, .bool nw] w fun e w' => e = .returned (.bool (ordB nw es)) ∧ Below w.heap.size w w' := by
  go_enter Try.func17, Try.ntmps17
  go_wp2
  go_loopw [5] (fun v5 wr => OrdRel nw w es v5 wr) (fun v5 _ => es.length - (intOf v5).toNat)
  case atStart => exact ⟨1, rfl, Nat.le_refl _, .inr rfl, fun i h h1 => by omega, Below.refl _ _⟩
  case round =>
    obtain ⟨k, rfl, hk1, hk2, ho, hb⟩ := hrel
    have HO := Lib.hid ho; clear ho
    by_cases hlt : k < es.length
    · have hk0 : 0 < (ecells es).length := by rw [ecells_length]; omega
      obtain ⟨b, o, rfl, hc⟩ := hr hk0
      have e1 := (entCells_of (fun j u hu => keepc hb (hc j u hu)) k hlt)
      have e0 := (entCells_of (fun j u hu => keepc hb (hc j u hu)) (k - 1) (by omega))
      have HE : Hid (entFirst nw es[k] es[k - 1] = firstE nw es[k].s es[k].t es[k - 1].s es[k - 1].t) := Lib.hid rfl
      have HK : Hid (entFirst nw es[k] es[k - 1] = false → ordTo nw es (k + 1)) := Lib.hid (fun hf i h h1 => by
        rcases Nat.lt_or_ge (i + 1) k with h2 | h2
        · exact HO.out i h h2
        · obtain rfl : i = k - 1 := by omega
          have : k - 1 + 1 = k := by omega
          simpa [this] using hf)
      have HN : Hid (entFirst nw es[k] es[k - 1] = true → ordB nw es = false) := Lib.hid (fun hf => by
        cases hq : ordB nw es with
        | false => rfl
        | true =>
          have h3 := (ordB_iff nw es).1 hq (k - 1) (by omega)
          have : k - 1 + 1 = k := by omega
          simp only [this] at h3
          rw [h3] at hf; cases hf)
      clear hc hr
      obtain ⟨p0, p1, p2, p3⟩ := e1
      obtain ⟨q0, q1, q2, q3⟩ := e0
      generalize es[k] = x at *
      generalize es[k - 1] = y at *
      go_wp2_with fail
      have hw1 : IntKind.i64.wrap ((k : Int) - 1) = ((k - 1 : Nat) : Int) := by rw [wrap_in _ (by omega) (by omega)]; omega
      have hw2 : ((k - 1 : Nat) : Int) < (es.length : Int) := by omega
      have hw3 : (0 : Int) ≤ ((k - 1 : Nat) : Int) := by omega
      go_region_law
        (first
          | (go_simp; go_at_call 31; refine (rfirst_any _ _ _ _ _ _ _ _ _ _).mono ?_; rintro e w2 ⟨rfl, hb2⟩))
      all_goals
        have hbb := thenB hb (undrew hb2)
        clear hw1 hw2 hw3 p0 p1 p2 p3 q0 q1 q2 q3 hb2 hb
        cases hf : firstE nw x.s x.t y.s y.t with
        | true =>
          have HF := Lib.hid hf; clear hf
          go_wp2_with fail
          go_ret
          exact ⟨by rw [HN.out (HE.out.trans HF.out)]; rfl, hbb⟩
        | false =>
          have HF := Lib.hid hf; clear hf
          go_wp2_with fail
          go_roundw
          case rel => exact ⟨k + 1, by go_num, by omega, .inl (by omega), HK.out (HE.out.trans HF.out), hbb⟩
          case measure => simp [intOf]; omega
    · have hfin : ordB nw es = true := (ordB_iff nw es).2 fun i h => HO.out i h (by omega)
      have HF := Lib.hid hfin; clear hfin
      go_wp2
      go_ret
      exact ⟨by rw [HF.out]; rfl, hb⟩
end Go.Proofs.Ytjfggmkfnofldaa
