import Derived.Test.YtjfggmkfnofldaaL2
namespace Go.Proofs.Ytjfggmkfnofldaa
open Go.RowKit
set_option linter.unusedVariables false

theorem RowA.take {w : World} {A : Option Addr} {es : List Ent} {xs : List AEnt} (h : RowA w A es xs) (n : Nat) : RowA w A (es.take n) (xs.take n) := by
  have e : ∀ (es : List Ent) n, ecells (es.take n) = (ecells es).take (n * 4) := by
    intro es
    induction es with
    | nil => intro n; simp [ecells]
    | cons a l ih =>
      intro n
      cases n with
      | zero => simp [ecells]
      | succ n => rw [List.take_succ_cons, ecells_cons, ecells_cons, ih, show (n + 1) * 4 = n * 4 + 1 + 1 + 1 + 1 from by omega]; simp
  refine ⟨fun hp => ?_, by simp [h.len], fun i h1 h2 => ?_⟩
  · rw [e] at hp
    obtain ⟨b, o, e1, hc⟩ := h.cells (by rw [List.length_take] at hp; omega)
    refine ⟨b, o, e1, fun j u hu => hc j u ?_⟩
    rw [e, List.getElem?_take] at hu
    split at hu
    · exact hu
    · cases hu
  · simp only [List.getElem_take]
    exact h.ents i (by simp at h1; omega) (by simp at h2; omega)

theorem own_cap {w : World} {base n c m size : Nat} {A : Option Addr} {e : TypeId} {xs : List Value} (h : w.ownsRow base e size (.slice A n c) m xs) : n ≤ c := by
  rcases h.2 with ⟨hv, h0⟩ | ⟨g, cap, cur, hv, hb, hg, hc, _⟩
  · injection hv with _ h2 h3; omega
  · injection hv with _ h2 h3; omega
theorem limits_row {w : World} {A : Option Addr} {es : List Ent} {l : List AEnt} {m n : Nat} (h : RowA w A es (limA 0 0 l)) (hm : 1 ≤ m) (hn : n = m ∨ es.length ≤ m) : RowA w A (es.take m) (limA m 0 l) := by
  have e : limA (m : Int) 0 l = l.take m := by rw [limA, if_neg (by omega)]; congr 1
  rw [e]
  rw [limA, if_pos rfl] at h
  exact h.take m
theorem limits_row' {w : World} {A : Option Addr} {es : List Ent} {l : List AEnt} {m : Nat} (h : RowA w A es (limA 0 0 l)) (hm : 1 ≤ m) (hn : es.length ≤ m) : RowA w A es (limA m 0 l) := by
  have h2 := limits_row (n := m) h hm (.inl rfl)
  rwa [List.take_of_length_le hn] at h2
theorem wrap64_in (x : Int) (h0 : -9223372036854775808 ≤ x) (h1 : x ≤ 9223372036854775807) : wrap64 x = x := by unfold wrap64; omega
theorem tmod_bd (x : Int) : -30 < x.tmod 30 ∧ x.tmod 30 < 30 := by
  have h1 := Int.tmod_lt_of_pos x (b := 30) (by omega)
  have h2 : x.tmod 30 = if 0 ≤ x then x % 30 else -((-x) % 30) := by
    rcases Int.le_total 0 x with h | h
    · rw [if_pos h, Int.tmod_eq_emod_of_nonneg h]
    · have e : x = -(-x) := by omega
      rw [e, Int.neg_tmod, Int.tmod_eq_emod_of_nonneg (by omega)]
      split
      · have : x = 0 := by omega
        subst this; rfl
      · simp
  split at h2 <;> omega
theorem limits_m (most : Int) : ∃ m : Nat, wrap64 (1 + (wrap64 (most.tmod 30 + 30)).tmod 30) = m ∧ 1 ≤ m ∧ m ≤ 30 := by
  have hb := tmod_bd most
  have e1 : wrap64 (most.tmod 30 + 30) = most.tmod 30 + 30 := wrap64_in _ (by omega) (by omega)
  rw [e1, Int.tmod_eq_emod_of_nonneg (by omega), wrap64_in _ (by omega) (by omega)]
  exact ⟨(1 + (most.tmod 30 + 30) % 30).toNat, by omega, by omega, by omega⟩

set_option maxHeartbeats 1000000 in
theorem mergeLimits_any (A : Option Addr) (c : Nat) (nw : Bool) (most : Int) (rs : List Raw) (xss : List (List AEnt)) (w : World) (hr : RowsA w A rs xss) (hc : A = none → c = 0) (hm : (Lit.int .i64 most).wf = true) (hok : ∀ xs ∈ xss, ∀ a ∈ xs, AOk a) (hn : rs.length ≤ 100000000000) (ht : totA xss ≤ 100000000000) (hs : ∀ xs ∈ xss, xs.length * 56 ≤ 140737488355328) :
    Calls Try.prog 6 #[.slice A rs.length c, .bool nw, .int .i64 most] w fun e w' => e = .returned (.bool true) ∧ Below w.heap.size w w' := by
  have hs0 : ∀ r ∈ rs, r.es.length * 56 ≤ 140737488355328 := by
    intro r h
    obtain ⟨i, hi, rfl⟩ := List.getElem_of_mem h
    have hx : i < xss.length := by rw [← hr.len]; exact hi
    rw [(hr.rows i hi hx).len]
    exact hs _ (List.getElem_mem hx)
  have hrows : ∀ w', Below w.heap.size w w' → Calls Try.prog 11 #[.slice A rs.length c] w' (RowsPost w' xss) := fun w' hb => rows11 A c rs xss w' (hr.below hb) hs0 (by omega)
  have hall : ∀ (most : Int) (w1 : World) (A1 : Option Addr) (c1 : Nat) (rs1 : List Raw) (base : Nat), OwnRows w1 base (.slice A1 rs1.length c1) rs1 xss →
      Calls Try.prog 12 #[.slice A1 rs1.length c1, .bool nw, .int .i64 most] w1 (AllAPost w1 (limA most 0 (allA nw xss))) := by
    intro most w1 A1 c1 rs1 base ho1
    obtain ⟨hr1, hc1, _⟩ := ho1.rowsA
    refine all_A A1 c1 nw most rs1 xss w1 hr1 hok (by rw [hr1.len, ← hr.len]; exact hn) ht ?_
    intro r h
    obtain ⟨i, hi, rfl⟩ := List.getElem_of_mem h
    have hx : i < xss.length := by rw [← hr1.len]; exact hi
    rw [(hr1.rows i hi hx).len]
    exact hs _ (List.getElem_mem hx)
  have HW := Lib.hid hrows
  have HA := Lib.hid hall
  have hlen : (allA nw xss).length ≤ 100000000000 := Nat.le_trans (allA_length _ _) ht
  clear hr hrows hall hs0
  obtain ⟨m, hm1, hm2, hm3⟩ := limits_m most
  go_enter Try.func6, Try.ntmps6
  go_wp2_with fail
  rw [hm1]
  have HM := Lib.hid hm1
  clear hm1
  generalize wrap64 (most.tmod 30 + 30) = y1
  generalize most.tmod 30 = y2
  refine (HW.out w (Below.refl _ _)).mono ?_
  rintro r w1 ⟨v1, rs1, rfl, ho1, hb1⟩
  obtain ⟨A1, c1, rfl⟩ := own_sl ho1.own
  go_wp2_with fail
  refine (HA.out 0 w1 A1 c1 rs1 _ ho1).mono ?_
  rintro r w2 ⟨v2, os2, rfl, ho2, hb2⟩
  obtain ⟨A2, c2, rfl⟩ := own_sl ho2.own
  have HO2 := Lib.hid ho2
  have hb02 := thenB hb1 hb2
  clear ho2 ho1
  go_wp2_with fail
  refine (HW.out w2 hb02).mono ?_
  rintro r w3 ⟨v3, rs3, rfl, ho3, hb3⟩
  obtain ⟨A3, c3, rfl⟩ := own_sl ho3.own
  go_wp2_with fail
  refine (HA.out m w3 A3 c3 rs3 _ ho3).mono ?_
  rintro r w4 ⟨v4, os4, rfl, ho4, hb4⟩
  obtain ⟨A4, c4, rfl⟩ := own_sl ho4.own
  have HO4 := Lib.hid ho4
  clear ho4 ho3
  have hcap : os2.length ≤ c2 := own_cap HO2.out.own
  have HO24 := Lib.hid (HO2.out.below (thenB hb3 hb4))
  have hl2 : os2.length ≤ 100000000000 := by rw [HO2.out.len, limA, if_pos rfl]; exact hlen
  have hl4 : os4.length ≤ 100000000000 := by rw [HO4.out.len]; exact Nat.le_trans (limA_length _ _ _) hlen
  by_cases hml : m ≤ os2.length
  · have hmc : m ≤ c2 := by omega
    have HS := Lib.hid (sames_true A4 A2 c4 c2 os4 (os2.take m) _ w4 HO4.out.rowA.2.1 (limits_row (HO24.out.rowA.2.1) hm2 (.inl rfl)) (by omega) (by rw [List.length_take]; omega))
    have hh := HS.out
    rw [List.length_take, Nat.min_eq_left (by omega)] at hh
    have HS2 := Lib.hid hh
    clear hh
    go_wp2_with fail
    refine (HS2.out).mono ?_
    rintro r w5 ⟨rfl, hb5⟩
    go_wp2_with (go_at_call 16; refine (knows_any _).mono ?_; rintro r w9 ⟨rfl, hb9⟩)
    go_ret
    exact ⟨rfl, thenB (thenB (thenB (thenB hb02 hb3) hb4) hb5) hb9⟩
  · have hml' : os2.length ≤ m := by omega
    have HS := Lib.hid (sames_true A4 A2 c4 c2 os4 os2 _ w4 HO4.out.rowA.2.1 (limits_row' (HO24.out.rowA.2.1) hm2 hml') (by omega) (by omega))
    go_wp2_with fail
    refine (HS.out).mono ?_
    rintro r w5 ⟨rfl, hb5⟩
    go_wp2_with (go_at_call 16; refine (knows_any _).mono ?_; rintro r w9 ⟨rfl, hb9⟩)
    go_ret
    exact ⟨rfl, thenB (thenB (thenB (thenB hb02 hb3) hb4) hb5) hb9⟩
end Go.Proofs.Ytjfggmkfnofldaa
