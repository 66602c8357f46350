import Derived.Test.YtojocffjajcdmaaMQ
namespace Go.Proofs.Ytojocffjajcdmaa
open Go.RowKit Go.Maps Go.Proofs.YtojocffjajcdmaaW.PrintWords Go.Proofs.YtojocffjajcdmaaW.PrintLast Go.Proofs.YtojocffjajcdmaaW.PrintMore PPostingsLists
set_option linter.unusedVariables false
set_option linter.unusedSimpArgs false

/-! ### The plain law of sets -/
theorem m_and {a b r : List Int} (h : isPick fAnd a b r) (i : Int) : i ∈ r ↔ i ∈ a ∧ i ∈ b := by
  rw [h.2, ← mem_inL, ← mem_inL]; unfold fAnd; cases inL a i <;> cases inL b i <;> simp
theorem m_or {a b r : List Int} (h : isPick fOr a b r) (i : Int) : i ∈ r ↔ i ∈ a ∨ i ∈ b := by
  rw [h.2, ← mem_inL, ← mem_inL]; unfold fOr; cases inL a i <;> cases inL b i <;> simp
theorem m_not {a b r : List Int} (h : isPick fNot a b r) (i : Int) : i ∈ r ↔ i ∈ a ∧ ¬ i ∈ b := by
  rw [h.2, ← mem_inL, ← mem_inL]; unfold fNot; cases inL a i <;> cases inL b i <;> simp
theorem rise_ext {r r' : List Int} (h : r.Pairwise (· < ·)) (h' : r'.Pairwise (· < ·)) (hm : ∀ i, i ∈ r ↔ i ∈ r') : r = r' := by
  refine List.Perm.eq_of_pairwise (le := fun x y : Int => x < y) (fun x y _ _ h1 h2 => absurd h1 (by omega)) h h' ?_
  exact (List.perm_ext_iff_of_nodup (h.imp (fun {x y} hxy e => by omega)) (h'.imp (fun {x y} hxy e => by omega))).2 hm
theorem set1 {a b both left one t : List Int} (h1 : isPick fAnd a b both) (h2 : isPick fNot a b left) (h3 : isPick fOr a [] one) (h4 : isPick fOr both left t) : t = one :=
  rise_ext h4.1 h3.1 (fun i => by rw [m_or h4, m_or h3, m_and h1, m_not h2]; by_cases x : i ∈ a <;> by_cases y : i ∈ b <;> simp [x, y])
theorem set2 {a b both left right all s t : List Int} (h1 : isPick fAnd a b both) (h2 : isPick fNot a b left) (h3 : isPick fNot b a right) (h4 : isPick fOr a b all) (h5 : isPick fOr left both s) (h6 : isPick fOr s right t) : t = all :=
  rise_ext h6.1 h4.1 (fun i => by rw [m_or h6, m_or h5, m_or h4, m_and h1, m_not h2, m_not h3]; by_cases x : i ∈ a <;> by_cases y : i ∈ b <;> simp [x, y])
theorem set3 {a b both left t : List Int} (h1 : isPick fAnd a b both) (h2 : isPick fNot a b left) (h3 : isPick fAnd both left t) : t = [] :=
  List.eq_nil_iff_forall_not_mem.2 (fun i hi => by rw [m_and h3, m_and h1, m_not h2] at hi; exact hi.2.2 hi.1.2)
theorem set4 {a b left right t : List Int} (h1 : isPick fNot a b left) (h2 : isPick fNot b a right) (h3 : isPick fAnd left right t) : t = [] :=
  List.eq_nil_iff_forall_not_mem.2 (fun i hi => by rw [m_and h3, m_not h1, m_not h2] at hi; exact hi.1.2 hi.2.1)
theorem set5 {a b both t : List Int} (h1 : isPick fAnd a b both) (h2 : isPick fAnd b a t) : both = t :=
  rise_ext h1.1 h2.1 (fun i => by rw [m_and h1, m_and h2, and_comm])
theorem set6 {a b all t : List Int} (h1 : isPick fOr a b all) (h2 : isPick fOr b a t) : all = t :=
  rise_ext h1.1 h2.1 (fun i => by rw [m_or h1, m_or h2, or_comm])
theorem set7 {a b both left one : List Int} (h1 : isPick fAnd a b both) (h2 : isPick fNot a b left) (h3 : isPick fOr a [] one) : left.length + both.length = one.length := by
  have nd : ∀ {l : List Int}, l.Pairwise (· < ·) → l.Nodup := fun h => h.imp (fun {x y} hxy e => by omega)
  have hp : (left ++ both).Perm one := by
    refine (List.perm_ext_iff_of_nodup ?_ (nd h3.1)).2 (fun i => ?_)
    · refine List.nodup_append.2 ⟨nd h2.1, nd h1.1, fun x hx y hy e => ?_⟩
      subst e
      rw [m_not h2] at hx
      rw [m_and h1] at hy
      exact hx.2 hy.2
    · rw [List.mem_append, m_or h3, m_and h1, m_not h2]; by_cases x : i ∈ a <;> by_cases y : i ∈ b <;> simp [x, y]
  have := hp.length_eq
  rw [List.length_append] at this
  exact this
theorem set8 {a b c both bc x ac y : List Int} (h1 : isPick fAnd a b both) (h2 : isPick fOr b c bc) (h3 : isPick fAnd a bc x) (h4 : isPick fAnd a c ac) (h5 : isPick fOr both ac y) : x = y :=
  rise_ext h3.1 h5.1 (fun i => by rw [m_or h5, m_and h3, m_or h2, m_and h1, m_and h4]; by_cases x : i ∈ a <;> by_cases y : i ∈ b <;> simp [x, y])
theorem set9 {a b c left bc z ac w : List Int} (h1 : isPick fNot a b left) (h2 : isPick fOr b c bc) (h3 : isPick fNot a bc z) (h4 : isPick fNot a c ac) (h5 : isPick fAnd left ac w) : z = w :=
  rise_ext h3.1 h5.1 (fun i => by rw [m_and h5, m_not h3, m_or h2, m_not h1, m_not h4]; by_cases x : i ∈ a <;> by_cases y : i ∈ b <;> simp [x, y])
theorem or_nil {N : Nat} {w : World} {L : List Row1} (A : Option Addr) (ca : Nat) (a : List Int) (hL : Has N w L) (hN : N ≤ 1099511627776) (ha : (A, ca, a) ∈ L) (hb : ((none, 0, []) : Row1) ∈ L) :
    Calls Try.prog 11 #[.slice A a.length ca, .slice none 0 0] w (PkPost fOr a [] N w L) := or_any A none ca 0 a [] hL hN ha hb

set_option maxHeartbeats 8000000 in
set_option maxRecDepth 100000 in
theorem sets_any (A B C : Option Addr) (ca cb cc : Nat) (a b c : List Int) (w : World) (ha : Rs 1048576 w (A, ca, a)) (hb : Rs 1048576 w (B, cb, b)) (hc : Rs 1048576 w (C, cc, c)) :
    Calls Try.prog 4 #[.slice A a.length ca, .slice B b.length cb, .slice C c.length cc] w (Bl true w) := by
  have hla := ha.len
  have hlb := hb.len
  simp only at hla hlb
  have hL0 : Has 1048576 w [(A, ca, a), (B, cb, b), (C, cc, c), (none, 0, [])] := fun t ht => by
    simp only [List.mem_cons, List.not_mem_nil, or_false] at ht
    rcases ht with rfl | rfl | rfl | rfl
    · exact ha
    · exact hb
    · exact hc
    · exact ⟨Kd.C_nil _ _, Nat.le_refl _, fun x hx => by simp at hx, by simp⟩
  have HL0 := Lib.hid hL0
  have HB0 := Lib.hid (Below.refl w.heap.size w)
  clear ha hb hc hL0
  go_enter Try.func4, Try.ntmps4
  go_wp2_with (first
    | (go_at_call 9; (with_reducible refine (and_any A B ca cb a b HL0.out (by omega) List.mem_cons_self (List.mem_cons_of_mem _ List.mem_cons_self)).mono ?_); rintro e w1 ⟨A_both, c_both, r_both, rfl, hp, hl, hb⟩; have P_both := Lib.hid hp; have HL1 := Lib.hid hl; have HB1 := Lib.hid (bel HB0.out hb); clear hp hl hb)
    | (go_at_call 13; (with_reducible refine (not_any A B ca cb a b HL1.out (by omega) (List.mem_cons_of_mem _ List.mem_cons_self) (List.mem_cons_of_mem _ (List.mem_cons_of_mem _ List.mem_cons_self))).mono ?_); rintro e w2 ⟨A_left, c_left, r_left, rfl, hp, hl, hb⟩; have P_left := Lib.hid hp; have HL2 := Lib.hid hl; have HB2 := Lib.hid (bel HB1.out hb); clear hp hl hb)
    | (go_at_call 13; (with_reducible refine (not_any B A cb ca b a HL2.out (by omega) (List.mem_cons_of_mem _ (List.mem_cons_of_mem _ (List.mem_cons_of_mem _ List.mem_cons_self))) (List.mem_cons_of_mem _ (List.mem_cons_of_mem _ List.mem_cons_self))).mono ?_); rintro e w3 ⟨A_right, c_right, r_right, rfl, hp, hl, hb⟩; have P_right := Lib.hid hp; have HL3 := Lib.hid hl; have HB3 := Lib.hid (bel HB2.out hb); clear hp hl hb)
    | (go_at_call 11; (with_reducible refine (or_any A B ca cb a b HL3.out (by omega) (List.mem_cons_of_mem _ (List.mem_cons_of_mem _ (List.mem_cons_of_mem _ List.mem_cons_self))) (List.mem_cons_of_mem _ (List.mem_cons_of_mem _ (List.mem_cons_of_mem _ (List.mem_cons_of_mem _ List.mem_cons_self))))).mono ?_); rintro e w4 ⟨A_all, c_all, r_all, rfl, hp, hl, hb⟩; have P_all := Lib.hid hp; have HL4 := Lib.hid hl; have HB4 := Lib.hid (bel HB3.out hb); clear hp hl hb)
    | (go_at_call 11; (with_reducible refine (or_nil A ca a HL4.out (by omega) (List.mem_cons_of_mem _ (List.mem_cons_of_mem _ (List.mem_cons_of_mem _ (List.mem_cons_of_mem _ List.mem_cons_self)))) (List.mem_cons_of_mem _ (List.mem_cons_of_mem _ (List.mem_cons_of_mem _ (List.mem_cons_of_mem _ (List.mem_cons_of_mem _ (List.mem_cons_of_mem _ (List.mem_cons_of_mem _ List.mem_cons_self)))))))).mono ?_); rintro e w5 ⟨A_one, c_one, r_one, rfl, hp, hl, hb⟩; have P_one := Lib.hid hp; have HL5 := Lib.hid hl; have HB5 := Lib.hid (bel HB4.out hb); clear hp hl hb; have hs7 : (r_left.length : Int) + (r_both.length : Int) = (r_one.length : Int) := (by have := set7 P_both.out P_left.out P_one.out; omega); have hq1 : r_left.length ≤ 2097152 := (by have := pick_len P_left.out; omega); have hq2 : r_both.length ≤ 2097152 := (by have := pick_len P_both.out; omega))
    | (go_at_call 11; (with_reducible refine (or_any A_both A_left c_both c_left r_both r_left HL5.out (by omega) (List.mem_cons_of_mem _ (List.mem_cons_of_mem _ (List.mem_cons_of_mem _ (List.mem_cons_of_mem _ List.mem_cons_self)))) (List.mem_cons_of_mem _ (List.mem_cons_of_mem _ (List.mem_cons_of_mem _ List.mem_cons_self)))).mono ?_); rintro e w6 ⟨A_t1, c_t1, r_t1, rfl, hp, hl, hb⟩; have P_t1 := Lib.hid hp; have HL6 := Lib.hid hl; have HB6 := Lib.hid (bel HB5.out hb); clear hp hl hb)
    | (go_at_call 8; (with_reducible refine (ints_any A_t1 A_one c_t1 c_one r_t1 r_one HL6.out (by omega) List.mem_cons_self (List.mem_cons_of_mem _ List.mem_cons_self)).mono ?_); rintro e w7 ⟨rfl, hl, hb⟩; rw [decide_eq_true (set1 P_both.out P_left.out P_one.out P_t1.out)]; have HL7 := Lib.hid hl; have HB7 := Lib.hid (bel HB6.out hb); clear hl hb)
    | (go_at_call 11; (with_reducible refine (or_any A_left A_both c_left c_both r_left r_both HL7.out (by omega) (List.mem_cons_of_mem _ (List.mem_cons_of_mem _ (List.mem_cons_of_mem _ (List.mem_cons_of_mem _ List.mem_cons_self)))) (List.mem_cons_of_mem _ (List.mem_cons_of_mem _ (List.mem_cons_of_mem _ (List.mem_cons_of_mem _ (List.mem_cons_of_mem _ List.mem_cons_self)))))).mono ?_); rintro e w8 ⟨A_t2, c_t2, r_t2, rfl, hp, hl, hb⟩; have P_t2 := Lib.hid hp; have HL8 := Lib.hid hl; have HB8 := Lib.hid (bel HB7.out hb); clear hp hl hb)
    | (go_at_call 11; (with_reducible refine (or_any A_t2 A_right c_t2 c_right r_t2 r_right HL8.out (by omega) List.mem_cons_self (List.mem_cons_of_mem _ (List.mem_cons_of_mem _ (List.mem_cons_of_mem _ (List.mem_cons_of_mem _ List.mem_cons_self))))).mono ?_); rintro e w9 ⟨A_t3, c_t3, r_t3, rfl, hp, hl, hb⟩; have P_t3 := Lib.hid hp; have HL9 := Lib.hid hl; have HB9 := Lib.hid (bel HB8.out hb); clear hp hl hb)
    | (go_at_call 8; (with_reducible refine (ints_any A_t3 A_all c_t3 c_all r_t3 r_all HL9.out (by omega) List.mem_cons_self (List.mem_cons_of_mem _ (List.mem_cons_of_mem _ (List.mem_cons_of_mem _ (List.mem_cons_of_mem _ List.mem_cons_self))))).mono ?_); rintro e w10 ⟨rfl, hl, hb⟩; rw [decide_eq_true (set2 P_both.out P_left.out P_right.out P_all.out P_t2.out P_t3.out)]; have HL10 := Lib.hid hl; have HB10 := Lib.hid (bel HB9.out hb); clear hl hb)
    | (go_at_call 9; (with_reducible refine (and_any A_both A_left c_both c_left r_both r_left HL10.out (by omega) (List.mem_cons_of_mem _ (List.mem_cons_of_mem _ (List.mem_cons_of_mem _ (List.mem_cons_of_mem _ (List.mem_cons_of_mem _ (List.mem_cons_of_mem _ (List.mem_cons_of_mem _ List.mem_cons_self))))))) (List.mem_cons_of_mem _ (List.mem_cons_of_mem _ (List.mem_cons_of_mem _ (List.mem_cons_of_mem _ (List.mem_cons_of_mem _ (List.mem_cons_of_mem _ List.mem_cons_self))))))).mono ?_); rintro e w11 ⟨A_t4, c_t4, r_t4, rfl, hp, hl, hb⟩; have P_t4 := Lib.hid hp; have HL11 := Lib.hid hl; have HB11 := Lib.hid (bel HB10.out hb); clear hp hl hb; have HN4 := Lib.hid (set3 P_both.out P_left.out P_t4.out); have hn4 : r_t4.length = 0 := by rw [HN4.out]; rfl)
    | (go_at_call 9; (with_reducible refine (and_any A_left A_right c_left c_right r_left r_right HL11.out (by omega) (List.mem_cons_of_mem _ (List.mem_cons_of_mem _ (List.mem_cons_of_mem _ (List.mem_cons_of_mem _ (List.mem_cons_of_mem _ (List.mem_cons_of_mem _ (List.mem_cons_of_mem _ List.mem_cons_self))))))) (List.mem_cons_of_mem _ (List.mem_cons_of_mem _ (List.mem_cons_of_mem _ (List.mem_cons_of_mem _ (List.mem_cons_of_mem _ (List.mem_cons_of_mem _ List.mem_cons_self))))))).mono ?_); rintro e w12 ⟨A_t5, c_t5, r_t5, rfl, hp, hl, hb⟩; have P_t5 := Lib.hid hp; have HL12 := Lib.hid hl; have HB12 := Lib.hid (bel HB11.out hb); clear hp hl hb; have HN5 := Lib.hid (set4 P_left.out P_right.out P_t5.out); have hn5 : r_t5.length = 0 := by rw [HN5.out]; rfl)
    | (go_at_call 9; (with_reducible refine (and_any B A cb ca b a HL12.out (by omega) (List.mem_cons_of_mem _ (List.mem_cons_of_mem _ (List.mem_cons_of_mem _ (List.mem_cons_of_mem _ (List.mem_cons_of_mem _ (List.mem_cons_of_mem _ (List.mem_cons_of_mem _ (List.mem_cons_of_mem _ (List.mem_cons_of_mem _ (List.mem_cons_of_mem _ (List.mem_cons_of_mem _ List.mem_cons_self))))))))))) (List.mem_cons_of_mem _ (List.mem_cons_of_mem _ (List.mem_cons_of_mem _ (List.mem_cons_of_mem _ (List.mem_cons_of_mem _ (List.mem_cons_of_mem _ (List.mem_cons_of_mem _ (List.mem_cons_of_mem _ (List.mem_cons_of_mem _ (List.mem_cons_of_mem _ List.mem_cons_self))))))))))).mono ?_); rintro e w13 ⟨A_t6, c_t6, r_t6, rfl, hp, hl, hb⟩; have P_t6 := Lib.hid hp; have HL13 := Lib.hid hl; have HB13 := Lib.hid (bel HB12.out hb); clear hp hl hb)
    | (go_at_call 8; (with_reducible refine (ints_any A_both A_t6 c_both c_t6 r_both r_t6 HL13.out (by omega) (List.mem_cons_of_mem _ (List.mem_cons_of_mem _ (List.mem_cons_of_mem _ (List.mem_cons_of_mem _ (List.mem_cons_of_mem _ (List.mem_cons_of_mem _ (List.mem_cons_of_mem _ (List.mem_cons_of_mem _ (List.mem_cons_of_mem _ (List.mem_cons_of_mem _ List.mem_cons_self)))))))))) List.mem_cons_self).mono ?_); rintro e w14 ⟨rfl, hl, hb⟩; rw [decide_eq_true (set5 P_both.out P_t6.out)]; have HL14 := Lib.hid hl; have HB14 := Lib.hid (bel HB13.out hb); clear hl hb)
    | (go_at_call 11; (with_reducible refine (or_any B A cb ca b a HL14.out (by omega) (List.mem_cons_of_mem _ (List.mem_cons_of_mem _ (List.mem_cons_of_mem _ (List.mem_cons_of_mem _ (List.mem_cons_of_mem _ (List.mem_cons_of_mem _ (List.mem_cons_of_mem _ (List.mem_cons_of_mem _ (List.mem_cons_of_mem _ (List.mem_cons_of_mem _ (List.mem_cons_of_mem _ (List.mem_cons_of_mem _ List.mem_cons_self)))))))))))) (List.mem_cons_of_mem _ (List.mem_cons_of_mem _ (List.mem_cons_of_mem _ (List.mem_cons_of_mem _ (List.mem_cons_of_mem _ (List.mem_cons_of_mem _ (List.mem_cons_of_mem _ (List.mem_cons_of_mem _ (List.mem_cons_of_mem _ (List.mem_cons_of_mem _ (List.mem_cons_of_mem _ List.mem_cons_self)))))))))))).mono ?_); rintro e w15 ⟨A_t7, c_t7, r_t7, rfl, hp, hl, hb⟩; have P_t7 := Lib.hid hp; have HL15 := Lib.hid hl; have HB15 := Lib.hid (bel HB14.out hb); clear hp hl hb)
    | (go_at_call 8; (with_reducible refine (ints_any A_all A_t7 c_all c_t7 r_all r_t7 HL15.out (by omega) (List.mem_cons_of_mem _ (List.mem_cons_of_mem _ (List.mem_cons_of_mem _ (List.mem_cons_of_mem _ (List.mem_cons_of_mem _ (List.mem_cons_of_mem _ (List.mem_cons_of_mem _ (List.mem_cons_of_mem _ List.mem_cons_self)))))))) List.mem_cons_self).mono ?_); rintro e w16 ⟨rfl, hl, hb⟩; rw [decide_eq_true (set6 P_all.out P_t7.out)]; have HL16 := Lib.hid hl; have HB16 := Lib.hid (bel HB15.out hb); clear hl hb)
    | (go_at_call 11; (with_reducible refine (or_any B C cb cc b c HL16.out (by omega) (List.mem_cons_of_mem _ (List.mem_cons_of_mem _ (List.mem_cons_of_mem _ (List.mem_cons_of_mem _ (List.mem_cons_of_mem _ (List.mem_cons_of_mem _ (List.mem_cons_of_mem _ (List.mem_cons_of_mem _ (List.mem_cons_of_mem _ (List.mem_cons_of_mem _ (List.mem_cons_of_mem _ (List.mem_cons_of_mem _ (List.mem_cons_of_mem _ List.mem_cons_self))))))))))))) (List.mem_cons_of_mem _ (List.mem_cons_of_mem _ (List.mem_cons_of_mem _ (List.mem_cons_of_mem _ (List.mem_cons_of_mem _ (List.mem_cons_of_mem _ (List.mem_cons_of_mem _ (List.mem_cons_of_mem _ (List.mem_cons_of_mem _ (List.mem_cons_of_mem _ (List.mem_cons_of_mem _ (List.mem_cons_of_mem _ (List.mem_cons_of_mem _ (List.mem_cons_of_mem _ List.mem_cons_self))))))))))))))).mono ?_); rintro e w17 ⟨A_t8, c_t8, r_t8, rfl, hp, hl, hb⟩; have P_t8 := Lib.hid hp; have HL17 := Lib.hid hl; have HB17 := Lib.hid (bel HB16.out hb); clear hp hl hb)
    | (go_at_call 9; (with_reducible refine (and_any A A_t8 ca c_t8 a r_t8 HL17.out (by omega) (List.mem_cons_of_mem _ (List.mem_cons_of_mem _ (List.mem_cons_of_mem _ (List.mem_cons_of_mem _ (List.mem_cons_of_mem _ (List.mem_cons_of_mem _ (List.mem_cons_of_mem _ (List.mem_cons_of_mem _ (List.mem_cons_of_mem _ (List.mem_cons_of_mem _ (List.mem_cons_of_mem _ (List.mem_cons_of_mem _ (List.mem_cons_of_mem _ List.mem_cons_self))))))))))))) List.mem_cons_self).mono ?_); rintro e w18 ⟨A_x, c_x, r_x, rfl, hp, hl, hb⟩; have P_x := Lib.hid hp; have HL18 := Lib.hid hl; have HB18 := Lib.hid (bel HB17.out hb); clear hp hl hb)
    | (go_at_call 9; (with_reducible refine (and_any A C ca cc a c HL18.out (by omega) (List.mem_cons_of_mem _ (List.mem_cons_of_mem _ (List.mem_cons_of_mem _ (List.mem_cons_of_mem _ (List.mem_cons_of_mem _ (List.mem_cons_of_mem _ (List.mem_cons_of_mem _ (List.mem_cons_of_mem _ (List.mem_cons_of_mem _ (List.mem_cons_of_mem _ (List.mem_cons_of_mem _ (List.mem_cons_of_mem _ (List.mem_cons_of_mem _ (List.mem_cons_of_mem _ List.mem_cons_self)))))))))))))) (List.mem_cons_of_mem _ (List.mem_cons_of_mem _ (List.mem_cons_of_mem _ (List.mem_cons_of_mem _ (List.mem_cons_of_mem _ (List.mem_cons_of_mem _ (List.mem_cons_of_mem _ (List.mem_cons_of_mem _ (List.mem_cons_of_mem _ (List.mem_cons_of_mem _ (List.mem_cons_of_mem _ (List.mem_cons_of_mem _ (List.mem_cons_of_mem _ (List.mem_cons_of_mem _ (List.mem_cons_of_mem _ (List.mem_cons_of_mem _ List.mem_cons_self))))))))))))))))).mono ?_); rintro e w19 ⟨A_t9, c_t9, r_t9, rfl, hp, hl, hb⟩; have P_t9 := Lib.hid hp; have HL19 := Lib.hid hl; have HB19 := Lib.hid (bel HB18.out hb); clear hp hl hb)
    | (go_at_call 11; (with_reducible refine (or_any A_both A_t9 c_both c_t9 r_both r_t9 HL19.out (by omega) (List.mem_cons_of_mem _ (List.mem_cons_of_mem _ (List.mem_cons_of_mem _ (List.mem_cons_of_mem _ (List.mem_cons_of_mem _ (List.mem_cons_of_mem _ (List.mem_cons_of_mem _ (List.mem_cons_of_mem _ (List.mem_cons_of_mem _ (List.mem_cons_of_mem _ (List.mem_cons_of_mem _ (List.mem_cons_of_mem _ (List.mem_cons_of_mem _ (List.mem_cons_of_mem _ List.mem_cons_self)))))))))))))) List.mem_cons_self).mono ?_); rintro e w20 ⟨A_y, c_y, r_y, rfl, hp, hl, hb⟩; have P_y := Lib.hid hp; have HL20 := Lib.hid hl; have HB20 := Lib.hid (bel HB19.out hb); clear hp hl hb)
    | (go_at_call 11; (with_reducible refine (or_any B C cb cc b c HL20.out (by omega) (List.mem_cons_of_mem _ (List.mem_cons_of_mem _ (List.mem_cons_of_mem _ (List.mem_cons_of_mem _ (List.mem_cons_of_mem _ (List.mem_cons_of_mem _ (List.mem_cons_of_mem _ (List.mem_cons_of_mem _ (List.mem_cons_of_mem _ (List.mem_cons_of_mem _ (List.mem_cons_of_mem _ (List.mem_cons_of_mem _ (List.mem_cons_of_mem _ (List.mem_cons_of_mem _ (List.mem_cons_of_mem _ (List.mem_cons_of_mem _ (List.mem_cons_of_mem _ List.mem_cons_self))))))))))))))))) (List.mem_cons_of_mem _ (List.mem_cons_of_mem _ (List.mem_cons_of_mem _ (List.mem_cons_of_mem _ (List.mem_cons_of_mem _ (List.mem_cons_of_mem _ (List.mem_cons_of_mem _ (List.mem_cons_of_mem _ (List.mem_cons_of_mem _ (List.mem_cons_of_mem _ (List.mem_cons_of_mem _ (List.mem_cons_of_mem _ (List.mem_cons_of_mem _ (List.mem_cons_of_mem _ (List.mem_cons_of_mem _ (List.mem_cons_of_mem _ (List.mem_cons_of_mem _ (List.mem_cons_of_mem _ List.mem_cons_self))))))))))))))))))).mono ?_); rintro e w21 ⟨A_t10, c_t10, r_t10, rfl, hp, hl, hb⟩; have P_t10 := Lib.hid hp; have HL21 := Lib.hid hl; have HB21 := Lib.hid (bel HB20.out hb); clear hp hl hb)
    | (go_at_call 13; (with_reducible refine (not_any A A_t10 ca c_t10 a r_t10 HL21.out (by omega) (List.mem_cons_of_mem _ (List.mem_cons_of_mem _ (List.mem_cons_of_mem _ (List.mem_cons_of_mem _ (List.mem_cons_of_mem _ (List.mem_cons_of_mem _ (List.mem_cons_of_mem _ (List.mem_cons_of_mem _ (List.mem_cons_of_mem _ (List.mem_cons_of_mem _ (List.mem_cons_of_mem _ (List.mem_cons_of_mem _ (List.mem_cons_of_mem _ (List.mem_cons_of_mem _ (List.mem_cons_of_mem _ (List.mem_cons_of_mem _ (List.mem_cons_of_mem _ List.mem_cons_self))))))))))))))))) List.mem_cons_self).mono ?_); rintro e w22 ⟨A_z, c_z, r_z, rfl, hp, hl, hb⟩; have P_z := Lib.hid hp; have HL22 := Lib.hid hl; have HB22 := Lib.hid (bel HB21.out hb); clear hp hl hb)
    | (go_at_call 13; (with_reducible refine (not_any A C ca cc a c HL22.out (by omega) (List.mem_cons_of_mem _ (List.mem_cons_of_mem _ (List.mem_cons_of_mem _ (List.mem_cons_of_mem _ (List.mem_cons_of_mem _ (List.mem_cons_of_mem _ (List.mem_cons_of_mem _ (List.mem_cons_of_mem _ (List.mem_cons_of_mem _ (List.mem_cons_of_mem _ (List.mem_cons_of_mem _ (List.mem_cons_of_mem _ (List.mem_cons_of_mem _ (List.mem_cons_of_mem _ (List.mem_cons_of_mem _ (List.mem_cons_of_mem _ (List.mem_cons_of_mem _ (List.mem_cons_of_mem _ List.mem_cons_self)))))))))))))))))) (List.mem_cons_of_mem _ (List.mem_cons_of_mem _ (List.mem_cons_of_mem _ (List.mem_cons_of_mem _ (List.mem_cons_of_mem _ (List.mem_cons_of_mem _ (List.mem_cons_of_mem _ (List.mem_cons_of_mem _ (List.mem_cons_of_mem _ (List.mem_cons_of_mem _ (List.mem_cons_of_mem _ (List.mem_cons_of_mem _ (List.mem_cons_of_mem _ (List.mem_cons_of_mem _ (List.mem_cons_of_mem _ (List.mem_cons_of_mem _ (List.mem_cons_of_mem _ (List.mem_cons_of_mem _ (List.mem_cons_of_mem _ (List.mem_cons_of_mem _ List.mem_cons_self))))))))))))))))))))).mono ?_); rintro e w23 ⟨A_t11, c_t11, r_t11, rfl, hp, hl, hb⟩; have P_t11 := Lib.hid hp; have HL23 := Lib.hid hl; have HB23 := Lib.hid (bel HB22.out hb); clear hp hl hb)
    | (go_at_call 9; (with_reducible refine (and_any A_left A_t11 c_left c_t11 r_left r_t11 HL23.out (by omega) (List.mem_cons_of_mem _ (List.mem_cons_of_mem _ (List.mem_cons_of_mem _ (List.mem_cons_of_mem _ (List.mem_cons_of_mem _ (List.mem_cons_of_mem _ (List.mem_cons_of_mem _ (List.mem_cons_of_mem _ (List.mem_cons_of_mem _ (List.mem_cons_of_mem _ (List.mem_cons_of_mem _ (List.mem_cons_of_mem _ (List.mem_cons_of_mem _ (List.mem_cons_of_mem _ (List.mem_cons_of_mem _ (List.mem_cons_of_mem _ (List.mem_cons_of_mem _ List.mem_cons_self))))))))))))))))) List.mem_cons_self).mono ?_); rintro e w24 ⟨A_w, c_w, r_w, rfl, hp, hl, hb⟩; have P_w := Lib.hid hp; have HL24 := Lib.hid hl; have HB24 := Lib.hid (bel HB23.out hb); clear hp hl hb)
    | (go_at_call 8; (with_reducible refine (ints_any A_x A_y c_x c_y r_x r_y HL24.out (by omega) (List.mem_cons_of_mem _ (List.mem_cons_of_mem _ (List.mem_cons_of_mem _ (List.mem_cons_of_mem _ (List.mem_cons_of_mem _ (List.mem_cons_of_mem _ List.mem_cons_self)))))) (List.mem_cons_of_mem _ (List.mem_cons_of_mem _ (List.mem_cons_of_mem _ (List.mem_cons_of_mem _ List.mem_cons_self))))).mono ?_); rintro e w25 ⟨rfl, hl, hb⟩; rw [decide_eq_true (set8 P_both.out P_t8.out P_x.out P_t9.out P_y.out)]; have HL25 := Lib.hid hl; have HB25 := Lib.hid (bel HB24.out hb); clear hl hb)
    | (go_at_call 8; (with_reducible refine (ints_any A_z A_w c_z c_w r_z r_w HL25.out (by omega) (List.mem_cons_of_mem _ (List.mem_cons_of_mem _ List.mem_cons_self)) List.mem_cons_self).mono ?_); rintro e w26 ⟨rfl, hl, hb⟩; rw [decide_eq_true (set9 P_left.out P_t10.out P_z.out P_t11.out P_w.out)]; have HL26 := Lib.hid hl; have HB26 := Lib.hid (bel HB25.out hb); clear hl hb)
    | (go_at_call 15; (with_reducible refine (knows_any _).mono ?_); rintro e w27 ⟨rfl, hb⟩; have HB27 := Lib.hid (bel HB26.out hb); clear hb))
  go_ret
  exact ⟨rfl, HB27.out⟩
end Go.Proofs.Ytojocffjajcdmaa
/- The law PostingsSets answers true for all three lists of numbers, and every argument reads behind the call as before. Condition: what comes in is of bulk at most 1048576. -/
namespace Go.Proofs.Ytojocffjajcdmaa
open Go.ChangeShapes Go.WideShapes Go.ChangeAt Go.RowKit
set_option linter.unusedVariables false

theorem postingsSets_contract (H : Type) (enc : TypeId × Value → H) (W : World) (base : Nat) (args : Array Value) (ds gs : List (DataW H)) (before : List MemPlace)
    (hval : ∀ (j : Nat) t v, Try.f4.params[j]? = some t → args[j]? = some v → Value.okWide Try.prog W .any base t v)
    (hW : DataW.Whole enc Try.prog Try.f4.params.toList Rows.postingsSetsSpec.vars false W args.toList ds gs before) (hk : Rows.uptoSmall H (ds ++ gs) = true) :
    Calls Try.prog 4 args W fun e W' => ∃ v, e = .returned v ∧ Rows.postingsSetsSpec.post enc Try.prog Try.f4 false true false false W args v W' := by
  have hW' := hW
  obtain ⟨p, q, hA0, hV, rfl, hfz, hnd⟩ := hW
  have hA : DataW.TrodAll enc Try.prog W 0 (fun _ => true) true Try.f4.params.toList args.toList ds p := hA0
  rw [Try.params4] at hA hval
  obtain ⟨v0, v1, v2, d0, d1, d2, p0, p1, p2, rfl, rfl, rfl, h0, h1, h2⟩ := trodAll_three hA
  obtain ⟨rfl, rfl⟩ := trodVars_none hV
  obtain ⟨a0, len0, cap0, rfl⟩ := okWide_slice Try.underlying22 (hval 0 22 v0 rfl rfl)
  obtain ⟨a1, len1, cap1, rfl⟩ := okWide_slice Try.underlying22 (hval 1 22 v1 rfl rfl)
  obtain ⟨a2, len2, cap2, rfl⟩ := okWide_slice Try.underlying22 (hval 2 22 v2 rfl rfl)
  obtain ⟨fuel0, hf0⟩ := h0
  obtain ⟨fuel1, hf1⟩ := h1
  obtain ⟨fuel2, hf2⟩ := h2
  have hbulk : Rows.uptoBulk d0 + Rows.uptoBulk d1 + Rows.uptoBulk d2 ≤ 1048576 := by
    have h : Rows.uptoBulkAll ([d0, d1, d2] ++ []) ≤ 1048576 := of_decide_eq_true hk
    simp only [List.append_nil, Rows.uptoBulkAll] at h
    omega
  obtain ⟨A, ca, a, hv0, hRa⟩ := open_il (x := (d0, p0)) hf0
  obtain ⟨B, cb, b, hv1, hRb⟩ := open_il (x := (d1, p1)) hf1
  obtain ⟨C, cc, c, hv2, hRc⟩ := open_il (x := (d2, p2)) hf2
  rw [hv0, hv1, hv2]
  refine (sets_any A B C ca cb cc a b c W (hRa _ (by simp only; omega)) (hRb _ (by simp only; omega)) (hRc _ (by simp only; omega))).mono fun e W' ⟨he, hb⟩ => ?_
  subst he
  rw [← hv0, ← hv1, ← hv2]
  exact ⟨_, rfl, law_post (tb := 4) laidOut hW' rfl (fun t ht => by
    rw [Try.params4] at ht
    simp at ht
    subst ht
    exact ⟨by kernel_rfl, of_decide_eq_true (by kernel_rfl)⟩) hb (by kernel_rfl) Try.underlying4 rfl⟩

set_option maxRecDepth 100000 in
theorem postingsSets_lifted (os : Os) (started : os.Started) (H : Type) (enc : TypeId × Value → H) (F : Stop.Interp) :
    ReturnsInHanded {} Try.checked os 4 .any ((Rows.OpenSpec.upto Rows.postingsSetsSpec).pre6 enc Try.prog Try.f4 Rows.postingsSetsUptoRow.domain false) (((Rows.OpenSpec.upto Rows.postingsSetsSpec).at F).post enc Try.prog Try.f4 false true false false) := by
  refine returnsInHanded_of_cond_sized (C := Try.checked) (s := Rows.OpenSpec.upto Rows.postingsSetsSpec) (k := Rows.uptoSmall) rfl ownKnob_none started (by kernel_rfl) Try.func4
    (OpenSpec.witness (enc := enc) (C := Try.checked) (s := Rows.OpenSpec.upto Rows.postingsSetsSpec) (k := Rows.uptoSmall) rfl false ⟨#[], #[.slice none 0 0, .slice none 0 0, .slice none 0 0], []⟩ 8 (by kernel_rfl) (by kernel_rfl) (by kernel_rfl)
      (x := ([.nil, .nil, .nil], [], [])) (by kernel_rfl) rfl (by kernel_rfl)) ?_
  intro W base args ds gs before hval hW _ hk hsz _
  exact postingsSets_contract H enc W base args ds gs before hval hW hk

theorem postingsSets_holds : Rows.PostingsSetsUptoSaid :=
  OpenClaim.holds_of_cond 4 Try.f4 rfl rfl rfl rfl rfl rfl rfl ⟨rfl, rfl, rfl, rfl, rfl⟩ rfl rfl rfl rfl rfl (by kernel_rfl) Try.func4 (by kernel_rfl)
    (of_decide_eq_true (by kernel_rfl)) (by unfold Func.isWrapper; first | (rw [if_pos (by decide +kernel)]; kernel_rfl) | (rw [if_neg (by decide +kernel)]; exact ⟨rfl, rfl⟩))
    (fun os started H enc _ F => postingsSets_lifted os started H enc F)
end Go.Proofs.Ytojocffjajcdmaa
