import Derived.Test.YtojocffjajcdmaaMF
import Derived.Test.YtojocffjajcdmaaMQ
import Derived.SizedLaws
namespace Go.Proofs.Ytojocffjajcdmaa.PB
open Go.RowKit Go.Proofs.YtojocffjajcdmaaW.PrintWords Go.Proofs.YtojocffjajcdmaaW.PrintLast Go.Proofs.YtojocffjajcdmaaW.PrintMore Go.Proofs.Ytojocffjajcdmaa.PPostingsLists
set_option linter.unusedVariables false
set_option linter.unusedSimpArgs false

theorem ints_eq (A B : Option Addr) (ca cb : Nat) (a : List Int) (w : World) (ha : Kd.C KI w A a.length a) (hca : a.length ≤ ca) (hb : Kd.C KI w B a.length a) (hcb : a.length ≤ cb) (hN : a.length ≤ 17592186044416) :
    Calls Try.prog 8 #[.slice A a.length ca, .slice B a.length cb] w (Bl true w) := by
  refine (icehouselaw05_Ints.calls (a.length + 1) A ca a B cb a true w ha hca hb hcb ?_).mono (fun e w' h => ⟨h.1, h.2.below⟩)
  unfold icehouselaw05_Ints.f
  rw [if_pos rfl]
  have := ints_l0 a a rfl hN a.length 0 rfl
  simpa using this
theorem str_of {A : Option Addr} {c : Nat} {xs : List Int} {w : World} (h : Kd.C KB w A xs.length xs) : (convert 28 9 (.slice A xs.length c)).run Try.prog w = .ok (.string (strOfNums xs)) w :=
  Kd.C_string (P := Try.prog) Try.underlying28 Try.underlying5 Try.underlying9 h
theorem loopG_len : ∀ (n : Nat) (a : Int) (l bs : List Int) (er : Int) (l' r : List Int) (er' : Int), loopG n a l bs er = some (l', r, er') → l'.length ≤ l.length + n := by
  intro n
  induction n with
  | zero => intro a l bs er l' r er' h; simp only [loopG, Option.some.injEq, Prod.mk.injEq] at h; obtain ⟨rfl, _⟩ := h; omega
  | succ n ih =>
    intro a l bs er l' r er' h
    rw [loopG] at h
    split at h
    · cases h
    · have := ih _ _ _ _ _ _ _ h
      rw [List.length_append] at this
      simp at this
      omega
theorem put2 (A : Option Addr) (c : Nat) (l : List Int) (w : World) (h : Kd.C KI w A l.length l) (hc : l.length ≤ c) (hN : l.length ≤ 17592186044416) (P : List Int) (E : Int) (hp : putI l = (P, E)) : Calls Try.prog 17 #[.slice A l.length c] w (TupBelow P E w) := by
  have := put_any A c l w h hc hN
  rw [hp] at this
  exact this
theorem rput2 (A : Option Addr) (c : Nat) (l : List Int) (w : World) (h : Kd.C KI w A l.length l) (hc : l.length ≤ c) (hN : l.length ≤ 17592186044416) (P : List Int) (E : Int) (hp : putI l = (P, E)) : Calls Try.prog 18 #[.slice A l.length c] w (TupBelow P E w) := by
  have := rput_any A c l w h hc hN
  rw [hp] at this
  exact this
theorem get2 (A : Option Addr) (c : Nat) (bs : List Int) (w : World) (h : Kd.C KB w A bs.length bs) (hl : bs.length ≤ 140737488355328) (hB : Byt bs) (G : List Int) (E : Int) (hp : getG bs = (G, E)) : Calls Try.prog 19 #[.slice A bs.length c] w (GetBelow (G, E) w) := by
  have := get_any A c bs w h hl hB
  rw [hp] at this
  exact this
theorem rget2 (A : Option Addr) (c : Nat) (bs : List Int) (w : World) (h : Kd.C KB w A bs.length bs) (hl : bs.length ≤ 140737488355328) (hB : Byt bs) (G : List Int) (E : Int) (hp : getG bs = (G, E)) : Calls Try.prog 20 #[.slice A bs.length c] w (GetBelow (G, E) w) := by
  have := rget_any A c bs w h hl hB
  rw [hp] at this
  exact this
theorem lent_C {A : Option Addr} {w : World} {bs : List Int} (h : Kd.C KB w A (bs ++ [77, 78]).length (bs ++ [77, 78])) : Kd.C KB w A bs.length bs := by
  have := take_C (u := bs.length) h (by simp)
  rw [List.take_left] at this
  exact this
theorem num2 (n : Int) (w : World) : Calls Try.prog 21 #[.int .i64 n] w fun e w' => e = .returned (.int .i64 n) ∧ w = w' := (num_any n w).mono (fun e w' h => ⟨h.1, h.2.symm⟩)
theorem getG_len (bs : List Int) : (getG bs).1.length ≤ 65537 := by
  unfold getG
  split
  · simp
  · rename_i l r er h
    by_cases h1 : doneG r er ≠ 0
    · rw [if_pos h1]; simp
    · rw [if_neg h1]
      by_cases h2 : rightB l = true
      · rw [if_pos h2]
        have := loopG_len _ _ _ _ _ _ _ _ h
        have hc : countG bs ≤ 65537 := by unfold countG; omega
        simp at this ⊢
        omega
      · rw [if_neg h2]; simp

set_option maxHeartbeats 8000000 in
set_option maxRecDepth 100000 in
theorem bytes_bad (A B : Option Addr) (c cb : Nat) (l bs : List Int) (w : World) (hc : l.length ≤ c) (hC : Kd.C KI w A l.length l) (hN : l.length ≤ 17592186044400)
    (hcb : bs.length ≤ cb) (hCb : Kd.C KB w B bs.length bs) (hb : bs.length + 2 ≤ 140737488355328) (hB : Byt bs) (hr : rightB l = false) :
    Calls Try.prog 5 #[.slice A l.length c, .slice B bs.length cb] w (Bl true w) := by
  have HC := Lib.hid hC
  have HCB := Lib.hid hCb
  have HBY := Lib.hid hB
  obtain ⟨G, Eg, hG⟩ : ∃ G E, getG bs = (G, E) := ⟨_, _, rfl⟩
  have HGL : Hid (G.length ≤ 17592186044416) := Lib.hid (by have := getG_len bs; rw [hG] at this; simp only at this; omega)
  have HG := Lib.hid hG
  obtain ⟨P, hp⟩ : ∃ P, putI l = (P, 1) := ⟨[], by unfold putI; rw [if_neg (by rw [hr]; simp)]⟩
  have HP := Lib.hid hp
  clear hp
  clear hC hCb hB hG hr
  go_enter Try.func5, Try.ntmps5
  go_wp2_with (first
    | (go_at_call 16; (with_reducible refine (lent_any B cb bs w HCB.out hb).mono ?_); rintro e w1 ⟨A1, c1, rfl, ho, hb1⟩; have HM := Lib.hid (Kd.R_reads' ho).2.2; have HC1 := Lib.hid (Kd.R_reads' ho).2.1; have HL := Lib.hid (lent_C (Kd.R_reads' ho).2.2); have HB1 := Lib.hid hb1; have HC := Lib.hid (Kd.C_below HC.out hb1); have HCB := Lib.hid (Kd.C_below HCB.out hb1); clear ho hb1)
    | ((with_reducible refine gate_dst (N := 21) rfl ?_); refine Kd.R_append_rows KI (w0 := w1) w1.heap.size rfl (.tmp 19) (.tmp 20) 22 3 (.int .i64 0) 8 rfl Try.underlying22 info3 rfl (by decide) (by omega) (.slice (some ⟨w1.heap.size, 0, none⟩) 0 0) [] l _ _ _ (fun _ => True) (fun _ => False) rfl rfl (made_R w1 _ (Nat.le_refl _)) (Kd.C_below HC.out (below_alloc (Below.refl _ _) _)) (fun _ _ h => h) (fun _ h => h.elim) (fun _ _ => trivial) (below_alloc (Below.refl _ _) _) (by simp) (by simp only [List.length_nil]; omega) ?_; intro v2 w2 ho2 hb2 hg2 hat2; simp only [List.nil_append] at ho2; obtain ⟨A2, c2, rfl, hc2, hC2⟩ := Kd.R_reads ho2; have HC2 := Lib.hid hC2; have HB2 := Lib.hid (bel HB1.out hb2); have HC := Lib.hid (Kd.C_below HC.out hb2); have HCB := Lib.hid (Kd.C_below HCB.out hb2); have HL := Lib.hid (Kd.C_below HL.out hb2); have HM := Lib.hid (Kd.C_below HM.out hb2); clear ho2 hb2 hg2 hat2 hC2)
    | (go_at_call 17; (with_reducible refine (put2 A2 c2 l w2 HC2.out hc2 (by omega) _ _ HP.out).mono ?_); rintro e w3 ⟨v3, rfl, ho3, hb3⟩; obtain ⟨A3, c3, rfl⟩ := Kd.R_slice ho3; have HC3 := Lib.hid (Kd.R_reads' ho3).2.2; have HB3 := Lib.hid (bel HB2.out hb3); have HC := Lib.hid (Kd.C_below HC.out hb3); have HCB := Lib.hid (Kd.C_below HCB.out hb3); have HL := Lib.hid (Kd.C_below HL.out hb3); have HM := Lib.hid (Kd.C_below HM.out hb3); clear ho3 hb3)
    | (go_at_call 18; (with_reducible refine (rput2 A c l w3 HC.out hc (by omega) _ _ HP.out).mono ?_); rintro e w4 ⟨v4, rfl, ho4, hb4⟩; obtain ⟨A4, c4, rfl⟩ := Kd.R_slice ho4; have HC4 := Lib.hid (Kd.R_reads' ho4).2.2; have HB4 := Lib.hid (bel HB3.out hb4); have HC := Lib.hid (Kd.C_below HC.out hb4); have HCB := Lib.hid (Kd.C_below HCB.out hb4); have HL := Lib.hid (Kd.C_below HL.out hb4); have HM := Lib.hid (Kd.C_below HM.out hb4); have HC3 := Lib.hid (Kd.C_below HC3.out hb4); clear ho4 hb4)
    | (go_at_call 19; (with_reducible refine (get2 A1 c1 bs w4 HL.out (by omega) HBY.out _ _ HG.out).mono ?_); rintro e w5 ⟨A5, c5, rfl, hC5, hcc5, hb5⟩; have HU := Lib.hid hC5; have HUC := Lib.hid hcc5; have HB5 := Lib.hid (bel HB4.out hb5); have HC := Lib.hid (Kd.C_below HC.out hb5); have HCB := Lib.hid (Kd.C_below HCB.out hb5); have HL := Lib.hid (Kd.C_below HL.out hb5); have HM := Lib.hid (Kd.C_below HM.out hb5); have HC3 := Lib.hid (Kd.C_below HC3.out hb5); have HC4 := Lib.hid (Kd.C_below HC4.out hb5); clear hC5 hcc5 hb5)
    | (go_at_call 20; (with_reducible refine (rget2 B cb bs w5 HCB.out (by omega) HBY.out _ _ HG.out).mono ?_); rintro e w6 ⟨A6, c6, rfl, hC6, hcc6, hb6⟩; have HV := Lib.hid hC6; have HVC := Lib.hid hcc6; have HB6 := Lib.hid (bel HB5.out hb6); have HC := Lib.hid (Kd.C_below HC.out hb6); have HCB := Lib.hid (Kd.C_below HCB.out hb6); have HL := Lib.hid (Kd.C_below HL.out hb6); have HM := Lib.hid (Kd.C_below HM.out hb6); have HC3 := Lib.hid (Kd.C_below HC3.out hb6); have HC4 := Lib.hid (Kd.C_below HC4.out hb6); have HU := Lib.hid (Kd.C_below HU.out hb6); have hs3 := str_of (c := c3) HC3.out; have hs4 := str_of (c := c4) HC4.out; clear hC6 hcc6 hb6)
    | (go_at_call 21; (with_reducible refine (num2 _ _).mono ?_); rintro e wn ⟨rfl, rfl⟩)
    | (go_at_call 8; (with_reducible refine (ints_eq A5 A6 c5 c6 G w6 HU.out HUC.out HV.out HVC.out HGL.out).mono ?_); rintro e w7 ⟨rfl, hb7⟩; have HB7 := Lib.hid (bel HB6.out hb7); have HCB := Lib.hid (Kd.C_below HCB.out hb7); have HM := Lib.hid (Kd.C_below HM.out hb7); clear hb7)
    | (go_at_call 22; (with_reducible refine (stays_any A1 B c1 cb bs w7 HM.out HC1.out HCB.out hb).mono ?_); rintro e w8 ⟨rfl, hn⟩; have HB8 := Lib.hid (bel HB7.out (below_drewn hn)); clear hn)
    | (go_at_call 15; (with_reducible refine (knows_any _).mono ?_); rintro e w9 ⟨rfl, hb9⟩; have HB9 := Lib.hid (bel HB8.out hb9); clear hb9))
  go_ret
  exact ⟨rfl, HB9.out⟩
set_option maxHeartbeats 8000000 in
set_option maxRecDepth 100000 in
theorem bytes_good (A B : Option Addr) (c cb : Nat) (l bs : List Int) (w : World) (hc : l.length ≤ c) (hC : Kd.C KI w A l.length l) (hN : l.length ≤ 17592186044400)
    (hcb : bs.length ≤ cb) (hCb : Kd.C KB w B bs.length bs) (hb : bs.length + 2 ≤ 140737488355328) (hB : Byt bs) (hr : rightB l = true) :
    Calls Try.prog 5 #[.slice A l.length c, .slice B bs.length cb] w (Bl true w) := by
  have HC := Lib.hid hC
  have HCB := Lib.hid hCb
  have HBY := Lib.hid hB
  obtain ⟨G, Eg, hG⟩ : ∃ G E, getG bs = (G, E) := ⟨_, _, rfl⟩
  have HGL : Hid (G.length ≤ 17592186044416) := Lib.hid (by have := getG_len bs; rw [hG] at this; simp only at this; omega)
  have HG := Lib.hid hG
  have hp : putI l = (putBytes l, 0) := by unfold putI; rw [if_pos hr]
  have hpg := get_put l (by omega) hr
  obtain ⟨hpb, hpl⟩ := byt_put l (by omega) hr
  generalize putBytes l = P at *
  have HP := Lib.hid hp
  have HPG := Lib.hid hpg
  have HPB := Lib.hid hpb
  have HPL := Lib.hid hpl
  clear hp hpg hpb hpl
  clear hC hCb hB hG hr
  go_enter Try.func5, Try.ntmps5
  go_wp2_with (first
    | (go_at_call 16; (with_reducible refine (lent_any B cb bs w HCB.out hb).mono ?_); rintro e w1 ⟨A1, c1, rfl, ho, hb1⟩; have HM := Lib.hid (Kd.R_reads' ho).2.2; have HC1 := Lib.hid (Kd.R_reads' ho).2.1; have HL := Lib.hid (lent_C (Kd.R_reads' ho).2.2); have HB1 := Lib.hid hb1; have HC := Lib.hid (Kd.C_below HC.out hb1); have HCB := Lib.hid (Kd.C_below HCB.out hb1); clear ho hb1)
    | ((with_reducible refine gate_dst (N := 21) rfl ?_); refine Kd.R_append_rows KI (w0 := w1) w1.heap.size rfl (.tmp 19) (.tmp 20) 22 3 (.int .i64 0) 8 rfl Try.underlying22 info3 rfl (by decide) (by omega) (.slice (some ⟨w1.heap.size, 0, none⟩) 0 0) [] l _ _ _ (fun _ => True) (fun _ => False) rfl rfl (made_R w1 _ (Nat.le_refl _)) (Kd.C_below HC.out (below_alloc (Below.refl _ _) _)) (fun _ _ h => h) (fun _ h => h.elim) (fun _ _ => trivial) (below_alloc (Below.refl _ _) _) (by simp) (by simp only [List.length_nil]; omega) ?_; intro v2 w2 ho2 hb2 hg2 hat2; simp only [List.nil_append] at ho2; obtain ⟨A2, c2, rfl, hc2, hC2⟩ := Kd.R_reads ho2; have HC2 := Lib.hid hC2; have HB2 := Lib.hid (bel HB1.out hb2); have HC := Lib.hid (Kd.C_below HC.out hb2); have HCB := Lib.hid (Kd.C_below HCB.out hb2); have HL := Lib.hid (Kd.C_below HL.out hb2); have HM := Lib.hid (Kd.C_below HM.out hb2); clear ho2 hb2 hg2 hat2 hC2)
    | (go_at_call 17; (with_reducible refine (put2 A2 c2 l w2 HC2.out hc2 (by omega) _ _ HP.out).mono ?_); rintro e w3 ⟨v3, rfl, ho3, hb3⟩; obtain ⟨A3, c3, rfl⟩ := Kd.R_slice ho3; have HC3 := Lib.hid (Kd.R_reads' ho3).2.2; have HB3 := Lib.hid (bel HB2.out hb3); have HC := Lib.hid (Kd.C_below HC.out hb3); have HCB := Lib.hid (Kd.C_below HCB.out hb3); have HL := Lib.hid (Kd.C_below HL.out hb3); have HM := Lib.hid (Kd.C_below HM.out hb3); clear ho3 hb3)
    | (go_at_call 18; (with_reducible refine (rput2 A c l w3 HC.out hc (by omega) _ _ HP.out).mono ?_); rintro e w4 ⟨v4, rfl, ho4, hb4⟩; obtain ⟨A4, c4, rfl⟩ := Kd.R_slice ho4; have HC4 := Lib.hid (Kd.R_reads' ho4).2.2; have HB4 := Lib.hid (bel HB3.out hb4); have HC := Lib.hid (Kd.C_below HC.out hb4); have HCB := Lib.hid (Kd.C_below HCB.out hb4); have HL := Lib.hid (Kd.C_below HL.out hb4); have HM := Lib.hid (Kd.C_below HM.out hb4); have HC3 := Lib.hid (Kd.C_below HC3.out hb4); clear ho4 hb4)
    | (go_at_call 19; (with_reducible refine (get2 A1 c1 bs w4 HL.out (by omega) HBY.out _ _ HG.out).mono ?_); rintro e w5 ⟨A5, c5, rfl, hC5, hcc5, hb5⟩; have HU := Lib.hid hC5; have HUC := Lib.hid hcc5; have HB5 := Lib.hid (bel HB4.out hb5); have HC := Lib.hid (Kd.C_below HC.out hb5); have HCB := Lib.hid (Kd.C_below HCB.out hb5); have HL := Lib.hid (Kd.C_below HL.out hb5); have HM := Lib.hid (Kd.C_below HM.out hb5); have HC3 := Lib.hid (Kd.C_below HC3.out hb5); have HC4 := Lib.hid (Kd.C_below HC4.out hb5); clear hC5 hcc5 hb5)
    | (go_at_call 20; (with_reducible refine (rget2 B cb bs w5 HCB.out (by omega) HBY.out _ _ HG.out).mono ?_); rintro e w6 ⟨A6, c6, rfl, hC6, hcc6, hb6⟩; have HV := Lib.hid hC6; have HVC := Lib.hid hcc6; have HB6 := Lib.hid (bel HB5.out hb6); have HC := Lib.hid (Kd.C_below HC.out hb6); have HCB := Lib.hid (Kd.C_below HCB.out hb6); have HL := Lib.hid (Kd.C_below HL.out hb6); have HM := Lib.hid (Kd.C_below HM.out hb6); have HC3 := Lib.hid (Kd.C_below HC3.out hb6); have HC4 := Lib.hid (Kd.C_below HC4.out hb6); have HU := Lib.hid (Kd.C_below HU.out hb6); clear hC6 hcc6 hb6)
    | (go_at_call 21; (with_reducible refine (num2 _ _).mono ?_); rintro e wn ⟨rfl, rfl⟩)
    | (go_at_call 19; (with_reducible refine (get2 A3 c3 P w6 HC3.out (by have := HPL.out; omega) HPB.out _ _ HPG.out).mono ?_); rintro e w7 ⟨A7, c7, rfl, hC7, hcc7, hb7⟩; have HZ := Lib.hid hC7; have HZC := Lib.hid hcc7; have HB7 := Lib.hid (bel HB6.out hb7); have HC := Lib.hid (Kd.C_below HC.out hb7); have HCB := Lib.hid (Kd.C_below HCB.out hb7); have HM := Lib.hid (Kd.C_below HM.out hb7); have HC3 := Lib.hid (Kd.C_below HC3.out hb7); have HC4 := Lib.hid (Kd.C_below HC4.out hb7); have HU := Lib.hid (Kd.C_below HU.out hb7); have HV := Lib.hid (Kd.C_below HV.out hb7); clear hC7 hcc7 hb7)
    | (go_at_call 8; (with_reducible refine (ints_eq A7 A c7 c l w7 HZ.out HZC.out HC.out hc (by omega)).mono ?_); rintro e w8 ⟨rfl, hb8⟩; have HB8 := Lib.hid (bel HB7.out hb8); have HCB := Lib.hid (Kd.C_below HCB.out hb8); have HM := Lib.hid (Kd.C_below HM.out hb8); have HC3 := Lib.hid (Kd.C_below HC3.out hb8); have HC4 := Lib.hid (Kd.C_below HC4.out hb8); have HU := Lib.hid (Kd.C_below HU.out hb8); have HV := Lib.hid (Kd.C_below HV.out hb8); have hs3 := str_of (c := c3) HC3.out; have hs4 := str_of (c := c4) HC4.out; clear hb8)
    | (go_at_call 8; (with_reducible refine (ints_eq A5 A6 c5 c6 G w8 HU.out HUC.out HV.out HVC.out HGL.out).mono ?_); rintro e w9 ⟨rfl, hb9⟩; have HB9 := Lib.hid (bel HB8.out hb9); have HCB := Lib.hid (Kd.C_below HCB.out hb9); have HM := Lib.hid (Kd.C_below HM.out hb9); clear hb9)
    | (go_at_call 22; (with_reducible refine (stays_any A1 B c1 cb bs w9 HM.out HC1.out HCB.out hb).mono ?_); rintro e w10 ⟨rfl, hn⟩; have HB10 := Lib.hid (bel HB9.out (below_drewn hn)); clear hn)
    | (go_at_call 15; (with_reducible refine (knows_any _).mono ?_); rintro e w11 ⟨rfl, hb11⟩; have HB11 := Lib.hid (bel HB10.out hb11); clear hb11))
  go_ret
  exact ⟨rfl, HB11.out⟩
theorem bytes_any (A B : Option Addr) (c cb : Nat) (l bs : List Int) (w : World) (hc : l.length ≤ c) (hC : Kd.C KI w A l.length l) (hN : l.length ≤ 17592186044400)
    (hcb : bs.length ≤ cb) (hCb : Kd.C KB w B bs.length bs) (hb : bs.length + 2 ≤ 140737488355328) (hB : Byt bs) :
    Calls Try.prog 5 #[.slice A l.length c, .slice B bs.length cb] w (Bl true w) := by
  cases hr : rightB l with
  | true => exact bytes_good A B c cb l bs w hc hC hN hcb hCb hb hB hr
  | false => exact bytes_bad A B c cb l bs w hc hC hN hcb hCb hb hB hr
end Go.Proofs.Ytojocffjajcdmaa.PB
/- The law PostingsBytes answers true for every list of numbers and all bytes, and the arguments read behind the call as before. No condition. -/
namespace Go.Proofs.Ytojocffjajcdmaa.PB
open Go.ChangeShapes Go.WideShapes Go.ChangeAt Go.RowKit Go.Proofs.YtojocffjajcdmaaW.PrintWords
set_option linter.unusedVariables false

theorem cells5 : Try.prog.cellsOf 5 = 1 := by kernel_rfl
theorem bytes5 : Try.prog.bytesOf 5 = 1 := by kernel_rfl
theorem bytes3 : Try.prog.bytesOf 3 = 8 := by kernel_rfl
section
variable {H : Type} {enc : TypeId × Value → H} {w : World} {held : Bool}
theorem open_ilS {n : Nat} {v : Value} {x : DataW H × List MemPlace} (h : DataW.trod enc Try.prog w 0 (fun _ => true) held n 22 [v] = some x) (hz : ∀ k ∈ x.1.weights Try.prog 22, k ≤ reachBytes) :
    ∃ (A : Option Addr) (c : Nat) (l : List Int), v = .slice A l.length c ∧ Kd.C KI w A l.length l ∧ l.length ≤ c ∧ l.length ≤ 17592186044400 := by
  rcases open_ints Try.underlying22 Try.underlying3 cells3 h with ⟨hcs, hx⟩ | ⟨a, len, cap, zs, hcs, _, hl, hm, hlen, hx, hcell, hwf⟩
  · injection hcs with hcs
    subst hcs
    exact ⟨none, 0, [], rfl, Kd.C_nil _ _, Nat.le_refl _, by simp⟩
  · injection hcs with hcs
    subst hcs
    simp only [if_true] at hlen
    have hzl : (zs.take len).length = len := by rw [List.length_take]; omega
    have hw : cap * 8 ≤ reachBytes := by
      subst hx
      have := hz (cap * 8) (by
        simp only [DataW.weights, Try.underlying22, List.mem_cons, bytes3, lits, List.length_map, List.length_take, List.length_drop]
        left; rw [hlen, Nat.min_eq_left hl]; congr 1; omega)
      exact this
    have hre : reachBytes = 140737488351232 := rfl
    refine ⟨some a, cap, zs.take len, by rw [hzl], ?_, by rw [hzl]; exact hl, by rw [hzl]; omega⟩
    refine Kd.C_of_reads (enc := Value.int .i64) (d := (0 : Int)) (h1 := fun _ => rfl) ⟨rfl, by rw [hzl]; unfold maxLen at hm; omega, fun hp => ⟨a, rfl, fun j hj => ?_⟩⟩
    rw [hzl] at hj
    rw [hcell j (by omega)]
    congr 2
    simp [List.getD_eq_getElem?_getD, List.getElem?_take, hj]
theorem open_bl {n : Nat} {v : Value} {x : DataW H × List MemPlace} (h : DataW.trod enc Try.prog w 0 (fun _ => true) held n 28 [v] = some x) (hz : ∀ k ∈ x.1.weights Try.prog 28, k ≤ reachBytes) :
    ∃ (A : Option Addr) (c : Nat) (l : List Int), v = .slice A l.length c ∧ Kd.C KB w A l.length l ∧ l.length ≤ c ∧ l.length + 2 ≤ 140737488355328 ∧ Byt l := by
  rcases open_ints Try.underlying28 Try.underlying5 cells5 h with ⟨hcs, hx⟩ | ⟨a, len, cap, zs, hcs, _, hl, hm, hlen, hx, hcell, hwf⟩
  · injection hcs with hcs
    subst hcs
    exact ⟨none, 0, [], rfl, Kd.C_nil _ _, Nat.le_refl _, by simp, fun y hy => by cases hy⟩
  · injection hcs with hcs
    subst hcs
    simp only [if_true] at hlen
    have hzl : (zs.take len).length = len := by rw [List.length_take]; omega
    have hw : cap * 1 ≤ reachBytes := by
      subst hx
      have := hz (cap * 1) (by
        simp only [DataW.weights, Try.underlying28, List.mem_cons, bytes5, lits, List.length_map, List.length_take, List.length_drop]
        left; rw [hlen, Nat.min_eq_left hl]; congr 1; omega)
      exact this
    have hre : reachBytes = 140737488351232 := rfl
    refine ⟨some a, cap, zs.take len, by rw [hzl], ?_, by rw [hzl]; exact hl, by rw [hzl]; omega, fun y hy => ?_⟩
    · refine Kd.C_of_reads (enc := Value.int .u8) (d := (0 : Int)) (h1 := fun _ => rfl) ⟨rfl, by rw [hzl]; unfold maxLen at hm; omega, fun hp => ⟨a, rfl, fun j hj => ?_⟩⟩
      rw [hzl] at hj
      rw [hcell j (by omega)]
      congr 2
      simp [List.getD_eq_getElem?_getD, List.getElem?_take, hj]
    · have h1 := hwf y (List.mem_of_mem_take hy)
      have e1 : IntKind.u8.min = 0 := rfl
      have e2 : IntKind.u8.max = 255 := rfl
      simp [Lit.wf, e1, e2] at h1
      omega
end

set_option maxRecDepth 100000 in
theorem postingsBytes_lifted (os : Os) (started : os.Started) (H : Type) (enc : TypeId × Value → H) :
    ReturnsInHanded {} Try.checked os 5 .any (Rows.postingsBytesSpec.pre6 enc Try.prog Try.f5 Rows.postingsBytesRow.domain false) (Rows.postingsBytesSpec.post enc Try.prog Try.f5 false true false false) := by
  refine returnsInHanded_of_change_sized (C := Try.checked) ownKnob_none started (by kernel_rfl) Try.func5
    (ChangeSpec.witness6 (enc := enc) (C := Try.checked) false ⟨#[], #[.slice none 0 0, .slice none 0 0], []⟩ 8 (by kernel_rfl) (by kernel_rfl) (by kernel_rfl) (by kernel_rfl)) ?_
  intro W base args ds gs before hval0 hW hcnd hsz0 _
  have hval : ∀ (j : Nat) t v, Try.f5.params[j]? = some t → args[j]? = some v → Value.okWide Try.prog W .any base t v := hval0
  have hsz : (DataW.weightsEach Try.prog (Try.f5.params.toList ++ Rows.postingsBytesSpec.plain.varTypes Try.prog) (ds ++ gs)).all (· ≤ reachBytes) = true := hsz0
  have hW' := hW
  obtain ⟨p, q, hA0, hV, rfl, hfz, hnd⟩ := hW
  have hA : DataW.TrodAll enc Try.prog W 0 (fun _ => true) true Try.f5.params.toList args.toList ds p := hA0
  rw [Try.params5] at hA hval hsz
  obtain ⟨v0, v1, d0, d1, p0, p1, rfl, rfl, rfl, h0, h1⟩ := trodAll_two hA
  obtain ⟨rfl, rfl⟩ := trodVars_none hV
  obtain ⟨a0, len0, cap0, rfl⟩ := okWide_slice Try.underlying22 (hval 0 22 v0 rfl rfl)
  obtain ⟨a1, len1, cap1, rfl⟩ := okWide_slice Try.underlying28 (hval 1 28 v1 rfl rfl)
  obtain ⟨fuel0, hf0⟩ := h0
  obtain ⟨fuel1, hf1⟩ := h1
  have hz0 : ∀ k ∈ d0.weights Try.prog 22, k ≤ reachBytes := fun k hk => by
    have := List.all_eq_true.1 hsz k (DataW.weights_mem_each (j := 0) rfl rfl k hk)
    simpa using this
  have hz1 : ∀ k ∈ d1.weights Try.prog 28, k ≤ reachBytes := fun k hk => by
    have := List.all_eq_true.1 hsz k (DataW.weights_mem_each (j := 1) rfl rfl k hk)
    simpa using this
  obtain ⟨A, c, l, hv0, hC, hc, hN⟩ := open_ilS (x := (d0, p0)) hf0 hz0
  obtain ⟨B, cb, bs, hv1, hCb, hcb, hb, hB⟩ := open_bl (x := (d1, p1)) hf1 hz1
  rw [hv0, hv1]
  refine (bytes_any A B c cb l bs W hc hC hN hcb hCb hb hB).mono fun e W' ⟨he, hb⟩ => ?_
  subst he
  rw [← hv0, ← hv1]
  exact ⟨_, rfl, law_post (tb := 4) laidOut hW' rfl (fun t ht => by
    rw [Try.params5] at ht
    simp at ht
    rcases ht with rfl | rfl
    · exact ⟨by kernel_rfl, of_decide_eq_true (by kernel_rfl)⟩
    · exact ⟨by kernel_rfl, of_decide_eq_true (by kernel_rfl)⟩) hb (by kernel_rfl) Try.underlying4 rfl⟩

theorem postingsBytes_holds : Rows.PostingsBytesSaid :=
  OpenClaim.holds_of_wide 5 Try.f5 rfl rfl rfl rfl rfl rfl rfl ⟨rfl, rfl, rfl, rfl, rfl⟩ rfl rfl rfl rfl rfl (by kernel_rfl) Try.func5 (by kernel_rfl)
    (of_decide_eq_true (by kernel_rfl)) (by unfold Func.isWrapper; first | (rw [if_pos (by decide +kernel)]; kernel_rfl) | (rw [if_neg (by decide +kernel)]; exact ⟨rfl, rfl⟩))
    (fun os started H enc _ => postingsBytes_lifted os started H enc)
end Go.Proofs.Ytojocffjajcdmaa.PB
