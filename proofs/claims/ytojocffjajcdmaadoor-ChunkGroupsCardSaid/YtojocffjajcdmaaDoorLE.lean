/- How two lists of labels are compared: label.Compare. -/
import Derived.Test.YtojocffjajcdmaaDoorLA
import Derived.Test.YtojocffjajcdmaaDoorLT
import Derived.Lib.Bytealg
import Derived.Sort.Walk0
import Derived.Test.YtojocffjajcdmaaDoorLS
import Derived.Test.YtojocffjajcdmaaDoorLU
import Derived.Shelf.RegionOpen
namespace Go.Proofs.YtojocffjajcdmaaDoor.RF
open Go Go.RowKit Go.Shelf Go.Sort Go.Proofs.YtojocffjajcdmaaDoor Go.Proofs.YtojocffjajcdmaaDoorW.PrintWords Go.Proofs.YtojocffjajcdmaaDoorW.PrintLast Go.Proofs.YtojocffjajcdmaaDoorW.PrintMore PChunkAll
set_option linter.unusedVariables false
set_option linter.unusedSimpArgs false

/-- Two texts, two labels, two lists of labels. -/
def cmpS (a b : ByteArray) : Int := Lib.compareBytes a.data.toList b.data.toList
def cmpLb (x y : S112) : Int := orI (cmpS x.f0 y.f0) (cmpS x.f1 y.f1)
def cmpL : List S112 → List S112 → Int
  | [], [] => 0
  | [], _ :: _ => -1
  | _ :: _, [] => 1
  | x :: a, y :: b => orI (cmpLb x y) (cmpL a b)

set_option maxHeartbeats 1000000 in
set_option maxRecDepth 100000 in
theorem cs178 (a b : ByteArray) (w : World) : Calls Tryd.prog 178 #[.string a, .string b] w fun e w' => e = .returned (.int .i64 (cmpS a b)) ∧ w = w' := by
  go_enter Tryd.func178, Tryd.ntmps178
  go_wp2
  rw [run_callFunc_extern Tryd.func197 (by kernel_rfl) (by kernel_rfl) (by kernel_rfl) (e := Extern.BytealgCompare.compare) (by kernel_rfl), Lib.run_compareString]
  simp only [Result.andThen]
  rw [Oper.upon_value]
  go_wp2
  go_ret
  exact ⟨rfl, rfl⟩
theorem cs156 (a b : ByteArray) (w : World) : Calls Tryd.prog 156 #[.string a, .string b] w fun e w' => e = .returned (.int .i64 (cmpS a b)) ∧ w = w' := by
  go_enter Tryd.func156, Tryd.ntmps156
  go_wp2_with (go_at_call 178; (with_reducible refine (cs178 _ _ _).mono ?_); rintro e w' ⟨rfl, rfl⟩)
  go_ret
  exact ⟨rfl, rfl⟩
abbrev labV (x : S112) : Value := .agg #[.string x.f0, .string x.f1]
abbrev labC (x : S112) : Array Value := #[.string x.f0, .string x.f1]
set_option maxHeartbeats 1000000 in
theorem labcmp_any (x y : S112) (w : World) :
    Calls Tryd.prog 155 #[labV x, labV y] w fun e w' => e = .returned (.int .i64 (cmpLb x y)) ∧ Below w.heap.size w w' := by
  go_enter Tryd.func155, Tryd.ntmps155
  go_wp2
  refine wp_gen (fun W => Below w.heap.size w W ∧ Blk W w.heap.size (labC x) 112 ∧ Blk W (w.heap.size + 1) (labC y) 112)
    ⟨((Below.refl _ _).alloc (by simp) _).alloc (by simp) _, (Blk.new _ _ _ _ (by simp)).alloc _, Blk.new _ _ _ _ (by simp)⟩ ?_
  rintro W ⟨hb, b1, b2⟩
  have c1 := b1.cell 0 _ rfl
  have c2 := b1.cell 1 _ rfl
  have c3 := b2.cell 0 _ rfl
  have c4 := b2.cell 1 _ rfl
  go_region_held3 (fun w' => w'.cell? ⟨w.heap.size, 0, none⟩ = some (.string x.f0) ∧ w'.cell? ⟨w.heap.size, 1, none⟩ = some (.string x.f1) ∧ w'.cell? ⟨w.heap.size + 1, 0, none⟩ = some (.string y.f0) ∧ w'.cell? ⟨w.heap.size + 1, 1, none⟩ = some (.string y.f1)) (go_keep)
    (first | (go_at_call 156; refine (cs156 _ _ _).mono ?_; rintro e w' ⟨rfl, rfl⟩)
           | (go_at_call 149; refine (or2_new _ _ _).mono ?_; rintro e w' ⟨rfl, rfl⟩))
  go_wp2
  go_ret
  exact ⟨rfl, (hb.alloc hb.size _).drew⟩
theorem cmpL_nil_l {a : List S112} (b : List S112) (h : a = []) : cmpL a b = if b.length = 0 then 0 else -1 := by
  subst h; cases b <;> rfl
theorem drop_at {l : List S112} {i : Nat} (h : i < l.length) : l.drop i = l.getD i z112 :: l.drop (i + 1) := by
  rw [List.drop_eq_getElem_cons h, List.getD_eq_getElem?_getD, List.getElem?_eq_getElem h]; rfl

set_option maxHeartbeats 4000000 in
set_option maxRecDepth 100000 in
theorem cmpF_any (A1 : Option Addr) (c1 : Nat) (a : List S112) (A2 : Option Addr) (c2 : Nat) (b : List S112) (w : World) (h1 : Kd.C k112 w A1 a.length a) (h2 : Kd.C k112 w A2 b.length b) (hl : a.length < 4611686018427387904) :
    Calls Tryd.prog 154 #[.slice A1 a.length c1, .slice A2 b.length c2, .func (.func 155) #[] #[]] w fun e w' => e = .returned (.int .i64 (cmpL a b)) ∧ Below w.heap.size w w' := by
  have HA := Lib.hid h1
  have HB := Lib.hid h2
  have HE := Lib.hid (enters_of Tryd.func155 (by kernel_rfl) rfl)
  clear h1 h2
  go_enter Tryd.func154, Tryd.ntmps154
  go_wp2_with fail
  go_loopw [13] (fun v13 wr => ∃ i : Nat, v13 = .int .i64 (i : Int) ∧ i ≤ a.length ∧ i ≤ b.length ∧ Hid (cmpL a b = cmpL (a.drop i) (b.drop i) ∧ Below w.heap.size w wr)) (fun v13 _ => a.length - (intOf v13).toNat)
  case atStart => exact ⟨0, rfl, Nat.zero_le _, Nat.zero_le _, by simp, Below.refl _ _⟩
  case round =>
    obtain ⟨i, rfl, hi, hib, HI⟩ := hrel
    by_cases hlt : i < a.length
    · have hki : (i : Int) < (a.length : Int) := by omega
      obtain ⟨g1, o1, rfl, hx1⟩ := labs_at HA.out (by omega)
      have q0 := pw_cell_below HI.out.2 (hx1 i hlt).1
      have q1 := pw_cell_below HI.out.2 (hx1 i hlt).2
      have HDA := Lib.hid (drop_at hlt)
      by_cases hb : i < b.length
      · have hbi : ¬ (b.length : Int) ≤ (i : Int) := by omega
        have hbi2 : (i : Int) < (b.length : Int) := by omega
        obtain ⟨g2, o2, rfl, hx2⟩ := labs_at HB.out (by omega)
        have p0 := pw_cell_below HI.out.2 (hx2 i hb).1
        have p1 := pw_cell_below HI.out.2 (hx2 i hb).2
        have HDB := Lib.hid (drop_at hb)
        clear hx1 hx2
        generalize a.getD i z112 = x at *
        generalize b.getD i z112 = y at *
        have p0' := pw_cell_below ((Below.refl _ _).alloc (Nat.le_refl _) (.cells #[.string x.f0, .string x.f1] 112)) p0
        have p1' := pw_cell_below ((Below.refl _ _).alloc (Nat.le_refl _) (.cells #[.string x.f0, .string x.f1] 112)) p1
        have HC : Hid (cmpL a b = orI (cmpLb x y) (cmpL (a.drop (i + 1)) (b.drop (i + 1)))) := Lib.hid (by rw [HI.out.1, HDA.out, HDB.out]; rfl)
        have HBW := Lib.hid HI.out.2
        clear HDA HDB HI
        by_cases hz : cmpLb x y = 0
        · have hz2 : (cmpLb x y != 0) = false := by simp [hz]
          have HZ := Lib.hid (show cmpL a b = cmpL (a.drop (i + 1)) (b.drop (i + 1)) by rw [HC.out, hz]; rfl)
          clear hz HC
          go_wp2_with (go_at_call 155; (with_reducible refine (labcmp_any x y _).mono ?_); rintro e w4 ⟨rfl, hb4⟩; have HB4 := Lib.hid (below_step ((HBW.out.alloc HBW.out.size (.cells #[.string x.f0, .string x.f1] 112)).alloc (HBW.out.alloc HBW.out.size (.cells #[.string x.f0, .string x.f1] 112)).size (.cells #[.string y.f0, .string y.f1] 112)) hb4); clear hb4)
          go_roundw
          case rel => exact ⟨i + 1, by go_num, by omega, by omega, HZ.out, HB4.out⟩
          case measure => simp [intOf]; omega
        · have hz2 : (cmpLb x y != 0) = true := by simp [hz]
          have HR : Hid (cmpL a b = cmpLb x y) := Lib.hid (by rw [HC.out]; unfold orI; rw [if_neg hz])
          clear hz HC
          go_wp2_with (go_at_call 155; (with_reducible refine (labcmp_any x y _).mono ?_); rintro e w4 ⟨rfl, hb4⟩; have HB4 := Lib.hid (below_step ((HBW.out.alloc HBW.out.size (.cells #[.string x.f0, .string x.f1] 112)).alloc (HBW.out.alloc HBW.out.size (.cells #[.string x.f0, .string x.f1] 112)).size (.cells #[.string y.f0, .string y.f1] 112)) hb4); clear hb4)
          go_ret
          exact ⟨by rw [HR.out]; rfl, HB4.out⟩
      · have hbi : (b.length : Int) ≤ (i : Int) := by omega
        have HR : Hid (cmpL a b = 1) := Lib.hid (by rw [HI.out.1, HDA.out, List.drop_of_length_le (show b.length ≤ i by omega)]; rfl)
        have HBW := Lib.hid HI.out.2
        clear hx1 HDA HI
        generalize a.getD i z112 = x at *
        go_wp2
        go_ret
        exact ⟨by rw [HR.out]; rfl, HBW.out.alloc HBW.out.size _⟩
    · have hki : ¬ (i : Int) < (a.length : Int) := by omega
      have HR : Hid (cmpL a b = if a.length < b.length then -1 else 0) := Lib.hid (by
        rw [HI.out.1, cmpL_nil_l _ (List.drop_of_length_le (show a.length ≤ i by omega)), List.length_drop]
        by_cases h : a.length < b.length
        · rw [if_pos h, if_neg (by omega)]
        · rw [if_neg h, if_pos (by omega)])
      have HBW := Lib.hid HI.out.2
      clear HI
      by_cases hab : a.length < b.length
      · have hz : (a.length : Int) < (b.length : Int) := by omega
        rw [if_pos hab] at HR
        go_wp2
        go_ret
        exact ⟨by rw [HR.out]; rfl, HBW.out⟩
      · have hz : ¬ (a.length : Int) < (b.length : Int) := by omega
        rw [if_neg hab] at HR
        go_wp2
        go_ret
        exact ⟨by rw [HR.out]; rfl, HBW.out⟩
theorem lcomp_any (A1 : Option Addr) (c1 : Nat) (a : List S112) (A2 : Option Addr) (c2 : Nat) (b : List S112) (w : World) (h1 : Kd.C k112 w A1 a.length a) (h2 : Kd.C k112 w A2 b.length b) (hl : a.length < 4611686018427387904) :
    Calls Tryd.prog 119 #[.slice A1 a.length c1, .slice A2 b.length c2] w fun e w' => e = .returned (.int .i64 (cmpL a b)) ∧ Below w.heap.size w w' := by
  have HC := Lib.hid (cmpF_any A1 c1 a A2 c2 b w h1 h2 hl)
  clear h1 h2
  go_enter Tryd.func119, Tryd.ntmps119
  go_wp2_with (go_at_call 154; (with_reducible refine (HC.out).mono ?_); rintro e w' ⟨rfl, hb⟩)
  go_ret
  exact ⟨rfl, hb⟩
end Go.Proofs.YtojocffjajcdmaaDoor.RF
/- Entries as chunks, plainly: what Group answers, both ways. -/
namespace Go.Proofs.YtojocffjajcdmaaDoor.RF
open Go Go.RowKit Go.Shelf Go.Sort Go.Proofs.YtojocffjajcdmaaDoor Go.Proofs.YtojocffjajcdmaaDoorW.PrintWords Go.Proofs.YtojocffjajcdmaaDoorW.PrintLast Go.Proofs.YtojocffjajcdmaaDoorW.PrintMore PChunkAll
set_option linter.unusedVariables false
set_option linter.unusedSimpArgs false

instance decS112 : DecidableEq S112 := fun a b => if h : a.f0 = b.f0 ∧ a.f1 = b.f1 then isTrue (by obtain ⟨a, c⟩ := a; obtain ⟨b, d⟩ := b; simp only at h; rw [h.1, h.2]) else isFalse (fun e => h (by rw [e]; exact ⟨rfl, rfl⟩))

/-! ### An order of labels -/
structure Cmp {α : Type} (c : α → α → Int) : Prop where
  eq : ∀ x y, c x y = 0 ↔ x = y
  anti : ∀ x y, c x y < 0 ↔ 0 < c y x
  trans : ∀ x y z, c x y < 0 → c y z < 0 → c x z < 0
theorem orI_neg (a b : Int) : orI a b < 0 ↔ a < 0 ∨ (a = 0 ∧ b < 0) := by unfold orI; split <;> omega
theorem orI_pos (a b : Int) : 0 < orI a b ↔ 0 < a ∨ (a = 0 ∧ 0 < b) := by unfold orI; split <;> omega
theorem orI_zero (a b : Int) : orI a b = 0 ↔ a = 0 ∧ b = 0 := by unfold orI; split <;> omega
theorem u8_eq {a b : UInt8} (h1 : ¬ a < b) (h2 : ¬ b < a) : a = b := UInt8.le_antisymm (UInt8.not_lt.1 h2) (UInt8.not_lt.1 h1)
theorem cb_eq : ∀ a b : List UInt8, Lib.compareBytes a b = 0 ↔ a = b
  | [], [] => by simp [Lib.compareBytes]
  | [], _ :: _ => by simp [Lib.compareBytes]
  | _ :: _, [] => by simp [Lib.compareBytes]
  | a :: xa, b :: xb => by
    unfold Lib.compareBytes
    by_cases h1 : a < b
    · rw [if_pos h1]
      refine ⟨fun h => by omega, fun h => ?_⟩
      injection h with h _; subst h; exact absurd h1 (UInt8.lt_irrefl _)
    · rw [if_neg h1]
      by_cases h2 : b < a
      · rw [if_pos h2]
        refine ⟨fun h => by omega, fun h => ?_⟩
        injection h with h _; subst h; exact absurd h2 (UInt8.lt_irrefl _)
      · rw [if_neg h2, cb_eq xa xb, u8_eq h1 h2]
        simp
theorem cb_anti : ∀ a b : List UInt8, Lib.compareBytes a b < 0 ↔ 0 < Lib.compareBytes b a
  | [], [] => by simp [Lib.compareBytes]
  | [], _ :: _ => by simp [Lib.compareBytes]
  | _ :: _, [] => by simp [Lib.compareBytes]
  | a :: xa, b :: xb => by
    have ih := cb_anti xa xb
    unfold Lib.compareBytes
    by_cases h1 : a < b
    · have h2 : ¬ b < a := fun h => UInt8.lt_irrefl a (UInt8.lt_trans h1 h)
      rw [if_pos h1, if_neg h2, if_pos h1]
      omega
    · rw [if_neg h1]
      by_cases h2 : b < a
      · rw [if_pos h2, if_pos h2]; omega
      · rw [if_neg h2, if_neg h2, if_neg h1]; exact ih
theorem cb_trans : ∀ a b c : List UInt8, Lib.compareBytes a b < 0 → Lib.compareBytes b c < 0 → Lib.compareBytes a c < 0
  | [], [], _ => by simp [Lib.compareBytes]
  | [], _ :: _, [] => by simp [Lib.compareBytes]
  | [], _ :: _, _ :: _ => by simp [Lib.compareBytes]
  | _ :: _, [], _ => by simp [Lib.compareBytes]
  | _ :: _, _ :: _, [] => by simp [Lib.compareBytes]
  | a :: xa, b :: xb, c :: xc => by
    have ih := cb_trans xa xb xc
    unfold Lib.compareBytes
    intro h h'
    by_cases h1 : a < b
    · by_cases h2 : b < c
      · rw [if_pos (UInt8.lt_trans h1 h2)]; omega
      · rw [if_neg h2] at h'
        by_cases h3 : c < b
        · rw [if_pos h3] at h'; omega
        · rw [← u8_eq h2 h3, if_pos h1]; omega
    · rw [if_neg h1] at h
      by_cases h2 : b < a
      · rw [if_pos h2] at h; omega
      · rw [if_neg h2] at h
        have e := u8_eq h1 h2
        subst e
        by_cases h3 : a < c
        · rw [if_pos h3]; omega
        · rw [if_neg h3] at h' ⊢
          by_cases h4 : c < a
          · rw [if_pos h4] at h'; omega
          · rw [if_neg h4] at h' ⊢; exact ih h h'
theorem cmpS_ok : Cmp cmpS := by
  refine ⟨fun x y => ?_, fun x y => cb_anti _ _, fun x y z => cb_trans _ _ _⟩
  unfold cmpS
  rw [cb_eq]
  refine ⟨fun h => ?_, fun h => by rw [h]⟩
  obtain ⟨⟨x⟩⟩ := x
  obtain ⟨⟨y⟩⟩ := y
  simp only at h
  rw [h]
theorem cmpLb_ok : Cmp cmpLb := by
  have k := cmpS_ok
  refine ⟨fun x y => ?_, fun x y => ?_, fun x y z h h' => ?_⟩
  · unfold cmpLb
    rw [orI_zero, k.eq, k.eq]
    refine ⟨fun h => ?_, fun h => by rw [h]; exact ⟨rfl, rfl⟩⟩
    obtain ⟨a, b⟩ := x
    obtain ⟨c, d⟩ := y
    simp only at h
    rw [h.1, h.2]
  · unfold cmpLb
    rw [orI_neg, orI_pos, k.anti, k.eq, k.eq, k.anti]
    exact ⟨fun h => h.imp id (fun h => ⟨h.1.symm, h.2⟩), fun h => h.imp id (fun h => ⟨h.1.symm, h.2⟩)⟩
  · unfold cmpLb at *
    rw [orI_neg, k.eq] at *
    rcases h with h | ⟨h, g⟩
    · rcases h' with h' | ⟨h', g'⟩
      · exact .inl (k.trans _ _ _ h h')
      · exact .inl (by rw [← h']; exact h)
    · rw [h]
      rcases h' with h' | ⟨h', g'⟩
      · exact .inl h'
      · exact .inr ⟨h', k.trans _ _ _ g g'⟩
theorem cmpL_ok : Cmp cmpL := by
  have k := cmpLb_ok
  have heq : ∀ x y, cmpL x y = 0 ↔ x = y := by
    intro x
    induction x with
    | nil => intro y; cases y <;> simp [cmpL]
    | cons a x ih =>
      intro y
      cases y with
      | nil => simp [cmpL]
      | cons b y => rw [cmpL, orI_zero, k.eq, ih]; simp
  have hanti : ∀ x y, cmpL x y < 0 ↔ 0 < cmpL y x := by
    intro x
    induction x with
    | nil => intro y; cases y <;> simp [cmpL]
    | cons a x ih =>
      intro y
      cases y with
      | nil => simp [cmpL]
      | cons b y =>
        rw [cmpL, cmpL, orI_neg, orI_pos, k.anti, k.eq, k.eq, ih]
        exact ⟨fun h => h.imp id (fun h => ⟨h.1.symm, h.2⟩), fun h => h.imp id (fun h => ⟨h.1.symm, h.2⟩)⟩
  refine ⟨heq, hanti, ?_⟩
  intro x
  induction x with
  | nil =>
    intro y z
    cases y with
    | nil => simp [cmpL]
    | cons b y => cases z <;> simp [cmpL]
  | cons a x ih =>
    intro y z
    cases y with
    | nil => simp [cmpL]
    | cons b y =>
      cases z with
      | nil => simp [cmpL]
      | cons c z =>
        intro h h'
        rw [cmpL, orI_neg, k.eq] at *
        rcases h with h | ⟨h, g⟩
        · rcases h' with h' | ⟨h', g'⟩
          · exact .inl (k.trans _ _ _ h h')
          · exact .inl (by rw [← h']; exact h)
        · rw [h]
          rcases h' with h' | ⟨h', g'⟩
          · exact .inl h'
          · exact .inr ⟨h', ih _ _ g g'⟩
theorem cmpL_gt {x y : List S112} (h : 0 < cmpL x y) : cmpL y x < 0 := (cmpL_ok.anti y x).2 h
theorem cmpL_self (x : List S112) : cmpL x x = 0 := (cmpL_ok.eq x x).2 rfl
def ltL (x y : S33) : Bool := decide (cmpL x.f2 y.f2 < 0)
theorem ltL_swo : Go.Sort.SWO ltL := by
  refine ⟨fun x => ?_, fun x y z h h' => ?_, fun x y z h h' => ?_⟩
  · unfold ltL; rw [cmpL_self]; rfl
  · unfold ltL at *
    rw [decide_eq_true_eq] at *
    exact cmpL_ok.trans _ _ _ h h'
  · unfold ltL at *
    rw [decide_eq_false_iff_not] at *
    intro hn
    rcases Int.lt_trichotomy (cmpL x.f2 y.f2) 0 with g | g | g
    · exact h g
    · rw [(cmpL_ok.eq _ _).1 g] at hn; exact h' hn
    · exact h' (cmpL_ok.trans _ _ _ (cmpL_gt g) hn)

/-! ### A stable sort is the classes, one behind the other -/
def cls (sets : List (List S112)) (l : List S33) : List S33 := sets.flatMap fun s => l.filter fun x => decide (x.f2 = s)
theorem insR_at (b : S33 → S33 → Bool) (e : S33) (X Y : List S33) (h1 : ∀ x ∈ X, b e x = true) (h2 : ∀ y ∈ Y, b e y = false) : ST.insR b e (X ++ Y) = X ++ e :: Y := by
  induction X with
  | nil =>
    cases Y with
    | nil => rfl
    | cons y Y =>
      have := h2 y List.mem_cons_self
      simp [ST.insR, this]
  | cons x X ih =>
    have := h1 x List.mem_cons_self
    simp [ST.insR, this, ih (fun z hz => h1 z (List.mem_cons_of_mem _ hz))]
theorem cls_mem {sets : List (List S112)} {l : List S33} {x : S33} (h : x ∈ cls sets l) : x.f2 ∈ sets ∧ x ∈ l := by
  unfold cls at h
  obtain ⟨s, hs, hx⟩ := List.mem_flatMap.1 h
  rw [List.mem_filter, decide_eq_true_eq] at hx
  exact ⟨by rw [hx.2]; exact hs, hx.1⟩
theorem cls_out {sets : List (List S112)} {l : List S33} {e : S33} (h : e.f2 ∉ sets) : cls sets (l ++ [e]) = cls sets l := by
  induction sets with
  | nil => rfl
  | cons s sets ih =>
    have h1 : e.f2 ≠ s := fun h' => h (by rw [h']; exact List.mem_cons_self)
    have := ih (fun h' => h (List.mem_cons_of_mem _ h'))
    unfold cls at *
    rw [List.flatMap_cons, List.flatMap_cons, this, List.filter_append]
    simp [h1]
theorem cls_snoc {sets : List (List S112)} (hs : sets.Pairwise fun a b => cmpL a b < 0) {l : List S33} {e : S33} (he : e.f2 ∈ sets) : ST.insR ltL e (cls sets l).reverse = (cls sets (l ++ [e])).reverse := by
  obtain ⟨s1, s2, rfl⟩ := List.append_of_mem he
  have hp := List.pairwise_append.1 hs
  have hp2 := List.pairwise_cons.1 hp.2.1
  have n1 : e.f2 ∉ s1 := fun h => by
    have := hp.2.2 _ h _ List.mem_cons_self
    rw [cmpL_self] at this; omega
  have n2 : e.f2 ∉ s2 := fun h => by
    have := hp2.1 _ h
    rw [cmpL_self] at this; omega
  have e0 : ∀ m, cls (s1 ++ e.f2 :: s2) m = (cls s1 m ++ m.filter fun x => decide (x.f2 = e.f2)) ++ cls s2 m := by
    intro m; unfold cls; rw [List.flatMap_append, List.flatMap_cons, List.append_assoc]
  rw [e0, e0, cls_out n1, cls_out n2, List.filter_append]
  have e1 : ([e].filter fun x => decide (x.f2 = e.f2)) = [e] := by simp
  rw [e1, List.reverse_append, insR_at]
  · simp
  · intro x hx
    have := (cls_mem (List.mem_reverse.1 hx)).1
    unfold ltL
    exact decide_eq_true (hp2.1 _ this)
  · intro y hy
    rw [List.mem_reverse, List.mem_append, List.mem_filter] at hy
    unfold ltL
    refine decide_eq_false (fun h => ?_)
    rcases hy with hy | ⟨_, hy⟩
    · have := hp.2.2 _ (cls_mem hy).1 _ List.mem_cons_self
      have := (cmpL_ok.anti _ _).1 this
      omega
    · rw [of_decide_eq_true hy, cmpL_self] at h; omega
theorem srtR_cls {sets : List (List S112)} (hs : sets.Pairwise fun a b => cmpL a b < 0) : ∀ (l l0 : List S33), (∀ x ∈ l, x.f2 ∈ sets) → ST.srtR ltL l (cls sets l0).reverse = (cls sets (l0 ++ l)).reverse
  | [], l0, _ => by rw [List.append_nil]; rfl
  | e :: l, l0, h => by
    have := srtR_cls hs l (l0 ++ [e]) (fun x hx => h x (List.mem_cons_of_mem _ hx))
    rw [List.append_assoc] at this
    rw [← cls_snoc hs (h e List.mem_cons_self)] at this
    exact this
theorem srt_cls {sets : List (List S112)} (hs : sets.Pairwise fun a b => cmpL a b < 0) (l : List S33) (h : ∀ x ∈ l, x.f2 ∈ sets) : ST.srt ltL l = cls sets l := by
  have h1 := srtR_cls hs l [] h
  have h2 : (cls sets []).reverse = [] := by
    have : cls sets [] = [] := by unfold cls; simp
    rw [this]; rfl
  rw [h2, List.nil_append] at h1
  unfold ST.srt
  rw [h1, List.reverse_reverse]

/-! ### Rows into chunks -/
abbrev CH := List S112 × List S71
def rowE (x : S33) : S71 := ⟨x.f0, x.f1, x.f3⟩
def stepG (out : List CH) (x : S33) : List CH :=
  match out.getLast? with
  | none => out ++ [(x.f2, [rowE x])]
  | some c => if c.1 ≠ x.f2 ∨ c.2.length = 1000 then out ++ [(x.f2, [rowE x])] else out.dropLast ++ [(c.1, c.2 ++ [rowE x])]
def grpG (l : List S33) : List CH := l.foldl stepG []
def stepR (s : List S112) (st : List CH × List S71) (x : S33) : List CH × List S71 :=
  if st.2.length = 1000 then (st.1 ++ [(s, st.2)], [rowE x]) else (st.1, st.2 ++ [rowE x])
def setR (s : List S112) (g : List S33) (out : List CH) : List CH × List S71 := (g.filter fun x => decide (x.f2 = s)).foldl (stepR s) (out, [])
def grpR (sets : List (List S112)) (g : List S33) (out : List CH) : List CH := sets.foldl (fun out s => (setR s g out).1 ++ [(s, (setR s g out).2)]) out
theorem step_in (s : List S112) : ∀ (xs : List S33) (o : List CH) (r : List S71), (∀ x ∈ xs, x.f2 = s) → xs.foldl stepG (o ++ [(s, r)]) = (xs.foldl (stepR s) (o, r)).1 ++ [(s, (xs.foldl (stepR s) (o, r)).2)]
  | [], o, r, _ => rfl
  | x :: xs, o, r, h => by
    have hx := h x List.mem_cons_self
    have ih := fun o r => step_in s xs o r (fun y hy => h y (List.mem_cons_of_mem _ hy))
    rw [List.foldl_cons, List.foldl_cons]
    unfold stepG stepR
    rw [List.getLast?_concat]
    dsimp only
    by_cases hl : r.length = 1000
    · rw [if_pos (.inr hl), if_pos hl, hx]
      exact ih _ _
    · rw [if_neg (by rw [hx]; simp [hl]), if_neg hl, List.dropLast_concat]
      exact ih _ _
theorem step_class (s : List S112) (xs : List S33) (out : List CH) (h : ∀ x ∈ xs, x.f2 = s) (hne : xs ≠ []) (ho : ∀ c, out.getLast? = some c → c.1 ≠ s) :
    xs.foldl stepG out = (xs.foldl (stepR s) (out, [])).1 ++ [(s, (xs.foldl (stepR s) (out, [])).2)] := by
  cases xs with
  | nil => exact absurd rfl hne
  | cons x xs =>
    have hx := h x List.mem_cons_self
    rw [List.foldl_cons, List.foldl_cons]
    have e1 : stepG out x = out ++ [(s, [rowE x])] := by
      unfold stepG
      split
      · rw [hx]
      · rename_i c hc
        rw [if_pos (.inl (by rw [hx]; exact ho c hc)), hx]
    have e2 : stepR s (out, []) x = (out, [rowE x]) := by
      unfold stepR
      rw [if_neg (by simp)]
      rfl
    rw [e1, e2]
    exact step_in s xs out [rowE x] (fun y hy => h y (List.mem_cons_of_mem _ hy))
theorem grp_eq (g : List S33) : ∀ (sets : List (List S112)) (out : List CH), sets.Pairwise (fun a b => cmpL a b < 0) → (∀ s ∈ sets, ∃ x ∈ g, x.f2 = s) → (∀ c, out.getLast? = some c → c.1 ∉ sets) → (cls sets g).foldl stepG out = grpR sets g out
  | [], out, _, _, _ => rfl
  | s :: sets, out, hs, hm, ho => by
    have hp := List.pairwise_cons.1 hs
    have e : cls (s :: sets) g = (g.filter fun x => decide (x.f2 = s)) ++ cls sets g := rfl
    rw [e, List.foldl_append, step_class s _ out]
    · rw [grp_eq g sets _ hp.2 (fun t ht => hm t (List.mem_cons_of_mem _ ht))]
      · rfl
      · intro c hc
        rw [List.getLast?_concat] at hc
        injection hc with hc
        subst hc
        intro hn
        have := hp.1 _ hn
        rw [cmpL_self] at this; omega
    · intro x hx
      rw [List.mem_filter] at hx
      exact of_decide_eq_true hx.2
    · obtain ⟨x, hx, hxs⟩ := hm s List.mem_cons_self
      intro hn
      have : x ∈ g.filter fun x => decide (x.f2 = s) := by rw [List.mem_filter]; exact ⟨hx, decide_eq_true hxs⟩
      rw [hn] at this
      cases this
    · intro c hc h
      exact ho c hc (by rw [h]; exact List.mem_cons_self)

/-! ### The sets of labels, in order -/
def posK (k : List S112) (sets : List (List S112)) : Nat → Nat
  | 0 => 0
  | j + 1 => if cmpL k (sets.getD j []) < 0 then posK k sets j else j + 1
def insK (sets : List (List S112)) (k : List S112) : List (List S112) :=
  if 0 < posK k sets sets.length ∧ cmpL k (sets.getD (posK k sets sets.length - 1) []) = 0 then sets
  else sets.take (posK k sets sets.length) ++ k :: sets.drop (posK k sets sets.length)
def setsOf (g : List S33) : List (List S112) := g.foldl (fun s x => insK s x.f2) []
theorem posK_le (k : List S112) (sets : List (List S112)) : ∀ j, posK k sets j ≤ j
  | 0 => Nat.le_refl _
  | j + 1 => by
    unfold posK
    split
    · exact Nat.le_succ_of_le (posK_le k sets j)
    · exact Nat.le_refl _
theorem posK_spec (k : List S112) (sets : List (List S112)) : ∀ j, (∀ i, posK k sets j ≤ i → i < j → cmpL k (sets.getD i []) < 0) ∧ (0 < posK k sets j → ¬ cmpL k (sets.getD (posK k sets j - 1) []) < 0)
  | 0 => ⟨fun i _ h => absurd h (Nat.not_lt_zero _), fun h => absurd h (Nat.lt_irrefl 0)⟩
  | j + 1 => by
    unfold posK
    split
    · rename_i hc
      obtain ⟨h1, h2⟩ := posK_spec k sets j
      refine ⟨fun i hi hij => ?_, h2⟩
      by_cases e : i = j
      · subst e; exact hc
      · exact h1 i hi (by omega)
    · rename_i hc
      exact ⟨fun i hi hij => by omega, fun _ => by simpa using hc⟩
theorem insK_ok {sets : List (List S112)} (hs : sets.Pairwise fun a b => cmpL a b < 0) (k : List S112) : (insK sets k).Pairwise (fun a b => cmpL a b < 0) ∧ ∀ s, s ∈ insK sets k ↔ s = k ∨ s ∈ sets := by
  have hle := posK_le k sets sets.length
  obtain ⟨h1, h2⟩ := posK_spec k sets sets.length
  unfold insK
  generalize hp : posK k sets sets.length = p at *
  have getD_eq : ∀ i (h : i < sets.length), sets.getD i [] = sets[i] := fun i h => by rw [List.getD_eq_getElem?_getD, List.getElem?_eq_getElem h]; rfl
  by_cases hc : 0 < p ∧ cmpL k (sets.getD (p - 1) []) = 0
  · rw [if_pos hc]
    refine ⟨hs, fun s => ⟨.inr, ?_⟩⟩
    rintro (rfl | h)
    · rw [(cmpL_ok.eq _ _).1 hc.2, getD_eq _ (by omega)]
      exact List.getElem_mem _
    · exact h
  · rw [if_neg hc]
    have hsp : sets = sets.take p ++ sets.drop p := (List.take_append_drop p sets).symm
    have hs' := hs
    rw [hsp, List.pairwise_append] at hs'
    have hlow : ∀ s ∈ sets.take p, cmpL s k < 0 := by
      intro s hsm
      obtain ⟨i, hi, rfl⟩ := List.getElem_of_mem hsm
      rw [List.length_take] at hi
      rw [List.getElem_take]
      have hp0 : 0 < p := by omega
      have hnot := h2 hp0
      have hne : cmpL k (sets.getD (p - 1) []) ≠ 0 := fun h => hc ⟨hp0, h⟩
      have hgt : 0 < cmpL k (sets.getD (p - 1) []) := by omega
      have hlt := cmpL_gt hgt
      rw [getD_eq _ (by omega)] at hlt
      by_cases e : i = p - 1
      · subst e; exact hlt
      · exact cmpL_ok.trans _ _ _ (List.pairwise_iff_getElem.1 hs i (p - 1) (by omega) (by omega) (by omega)) hlt
    have hhigh : ∀ s ∈ sets.drop p, cmpL k s < 0 := by
      intro s hsm
      obtain ⟨i, hi, rfl⟩ := List.getElem_of_mem hsm
      rw [List.length_drop] at hi
      rw [List.getElem_drop]
      have := h1 (p + i) (by omega) (by omega)
      rwa [getD_eq _ (by omega)] at this
    refine ⟨?_, fun s => ?_⟩
    · rw [List.pairwise_append]
      refine ⟨hs'.1, List.pairwise_cons.2 ⟨hhigh, hs'.2.1⟩, fun a ha b hb => ?_⟩
      rcases List.mem_cons.1 hb with rfl | hb
      · exact hlow a ha
      · exact hs'.2.2 a ha b hb
    · rw [List.mem_append, List.mem_cons]
      constructor
      · rintro (h | rfl | h)
        · exact .inr (List.mem_of_mem_take h)
        · exact .inl rfl
        · exact .inr (List.mem_of_mem_drop h)
      · rintro (rfl | h)
        · exact .inr (.inl rfl)
        · rw [hsp, List.mem_append] at h
          exact h.imp id .inr
theorem setsOf_ok : ∀ (g : List S33) (s0 : List (List S112)), s0.Pairwise (fun a b => cmpL a b < 0) → (g.foldl (fun s x => insK s x.f2) s0).Pairwise (fun a b => cmpL a b < 0) ∧ ∀ s, s ∈ g.foldl (fun s x => insK s x.f2) s0 ↔ s ∈ s0 ∨ ∃ x ∈ g, x.f2 = s
  | [], s0, h => ⟨h, fun s => by simp⟩
  | x :: g, s0, h => by
    obtain ⟨a, b⟩ := insK_ok h x.f2
    obtain ⟨c, d⟩ := setsOf_ok g (insK s0 x.f2) a
    refine ⟨c, fun s => ?_⟩
    rw [List.foldl_cons, d, b]
    constructor
    · rintro ((rfl | h) | ⟨y, hy, rfl⟩)
      · exact .inr ⟨x, List.mem_cons_self, rfl⟩
      · exact .inl h
      · exact .inr ⟨y, List.mem_cons_of_mem _ hy, rfl⟩
    · rintro (h | ⟨y, hy, rfl⟩)
      · exact .inl (.inr h)
      · rcases List.mem_cons.1 hy with rfl | hy
        · exact .inl (.inl rfl)
        · exact .inr ⟨y, hy, rfl⟩
/-- The two ways of grouping answer the same. -/
theorem group_eq (g : List S33) : grpG (ST.srt ltL g) = grpR (setsOf g) g [] := by
  obtain ⟨a, b⟩ := setsOf_ok g [] List.Pairwise.nil
  have a' : (setsOf g).Pairwise fun a b => cmpL a b < 0 := a
  have b' : ∀ s, s ∈ setsOf g ↔ ∃ x ∈ g, x.f2 = s := fun s => by
    have := b s
    simpa [setsOf] using this
  rw [srt_cls a' g (fun x hx => (b' _).2 ⟨x, hx, rfl⟩)]
  exact grp_eq g _ [] a' (fun s hs => (b' s).1 hs) (fun c hc => by simp at hc)
end Go.Proofs.YtojocffjajcdmaaDoor.RF
/- Entries as chunks, plainly: round by round. -/
namespace Go.Proofs.YtojocffjajcdmaaDoor.RF
open Go Go.RowKit Go.Shelf Go.Sort Go.Proofs.YtojocffjajcdmaaDoor Go.Proofs.YtojocffjajcdmaaDoorW.PrintWords Go.Proofs.YtojocffjajcdmaaDoorW.PrintLast Go.Proofs.YtojocffjajcdmaaDoorW.PrintMore PChunkAll
set_option linter.unusedVariables false
set_option linter.unusedSimpArgs false

/-- The right entries, of each number the first. -/
def newE (out : List S33) (x : S33) : Bool := rightE x && !(out.map (·.f0)).contains x.f0
def stepD (out : List S33) (x : S33) : List S33 := if newE out x = true then out ++ [x] else out
def dedL (l : List S33) : List S33 := l.foldl stepD []
theorem foldl_take_succ {α β : Type} (f : β → α → β) (b : β) (l : List α) (i : Nat) (h : i < l.length) : (l.take (i + 1)).foldl f b = f ((l.take i).foldl f b) l[i] := by
  rw [List.take_succ_eq_append_getElem h, List.foldl_append]; rfl
theorem dedL_succ (l : List S33) (i : Nat) (h : i < l.length) : dedL (l.take (i + 1)) = stepD (dedL (l.take i)) l[i] := foldl_take_succ _ _ _ _ h
theorem dedF_len : ∀ (l o : List S33), (l.foldl stepD o).length ≤ o.length + l.length
  | [], o => by simp
  | x :: l, o => by
    rw [List.foldl_cons]
    have h := dedF_len l (stepD o x)
    have h2 : (stepD o x).length ≤ o.length + 1 := by unfold stepD; split <;> simp
    rw [List.length_cons]
    omega
theorem dedL_len (l : List S33) : (dedL l).length ≤ l.length := by have := dedF_len l []; simpa [dedL] using this
theorem dedF_mem : ∀ (l o : List S33) (y : S33), y ∈ l.foldl stepD o → y ∈ o ∨ y ∈ l
  | [], o, y, h => .inl h
  | x :: l, o, y, h => by
    rw [List.foldl_cons] at h
    rcases dedF_mem l _ y h with h | h
    · unfold stepD at h
      split at h
      · rcases List.mem_append.1 h with h | h
        · exact .inl h
        · rw [List.mem_singleton] at h; subst h; exact .inr List.mem_cons_self
      · exact .inl h
    · exact .inr (List.mem_cons_of_mem _ h)
theorem dedL_mem {l : List S33} {y : S33} (h : y ∈ dedL l) : y ∈ l := by
  rcases dedF_mem l [] y h with h | h
  · cases h
  · exact h

/-! ### Group's rounds -/
theorem grpG_succ (l : List S33) (i : Nat) (h : i < l.length) : grpG (l.take (i + 1)) = stepG (grpG (l.take i)) l[i] := foldl_take_succ _ _ _ _ h
theorem stepG_snoc (o : List CH) (c : CH) (x : S33) : stepG (o ++ [c]) x = if c.1 ≠ x.f2 ∨ c.2.length = 1000 then o ++ [c] ++ [(x.f2, [rowE x])] else o ++ [(c.1, c.2 ++ [rowE x])] := by
  unfold stepG
  rw [List.getLast?_concat]
  dsimp only
  rw [List.dropLast_concat]
theorem grpG_last (l : List S33) : ∀ i (h : i < l.length), ∃ o c, grpG (l.take (i + 1)) = o ++ [c] ∧ c.1 = l[i].f2 ∧ 1 ≤ c.2.length ∧ c.2.length ≤ 1000
  | 0, h => by
    rw [grpG_succ l 0 h]
    exact ⟨[], _, rfl, rfl, by simp, by simp⟩
  | i + 1, h => by
    obtain ⟨o, c, e, h1, h2, h3⟩ := grpG_last l i (by omega)
    rw [grpG_succ l (i + 1) h, e, stepG_snoc]
    by_cases hc : c.1 ≠ l[i + 1].f2 ∨ c.2.length = 1000
    · rw [if_pos hc]
      exact ⟨o ++ [c], _, rfl, rfl, by simp, by simp⟩
    · rw [if_neg hc]
      have hc1 : c.1 = l[i + 1].f2 := Classical.byContradiction fun h => hc (.inl h)
      have hc2 : c.2.length ≠ 1000 := fun h => hc (.inr h)
      exact ⟨o, _, rfl, hc1, by simp, by simp; omega⟩
theorem stepG_len (o : List CH) (x : S33) : (stepG o x).length ≤ o.length + 1 := by
  unfold stepG
  split
  · simp
  · split
    · simp
    · simp
theorem grpF_len : ∀ (l : List S33) (o : List CH), (l.foldl stepG o).length ≤ o.length + l.length
  | [], o => by simp
  | x :: l, o => by
    rw [List.foldl_cons]
    have h := grpF_len l (stepG o x)
    have h2 := stepG_len o x
    rw [List.length_cons]
    omega
theorem grpG_len (l : List S33) : (grpG l).length ≤ l.length := by have := grpF_len l []; simpa [grpG] using this

/-! ### The reference's rounds -/
theorem setsOf_succ (g : List S33) (i : Nat) (h : i < g.length) : setsOf (g.take (i + 1)) = insK (setsOf (g.take i)) g[i].f2 := foldl_take_succ _ _ _ _ h
theorem setR_succ (s : List S112) (g : List S33) (out : List CH) (i : Nat) (h : i < g.length) : setR s (g.take (i + 1)) out = if g[i].f2 = s then stepR s (setR s (g.take i) out) g[i] else setR s (g.take i) out := by
  unfold setR
  rw [List.take_succ_eq_append_getElem h, List.filter_append, List.foldl_append]
  by_cases e : g[i].f2 = s
  · rw [if_pos e]
    simp [e]
  · rw [if_neg e]
    simp [e]
theorem grpR_succ (sets : List (List S112)) (g : List S33) (k : Nat) (h : k < sets.length) : grpR (sets.take (k + 1)) g [] = (setR sets[k] g (grpR (sets.take k) g [])).1 ++ [(sets[k], (setR sets[k] g (grpR (sets.take k) g [])).2)] := foldl_take_succ _ _ _ _ h
theorem stepF_mono (s : List S112) : ∀ (xs : List S33) (st : List CH × List S71), st.1.length ≤ (xs.foldl (stepR s) st).1.length
  | [], st => Nat.le_refl _
  | x :: xs, st => by
    rw [List.foldl_cons]
    have h := stepF_mono s xs (stepR s st x)
    have h2 : st.1.length ≤ (stepR s st x).1.length := by unfold stepR; split <;> simp
    omega
theorem setR_mono (s : List S112) (g : List S33) (out : List CH) (i : Nat) : (setR s (g.take i) out).1.length ≤ (setR s g out).1.length := by
  have e : setR s g out = ((g.drop i).filter fun x => decide (x.f2 = s)).foldl (stepR s) (setR s (g.take i) out) := by
    unfold setR
    rw [← List.foldl_append, ← List.filter_append, List.take_append_drop]
  rw [e]
  exact stepF_mono s _ _
theorem grpR_take (g : List S33) (sets : List (List S112)) (k : Nat) : (grpR (sets.take k) g []).length ≤ (grpR sets g []).length := by
  have hm : ∀ (ss : List (List S112)) (o : List CH), o.length ≤ (grpR ss g o).length := by
    intro ss
    induction ss with
    | nil => intro o; exact Nat.le_refl _
    | cons s ss ih =>
      intro o
      have h := ih ((setR s g o).1 ++ [(s, (setR s g o).2)])
      have h2 : o.length ≤ (setR s g o).1.length := by
        have := stepF_mono s (g.filter fun x => decide (x.f2 = s)) (o, [])
        exact this
      have e : grpR (s :: ss) g o = grpR ss g ((setR s g o).1 ++ [(s, (setR s g o).2)]) := rfl
      rw [e]
      rw [List.length_append] at h
      omega
  have e : grpR sets g [] = grpR (sets.drop k) g (grpR (sets.take k) g []) := by
    unfold grpR
    rw [← List.foldl_append, List.take_append_drop]
  rw [e]
  exact hm _ _
/-- Never more chunks than entries. -/
theorem grpR_len (g : List S33) : (grpR (setsOf g) g []).length ≤ g.length := by
  rw [← group_eq]
  have := grpG_len (ST.srt ltL g)
  rwa [ST.srt_length] at this
theorem setR_len (g : List S33) (k i : Nat) (hk : k < (setsOf g).length) : (setR (setsOf g)[k] (g.take i) (grpR ((setsOf g).take k) g [])).1.length < g.length := by
  have h1 := setR_mono (setsOf g)[k] g (grpR ((setsOf g).take k) g []) i
  have h2 := grpR_take g (setsOf g) (k + 1)
  rw [grpR_succ _ _ _ hk] at h2
  have h3 := grpR_len g
  simp at h2
  omega
theorem stepR_rows (s : List S112) (st : List CH × List S71) (x : S33) (h : st.2.length ≤ 1000) : (stepR s st x).2.length ≤ 1000 := by
  unfold stepR
  split
  · simp
  · simp; omega
theorem setR_rows (s : List S112) (g : List S33) (out : List CH) : ∀ i, i ≤ g.length → (setR s (g.take i) out).2.length ≤ 1000
  | 0, _ => by simp [setR]
  | i + 1, h => by
    have ih := setR_rows s g out i (by omega)
    rw [setR_succ s g out i (by omega)]
    split
    · exact stepR_rows s _ _ ih
    · exact ih
end Go.Proofs.YtojocffjajcdmaaDoor.RF
/- The reference's Compare of two lists of labels. -/
namespace Go.Proofs.YtojocffjajcdmaaDoor.RF
open Go Go.RowKit Go.Shelf Go.Sort Go.Proofs.YtojocffjajcdmaaDoor Go.Proofs.YtojocffjajcdmaaDoorW.PrintWords Go.Proofs.YtojocffjajcdmaaDoorW.PrintLast Go.Proofs.YtojocffjajcdmaaDoorW.PrintMore PChunkAll
set_option linter.unusedVariables false
set_option linter.unusedSimpArgs false

theorem cb_val : ∀ a b : List UInt8, Lib.compareBytes a b = -1 ∨ Lib.compareBytes a b = 0 ∨ Lib.compareBytes a b = 1
  | [], [] => .inr (.inl rfl)
  | [], _ :: _ => .inl rfl
  | _ :: _, [] => .inr (.inr rfl)
  | a :: xa, b :: xb => by
    have ih := cb_val xa xb
    unfold Lib.compareBytes
    split
    · exact .inl rfl
    · split
      · exact .inr (.inr rfl)
      · exact ih
theorem less_cb : ∀ x y : List UInt8, Op.bytesLess x y = decide (Lib.compareBytes x y < 0)
  | [], [] => rfl
  | _ :: _, [] => rfl
  | [], _ :: _ => rfl
  | a :: x, b :: y => by
    have ih := less_cb x y
    unfold Op.bytesLess Lib.compareBytes
    by_cases h1 : a < b
    · rw [if_pos h1]; simp [h1]
    · rw [if_neg h1]
      by_cases h2 : b < a
      · rw [if_pos h2]
        have h3 : (a == b) = false := by
          rw [beq_eq_false_iff_ne]
          intro e
          rw [e] at h2
          exact UInt8.lt_irrefl _ h2
        simp [h1, h3]
      · rw [if_neg h2, u8_eq h1 h2, ih]
        simp [UInt8.lt_irrefl]
theorem less_S (a b : ByteArray) : Op.bytesLess a.toList b.toList = decide (cmpS a b < 0) := by rw [less_cb, Lib.toList_data, Lib.toList_data]; rfl
theorem eq_S (a b : ByteArray) : (a.toList == b.toList) = decide (cmpS a b = 0) := by
  unfold cmpS
  rw [Lib.toList_data, Lib.toList_data]
  by_cases h : a.data.toList = b.data.toList
  · rw [decide_eq_true ((cb_eq _ _).2 h)]; simpa using h
  · rw [decide_eq_false (fun e => h ((cb_eq _ _).1 e))]; simpa using h
theorem cmpS_tri (a b : ByteArray) : (cmpS a b = -1 ∧ Op.bytesLess a.toList b.toList = true) ∨ (cmpS a b = 0 ∧ Op.bytesLess a.toList b.toList = false ∧ (a.toList == b.toList) = true) ∨ (cmpS a b = 1 ∧ Op.bytesLess a.toList b.toList = false ∧ (a.toList == b.toList) = false) := by
  rw [less_S, eq_S]
  rcases cb_val a.data.toList b.data.toList with h | h | h
  · exact .inl ⟨h, by unfold cmpS; rw [h]; rfl⟩
  · exact .inr (.inl ⟨h, by unfold cmpS; rw [h]; rfl, by unfold cmpS; rw [h]; rfl⟩)
  · exact .inr (.inr ⟨h, by unfold cmpS; rw [h]; rfl, by unfold cmpS; rw [h]; rfl⟩)

set_option maxHeartbeats 4000000 in
set_option maxRecDepth 100000 in
theorem rcmp_any (A1 : Option Addr) (c1 : Nat) (a : List S112) (A2 : Option Addr) (c2 : Nat) (b : List S112) (w : World) (h1 : Kd.C k112 w A1 a.length a) (h2 : Kd.C k112 w A2 b.length b) (hl : a.length < 4611686018427387904) :
    Calls Tryd.prog 120 #[.slice A1 a.length c1, .slice A2 b.length c2] w fun e w' => e = .returned (.int .i64 (cmpL a b)) ∧ Below w.heap.size w w' := by
  have HA := Lib.hid h1
  have HB := Lib.hid h2
  clear h1 h2
  go_enter Tryd.func120, Tryd.ntmps120
  go_wp2_with fail
  go_loopw [5] (fun v5 wr => ∃ i : Nat, v5 = .int .i64 (i : Int) ∧ i ≤ a.length ∧ i ≤ b.length ∧ Hid (cmpL a b = cmpL (a.drop i) (b.drop i) ∧ Below w.heap.size w wr)) (fun v5 _ => a.length - (intOf v5).toNat)
  case atStart => exact ⟨0, rfl, Nat.zero_le _, Nat.zero_le _, by simp, Below.refl _ _⟩
  case round =>
    obtain ⟨i, rfl, hi, hib, HI⟩ := hrel
    by_cases hlt : i < a.length
    · have hki : (i : Int) < (a.length : Int) := by omega
      have HDA := Lib.hid (drop_at hlt)
      by_cases hb : i < b.length
      · have hbi : (i : Int) < (b.length : Int) := by omega
        obtain ⟨g1, o1, rfl, hx1⟩ := labs_at HA.out (by omega)
        have q0 := pw_cell_below HI.out.2 (hx1 i hlt).1
        have q1 := pw_cell_below HI.out.2 (hx1 i hlt).2
        obtain ⟨g2, o2, rfl, hx2⟩ := labs_at HB.out (by omega)
        have p0 := pw_cell_below HI.out.2 (hx2 i hb).1
        have p1 := pw_cell_below HI.out.2 (hx2 i hb).2
        have HDB := Lib.hid (drop_at hb)
        clear hx1 hx2
        generalize a.getD i z112 = x at *
        generalize b.getD i z112 = y at *
        have HC : Hid (cmpL a b = orI (orI (cmpS x.f0 y.f0) (cmpS x.f1 y.f1)) (cmpL (a.drop (i + 1)) (b.drop (i + 1)))) := Lib.hid (by rw [HI.out.1, HDA.out, HDB.out]; rfl)
        have HBW := Lib.hid HI.out.2
        clear HDA HDB HI
        rcases cmpS_tri x.f0 y.f0 with ⟨t1, t2⟩ | ⟨t1, t2, t3⟩ | ⟨t1, t2, t3⟩
        · have HR : Hid (cmpL a b = -1) := Lib.hid (by rw [HC.out, t1]; rfl)
          clear HC t1
          go_wp2
          go_quiet (fail)
          go_wp2
          go_ret
          exact ⟨by rw [HR.out]; rfl, pw_below_drewN HBW.out _⟩
        · rw [t1] at HC
          have HC2 : Hid (cmpL a b = orI (cmpS x.f1 y.f1) (cmpL (a.drop (i + 1)) (b.drop (i + 1)))) := HC
          clear HC t1
          rcases cmpS_tri x.f1 y.f1 with ⟨s1, s2⟩ | ⟨s1, s2, s3⟩ | ⟨s1, s2, s3⟩
          · have HR : Hid (cmpL a b = -1) := Lib.hid (by rw [HC2.out, s1]; rfl)
            clear HC2 s1
            go_wp2
            go_quiet (fail)
            go_wp2
            go_quiet (fail)
            go_wp2
            go_quiet (fail)
            go_wp2
            go_ret
            exact ⟨by rw [HR.out]; rfl, pw_below_drewN (pw_below_drewN (pw_below_drewN HBW.out _) _) _⟩
          · rw [s1] at HC2
            have HZ : Hid (cmpL a b = cmpL (a.drop (i + 1)) (b.drop (i + 1))) := HC2
            clear HC2 s1
            go_wp2
            go_quiet (fail)
            go_wp2
            go_quiet (fail)
            go_wp2
            go_quiet (fail)
            go_wp2
            go_quiet (fail)
            go_wp2
            go_roundw
            case rel => exact ⟨i + 1, by go_num, by omega, by omega, HZ.out, pw_below_drewN HBW.out _⟩
            case measure => simp [intOf]; omega
          · have HR : Hid (cmpL a b = 1) := Lib.hid (by rw [HC2.out, s1]; rfl)
            clear HC2 s1
            go_wp2
            go_quiet (fail)
            go_wp2
            go_quiet (fail)
            go_wp2
            go_quiet (fail)
            go_wp2
            go_quiet (fail)
            go_wp2
            go_ret
            exact ⟨by rw [HR.out]; rfl, pw_below_drewN (pw_below_drewN (pw_below_drewN (pw_below_drewN HBW.out _) _) _) _⟩
        · have HR : Hid (cmpL a b = 1) := Lib.hid (by rw [HC.out, t1]; rfl)
          clear HC t1
          go_wp2
          go_quiet (fail)
          go_wp2
          go_quiet (fail)
          go_wp2
          go_ret
          exact ⟨by rw [HR.out]; rfl, pw_below_drewN (pw_below_drewN HBW.out _) _⟩
      · have hbi : ¬ (i : Int) < (b.length : Int) := by omega
        have hz1 : ¬ (a.length : Int) < (b.length : Int) := by omega
        have hz2 : (b.length : Int) < (a.length : Int) := by omega
        have HR : Hid (cmpL a b = 1) := Lib.hid (by rw [HI.out.1, HDA.out, List.drop_of_length_le (show b.length ≤ i by omega)]; rfl)
        have HBW := Lib.hid HI.out.2
        clear HDA HI
        go_wp2
        go_ret
        exact ⟨by rw [HR.out]; rfl, HBW.out⟩
    · have hki : ¬ (i : Int) < (a.length : Int) := by omega
      have HR : Hid (cmpL a b = if a.length < b.length then -1 else 0) := Lib.hid (by
        rw [HI.out.1, cmpL_nil_l _ (List.drop_of_length_le (show a.length ≤ i by omega)), List.length_drop]
        by_cases h : a.length < b.length
        · rw [if_pos h, if_neg (by omega)]
        · rw [if_neg h, if_pos (by omega)])
      have HBW := Lib.hid HI.out.2
      clear HI
      by_cases hab : a.length < b.length
      · have hz : (a.length : Int) < (b.length : Int) := by omega
        rw [if_pos hab] at HR
        go_wp2
        go_ret
        exact ⟨by rw [HR.out]; rfl, HBW.out⟩
      · have hz : ¬ (a.length : Int) < (b.length : Int) := by omega
        have hz2 : ¬ (b.length : Int) < (a.length : Int) := by omega
        rw [if_neg hab] at HR
        go_wp2
        go_ret
        exact ⟨by rw [HR.out]; rfl, HBW.out⟩
end Go.Proofs.YtojocffjajcdmaaDoor.RF
