import Derived.Test.YtojocffjajcdmaaDoorMC
import Derived.Test.YtojocffjajcdmaaDoorMD
namespace Go.Proofs.YtojocffjajcdmaaDoor
open Go.RowKit Go.Proofs.YtojocffjajcdmaaDoorW.PrintWords Go.Proofs.YtojocffjajcdmaaDoorW.PrintLast Go.Proofs.YtojocffjajcdmaaDoorW.PrintMore PChunkAll
set_option linter.unusedVariables false
set_option linter.unusedSimpArgs false

/-- An entry's block. -/
def Ent (W : World) (g : Nat) (x : S33) (A : Option Addr) (c : Nat) : Prop := W.heap[g]? = some (.cells (entC x A c) 33 (0, 0)) ∧ Kd.C k112 W A x.f2.length x.f2
theorem Ent.below {W W' : World} {g : Nat} {x : S33} {A : Option Addr} {c : Nat} (h : Ent W g x A c) (hb : Below W.heap.size W W') : Ent W' g x A c := ⟨blk_below h.1 hb, Kd.C_below h.2 hb⟩
theorem Ent.new {W : World} {x : S33} {A : Option Addr} {c : Nat} (h : Kd.C k112 W A x.f2.length x.f2) : Ent (W.alloc (.cells (entC x A c) 33)) W.heap.size x A c := ⟨heap_alloc_new W _, Kd.C_alloc h _⟩
theorem Ent.cell {W : World} {g : Nat} {x : S33} {A : Option Addr} {c : Nat} (h : Ent W g x A c) : W.cell? ⟨g, 0, none⟩ = some (.int .i64 x.f0) ∧ W.cell? ⟨g, 1, none⟩ = some (.int .i64 x.f1) ∧ W.cell? ⟨g, 2, none⟩ = some (.slice A x.f2.length c) ∧ W.cell? ⟨g, 3, none⟩ = some (.string x.f3) :=
  ⟨(blk_cell h.1 0).trans rfl, (blk_cell h.1 1).trans rfl, (blk_cell h.1 2).trans rfl, (blk_cell h.1 3).trans rfl⟩
theorem Ent.c {W : World} {g : Nat} {x : S33} {A : Option Addr} {c : Nat} (h : Ent W g x A c) : Kd.C k112 W A x.f2.length x.f2 := h.2
/-- A slice of bytes, in whatever world has come of W. -/
theorem str_regrown {W : World} {A : Option Addr} {c : Nat} {bs : List Int} (h : Kd.C KB W A bs.length bs) (d : Nat) (os : Array Obj) : (convert 23 9 (.slice A bs.length c)).run Tryd.prog (Go.Sort.grow (redrawn W d) os) = .ok (.string (strOfNums bs)) (Go.Sort.grow (redrawn W d) os) :=
  Kd.C_string (P := Tryd.prog) Tryd.underlying23 Tryd.underlying5 Tryd.underlying9 (Kd.C_below h (below_regrown W d os))
def LawRes (w : World) (e : Ending) (w' : World) : Prop := e = .returned (.bool true) ∧ Below w.heap.size w w'
theorem getE_len (bs : List Int) : (getE bs).1.f2.length < 4398046511104 := by
  unfold getE
  split
  · exact Nat.lt_of_le_of_lt (Nat.le_refl 0) (by decide)
  · show (readL _).1.length < _
    unfold readL
    split
    · exact Nat.lt_of_le_of_lt (Nat.le_refl 0) (by decide)
    · show (labsS _ _ _).1.length < _
      rw [labsS_len]
      unfold cnt
      omega

set_option maxHeartbeats 16000000 in
set_option maxRecDepth 100000 in
theorem entries_any (x : S33) (A : Option Addr) (c : Nat) (B : Option Addr) (cb : Nat) (bs : List Int) (w : World) (hT : Tabs w) (hx : Kd.C k112 w A x.f2.length x.f2) (hc : x.f2.length ≤ c) (hxl : x.f2.length < 4398046511104) (hsz : SzOk x.f2)
    (hb : Kd.C KB w B bs.length bs) (hbl : bs.length + 2 ≤ 140737488355328) (hB : Byt bs) : Calls Tryd.prog 4 #[entA x A c, .slice B bs.length cb] w (LawRes w) := by
  obtain ⟨W0, hW0⟩ : ∃ W, W = w.alloc (.cells (entC x A c) 33) := ⟨_, rfl⟩
  have HB0 : Hid (Below w.heap.size w W0) := Lib.hid (by rw [hW0]; exact below_alloc (Below.refl _ _) _)
  have HE0 : Hid (Ent W0 w.heap.size x A c) := Lib.hid (by rw [hW0]; exact Ent.new hx)
  have HC0 : Hid (Kd.C KB W0 B bs.length bs) := Lib.hid (Kd.C_below hb HB0.out)
  have HT0 := Lib.hid (hT.below HB0.out)
  have HLE := Lib.hid (fun W (h : Kd.C KB W B bs.length bs) => lent_any B cb bs W h hbl)
  have HOW := Lib.hid (fun W (h : Kd.C k112 W A x.f2.length x.f2) => own_any x A c W h hc hxl)
  have HPU := Lib.hid (fun A' c' W (h1 : Tabs W) (h2 : Kd.C k112 W A' x.f2.length x.f2) => putE_any x A' c' W h1 h2)
  have HRP := Lib.hid (fun W (h2 : Kd.C k112 W A x.f2.length x.f2) => rputE_any x A c W h2 hsz)
  have HGE := Lib.hid (fun A' c' W (h1 : Tabs W) (h2 : Kd.C KB W A' bs.length bs) => getE_any A' c' bs W h1 h2 (by omega) hB)
  have HRG := Lib.hid (fun W (h2 : Kd.C KB W B bs.length bs) => rgetE_any B cb bs W h2 (by omega) hB)
  have HRX := Lib.hid (fun A' c' W (h1 : Tabs W) (h2 : Kd.C k112 W A' x.f2.length x.f2) => rightE_any x A' c' W h1 h2)
  have HRR := Lib.hid (fun W (h2 : Kd.C k112 W A x.f2.length x.f2) => rrightE_any x A c W h2 hsz)
  have HSX := Lib.hid (fun A' c' W (h1 : Tabs W) (h2 : Kd.C k112 W A' x.f2.length x.f2) => size_any x A' c' W h1 h2)
  have HSR := Lib.hid (fun W (h2 : Kd.C k112 W A x.f2.length x.f2) => rsize_any x A c W h2 hsz)
  have HS1 := Lib.hid (fun A1 B1 c1 d1 W (h1 : Kd.C k112 W A1 (getE bs).1.f2.length (getE bs).1.f2) (h2 : (getE bs).1.f2.length ≤ c1) (h3 : Kd.C k112 W B1 (getE bs).1.f2.length (getE bs).1.f2) (h4 : (getE bs).1.f2.length ≤ d1) => same_any (getE bs).1 A1 B1 c1 d1 W h1 h2 h3 h4 (getE_len bs))
  have HS2 := Lib.hid (fun B1 d1 W (h1 : Kd.C k112 W A x.f2.length x.f2) (h3 : Kd.C k112 W B1 x.f2.length x.f2) (h4 : x.f2.length ≤ d1) => same_any x A B1 c d1 W h1 hc h3 h4 hxl)
  have HST := Lib.hid (fun A' c' W (h1 : Kd.C KB W A' (bs ++ [77, 78]).length (bs ++ [77, 78])) (h2 : bs.length + 2 ≤ c') (h3 : Kd.C KB W B bs.length bs) => stays_any A' B c' cb bs W h1 h2 h3 hbl)
  have HW0 := Lib.hid hW0
  unfold PutRes at HPU HRP
  clear hT hx hc hxl hsz hb hbl hB hW0
  generalize (putE x).1 = P1 at *
  generalize (putE x).2 = P2 at *
  generalize rightE x = rx at *
  generalize (getE bs).2 = er at *
  generalize (getE bs).1 = z at *
  go_enter Tryd.func4, Tryd.ntmps4
  go_wp2_with fail
  rw [← HW0.out]
  have g0 := HE0.out.cell
  obtain ⟨k0, k1, k2, k3⟩ := g0
  go_wp2_with (first
    | (go_at_call 25; (with_reducible refine (HLE.out _ HC0.out).mono ?_); rintro e w1 ⟨A1, c1, rfl, ho, hb⟩; have HL1 := Lib.hid (Kd.R_reads' ho).2; have HE1 := Lib.hid (HE0.out.below hb); have HB1 := Lib.hid (below_step HB0.out hb); have HT1 := Lib.hid (HT0.out.below hb); have HC1 := Lib.hid (Kd.C_below HC0.out hb); clear ho hb k0 k1 k2 k3; obtain ⟨k0, k1, k2, k3⟩ := HE1.out.cell)
    | (go_at_call 23; (with_reducible refine (HOW.out _ HE1.out.c).mono ?_); rintro e w2 ⟨A2, c2, rfl, hc2, hC2, hb⟩; have HC2 := Lib.hid hC2; have HLN2 := Lib.hid hc2; have HE2 := Lib.hid (HE1.out.below hb); have HB2 := Lib.hid (below_step HB1.out hb); have HT2 := Lib.hid (HT1.out.below hb); have HBS2 := Lib.hid (Kd.C_below HC1.out hb); have HL2 := Lib.hid (Kd.C_below HL1.out.2 hb); clear hc2 hC2 hb k0 k1 k2 k3))
  obtain ⟨W2, hW2⟩ : ∃ W, W = w2.alloc (.cells (entC x A2 c2) 33) := ⟨_, rfl⟩
  rw [← hW2]
  have hb2 : Below w2.heap.size w2 W2 := by rw [hW2]; exact below_alloc (Below.refl _ _) _
  have HF2 : Hid (Ent W2 w2.heap.size x A2 c2) := Lib.hid (by rw [hW2]; exact Ent.new HC2.out)
  have HE3 := Lib.hid (HE2.out.below hb2)
  have HB3 := Lib.hid (below_step HB2.out hb2)
  have HT3 := Lib.hid (HT2.out.below hb2)
  have HBS3 := Lib.hid (Kd.C_below HBS2.out hb2)
  have HL3 := Lib.hid (Kd.C_below HL2.out hb2)
  clear hW2 hb2
  generalize w2.heap.size = e2 at *
  obtain ⟨k0, k1, k2, k3⟩ := HF2.out.cell
  go_wp2_with (first
    | (go_at_call 24; (with_reducible refine (HPU.out _ _ _ HT3.out HF2.out.c).mono ?_); rintro e w3 ⟨v3, rfl, ho, hb⟩; obtain ⟨A3, c3, h3⟩ := Kd.R_slice ho; subst h3; have HP3 := Lib.hid (Kd.R_reads' ho).2.2; have HE4 := Lib.hid (HE3.out.below hb); have HF3 := Lib.hid (HF2.out.below hb); have HB4 := Lib.hid (below_step HB3.out hb); have HT4 := Lib.hid (HT3.out.below hb); have HBS4 := Lib.hid (Kd.C_below HBS3.out hb); have HL4 := Lib.hid (Kd.C_below HL3.out hb); clear ho hb k0 k1 k2 k3; obtain ⟨k0, k1, k2, k3⟩ := HE4.out.cell)
    | (go_at_call 26; (with_reducible refine (HRP.out _ HE4.out.c).mono ?_); rintro e w4 ⟨v4, rfl, ho, hb⟩; obtain ⟨A4, c4, h4⟩ := Kd.R_slice ho; subst h4; have HP4 := Lib.hid (Kd.C_below HP3.out hb); have HQ4 := Lib.hid (Kd.R_reads' ho).2.2; have HE5 := Lib.hid (HE4.out.below hb); have HF4 := Lib.hid (HF3.out.below hb); have HB5 := Lib.hid (below_step HB4.out hb); have HT5 := Lib.hid (HT4.out.below hb); have HBS5 := Lib.hid (Kd.C_below HBS4.out hb); have HL5 := Lib.hid (Kd.C_below HL4.out hb); have HLT := Lib.hid (by have h := take_C (u := bs.length) HL5.out (by simp); rwa [show (bs ++ [(77 : Int), 78]).take bs.length = bs by simp] at h : Kd.C KB w4 A1 bs.length bs); clear ho hb k0 k1 k2 k3)
    | (go_at_call 27; (with_reducible refine (HGE.out _ _ _ HT5.out HLT.out).mono ?_); rintro e w5 ⟨A5, c5, rfl, ho, hb⟩; have HZ5 := Lib.hid (Kd.R_reads' ho).2; have HP5 := Lib.hid (Kd.C_below HP4.out hb); have HQ5 := Lib.hid (Kd.C_below HQ4.out hb); have HE6 := Lib.hid (HE5.out.below hb); have HF5 := Lib.hid (HF4.out.below hb); have HB6 := Lib.hid (below_step HB5.out hb); have HT6 := Lib.hid (HT5.out.below hb); have HBS6 := Lib.hid (Kd.C_below HBS5.out hb); have HL6 := Lib.hid (Kd.C_below HL5.out hb); clear ho hb))
  obtain ⟨W5, hW5⟩ : ∃ W, W = w5.alloc (.cells (entC z A5 c5) 33) := ⟨_, rfl⟩
  rw [← hW5]
  have hb5 : Below w5.heap.size w5 W5 := by rw [hW5]; exact below_alloc (Below.refl _ _) _
  have HG5 : Hid (Ent W5 w5.heap.size z A5 c5) := Lib.hid (by rw [hW5]; exact Ent.new HZ5.out.2)
  have HP6 := Lib.hid (Kd.C_below HP5.out hb5)
  have HQ6 := Lib.hid (Kd.C_below HQ5.out hb5)
  have HE7 := Lib.hid (HE6.out.below hb5)
  have HF6 := Lib.hid (HF5.out.below hb5)
  have HB7 := Lib.hid (below_step HB6.out hb5)
  have HT7 := Lib.hid (HT6.out.below hb5)
  have HBS7 := Lib.hid (Kd.C_below HBS6.out hb5)
  have HL7 := Lib.hid (Kd.C_below HL6.out hb5)
  clear hW5 hb5
  generalize w5.heap.size = e5 at *
  go_wp2_with (go_at_call 28; (with_reducible refine (HRG.out _ HBS7.out).mono ?_); rintro e w6 ⟨A6, c6, rfl, ho, hb⟩; have HZ6 := Lib.hid (Kd.R_reads' ho).2; have HP7 := Lib.hid (Kd.C_below HP6.out hb); have HQ7 := Lib.hid (Kd.C_below HQ6.out hb); have HE8 := Lib.hid (HE7.out.below hb); have HF7 := Lib.hid (HF6.out.below hb); have HG6 := Lib.hid (HG5.out.below hb); have HB8 := Lib.hid (below_step HB7.out hb); have HT8 := Lib.hid (HT7.out.below hb); have HBS8 := Lib.hid (Kd.C_below HBS7.out hb); have HL8 := Lib.hid (Kd.C_below HL7.out hb); clear ho hb)
  obtain ⟨W, hW⟩ : ∃ W, W = w6.alloc (.cells (entC z A6 c6) 33) := ⟨_, rfl⟩
  rw [← hW]
  have hb6 : Below w6.heap.size w6 W := by rw [hW]; exact below_alloc (Below.refl _ _) _
  have HH : Hid (Ent W w6.heap.size z A6 c6) := Lib.hid (by rw [hW]; exact Ent.new HZ6.out.2)
  have HP := Lib.hid (Kd.C_below HP7.out hb6)
  have HQ := Lib.hid (Kd.C_below HQ7.out hb6)
  have HE := Lib.hid (HE8.out.below hb6)
  have HF := Lib.hid (HF7.out.below hb6)
  have HG := Lib.hid (HG6.out.below hb6)
  have HBW := Lib.hid (below_step HB8.out hb6)
  have HTW := Lib.hid (HT8.out.below hb6)
  have HBS := Lib.hid (Kd.C_below HBS8.out hb6)
  have HL := Lib.hid (Kd.C_below HL8.out hb6)
  clear hW hb6
  generalize w6.heap.size = e6 at *
  obtain ⟨a0, a1, a2, a3⟩ := HE.out.cell
  obtain ⟨b0, b1, b2, b3⟩ := HF.out.cell
  obtain ⟨d0, d1, d2, d3⟩ := HG.out.cell
  obtain ⟨f0, f1, f2, f3⟩ := HH.out.cell
  have A0 := fun d os => cell_regrown a0 d os
  have A1' := fun d os => cell_regrown a1 d os
  have A2' := fun d os => cell_regrown a2 d os
  have A3' := fun d os => cell_regrown a3 d os
  have B0 := fun d os => cell_regrown b0 d os
  have B1 := fun d os => cell_regrown b1 d os
  have B2 := fun d os => cell_regrown b2 d os
  have B3 := fun d os => cell_regrown b3 d os
  have D0 := fun d os => cell_regrown d0 d os
  have D1 := fun d os => cell_regrown d1 d os
  have D2 := fun d os => cell_regrown d2 d os
  have D3 := fun d os => cell_regrown d3 d os
  have F0 := fun d os => cell_regrown f0 d os
  have F1 := fun d os => cell_regrown f1 d os
  have F2 := fun d os => cell_regrown f2 d os
  have F3 := fun d os => cell_regrown f3 d os
  have S1 := fun d os => str_regrown (c := c3) HP.out d os
  have S2 := fun d os => str_regrown (c := c4) HQ.out d os
  have c29 := fun d os => Calls.regrown_of (HRX.out A2 c2 (Go.Sort.grow (redrawn W d) os) (HTW.out.below (below_regrown W d os)) (Kd.C_below HF.out.c (below_regrown W d os)))
  have c30 := fun d os => Calls.regrown_of (HRR.out (Go.Sort.grow (redrawn W d) os) (Kd.C_below HE.out.c (below_regrown W d os)))
  have c20 := fun n d os => Calls.regrown_of ((num_any n (Go.Sort.grow (redrawn W d) os)).mono (fun e w' h => ⟨h.1, by rw [← h.2]; exact Below.refl _ _⟩))
  have c31 := fun d os => Calls.regrown_of (HS1.out A5 A6 c5 c6 (Go.Sort.grow (redrawn W d) os) (Kd.C_below HG.out.c (below_regrown W d os)) HZ5.out.1 (Kd.C_below HH.out.c (below_regrown W d os)) HZ6.out.1)
  have c22 := fun d os => Calls.regrown_of (HSX.out A2 c2 (Go.Sort.grow (redrawn W d) os) (HTW.out.below (below_regrown W d os)) (Kd.C_below HF.out.c (below_regrown W d os)))
  have c32 := fun d os => Calls.regrown_of (HSR.out (Go.Sort.grow (redrawn W d) os) (Kd.C_below HE.out.c (below_regrown W d os)))
  have c31b := fun d os => Calls.regrown_of (HS2.out A2 c2 (Go.Sort.grow (redrawn W d) os) (Kd.C_below HE.out.c (below_regrown W d os)) (Kd.C_below HF.out.c (below_regrown W d os)) HLN2.out)
  have c33 := fun d os => Calls.regrown_of ((HST.out A1 c1 (Go.Sort.grow (redrawn W d) os) (Kd.C_below HL.out (below_regrown W d os)) HL1.out.1 (Kd.C_below HBS.out (below_regrown W d os))).mono (fun e w' h => ⟨h.1, by obtain ⟨n, hn⟩ := h.2; rw [hn]; exact pw_below_drewN (Below.refl _ _) n⟩))
  have c21 := fun d os => Calls.regrown_of (knows_any (Go.Sort.grow (redrawn W d) os) (HTW.out.below (below_regrown W d os)))
  clear a0 a1 a2 a3 b0 b1 b2 b3 d0 d1 d2 d3 f0 f1 f2 f3
  generalize strOfNums P1 = sp at *
  refine wp_region_quiet_below (by kernel_rfl) (by kernel_rfl) ?_
  repeat (first | go_big_quiet_step ((first | (go_at_call 29; exact c29 _ _) | (go_at_call 30; exact c30 _ _) | (go_at_call 20; exact c20 _ _ _) | (go_at_call 22; exact c22 _ _) | (go_at_call 32; exact c32 _ _) | (go_at_call 33; exact c33 _ _) | (go_at_call 21; exact c21 _ _) | (go_at_call 31; with_reducible exact c31 _ _) | (go_at_call 31; with_reducible exact c31b _ _))) | quiet_step ((first | (go_at_call 29; exact c29 _ _) | (go_at_call 30; exact c30 _ _) | (go_at_call 20; exact c20 _ _ _) | (go_at_call 22; exact c22 _ _) | (go_at_call 32; exact c32 _ _) | (go_at_call 33; exact c33 _ _) | (go_at_call 21; exact c21 _ _) | (go_at_call 31; with_reducible exact c31 _ _) | (go_at_call 31; with_reducible exact c31b _ _))))
  refine wpQuiet_nil ?_
  intro _ hw'
  obtain ⟨⟨dq, osq⟩, hw''⟩ := hw'
  subst hw''
  go_wp2
  go_ret
  exact ⟨rfl, HBW.out.trans ((below_regrown W dq osq).mono HBW.out.size)⟩
end Go.Proofs.YtojocffjajcdmaaDoor
namespace Go.Proofs.YtojocffjajcdmaaDoor
open Go.ChangeShapes Go.WideShapes Go.ChangeAt Go.RowKit Go.Proofs.YtojocffjajcdmaaDoorW.PrintWords Go.Proofs.YtojocffjajcdmaaDoorW.PrintLast Go.Proofs.YtojocffjajcdmaaDoorW.PrintMore PChunkAll
set_option linter.unusedVariables false
set_option linter.unusedSimpArgs false

section
variable {H : Type} {enc : TypeId × Value → H} {w : World} {held : Bool}
theorem cells5 : Tryd.prog.cellsOf 5 = 1 := by kernel_rfl
theorem bytes5 : Tryd.prog.bytesOf 5 = 1 := by kernel_rfl

/-- Bytes read. -/
theorem open_bytes {n : Nat} {v : Value} {x : DataW H × List MemPlace} (h : DataW.trod enc Tryd.prog w 0 (fun _ => true) held n 23 [v] = some x) (hz : ∀ k ∈ x.1.weights Tryd.prog 23, k ≤ reachBytes) :
    ∃ (A : Option Addr) (c : Nat) (bs : List Int), v = .slice A bs.length c ∧ Kd.C KB w A bs.length bs ∧ bs.length ≤ c ∧ c ≤ reachBytes ∧ Byt bs := by
  rcases Deep.open_slice Tryd.underlying23 h with ⟨hcs, hx⟩ | ⟨a, len, cap, m, n', D, Pl, hcs, _, hl, hm, hmm, rfl, hel⟩
  · injection hcs with hcs
    subst hcs
    exact ⟨none, 0, [], rfl, C_nil _ _, Nat.le_refl _, by simp, fun y hy => by cases hy⟩
  · injection hcs with hcs
    subst hcs
    simp only [if_true] at hmm
    subst hmm
    rw [cells5] at hel
    have hbyte : ∀ i, i < len → ∃ b : Int, (∃ cs base, w.cells? base (a.add (i * 1)) 1 = some cs ∧ KB.K w b cs) ∧ 0 ≤ b ∧ b < 256 := by
      intro i hi
      obtain ⟨cs', h1, h2⟩ := hel i (by omega)
      obtain ⟨b, rfl, _, wf⟩ := DataW.trod_int Tryd.underlying5 h2
      refine ⟨b, ⟨_, _, h1, rfl⟩, ?_⟩
      have hw := wf
      simp [Lit.wf] at hw
      have hm1 : IntKind.u8.min = 0 := rfl
      have hm2 : IntKind.u8.max = 255 := rfl
      rw [hm1, hm2] at hw
      omega
    obtain ⟨f, hf⟩ := Deep.choose_lt hbyte
    have hbytes : m ≤ reachBytes := by
      have := hz (m * 1) (by
        simp only [DataW.weights, Tryd.underlying23, List.mem_cons, bytes5, List.length_map, List.length_range]
        left; omega)
      omega
    have hr := reachBytes_lt
    refine ⟨some a, m, (List.range len).map f, by simp, ?_, by simp; omega, hbytes, ?_⟩
    · have := row_C KB w a len 1 f rfl (by omega) (by decide) (fun i hi => (hf i hi).1)
      simpa using this
    · intro y hy
      obtain ⟨i, hi, rfl⟩ := List.mem_map.1 hy
      exact (hf i (List.mem_range.1 hi)).2

theorem open_labelS {n : Nat} {cs : List Value} {x : DataW H × List MemPlace} (h : DataW.trod enc Tryd.prog w 0 (fun _ => true) held n 112 cs = some x) : ∃ l : S112, cs = [.string l.f0, .string l.f1] ∧ l.f0.size ≤ 9223372036854775807 := by
  obtain ⟨y0, y1, m, hx, hl, h0, h1⟩ := trod_struct2 Tryd.underlying112 h
  rw [cells112] at hl
  obtain ⟨c0, c1, rfl⟩ := list2 hl
  · simp only [cells9, List.drop_zero, List.take_succ_cons, List.take_zero, List.drop_succ_cons] at h0 h1
    obtain ⟨s0, e0, _, hs0⟩ := DataW.trod_string Tryd.underlying9 h0
    obtain ⟨s1, e1, _, _⟩ := DataW.trod_string Tryd.underlying9 h1
    simp at e0 e1
    subst e0; subst e1
    exact ⟨⟨s0, s1⟩, rfl, hs0⟩
/-- Labels read, with their sizes. -/
theorem open_labelsS {n : Nat} {v : Value} {x : DataW H × List MemPlace} (h : DataW.trod enc Tryd.prog w 0 (fun _ => true) held n 31 [v] = some x) (hz : ∀ k ∈ x.1.weights Tryd.prog 31, k ≤ reachBytes) :
    ∃ (A : Option Addr) (c : Nat) (ls : List S112), v = .slice A ls.length c ∧ Kd.C k112 w A ls.length ls ∧ ls.length ≤ c ∧ c * 32 ≤ reachBytes ∧ SzOk ls := by
  rcases Deep.open_slice Tryd.underlying31 h with ⟨hcs, hx⟩ | ⟨a, len, cap, m, n', D, Pl, hcs, _, hl, hm, hmm, rfl, hel⟩
  · injection hcs with hcs
    subst hcs
    exact ⟨none, 0, [], rfl, C_nil _ _, Nat.le_refl _, by simp, fun k hk => absurd hk (Nat.not_lt_zero _)⟩
  · injection hcs with hcs
    subst hcs
    simp only [if_true] at hmm
    subst hmm
    rw [cells112] at hel
    have hlab : ∀ i, i < len → ∃ l : S112, (∃ cs base, w.cells? base (a.add (i * 2)) 2 = some cs ∧ k112.K w l cs) ∧ l.f0.size ≤ 9223372036854775807 := by
      intro i hi
      obtain ⟨cs', h1, h2⟩ := hel i (by omega)
      obtain ⟨l, rfl, hs⟩ := open_labelS h2
      exact ⟨l, ⟨_, _, h1, k112_mk w l⟩, hs⟩
    have : Inhabited S112 := ⟨z112⟩
    obtain ⟨f, hf⟩ := Deep.choose_lt hlab
    have hbytes : m * 32 ≤ reachBytes := by
      have := hz (m * 32) (by
        simp only [DataW.weights, Tryd.underlying31, List.mem_cons, bytes112, List.length_map, List.length_range]
        left; omega)
      exact this
    have hr := reachBytes_lt
    refine ⟨some a, m, (List.range len).map f, by simp, ?_, by simp; omega, hbytes, ?_⟩
    · have := row_C k112 w a len 2 f rfl (by omega) (by decide) (fun i hi => (hf i hi).1)
      simpa using this
    · intro k hk
      have hk' : k < len := by simpa using hk
      have e : ((List.range len).map f).getD k z112 = f k := by simp [hk']
      rw [e]
      exact (hf k hk').2

set_option maxRecDepth 100000 in
/-- An entry by value, read. -/
theorem open_entA {r : Reach} {b0 : Nat} {v : Value} {d : DataW H} {p : List MemPlace} (hv : Value.okWide Tryd.prog w r b0 33 v) (h : DataW.Trod enc Tryd.prog w 0 (fun _ => true) held 33 v d p) (hz : ∀ k ∈ d.weights Tryd.prog 33, k ≤ reachBytes) :
    ∃ (x : S33) (A : Option Addr) (c : Nat), v = entA x A c ∧ Kd.C k112 w A x.f2.length x.f2 ∧ x.f2.length ≤ c ∧ x.f2.length < 4398046511104 ∧ SzOk x.f2 := by
  obtain ⟨v0, v1, v2, v3, y0, y1, y2, y3, n, rfl, rfl, rfl, h0, h1, h2, h3⟩ := Joins.open_agg4 Tryd.underlying33 (by kernel_rfl) cells33 hv h
  obtain ⟨s, e0, _, w0⟩ := DataW.trod_int Tryd.underlying3 h0
  obtain ⟨t, e1, _, w1⟩ := DataW.trod_int Tryd.underlying3 h1
  obtain ⟨z, e3, _, _⟩ := DataW.trod_string Tryd.underlying9 h3
  obtain ⟨A, c, ls, rfl, hr, hlen, hb, hs⟩ := open_labelsS h2 (fun k hk => hz k (by
    simp only [DataW.weights, Tryd.underlying33]
    exact DataW.weights_mem_each (j := 2) rfl rfl k hk))
  simp at e0 e1 e3
  subst e0; subst e1; subst e3
  have hre : reachBytes = 140737488351232 := rfl
  exact ⟨⟨s, t, ls, z⟩, A, c, rfl, hr, hlen, by show ls.length < _; omega, hs⟩
end
end Go.Proofs.YtojocffjajcdmaaDoor
