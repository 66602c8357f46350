/- The law ChunkBytes holds of whatever chunk and bytes. -/
import Derived.Test.YtojocffjajcdmaaDoorKV
import Derived.Test.YtojocffjajcdmaaDoorKW
import Derived.Test.YtojocffjajcdmaaDoorKH
namespace Go.Proofs.YtojocffjajcdmaaDoor.RF
open Go Go.RowKit Go.Shelf Go.Sort Go.Proofs.YtojocffjajcdmaaDoor Go.Proofs.YtojocffjajcdmaaDoor.RS Go.Proofs.YtojocffjajcdmaaDoorW.PrintWords Go.Proofs.YtojocffjajcdmaaDoorW.PrintLast Go.Proofs.YtojocffjajcdmaaDoorW.PrintMore PChunkAll
set_option linter.unusedVariables false
set_option linter.unusedSimpArgs false

theorem rowsG_len : ∀ (k : Nat) (f : Bool) (p : S71) (bs : List Int) (er : Int) r, rowsG f p bs er k = some r → r.1.length = k
  | 0, f, p, bs, er, r, h => by rw [rowsG] at h; injection h with h; subst h; rfl
  | k + 1, f, p, bs, er, r, h => by
    rw [rowsG] at h
    split at h
    · obtain ⟨q, hq, e⟩ := Option.map_eq_some_iff.1 h
      subst e
      show (_ :: q.1).length = _
      rw [List.length_cons, rowsG_len k _ _ _ _ q hq]
    · cases h
theorem getC_len (bs : List Int) : (getC bs).1.length ≤ 17 ∧ (getC bs).2.1.length ≤ 1000 := by
  unfold getC
  dsimp only
  split
  · simp
  · rename_i hn
    split
    · simp
    · rename_i rows b e hr
      have := rowsG_len _ _ _ _ _ _ hr
      split
      · simp
      · refine ⟨readL_len _, ?_⟩
        show rows.length ≤ 1000
        have h2 : rows.length = _ := this
        omega
/-- A list's bytes, and a law's own copy of them with two more behind. -/
structure BS (B Al : Option Addr) (bs : List Int) (W : World) : Prop where
  b : Kd.C KB W B bs.length bs
  l : Kd.C KB W Al (bs ++ [77, 78]).length (bs ++ [77, 78])
theorem BS.step {B Al : Option Addr} {bs : List Int} {W W' : World} (h : BS B Al bs W) (hb : Below W.heap.size W W') : BS B Al bs W' := ⟨Kd.C_below h.b hb, Kd.C_below h.l hb⟩
theorem BS.lt {B Al : Option Addr} {bs : List Int} {W : World} (h : BS B Al bs W) : Kd.C KB W Al bs.length bs := by
  have k := take_C (u := bs.length) h.l (by simp)
  rwa [show (bs ++ [(77 : Int), 78]).take bs.length = bs by simp] at k
/-- A chunk in a box of its own. -/
structure CB (t B : Nat) (A6 : Option Addr) (c6 : Nat) (gl : List S112) (A7 : Option Addr) (c7 : Nat) (gr : List S71) (W : World) : Prop where
  k : Blk W B #[.slice A6 gl.length c6, .slice A7 gr.length c7] t
  L : Kd.C k112 W A6 gl.length gl
  R : RowC W A7 (rcells gr)
theorem CB.step {t B : Nat} {A6 : Option Addr} {c6 : Nat} {gl : List S112} {A7 : Option Addr} {c7 : Nat} {gr : List S71} {W W' : World} (h : CB t B A6 c6 gl A7 c7 gr W) (hb : Below W.heap.size W W') : CB t B A6 c6 gl A7 c7 gr W' :=
  ⟨Blk.below h.k hb h.k.lt, Kd.C_below h.L hb, h.R.below hb⟩
theorem CB.new {t : Nat} {A6 : Option Addr} {c6 : Nat} {gl : List S112} {A7 : Option Addr} {c7 : Nat} {gr : List S71} {W : World} (hL : Kd.C k112 W A6 gl.length gl) (hR : RowC W A7 (rcells gr)) :
    CB t W.heap.size A6 c6 gl A7 c7 gr (W.alloc (.cells #[.slice A6 gl.length c6, .slice A7 gr.length c7] t)) :=
  ⟨Blk.new _ _ _ _ rfl, Kd.C_alloc hL _, hR.below ((Below.refl _ _).alloc (Nat.le_refl _) _)⟩

set_option maxHeartbeats 16000000 in
set_option maxRecDepth 100000 in
theorem cbytes_any (A1 : Option Addr) (c1 : Nat) (ls : List S112) (A2 : Option Addr) (c2 : Nat) (rows : List S71) (B : Option Addr) (cb : Nat) (bs : List Int) (w : World) (hT : Tabs w) (hls : ls.length < 4398046511104) (hm : rows.length < 4398046511104) (hsz : SzOk ls)
    (hL : Kd.C k112 w A1 ls.length ls) (h1 : ls.length ≤ c1) (hR : RowC w A2 (rcells rows)) (h2 : rows.length ≤ c2) (hwf : ∀ x ∈ rows, (Lit.int .i64 x.f0).wf = true)
    (hb : Kd.C KB w B bs.length bs) (hbl : bs.length + 2 ≤ 140737488355328) (hB : Byt bs) :
    Calls Tryd.prog 12 #[chV A1 ls.length c1 A2 rows.length c2, .slice B bs.length cb] w (LawRes w) := by
  obtain ⟨W0, hW0⟩ : ∃ W, W = w.alloc (.cells #[.slice A1 ls.length c1, .slice A2 rows.length c2] 50) := ⟨_, rfl⟩
  have HB0 : Hid (Below w.heap.size w W0) := Lib.hid (by rw [hW0]; exact (Below.refl _ _).alloc (Nat.le_refl _) _)
  have HE0 : Hid (CB 50 w.heap.size A1 c1 ls A2 c2 rows W0) := Lib.hid (by rw [hW0]; exact CB.new hL hR)
  have HC0 : Hid (Kd.C KB W0 B bs.length bs) := Lib.hid (Kd.C_below hb HB0.out)
  have HT0 := Lib.hid (fun W (hb : Below w.heap.size w W) => hT.below hb)
  have HLE := Lib.hid (fun W (h : Kd.C KB W B bs.length bs) => lent_any B cb bs W h hbl)
  have HOW := Lib.hid (fun W (h : CB 50 w.heap.size A1 c1 ls A2 c2 rows W) => own34_any A1 c1 ls A2 c2 rows W hls hm h.L h1 h.R h2)
  have HPU := Lib.hid (fun (A3 : Option Addr) c3 (A4 : Option Addr) c4 W (hb : Below w.heap.size w W) (g1 : Kd.C k112 W A3 ls.length ls) (g2 : RowC W A4 (rcells rows)) => putC_any A3 c3 ls A4 c4 rows W (hT.below hb) hls (by omega) g1 g2 hwf)
  have HRP := Lib.hid (fun W (h : CB 50 w.heap.size A1 c1 ls A2 c2 rows W) => rputC_any A1 c1 ls A2 c2 rows W hsz hm h.L h.R hwf)
  have HGT := Lib.hid (fun (A : Option Addr) c W (hb : Below w.heap.size w W) (hr : Kd.C KB W A bs.length bs) => getC_any A c bs W (hT.below hb) hr (by omega) hB)
  have HRG := Lib.hid (fun W (hr : Kd.C KB W B bs.length bs) => rgetC_any B cb bs W hr (by omega) hB)
  have HRX := Lib.hid (fun (A3 : Option Addr) c3 (A4 : Option Addr) c4 W (hb : Below w.heap.size w W) (g1 : Kd.C k112 W A3 ls.length ls) (g2 : RowC W A4 (rcells rows)) => cright_any A3 c3 ls A4 c4 rows W (hT.below hb) hls (by omega) g1 g2 hwf)
  have HRR := Lib.hid (fun W (h : CB 50 w.heap.size A1 c1 ls A2 c2 rows W) => rright58_any A1 c1 ls A2 c2 rows W hsz (by omega) h.L h.R hwf)
  obtain ⟨hg1, hg2⟩ := getC_len bs
  have HS1 := Lib.hid (fun (t5 B5 : Nat) (A5 : Option Addr) c5 (A6 : Option Addr) c6 (t7 B7 : Nat) (A7 : Option Addr) c7 (A8 : Option Addr) c8 W (g1 : CB t5 B5 A5 c5 (getC bs).1 A6 c6 (getC bs).2.1 W) (q1 : (getC bs).1.length ≤ c5) (q2 : (getC bs).2.1.length ≤ c6) (g2 : CB t7 B7 A7 c7 (getC bs).1 A8 c8 (getC bs).2.1 W) (q3 : (getC bs).1.length ≤ c7) (q4 : (getC bs).2.1.length ≤ c8) => same41_any A5 c5 A6 c6 A7 c7 A8 c8 (getC bs).1 (getC bs).2.1 W (by omega) (by omega) g1.L q1 g1.R q2 g2.L q3 g2.R q4)
  have HS2 := Lib.hid (fun (B3 : Nat) (A3 : Option Addr) c3 (A4 : Option Addr) c4 W (g1 : CB 53 B3 A3 c3 ls A4 c4 rows W) (q1 : ls.length ≤ c3) (q2 : rows.length ≤ c4) (g2 : CB 50 w.heap.size A1 c1 ls A2 c2 rows W) => same41_any A3 c3 A4 c4 A1 c1 A2 c2 ls rows W hls hm g1.L q1 g1.R q2 g2.L h1 g2.R h2)
  have HST := Lib.hid (fun A' c' W (h : BS B A' bs W) (h2 : bs.length + 2 ≤ c') => stays_any A' B c' cb bs W h.l h2 h.b hbl)
  have HW0 := Lib.hid hW0
  unfold PutRes at HRP
  unfold PutC at HPU
  clear hT hls hm hsz hL h1 hR h2 hwf hb hbl hB hW0 hg1 hg2
  generalize (putC ls rows).1 = P1 at *
  generalize (putC ls rows).2 = P2 at *
  generalize rightC ls rows = rx at *
  unfold GotC at HGT HRG
  generalize (getC bs).2.2 = er at *
  generalize (getC bs).1 = gl at *
  generalize (getC bs).2.1 = gr at *
  go_enter Tryd.func12, Tryd.ntmps12
  go_wp2_with fail
  rw [← HW0.out]
  have k0 := HE0.out.k.cell 0 _ rfl
  have k1 := HE0.out.k.cell 1 _ rfl
  go_wp2_with (first
    | (go_at_call 25; (with_reducible refine (HLE.out _ HC0.out).mono ?_); rintro e w1 ⟨Al, cl, rfl, ho, hb⟩; have HL1 := Lib.hid (Kd.R_reads' ho).2; have HE1 := Lib.hid (HE0.out.step hb); have HB1 := Lib.hid (below_step HB0.out hb); have HC1 := Lib.hid (Kd.C_below HC0.out hb); clear ho hb k0 k1; have k0 := HE1.out.k.cell 0 _ rfl; have k1 := HE1.out.k.cell 1 _ rfl)
    | (go_at_call 34; (with_reducible refine (HOW.out _ HE1.out).mono ?_); rintro e w2 ⟨A3, c3, A4, c4, rfl, hq1, hq2, hL3, hR4, hb⟩; have HQ := Lib.hid (And.intro hq1 hq2); have hbA := (Below.refl w2.heap.size w2).alloc (Nat.le_refl _) (.cells #[.slice A3 ls.length c3, .slice A4 rows.length c4] 53); have HE2 := Lib.hid ((HE1.out.step hb).step hbA); have HB2 := Lib.hid (below_step (below_step HB1.out hb) hbA); have HS2' : Hid (BS B Al bs (w2.alloc (.cells #[.slice A3 ls.length c3, .slice A4 rows.length c4] 53))) := Lib.hid (BS.step (BS.step ⟨HC1.out, HL1.out.2⟩ hb) hbA); have HF2 : Hid (CB 53 w2.heap.size A3 c3 ls A4 c4 rows (w2.alloc (.cells #[.slice A3 ls.length c3, .slice A4 rows.length c4] 53))) := Lib.hid (CB.new hL3 hR4); clear hL3 hR4 hb hbA hq1 hq2 k0 k1; have k0 := HF2.out.k.cell 0 _ rfl; have k1 := HF2.out.k.cell 1 _ rfl)
    | (go_at_call 53; (with_reducible refine (HPU.out A3 c3 A4 c4 _ HB2.out HF2.out.L HF2.out.R).mono ?_); rintro e w3 ⟨v, rfl, ho, hb⟩; obtain ⟨A5, q5, rfl, hq5, hc5⟩ := ho; have HP3 := Lib.hid hc5; have HE3 := Lib.hid (HE2.out.step hb); have HF3 := Lib.hid (HF2.out.step hb); have HB3 := Lib.hid (below_step HB2.out hb); have HS3 := Lib.hid (HS2'.out.step hb); clear hb hc5 hq5 k0 k1; have k0 := HE3.out.k.cell 0 _ rfl; have k1 := HE3.out.k.cell 1 _ rfl)
    | (go_at_call 54; (with_reducible refine (HRP.out _ HE3.out).mono ?_); rintro e w4 ⟨v4, rfl, ho, hb⟩; obtain ⟨A6, q6, h4⟩ := Kd.R_slice ho; subst h4; have HQ4 := Lib.hid (Kd.R_reads' ho).2.2; have HP4 := Lib.hid (Kd.C_below HP3.out hb); have HE4 := Lib.hid (HE3.out.step hb); have HF4 := Lib.hid (HF3.out.step hb); have HB4 := Lib.hid (below_step HB3.out hb); have HS4 := Lib.hid (HS3.out.step hb); clear ho hb k0 k1)
    | (go_at_call 55; (with_reducible refine (HGT.out Al cl _ HB4.out HS4.out.lt).mono ?_); rintro e w5 ⟨A7, c7, A8, c8, rfl, hq7, hq8, hL7, hR8, hb⟩; have HQ7 := Lib.hid (And.intro hq7 hq8); have hbA := (Below.refl w5.heap.size w5).alloc (Nat.le_refl _) (.cells #[.slice A7 gl.length c7, .slice A8 gr.length c8] 53); have HG5 : Hid (CB 53 w5.heap.size A7 c7 gl A8 c8 gr (w5.alloc (.cells #[.slice A7 gl.length c7, .slice A8 gr.length c8] 53))) := Lib.hid (CB.new hL7 hR8); have HQ5 := Lib.hid (Kd.C_below (Kd.C_below HQ4.out hb) hbA); have HP5 := Lib.hid (Kd.C_below (Kd.C_below HP4.out hb) hbA); have HE5 := Lib.hid ((HE4.out.step hb).step hbA); have HF5 := Lib.hid ((HF4.out.step hb).step hbA); have HB5 := Lib.hid (below_step (below_step HB4.out hb) hbA); have HS5 := Lib.hid ((HS4.out.step hb).step hbA); clear hb hbA hL7 hR8 hq7 hq8)
    | (go_at_call 56; (with_reducible refine (HRG.out _ HS5.out.b).mono ?_); rintro e w6 ⟨A9, c9, A10, c10, rfl, hq9, hq10, hL9, hR10, hb⟩; have HQ9 := Lib.hid (And.intro hq9 hq10); have hbA := (Below.refl w6.heap.size w6).alloc (Nat.le_refl _) (.cells #[.slice A9 gl.length c9, .slice A10 gr.length c10] 50); have HH6 : Hid (CB 50 w6.heap.size A9 c9 gl A10 c10 gr (w6.alloc (.cells #[.slice A9 gl.length c9, .slice A10 gr.length c10] 50))) := Lib.hid (CB.new hL9 hR10); have HG6 := Lib.hid ((HG5.out.step hb).step hbA); have HQ6 := Lib.hid (Kd.C_below (Kd.C_below HQ5.out hb) hbA); have HP6 := Lib.hid (Kd.C_below (Kd.C_below HP5.out hb) hbA); have HE6 := Lib.hid ((HE5.out.step hb).step hbA); have HF6 := Lib.hid ((HF5.out.step hb).step hbA); have HB6 := Lib.hid (below_step (below_step HB5.out hb) hbA); have HS6 := Lib.hid ((HS5.out.step hb).step hbA); clear hb hbA hL9 hR10 hq9 hq10))
  generalize w6.alloc (.cells #[.slice A9 gl.length c9, .slice A10 gr.length c10] 50) = W at *
  generalize w2.heap.size = e2 at *
  generalize w5.heap.size = e5 at *
  generalize w6.heap.size = e6 at *
  have a0 := HE6.out.k.cell 0 _ rfl
  have a1 := HE6.out.k.cell 1 _ rfl
  have b0 := HF6.out.k.cell 0 _ rfl
  have b1 := HF6.out.k.cell 1 _ rfl
  have d0 := HG6.out.k.cell 0 _ rfl
  have d1 := HG6.out.k.cell 1 _ rfl
  have f0 := HH6.out.k.cell 0 _ rfl
  have f1 := HH6.out.k.cell 1 _ rfl
  have A0 := fun d os => cell_regrown a0 d os
  have A1' := fun d os => cell_regrown a1 d os
  have B0 := fun d os => cell_regrown b0 d os
  have B1 := fun d os => cell_regrown b1 d os
  have D0 := fun d os => cell_regrown d0 d os
  have D1 := fun d os => cell_regrown d1 d os
  have F0 := fun d os => cell_regrown f0 d os
  have F1 := fun d os => cell_regrown f1 d os
  have S1 := fun d os => str_regrown (c := q5) HP6.out d os
  have S2 := fun d os => str_regrown (c := q6) HQ6.out d os
  have c57 := fun d os => Calls.regrown_of (HRX.out A3 c3 A4 c4 (Go.Sort.grow (redrawn W d) os) (below_step HB6.out (below_regrown W d os)) (HF6.out.step (below_regrown W d os)).L (HF6.out.step (below_regrown W d os)).R)
  have c58 := fun d os => Calls.regrown_of (HRR.out (Go.Sort.grow (redrawn W d) os) (HE6.out.step (below_regrown W d os)))
  have c59 := fun n d os => Calls.regrown_of ((num4_any n (Go.Sort.grow (redrawn W d) os)).mono (fun e w' h => ⟨h.1, by rw [← h.2]; exact Below.refl _ _⟩))
  have c41 := fun d os => Calls.regrown_of (HS1.out 53 e5 A7 c7 A8 c8 50 e6 A9 c9 A10 c10 (Go.Sort.grow (redrawn W d) os) (HG6.out.step (below_regrown W d os)) HQ7.out.1 HQ7.out.2 (HH6.out.step (below_regrown W d os)) HQ9.out.1 HQ9.out.2)
  have c41b := fun d os => Calls.regrown_of (HS2.out e2 A3 c3 A4 c4 (Go.Sort.grow (redrawn W d) os) (HF6.out.step (below_regrown W d os)) HQ.out.1 HQ.out.2 (HE6.out.step (below_regrown W d os)))
  have c33 := fun d os => Calls.regrown_of ((HST.out Al cl (Go.Sort.grow (redrawn W d) os) (HS6.out.step (below_regrown W d os)) HL1.out.1).mono (fun e w' h => ⟨h.1, by obtain ⟨n, hn⟩ := h.2; rw [hn]; exact pw_below_drewN (Below.refl _ _) n⟩))
  have c42 := fun d os => Calls.regrown_of (knows4_any (Go.Sort.grow (redrawn W d) os) (HT0.out _ (below_step HB6.out (below_regrown W d os))))
  clear a0 a1 b0 b1 d0 d1 f0 f1
  generalize strOfNums P1 = sp at *
  refine wp_region_quiet_below (by kernel_rfl) (by kernel_rfl) ?_
  repeat (first | go_big_quiet_step ((first | (go_at_call 57; exact c57 _ _) | (go_at_call 58; exact c58 _ _) | (go_at_call 59; exact c59 _ _ _) | (go_at_call 33; exact c33 _ _) | (go_at_call 42; exact c42 _ _) | (go_at_call 41; with_reducible exact c41 _ _) | (go_at_call 41; with_reducible exact c41b _ _))) | quiet_step ((first | (go_at_call 57; exact c57 _ _) | (go_at_call 58; exact c58 _ _) | (go_at_call 59; exact c59 _ _ _) | (go_at_call 33; exact c33 _ _) | (go_at_call 42; exact c42 _ _) | (go_at_call 41; with_reducible exact c41 _ _) | (go_at_call 41; with_reducible exact c41b _ _))))
  refine wpQuiet_nil ?_
  intro _ hw'
  obtain ⟨⟨dq, osq⟩, hw''⟩ := hw'
  subst hw''
  go_wp2
  go_ret
  exact ⟨rfl, HB6.out.trans ((below_regrown W dq osq).mono HB6.out.size)⟩
end Go.Proofs.YtojocffjajcdmaaDoor.RF
