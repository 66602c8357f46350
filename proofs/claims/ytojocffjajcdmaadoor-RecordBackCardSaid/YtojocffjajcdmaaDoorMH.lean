import Derived.Test.YtojocffjajcdmaaDoorMG
namespace Go.Proofs.YtojocffjajcdmaaDoor
open Go.RowKit Go.Proofs.YtojocffjajcdmaaDoorW.PrintWords Go.Proofs.YtojocffjajcdmaaDoorW.PrintLast Go.Proofs.YtojocffjajcdmaaDoorW.PrintMore PChunkAll
set_option linter.unusedVariables false
set_option linter.unusedSimpArgs false

def BkRel (l : List S33) (w : World) (v5 : Value) (wr : World) : Prop := ∃ k : Nat, v5 = .int .i64 k ∧ k ≤ l.length ∧ Below w.heap.size w wr
theorem bytesE_byt3 (x : S33) (h : rightE x = true) (m : Int) (hm : 0 ≤ m ∧ m < 256) : Byt (bytesE x ++ [m]) := (byt_bytesE x h).append (fun y hy => by simp at hy; omega)
theorem byt_bytesB (l : List S33) (h : batchB l = true) : Byt (bytesB l) := by
  obtain ⟨h1, h2, h3⟩ := batchB_get h
  refine (byt_num7 _ 2 (by omega)).append ?_
  intro y hy
  obtain ⟨a, ha, hy⟩ := List.mem_flatMap.1 hy
  obtain ⟨k, hk, rfl⟩ := List.mem_iff_getElem.1 ha
  have hs := h3 k hk
  have hg : l.getD k z33 = l[k] := by simp [hk]
  rw [hg] at hs
  exact byt_text7 _ (by rw [strOfNums_size]; have := bytesE_len hs; omega) y hy
theorem bytesB_len (l : List S33) (h : batchB l = true) : (bytesB l).length ≤ 100000 := by
  have h1 := ents7_len h l.length (Nat.le_refl _)
  rw [ents7_all l l.length (by omega)] at h1
  have := (batchB_get h).1
  omega

set_option maxHeartbeats 16000000 in
set_option maxRecDepth 100000 in
theorem back_any (A : Option Addr) (c : Nat) (l : List S33) (m : Int) (w : World) (hT : Tabs w) (hx : Kd.C k33 w A l.length l) (hc : l.length ≤ c) (hE : EntsOk l) (hm : 0 ≤ m ∧ m < 256) : Calls Tryd.prog 9 #[.slice A l.length c, .int .u8 m] w (LawRes w) := by
  have hmax := Kd.C_max hx
  obtain ⟨i5, hi5, _, hsz5, _⟩ := info_parts info5
  have HT := Lib.hid hT
  have HX := Lib.hid hx
  have HE := Lib.hid hE
  have HM := Lib.hid hm
  have HC := Lib.hid hc
  clear hT hx hE hm hc
  go_enter Tryd.func9, Tryd.ntmps9
  go_wp2
  go_loopw [5] (fun v5 wr => BkRel l w v5 wr) (fun v5 _ => l.length - (intOf v5).toNat)
  case atStart => exact ⟨0, rfl, Nat.zero_le _, Below.refl _ _⟩
  case round =>
    obtain ⟨k, rfl, hk, hb⟩ := hrel
    have HBK := Lib.hid hb
    by_cases hlt : k < l.length
    · have hki : (k : Int) < (l.length : Int) := by omega
      obtain ⟨b, o, rfl, hx⟩ := ents_at HX.out (by omega)
      have HXW := Lib.hid (hx k hlt)
      have HXA := Lib.hid ((hx k hlt).below hb)
      have HLN := Lib.hid (HE.out.2.2 k hlt)
      clear hx hb
      generalize l.getD k z33 = x at *
      obtain ⟨Ax, cx, p0, p1, p2, p3, p4, p5⟩ := HXA.out
      have HP5 := Lib.hid p5
      have HP4 := Lib.hid p4
      have HOW := Lib.hid (fun W (hb' : Below wr.heap.size wr W) => own_any x Ax cx W (Kd.C_below HP5.out hb') HP4.out HLN.out)
      have HPE : Hid (putE x = if rightE x = true then (bytesE x, 0) else ([], 1)) := Lib.hid rfl
      have HPU := Lib.hid (fun A' c' W (h1 : Tabs W) (h2 : Kd.C k112 W A' x.f2.length x.f2) => putE_any x A' c' W h1 h2)
      unfold PutRes at HPU
      clear p4 p5
      cases hx : rightE x with
      | false =>
        have HPR : Hid (putE x = ([], 1)) := Lib.hid (by rw [HPE.out, hx]; rfl)
        rw [HPR.out] at HPU
        clear hx HPE
        go_wp2_with (first
          | (go_at_call 23; (with_reducible refine (HOW.out _ (Below.refl _ _)).mono ?_); rintro e w1 ⟨A1, c1, rfl, hc1, hC1, hb⟩; have HC1 := Lib.hid hC1; have HB1 := Lib.hid (below_step HBK.out hb); have HT1 := Lib.hid (HT.out.below HB1.out); clear hc1 hC1 hb)
          | (go_at_call 24; (with_reducible refine (HPU.out _ _ _ HT1.out HC1.out).mono ?_); rintro e w2 ⟨v2, rfl, ho, hb⟩; have HB2 := Lib.hid (below_step HB1.out hb); clear ho hb)
          | (go_at_call 20; (with_reducible refine (num_any _ _).mono ?_); rintro e wn ⟨rfl, rfl⟩))
        go_roundw
        case rel => exact ⟨k + 1, by go_num, by omega, HB2.out⟩
        case measure => simp [intOf]; omega
      | true =>
        have HPR : Hid (putE x = (bytesE x, 0)) := Lib.hid (by rw [HPE.out, hx]; rfl)
        rw [HPR.out] at HPU
        have hle := bytesE_len hx
        have HGa : Hid (∀ A c W, Tabs W → Kd.C KB W A (bytesE x).length (bytesE x) → Calls Tryd.prog 27 #[.slice A (bytesE x).length c] W (EntBelow x 0 W)) := Lib.hid (fun A c W h1 h2 => by have := getE_any A c (bytesE x) W h1 h2 (by omega) (byt_bytesE x hx); rwa [getE_back x hx] at this)
        have HGb : Hid (∀ A c W, Tabs W → Kd.C KB W A (bytesE x ++ [m]).length (bytesE x ++ [m]) → Calls Tryd.prog 27 #[.slice A (bytesE x ++ [m]).length c] W (EntBelow z33 21 W)) := Lib.hid (fun A c W h1 h2 => by have := getE_any A c (bytesE x ++ [m]) W h1 h2 (by simp; omega) (bytesE_byt3 x hx m HM.out); rwa [getE_more x hx m] at this)
        have HGc : Hid (∀ A c W, Tabs W → Kd.C KB W A (bytesE x).dropLast.length (bytesE x).dropLast → Calls Tryd.prog 27 #[.slice A (bytesE x).dropLast.length c] W (EntBelow z33 21 W)) := Lib.hid (fun A c W h1 h2 => by have := getE_any A c (bytesE x).dropLast W h1 h2 (by rw [List.length_dropLast]; omega) (fun y hy => byt_bytesE x hx y (List.dropLast_subset _ hy)); rwa [getE_less x hx] at this)
        have hD1 : (bytesE x).dropLast.length + 1 = (bytesE x).length := by rw [List.length_dropLast]; omega
        have hD2 : (bytesE x).take (bytesE x).dropLast.length = (bytesE x).dropLast := by rw [List.dropLast_eq_take, List.length_take, Nat.min_eq_left (by omega)]
        generalize bytesE x = P at *
        obtain ⟨Q, hQ⟩ : ∃ Q, Q = P ++ [m] := ⟨_, rfl⟩
        rw [← hQ] at HGb
        generalize P.dropLast = D at *
        have HQE := Lib.hid hQ
        have HD1 := Lib.hid hD1
        have HD2 := Lib.hid hD2
        have HPL : Hid (P.length ≤ 100000) := Lib.hid (by omega)
        have hP0 : ((P.length : Int) == 0) = false := by simp; intro e; rw [e] at hle; simp at hle
        have hP0' : decide ((P.length : Int) = 0) = false := decide_eq_false (by omega)
        have hwD : IntKind.i64.wrap ((P.length : Int) - 1) = (D.length : Int) := by rw [IntWalk.i64_in _ ⟨by omega, by omega⟩]; omega
        clear hx HPE hle hQ hD1 hD2
        go_upto_region 7 with (first
          | (go_at_call 23; (with_reducible refine (HOW.out _ (Below.refl _ _)).mono ?_); rintro e w1 ⟨A1, c1, rfl, hc1, hC1, hb⟩; have HC1 := Lib.hid hC1; have HB1 := Lib.hid (below_step HBK.out hb); have HT1 := Lib.hid (HT.out.below HB1.out); clear hc1 hC1 hb)
          | (go_at_call 24; (with_reducible refine (HPU.out _ _ _ HT1.out HC1.out).mono ?_); rintro e w2 ⟨v2, rfl, ho, hb⟩; obtain ⟨A2, c2, h2⟩ := Kd.R_slice ho; subst h2; have HP2 := Lib.hid (Kd.R_reads' ho).2; have HB2 := Lib.hid (below_step HB1.out hb); have HT2 := Lib.hid (HT.out.below HB2.out); clear ho hb)
          | (go_at_call 20; (with_reducible refine (num_any _ _).mono ?_); rintro e wn ⟨rfl, rfl⟩)
          | (go_at_call 27; (with_reducible refine (HGa.out _ _ _ HT2.out HP2.out.2).mono ?_); rintro e w3 ⟨A3, c3, rfl, ho, hb⟩; have HZ3 := Lib.hid (Kd.R_reads' ho).2; have HP3 := Lib.hid (Kd.C_below HP2.out.2 hb); have HB3 := Lib.hid (below_step HB2.out hb); clear ho hb))
        obtain ⟨W3, hW3⟩ : ∃ W, W = w3.alloc (.cells (entC x A3 c3) 33) := ⟨_, rfl⟩
        rw [← hW3]
        have hb3 : Below w3.heap.size w3 W3 := by rw [hW3]; exact below_alloc (Below.refl _ _) _
        have HN3 : Hid (Ent W3 w3.heap.size x A3 c3) := Lib.hid (by rw [hW3]; exact Ent.new HZ3.out.2)
        have HP4' := Lib.hid (Kd.C_below HP3.out hb3)
        have HB4 := Lib.hid (below_step HB3.out hb3)
        clear hW3 hb3
        generalize w3.heap.size = e3 at *
        go_upto_region 8 with (first
          | ((with_reducible refine gate_dst (N := 44) rfl ?_); refine Kd.R_lit KB (w0 := W3) W3.heap.size 5 ?hg (N := 44) ?hd (xs := ([] : List Int)) (inner := []) (ok := fun _ => True) (okp := fun _ => True) ?hr ?hp (fun _ hk => hk) trivial (Below.refl W3.heap.size W3) (Below.refl W3.heap.size W3).size (by simp) ?_; (case hd => rfl); (case hg => rfl); (case hr => first | (go_simp; done) | (go_simp; rfl)); (case hp => exact (Reps.none _ _)); intro vxa wxa ho hb hg hn; obtain ⟨Aa, ca, ha⟩ := Kd.R_slice ho; subst ha; have HOa := Lib.hid ho; have HBa := Lib.hid hb; have HPa := Lib.hid (Kd.C_below HP4'.out hb); clear ho hb hg hn) | ((with_reducible refine gate_builtin (b := .append) (xs := #[.tmp 44, .tmp 45]) rfl ?_); at_builtin; refine Kd.R_append_row (Value.int .u8) 0 (w0 := W3) W3.heap.size rfl (.tmp 44) (.tmp 45) 23 5 (.int .u8 0) 1 rfl Tryd.underlying23 info5 rfl (by omega) _ [] P A2 P.length c2 (fun _ => True) rfl rfl (fun _ _ => trivial) HOa.out HPa.out HBa.out (below_size HBa.out) (by have := HPL.out; simp; omega) ?_; intro vxb wxb ho hb hg hat; rw [List.nil_append] at ho; obtain ⟨Ab, cb', hb'⟩ := Kd.R_slice ho; subst hb'; have HOb := Lib.hid ho; have HBb := Lib.hid hb; clear ho hb hg hat) | ((with_reducible refine gate_dst (N := 48) rfl ?_); refine Kd.R_lit KB (w0 := W3) W3.heap.size 5 ?hg (N := 48) ?hd (xs := ([m] : List Int)) (inner := [.int .u8 m]) (ok := fun _ => True) (okp := fun _ => True) ?hr ?hp (fun _ hk => hk) trivial HBb.out HBb.out.size (by simp) ?_; (case hd => rfl); (case hg => rfl); (case hr => first | (go_simp; done) | (go_simp; rfl)); (case hp => exact (Reps.one (show Kd.M KB _ _ _ m [.int .u8 m] from rfl) (Reps.none _ _))); intro vxc wxc ho hb hg hn; obtain ⟨Ac, cc, hc'⟩ := Kd.R_slice ho; subst hc'; have HMc := Lib.hid (Kd.R_reads' ho).2.2; have HBc := Lib.hid hb; have HOc := Lib.hid (Kd.R_grown HOb.out hg (fun _ _ e => by cases e)); clear ho hb hg hn) | ((with_reducible refine gate_builtin (b := .append) (xs := #[.tmp 46, .tmp 48]) rfl ?_); at_builtin; refine Kd.R_append_row (Value.int .u8) 0 (w0 := W3) W3.heap.size rfl (.tmp 46) (.tmp 48) 23 5 (.int .u8 0) 1 rfl Tryd.underlying23 info5 rfl (by omega) _ P [m] Ac 1 cc (fun _ => True) rfl rfl (fun _ _ => trivial) HOc.out HMc.out HBc.out (below_size HBc.out) (by have := HPL.out; omega) ?_; intro vxd wxd ho hb hg hat; rw [← HQE.out] at ho; obtain ⟨Ad, cd, hd'⟩ := Kd.R_slice ho; subst hd'; have HQd : Hid (Kd.C KB wxd Ad Q.length Q) := Lib.hid (Kd.R_reads' ho).2.2; have HBd := Lib.hid hb; clear ho hb hg hat)
          | (go_at_call 27; (with_reducible refine (HGb.out _ _ _ (HT.out.below (below_step HB4.out HBd.out)) HQd.out).mono ?_); rintro e w5 ⟨A5, c5, rfl, ho, hb⟩; have hbb := below_step HBd.out hb; have HB5 := Lib.hid (below_step HB4.out hbb); have HP5' := Lib.hid (Kd.C_below HP4'.out hbb); have HN5 := Lib.hid (HN3.out.below hbb); clear ho hb hbb))
        obtain ⟨W, hW⟩ : ∃ W, W = w5.alloc (.cells (entC z33 A5 c5) 33) := ⟨_, rfl⟩
        rw [← hW]
        have hb5 : Below w5.heap.size w5 W := by rw [hW]; exact below_alloc (Below.refl _ _) _
        have HN := Lib.hid (HN5.out.below hb5)
        have HP6 := Lib.hid (Kd.C_below HP5'.out hb5)
        have HB6 := Lib.hid (below_step HB5.out hb5)
        clear hW hb5 p0 p1 p2 p3
        obtain ⟨Ay, cy, y0, y1, y2, y3, y4, y5⟩ := HXW.out.below HB6.out
        obtain ⟨n0, n1, n2, n3⟩ := HN.out.cell
        have Y0 := fun d os => cell_regrown y0 d os
        have Y1 := fun d os => cell_regrown y1 d os
        have Y2 := fun d os => cell_regrown y2 d os
        have Y3 := fun d os => cell_regrown y3 d os
        have N0 := fun d os => cell_regrown n0 d os
        have N1 := fun d os => cell_regrown n1 d os
        have N2 := fun d os => cell_regrown n2 d os
        have N3 := fun d os => cell_regrown n3 d os
        have HSM := Lib.hid (fun W' (hb' : Below W.heap.size W W') => same_any x A3 Ay c3 cy W' (Kd.C_below HN.out.c hb') HZ3.out.1 (Kd.C_below y5 hb') y4 HLN.out)
        have c31 := fun d os => Calls.regrown_of (HSM.out (Go.Sort.grow (redrawn W d) os) (below_regrown W d os))
        have c20 := fun n d os => Calls.regrown_of ((num_any n (Go.Sort.grow (redrawn W d) os)).mono (fun e w' h => ⟨h.1, by rw [← h.2]; exact Below.refl _ _⟩))
        clear y0 y1 y2 y3 y4 y5 n0 n1 n2 n3
        refine wp_region_quiet_below (by kernel_rfl) (by kernel_rfl) ?_
        repeat (first | go_big_quiet_step ((first | (go_at_call 20; exact c20 _ _ _) | (go_at_call 31; exact c31 _ _))) | quiet_step ((first | (go_at_call 20; exact c20 _ _ _) | (go_at_call 31; exact c31 _ _))))
        refine wpQuiet_nil ?_
        intro _ hw'
        obtain ⟨⟨dq, osq⟩, hw''⟩ := hw'
        subst hw''
        obtain ⟨W7, hW7⟩ : ∃ W', W' = Go.Sort.grow (redrawn W dq) osq := ⟨_, rfl⟩
        simp only [] at *
        rw [← hW7]
        have hb7 : Below W.heap.size W W7 := by rw [hW7]; exact below_regrown W dq osq
        have HB7 := Lib.hid (below_step HB6.out hb7)
        have HP7 := Lib.hid (Kd.C_below HP6.out hb7)
        have HT7 := Lib.hid (HT.out.below HB7.out)
        have hcut := cut_to (P := Tryd.prog) 23 5 .i64 Tryd.underlying23 hi5 A2 P.length c2 (D.length : Int) (by omega) (by have := HD1.out; omega) HP2.out.1
        rw [Int.toNat_natCast] at hcut
        have HD7 : Hid (Kd.C KB W7 A2 D.length D) := Lib.hid (by have h := take_C (u := D.length) HP7.out (by have := HD1.out; omega); rwa [HD2.out] at h)
        clear hW7 hb7 Y0 Y1 Y2 Y3 N0 N1 N2 N3 c31 c20
        go_wp2_with (first
          | (go_at_call 27; (with_reducible refine (HGc.out _ _ _ HT7.out HD7.out).mono ?_); rintro e w8 ⟨A8, c8, rfl, ho, hb⟩; have HB8 := Lib.hid (below_step HB7.out hb); clear ho hb)
          | (go_at_call 20; (with_reducible refine (num_any _ _).mono ?_); rintro e wn ⟨rfl, rfl⟩))
        go_roundw
        case rel => exact ⟨k + 1, by go_num, by omega, below_alloc HB8.out _⟩
        case measure => simp [intOf]; omega
    · have hki : ¬ (k : Int) < (l.length : Int) := by omega
      clear hb
      have HAL := Lib.hid (all_any A c l wr (Kd.C_below HX.out HBK.out) HC.out HE.out)
      have HPE : Hid (putB l = if batchB l = true then (bytesB l, 0) else ([], 1)) := Lib.hid rfl
      have HPU := Lib.hid (fun A' c' W (h1 : Tabs W) (h2 : Kd.C k33 W A' l.length l) => putB_any A' c' l W h1 h2 HE.out.2.1)
      have HKN := Lib.hid (fun W (h1 : Tabs W) => knows_any W h1)
      unfold PutRes at HPU
      cases hx : batchB l with
      | false =>
        have HPR : Hid (putB l = ([], 1)) := Lib.hid (by rw [HPE.out, hx]; rfl)
        rw [HPR.out] at HPU
        clear hx HPE
        go_wp2_with (first
          | (go_at_call 19; (with_reducible refine (HAL.out).mono ?_); rintro e w1 ⟨A1, c1, rfl, hc1, hC1, hb⟩; have HC1 := Lib.hid hC1; have HB1 := Lib.hid (below_step HBK.out hb); have HT1 := Lib.hid (HT.out.below HB1.out); clear hc1 hC1 hb)
          | (go_at_call 18; (with_reducible refine (HPU.out _ _ _ HT1.out HC1.out).mono ?_); rintro e w2 ⟨v2, rfl, ho, hb⟩; obtain ⟨A2, c2, h2⟩ := Kd.R_slice ho; subst h2; have HB2 := Lib.hid (below_step HB1.out hb); have HT2 := Lib.hid (HT.out.below HB2.out); clear ho hb)
          | (go_at_call 20; (with_reducible refine (num_any _ _).mono ?_); rintro e wn ⟨rfl, rfl⟩)
          | (go_at_call 21; (with_reducible refine (HKN.out _ HT2.out).mono ?_); rintro e w3 ⟨rfl, hb⟩; have HB3 := Lib.hid (below_step HB2.out hb); clear hb))
        go_ret
        exact ⟨rfl, HB3.out⟩
      | true =>
        have HPR : Hid (putB l = (bytesB l, 0)) := Lib.hid (by rw [HPE.out, hx]; rfl)
        rw [HPR.out] at HPU
        have hle := bytesB_len l hx
        have HGa : Hid (∀ A c W, Tabs W → Kd.C KB W A (bytesB l).length (bytesB l) → Calls Tryd.prog 47 #[.slice A (bytesB l).length c] W (EntsBelow l 0 W)) := Lib.hid (fun A c W h1 h2 => by have := getB_any A c (bytesB l) W h1 h2 (by omega) (byt_bytesB l hx); rwa [getB_back l hx] at this)
        have HGb : Hid (∀ A c W, Tabs W → Kd.C KB W A (bytesB l ++ [m]).length (bytesB l ++ [m]) → Calls Tryd.prog 47 #[.slice A (bytesB l ++ [m]).length c] W (EntsBelow [] 21 W)) := Lib.hid (fun A c W h1 h2 => by have := getB_any A c (bytesB l ++ [m]) W h1 h2 (by simp; omega) ((byt_bytesB l hx).append (fun y hy => by simp at hy; have := HM.out; omega)); rwa [getB_more l hx m] at this)
        have HSM := Lib.hid (fun A1 c1 W (h1 : Kd.C k33 W A1 l.length l) (h2 : Kd.C k33 W A l.length l) => sames_any A1 A c1 c l W h1 h2 HE.out.2.2)
        generalize bytesB l = P at *
        obtain ⟨Q, hQ⟩ : ∃ Q, Q = P ++ [m] := ⟨_, rfl⟩
        rw [← hQ] at HGb
        have HQE := Lib.hid hQ
        have HPL : Hid (P.length ≤ 100000) := Lib.hid hle
        clear hx HPE hle hQ
        go_upto_region 17 with (first
          | (go_at_call 19; (with_reducible refine (HAL.out).mono ?_); rintro e w1 ⟨A1, c1, rfl, hc1, hC1, hb⟩; have HC1 := Lib.hid hC1; have HB1 := Lib.hid (below_step HBK.out hb); have HT1 := Lib.hid (HT.out.below HB1.out); clear hc1 hC1 hb)
          | (go_at_call 18; (with_reducible refine (HPU.out _ _ _ HT1.out HC1.out).mono ?_); rintro e w2 ⟨v2, rfl, ho, hb⟩; obtain ⟨A2, c2, h2⟩ := Kd.R_slice ho; subst h2; have HP2 := Lib.hid (Kd.R_reads' ho).2.2; have HB2 := Lib.hid (below_step HB1.out hb); have HT2 := Lib.hid (HT.out.below HB2.out); clear ho hb)
          | (go_at_call 20; (with_reducible refine (num_any _ _).mono ?_); rintro e wn ⟨rfl, rfl⟩)
          | (go_at_call 47; (with_reducible refine (HGa.out _ _ _ HT2.out HP2.out).mono ?_); rintro e W3 ⟨v3, rfl, ho, hb⟩; obtain ⟨A3, c3, h3⟩ := Kd.S_slice ho; subst h3; have HZ3 := Lib.hid (Kd.S_reads' ho).2.2; have HP4' := Lib.hid (Kd.C_below HP2.out hb); have HB4 := Lib.hid (below_step HB2.out hb); clear ho hb))
        go_wp2_with (first
          | ((with_reducible refine gate_dst (N := 108) rfl ?_); refine Kd.R_lit KB (w0 := W3) W3.heap.size 5 ?hg (N := 108) ?hd (xs := ([] : List Int)) (inner := []) (ok := fun _ => True) (okp := fun _ => True) ?hr ?hp (fun _ hk => hk) trivial (Below.refl W3.heap.size W3) (Below.refl W3.heap.size W3).size (by simp) ?_; (case hd => rfl); (case hg => rfl); (case hr => first | (go_simp; done) | (go_simp; rfl)); (case hp => exact (Reps.none _ _)); intro vxa wxa ho hb hg hn; obtain ⟨Aa, ca, ha⟩ := Kd.R_slice ho; subst ha; have HOa := Lib.hid ho; have HBa := Lib.hid hb; have HPa := Lib.hid (Kd.C_below HP4'.out hb); clear ho hb hg hn) | ((with_reducible refine gate_builtin (b := .append) (xs := #[.tmp 108, .tmp 109]) rfl ?_); at_builtin; refine Kd.R_append_row (Value.int .u8) 0 (w0 := W3) W3.heap.size rfl (.tmp 108) (.tmp 109) 23 5 (.int .u8 0) 1 rfl Tryd.underlying23 info5 rfl (by omega) _ [] P A2 P.length c2 (fun _ => True) rfl rfl (fun _ _ => trivial) HOa.out HPa.out HBa.out (below_size HBa.out) (by have := HPL.out; simp; omega) ?_; intro vxb wxb ho hb hg hat; rw [List.nil_append] at ho; obtain ⟨Ab, cb', hb'⟩ := Kd.R_slice ho; subst hb'; have HOb := Lib.hid ho; have HBb := Lib.hid hb; clear ho hb hg hat) | ((with_reducible refine gate_dst (N := 112) rfl ?_); refine Kd.R_lit KB (w0 := W3) W3.heap.size 5 ?hg (N := 112) ?hd (xs := ([m] : List Int)) (inner := [.int .u8 m]) (ok := fun _ => True) (okp := fun _ => True) ?hr ?hp (fun _ hk => hk) trivial HBb.out HBb.out.size (by simp) ?_; (case hd => rfl); (case hg => rfl); (case hr => first | (go_simp; done) | (go_simp; rfl)); (case hp => exact (Reps.one (show Kd.M KB _ _ _ m [.int .u8 m] from rfl) (Reps.none _ _))); intro vxc wxc ho hb hg hn; obtain ⟨Ac, cc, hc'⟩ := Kd.R_slice ho; subst hc'; have HMc := Lib.hid (Kd.R_reads' ho).2.2; have HBc := Lib.hid hb; have HOc := Lib.hid (Kd.R_grown HOb.out hg (fun _ _ e => by cases e)); clear ho hb hg hn) | ((with_reducible refine gate_builtin (b := .append) (xs := #[.tmp 110, .tmp 112]) rfl ?_); at_builtin; refine Kd.R_append_row (Value.int .u8) 0 (w0 := W3) W3.heap.size rfl (.tmp 110) (.tmp 112) 23 5 (.int .u8 0) 1 rfl Tryd.underlying23 info5 rfl (by omega) _ P [m] Ac 1 cc (fun _ => True) rfl rfl (fun _ _ => trivial) HOc.out HMc.out HBc.out (below_size HBc.out) (by have := HPL.out; omega) ?_; intro vxd wxd ho hb hg hat; rw [← HQE.out] at ho; obtain ⟨Ad, cd, hd'⟩ := Kd.R_slice ho; subst hd'; have HQd : Hid (Kd.C KB wxd Ad Q.length Q) := Lib.hid (Kd.R_reads' ho).2.2; have HBd := Lib.hid hb; clear ho hb hg hat)
          | (go_at_call 47; (with_reducible refine (HGb.out _ _ _ (HT.out.below (below_step HB4.out HBd.out)) HQd.out).mono ?_); rintro e w5 ⟨v5, rfl, ho, hb⟩; have hbb := below_step HBd.out hb; have HB5 := Lib.hid (below_step HB4.out hbb); have HZ5 := Lib.hid (Kd.C_below HZ3.out hbb); obtain ⟨A5, c5, h5⟩ := Kd.S_slice ho; subst h5; clear ho hb hbb)
          | (go_at_call 20; (with_reducible refine (num_any _ _).mono ?_); rintro e wn ⟨rfl, rfl⟩)
          | (go_at_call 38; (with_reducible refine (HSM.out _ _ _ HZ5.out (Kd.C_below HX.out HB5.out)).mono ?_); rintro e w6 ⟨rfl, hb⟩; have HB6 := Lib.hid (below_step HB5.out hb); clear hb)
          | (go_at_call 21; (with_reducible refine (HKN.out _ (HT.out.below HB6.out)).mono ?_); rintro e w7 ⟨rfl, hb⟩; have HB7 := Lib.hid (below_step HB6.out hb); clear hb))
        go_ret
        exact ⟨rfl, HB7.out⟩
end Go.Proofs.YtojocffjajcdmaaDoor
