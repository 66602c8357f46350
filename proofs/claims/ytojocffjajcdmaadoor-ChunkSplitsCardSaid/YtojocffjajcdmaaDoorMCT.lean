/- The law ChunkTimes holds of whatever chunk and times. -/
import Derived.Test.YtojocffjajcdmaaDoorMZ
import Derived.Test.YtojocffjajcdmaaDoorMT
import Derived.Deep.RegionHeldLaw
namespace Go.Proofs.YtojocffjajcdmaaDoor.RF
open Go Go.RowKit Go.Shelf Go.Sort Go.Proofs.YtojocffjajcdmaaDoor Go.Proofs.YtojocffjajcdmaaDoor.RS Go.Proofs.YtojocffjajcdmaaDoorW.PrintWords Go.Proofs.YtojocffjajcdmaaDoorW.PrintLast Go.Proofs.YtojocffjajcdmaaDoorW.PrintMore PChunkAll
set_option linter.unusedVariables false
set_option linter.unusedSimpArgs false

theorem EntsO.slice {B : Nat} {A : Option Addr} {c : Nat} {rs : List RE} {W : World} (h : EntsO B (.slice A rs.length c) rs W) : (A = none → c = 0) ∧ rs.length ≤ c := by
  rcases h.own.2 with ⟨h1, h2⟩ | ⟨g, cap, cur, h1, _, _, h3, _⟩
  · injection h1 with a1 a2 a3; exact ⟨fun _ => a3, by omega⟩
  · injection h1 with a1 a2 a3; subst a1 a3; exact ⟨fun e => (by cases e), h3⟩
theorem ents_len (rs : List RE) : (rs.flatMap RE.cells).length = rs.length * 4 := flat_len _ 4 RE.cells_len rs
theorem ents_one (rs : List RE) : ∀ u ∈ rs.flatMap RE.cells, u.oneCell' = true := by
  intro u hu
  obtain ⟨r, _, hr⟩ := List.mem_flatMap.1 hu
  exact r.cells_one u hr
theorem map_len {l : List S33} {rs : List RE} (h : rs.map RE.x = l) : rs.length = l.length := by rw [← h, List.length_map]
theorem btw_labs {ls : List S112} {rows : List S71} {a b : Int} {rs : List RE} (h : rs.map RE.x = btw ls rows a b) : ∀ r ∈ rs, r.x.f2 = ls := by
  intro r hr
  have hm : r.x ∈ btw ls rows a b := by rw [← h]; exact List.mem_map_of_mem hr
  unfold btw at hm
  split at hm
  · obtain ⟨x, _, e⟩ := List.mem_map.1 hm
    rw [← e]; rfl
  · cases hm
theorem btw_lenE {ls : List S112} (rows : List S71) (a b : Int) (h : ls.length < 4398046511104) : LenE (btw ls rows a b) := by
  intro k hk
  have hm : (btw ls rows a b).getD k z33 ∈ btw ls rows a b := by rw [List.getD_eq_getElem?_getD, List.getElem?_eq_getElem hk]; exact List.getElem_mem hk
  unfold btw at hm ⊢
  split at hm
  · rename_i hr
    obtain ⟨x, _, e⟩ := List.mem_map.1 hm
    rw [if_pos hr, ← e]; exact h
  · cases hm

theorem EntsO.oks {B : Nat} {v : Value} {rs : List RE} {W : World} (h : EntsO B v rs W) (hl : ∀ r ∈ rs, r.x.f2.length ≤ 9223372036854775807) : ∀ r ∈ rs, r.ok W :=
  fun r hr => ⟨(h.labs r hr).1, C_lab (hl r hr) (own_rowC (h.labs r hr).2)⟩
theorem reads_two {W : World} {A : Option Addr} {B n c : Nat} {rsA rsB : List RE} {l : List S33} (ho : W.ownsRow B 33 4 (.slice A n c) n ([] ++ rsA.flatMap RE.cells ++ rsB.flatMap RE.cells)) (hl : rsA.map RE.x ++ rsB.map RE.x = l) (hA : ∀ r ∈ rsA, r.ok W) (hB : ∀ r ∈ rsB, r.ok W) (hm : l.length ≤ 2000) : Kd.C k33 W A l.length l := by
  have hr := own_rowC ho
  rw [List.nil_append, ← List.flatMap_append] at hr
  rw [← List.map_append] at hl
  have hlen := map_len hl
  have := raw_C (rs := rsA ++ rsB) (by omega) hr (fun r hr => (List.mem_append.1 hr).elim (hA r) (hB r))
  rw [hl, hlen] at this
  exact this

set_option maxRecDepth 100000 in
set_option maxHeartbeats 4000000 in
theorem times_any (A1 : Option Addr) (c1 : Nat) (ls : List S112) (A2 : Option Addr) (c2 : Nat) (rows : List S71) (ta tm tb : Int) (w : World) (hT : Tabs w) (hls : ls.length < 4398046511104) (hm : rows.length < 4398046511104)
    (hL : Kd.C k112 w A1 ls.length ls) (h1 : ls.length ≤ c1) (hR : RowC w A2 (rcells rows)) (h2 : rows.length ≤ c2) (hwf : ∀ x ∈ rows, (Lit.int .i64 x.f0).wf = true) :
    Calls Tryd.prog 6 #[chV A1 ls.length c1 A2 rows.length c2, .int .i64 ta, .int .i64 tm, .int .i64 tb] w (LawRes w) := by
  have hb0 : Below w.heap.size w (w.alloc (.cells #[.slice A1 ls.length c1, .slice A2 rows.length c2] 50)) := (Below.refl _ _).alloc (Nat.le_refl _) _
  have k0 : Blk (w.alloc (.cells #[.slice A1 ls.length c1, .slice A2 rows.length c2] 50)) w.heap.size #[.slice A1 ls.length c1, .slice A2 rows.length c2] 50 := Blk.new _ _ _ _ rfl
  have c00 := k0.cell 0 _ rfl
  have c01 := k0.cell 1 _ rfl
  have HKN := Lib.hid (fun W (hb : Below w.heap.size w W) => knows4_any W (hT.below hb))
  by_cases g1 : tm < ta
  · have d1 : decide (tm < ta) = true := decide_eq_true g1
    clear hT hL hR hwf
    go_enter Tryd.func6, Tryd.ntmps6
    go_wp2_with (go_at_call 42; refine (HKN.out _ hb0).mono ?_; rintro e w1 ⟨rfl, hb⟩)
    go_ret
    exact ⟨rfl, below_step hb0 hb⟩
  have d1 : decide (tm < ta) = false := decide_eq_false g1
  by_cases g2 : tb < tm
  · have d2 : decide (tb < tm) = true := decide_eq_true g2
    clear hT hL hR hwf
    go_enter Tryd.func6, Tryd.ntmps6
    go_wp2_with (go_at_call 42; refine (HKN.out _ hb0).mono ?_; rintro e w1 ⟨rfl, hb⟩)
    go_ret
    exact ⟨rfl, below_step hb0 hb⟩
  have d2 : decide (tb < tm) = false := decide_eq_false g2
  have HJ := Lib.hid (btw_join ls rows ta tm tb (by omega) (by omega))
  have HOW := Lib.hid (own34_any A1 c1 ls A2 c2 rows _ hls hm (Kd.C_below hL hb0) h1 (hR.below hb0) h2)
  have HBT := Lib.hid (fun (A3 : Option Addr) c3 (A4 : Option Addr) c4 (x y : Int) W (hb : Below w.heap.size w W) (g1 : Kd.C k112 W A3 ls.length ls) (g2 : RowC W A4 (rcells rows)) => between_any A3 c3 ls A4 c4 rows x y W (hT.below hb) hls (by omega) g1 g2 hwf)
  have HLE := Lib.hid (btw_lenE rows ta tb hls)
  have HL1 := Lib.hid (btw_len ls rows ta tm)
  have HL2 := Lib.hid (btw_len ls rows tm tb)
  clear hT hL hR hwf g1 g2
  obtain ⟨i0, hi0, hz0, hz1, hz2⟩ := info_parts info33
  go_enter Tryd.func6, Tryd.ntmps6
  go_wp2_with (first
    | (go_at_call 34; refine (HOW.out).mono ?_; rintro e w1 ⟨A3, c3, A4, c4, rfl, hq1, hq2, hL3, hR4, hb⟩; have HB1 := Lib.hid (below_step hb0 hb); have HB2 := Lib.hid (HB1.out.alloc HB1.out.size (.cells #[.slice A3 ls.length c3, .slice A4 rows.length c4] 53)); have HL3 := Lib.hid (Kd.C_below hL3 ((Below.refl w1.heap.size w1).alloc (Nat.le_refl _) (.cells #[.slice A3 ls.length c3, .slice A4 rows.length c4] 53))); have HR4 := Lib.hid (hR4.below ((Below.refl w1.heap.size w1).alloc (Nat.le_refl _) (.cells #[.slice A3 ls.length c3, .slice A4 rows.length c4] 53))); have kx : Blk (w1.alloc (.cells #[.slice A3 ls.length c3, .slice A4 rows.length c4] 53)) w1.heap.size #[.slice A3 ls.length c3, .slice A4 rows.length c4] 53 := Blk.new _ _ _ _ rfl; have x0 := kx.cell 0 _ rfl; have x1 := kx.cell 1 _ rfl; clear hL3 hR4 hb c00 c01)
    | (go_at_call 37; (with_reducible refine (HBT.out A3 c3 A4 c4 ta tm _ HB2.out HL3.out HR4.out).mono ?_); rintro e w2 ⟨A5, c5, rsA, rfl, hrA, hEA, hb⟩; have HB3 := Lib.hid (below_step HB2.out hb); have HL4 := Lib.hid (Kd.C_below HL3.out hb); have HR5 := Lib.hid (HR4.out.below hb); have ky := Blk.grown kx (grown_below hb) (fun e => by cases e); have y0 := ky.cell 0 _ rfl; have y1 := ky.cell 1 _ rfl; have HEA := Lib.hid hEA; have HRA := Lib.hid hrA; clear hb hEA hrA x0 x1)
    | (go_at_call 37; (with_reducible refine (HBT.out A3 c3 A4 c4 tm tb _ HB3.out HL4.out HR5.out).mono ?_); rintro e w3 ⟨A6, c6, rsB, rfl, hrB, hEB, hb⟩; have HB4 := Lib.hid (below_step HB3.out hb); have HL5 := Lib.hid (Kd.C_below HL4.out hb); have HR6 := Lib.hid (HR5.out.below hb); have kz := Blk.grown ky (grown_below hb) (fun e => by cases e); have z0 := kz.cell 0 _ rfl; have z1 := kz.cell 1 _ rfl; have HEA3 := Lib.hid (HEA.out.below hb); have HEB := Lib.hid hEB; have HRB := Lib.hid hrB; clear hb hEB hrB y0 y1))
  have hHA := HEA3.out.slice
  have hHB := HEB.out.slice
  have hSA := Lib.hid hHA
  have hSB := Lib.hid hHB
  have HNA := Lib.hid (map_len HRA.out)
  have HNB := Lib.hid (map_len HRB.out)
  have HLT : Hid (0 + rsA.length + rsB.length = (btw ls rows ta tb).length) := Lib.hid (by have e := congrArg List.length HJ.out; rw [List.length_append] at e; have := HNA.out; have := HNB.out; omega)
  have HSZ : Hid (rsA.length ≤ 1000 ∧ rsB.length ≤ 1000) := Lib.hid ⟨by have := HNA.out; have := HL1.out; omega, by have := HNB.out; have := HL2.out; omega⟩
  have HOA := Lib.hid (HEA3.out.oks (fun r hr => by rw [btw_labs HRA.out r hr]; omega))
  have HOB := Lib.hid (HEB.out.oks (fun r hr => by rw [btw_labs HRB.out r hr]; omega))
  have HSS : ∀ w', Below w3.heap.size w3 w' → (w'.cell? ⟨w1.heap.size, 0, none⟩ = some (.slice A3 ls.length c3) ∧ w'.cell? ⟨w1.heap.size, 1, none⟩ = some (.slice A4 rows.length c4) ∧ Below w3.heap.size w3 w') :=
    fun w' hK => ⟨keepc hK z0, keepc hK z1, hK⟩
  clear hHA hHB
  go_region_held3 (fun w' => w'.cell? ⟨w1.heap.size, 0, none⟩ = some (.slice A3 ls.length c3) ∧ w'.cell? ⟨w1.heap.size, 1, none⟩ = some (.slice A4 rows.length c4) ∧ Below w3.heap.size w3 w')
    (first
      | exact HSS _ (Below.refl _ _)
      | exact HSS _ (Below.refl _ _).drew
      | exact HSS _ hB10 | exact HSS _ hB9 | exact HSS _ hB8 | exact HSS _ hB7 | exact HSS _ hB6 | exact HSS _ hB7.drew | exact HSS _ hB6.drew
      | exact HSS _ ((Below.refl _ _).alloc (Nat.le_refl _) _).drew
      | exact HSS _ ((Below.refl _ _).drew.alloc (Nat.le_refl _) _)
      | exact HSS _ (hB6.alloc hB6.size _))
    (first
      | (refine step_append_row _ rfl (.tmp 31) (.tmp 32) 22 rfl w3.heap.size 33 i0 _ 4 56 Tryd.underlying22 hi0 hz0 hz1 hz2 rfl (by decide) _ 0 [] rfl
          (by first | exact (RS.own_made' (Nat.le_refl _) rfl).drew2 | exact RS.own_made' (Nat.le_refl _) rfl)
          _ _ _ (rsA.flatMap RE.cells) rfl hSA.out.1 hSA.out.2 (ents_len rsA)
          (by first | exact (own_rowC HEA3.out.own).below ((Below.refl _ _).alloc (Nat.le_refl _) _).drew | exact (own_rowC HEA3.out.own).below ((Below.refl _ _).drew.alloc (Nat.le_refl _) _))
          (ents_one rsA) (by have := HSZ.out; unfold maxLen; omega) (by have := HSZ.out; omega) (by simp only [World.size_alloc, World.size_drew]; omega) ?_
         intro v6 w6 hown6 hgrow6
         have hB6 : Below w3.heap.size w3 w6 := by
           first
             | exact ((Below.refl _ _).alloc (Nat.le_refl _) _).drew.grown hgrow6 (by simp only [World.size_alloc, World.size_drew]; omega) (by intro q hq; simp [Value.ownBlock, Act.eval, Act.put] at hq; omega)
             | exact ((Below.refl _ _).drew.alloc (Nat.le_refl _) _).grown hgrow6 (by simp only [World.size_alloc, World.size_drew]; omega) (by intro q hq; simp [Value.ownBlock, Act.eval, Act.put] at hq; omega))
      | (refine step_append_row _ rfl (.tmp 33) (.tmp 34) 22 rfl w3.heap.size 33 i0 _ 4 56 Tryd.underlying22 hi0 hz0 hz1 hz2 rfl (by decide) _ (0 + rsA.length) ([] ++ rsA.flatMap RE.cells) rfl hown6
          _ _ _ (rsB.flatMap RE.cells) rfl hSB.out.1 hSB.out.2 (ents_len rsB) ((own_rowC HEB.out.own).below hB6) (ents_one rsB) (by have := HSZ.out; unfold maxLen; omega) (by have := HSZ.out; omega) hB6.size ?_
         intro v7 w7 hown7 hgrow7
         have hB7 : Below w3.heap.size w3 w7 := hB6.grown hgrow7 hB6.size (fun q hq => (hown6.lt q hq).1)
         rw [HLT.out] at hown7
         obtain ⟨A7, q7, rfl, hq7⟩ := own_slice hown7)
      | (go_at_call 37; (with_reducible refine (HBT.out A3 c3 A4 c4 ta tb _ (below_step HB4.out hB7) (Kd.C_below HL5.out hB7) (HR6.out.below hB7)).mono ?_); rintro e w8 ⟨A8, c8, rsC, he, hrC, hEC, hb8⟩; rw [map_len hrC] at he; subst he; have hB8 := below_step hB7 hb8)
      | (go_at_call 38; refine (sames_any A7 A8 q7 c8 (btw ls rows ta tb) _ (reads_two (own_below hown7 hb8) (by rw [HRA.out, HRB.out, HJ.out]) (fun r hr => (HOA.out r hr).below hB8) (fun r hr => (HOB.out r hr).below hB8) (by have := btw_len ls rows ta tb; omega)) (by have h9 := (hEC.reads (by have := map_len hrC; have := btw_len ls rows ta tb; omega) (fun r hr => by rw [btw_labs hrC r hr]; omega)).2.2; rw [map_len hrC, hrC] at h9; exact h9) HLE.out).mono ?_; rintro e w9 ⟨rfl, hb9⟩; have hB9 := below_step hB8 hb9)
      | (go_at_call 42; refine (HKN.out _ (below_step HB4.out hB9)).mono ?_; rintro e w10 ⟨rfl, hb10⟩; have hB10 := below_step hB9 hb10))
  go_wp2_with fail
  go_ret
  exact ⟨rfl, below_step HB4.out hB10⟩
end Go.Proofs.YtojocffjajcdmaaDoor.RF
