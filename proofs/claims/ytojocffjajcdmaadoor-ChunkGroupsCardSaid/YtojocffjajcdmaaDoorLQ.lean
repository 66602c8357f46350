/- The reference's Split: walked. -/
import Derived.Test.YtojocffjajcdmaaDoorLW
import Derived.Test.YtojocffjajcdmaaDoorLC
namespace Go.Proofs.YtojocffjajcdmaaDoor.RF
open Go Go.RowKit Go.Shelf Go.Sort Go.Proofs.YtojocffjajcdmaaDoor Go.Proofs.YtojocffjajcdmaaDoor.RS Go.Proofs.YtojocffjajcdmaaDoorW.PrintWords Go.Proofs.YtojocffjajcdmaaDoorW.PrintLast Go.Proofs.YtojocffjajcdmaaDoorW.PrintMore PChunkAll
set_option linter.unusedVariables false
set_option linter.unusedSimpArgs false

theorem info50 : (Tryd.prog.info? 50).map (fun i => (i.zero, i.size, i.bytes)) = some (some (.agg #[(.slice none 0 0), (.slice none 0 0)]), 2, 48) := by kernel_rfl
theorem info93 : (Tryd.prog.info? 93).map (fun i => (i.zero, i.size, i.bytes)) = some (some (.agg #[(.int .i64 0), (.int .i64 0), (.string ⟨#[]⟩)]), 3, 32) := by kernel_rfl
def lenOf : Value → Nat
  | .slice _ n _ => n
  | _ => 0
end Go.Proofs.YtojocffjajcdmaaDoor.RF
/- law04.Sames of equal chunks. -/
namespace Go.Proofs.YtojocffjajcdmaaDoor.RF
open Go Go.RowKit Go.Shelf Go.Sort Go.Proofs.YtojocffjajcdmaaDoor Go.Proofs.YtojocffjajcdmaaDoor.RS Go.Proofs.YtojocffjajcdmaaDoorW.PrintWords Go.Proofs.YtojocffjajcdmaaDoorW.PrintLast Go.Proofs.YtojocffjajcdmaaDoorW.PrintMore PChunkAll
set_option linter.unusedVariables false
set_option linter.unusedSimpArgs false

theorem ChksR.at {A : Option Addr} {n : Nat} {rs : List RK} {W : World} (h : ChksR A n rs W) {i : Nat} (hi : i < rs.length) :
    ∃ b o, A = some ⟨b, o, none⟩ ∧ W.cell? ⟨b, o + i * 2, none⟩ = some (.slice rs[i].A1 rs[i].ls.length rs[i].c1) ∧ W.cell? ⟨b, o + i * 2 + 1, none⟩ = some (.slice rs[i].A2 rs[i].rows.length rs[i].c2) := by
  obtain ⟨b, o, e, hc⟩ := h.row (by rw [flat_len _ 2 RK.cells_len]; omega)
  refine ⟨b, o, e, ?_, ?_⟩
  · have := hc (i * 2 + 0) _ ((flat_get RK.cells 2 RK.cells_len rs i 0 hi (by decide)).trans rfl)
    rwa [Nat.add_zero] at this
  · have := hc (i * 2 + 1) _ ((flat_get RK.cells 2 RK.cells_len rs i 1 hi (by decide)).trans rfl)
    rwa [← Nat.add_assoc] at this
set_option maxRecDepth 100000 in
set_option maxHeartbeats 4000000 in
theorem sames44_any (A B : Option Addr) (n c d : Nat) (rs ss : List RK) (w : World) (hA : ChksR A n rs w) (hB : ChksR B n ss w) (he : rs.map RK.x = ss.map RK.x) (hn : n ≤ 4611686018427387904)
    (hs : ∀ r ∈ rs, r.ls.length < 4398046511104 ∧ r.rows.length < 4398046511104) : Calls Tryd.prog 44 #[.slice A n c, .slice B n d] w (BoolBelow true w) := by
  have hln : rs.length = n := hA.len.symm
  have hln2 : ss.length = n := hB.len.symm
  have HA := Lib.hid hA
  have HB := Lib.hid hB
  have HEQ : Hid (∀ i (h1 : i < rs.length) (h2 : i < ss.length), rs[i].ls = ss[i].ls ∧ rs[i].rows = ss[i].rows) := Lib.hid (fun i h1 h2 => by
    have e : (rs.map RK.x)[i]? = (ss.map RK.x)[i]? := by rw [he]
    rw [List.getElem?_map, List.getElem?_map, List.getElem?_eq_getElem h1, List.getElem?_eq_getElem h2] at e
    injection e with e
    exact ⟨(Prod.mk.inj e).1, (Prod.mk.inj e).2⟩)
  have HS := Lib.hid hs
  clear hA hB he hs
  go_enter Tryd.func44, Tryd.ntmps44
  go_wp2_with fail
  go_loopw [5] (fun v5 wr => ∃ i : Nat, v5 = .int .i64 (i : Int) ∧ i ≤ n ∧ Hid (Below w.heap.size w wr)) (fun v5 _ => n - (intOf v5).toNat)
  case atStart => exact ⟨0, rfl, Nat.zero_le _, Below.refl _ _⟩
  case round =>
    obtain ⟨i, rfl, hi, HI⟩ := hrel
    by_cases hlt : i < n
    · have hltz : (i : Int) < (n : Int) := by omega
      have h1 : i < rs.length := by omega
      have h2 : i < ss.length := by omega
      have ra := HA.out.below HI.out
      have rb := HB.out.below HI.out
      obtain ⟨b, o, rfl, p0, p1⟩ := ra.at h1
      obtain ⟨b', o', rfl, q0, q1⟩ := rb.at h2
      obtain ⟨e1, e2⟩ := HEQ.out i h1 h2
      have g1 := ra.labs _ (List.getElem_mem h1)
      have g2 := ra.rows _ (List.getElem_mem h1)
      have g3 := rb.labs _ (List.getElem_mem h2)
      have g4 := rb.rows _ (List.getElem_mem h2)
      have g5 := HS.out _ (List.getElem_mem h1)
      rw [← e1] at g3 q0
      rw [← e2] at g4 q1
      have HC := Lib.hid (fun W (hb : Below wr.heap.size wr W) => same41_any rs[i].A1 rs[i].c1 rs[i].A2 rs[i].c2 ss[i].A1 ss[i].c1 ss[i].A2 ss[i].c2 rs[i].ls rs[i].rows W g5.1 g5.2 (Kd.C_below g1.2 hb) g1.1 (g2.2.below hb) g2.1 (Kd.C_below g3.2 hb) g3.1 (g4.2.below hb) g4.1)
      clear ra rb e1 e2 g1 g2 g3 g4 g5
      generalize rs[i].A1 = a1 at *
      generalize rs[i].c1 = a2 at *
      generalize rs[i].A2 = a3 at *
      generalize rs[i].c2 = a4 at *
      generalize ss[i].A1 = a5 at *
      generalize ss[i].c1 = a6 at *
      generalize ss[i].A2 = a7 at *
      generalize ss[i].c2 = a8 at *
      generalize rs[i].ls = ls at *
      generalize rs[i].rows = rows at *
      have HSS : ∀ w', Below wr.heap.size wr w' → (w'.cell? ⟨b, o + i * 2, none⟩ = some (.slice a1 ls.length a2) ∧ w'.cell? ⟨b, o + i * 2 + 1, none⟩ = some (.slice a3 rows.length a4) ∧ w'.cell? ⟨b', o' + i * 2, none⟩ = some (.slice a5 ls.length a6) ∧ w'.cell? ⟨b', o' + i * 2 + 1, none⟩ = some (.slice a7 rows.length a8)) :=
        fun w' hK => ⟨keepc hK p0, keepc hK p1, keepc hK q0, keepc hK q1⟩
      go_wp2_with fail
      go_region_held3 (fun w' => w'.cell? ⟨b, o + i * 2, none⟩ = some (.slice a1 ls.length a2) ∧ w'.cell? ⟨b, o + i * 2 + 1, none⟩ = some (.slice a3 rows.length a4) ∧ w'.cell? ⟨b', o' + i * 2, none⟩ = some (.slice a5 ls.length a6) ∧ w'.cell? ⟨b', o' + i * 2 + 1, none⟩ = some (.slice a7 rows.length a8))
        (first | exact HSS _ (Below.refl _ _) | exact HSS _ (Below.refl _ _).drew | exact HSS _ hb2 | exact HSS _ hb2.drew)
        (first | (go_at_call 41; refine (HC.out _ (by first | exact (Below.refl _ _).drew | exact Below.refl _ _)).mono ?_; rintro e w2 ⟨rfl, hb3⟩; have hb2 : Below wr.heap.size wr w2 := (by first | exact hb3 | exact undrew hb3); have HB2 := Lib.hid (below_step HI.out hb2)))
      all_goals
        go_wp2_with fail
        go_roundw
        case rel => exact ⟨i + 1, by go_num, by omega, HB2⟩
        case measure => simp [intOf]; omega
    · have hltz : ¬ (i : Int) < (n : Int) := by omega
      go_wp2_with fail
      go_ret
      exact ⟨rfl, HI.out⟩
end Go.Proofs.YtojocffjajcdmaaDoor.RF
