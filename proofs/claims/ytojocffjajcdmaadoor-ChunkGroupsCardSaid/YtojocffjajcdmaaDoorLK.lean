/- The law ChunkGroups holds of whatever entries. -/
import Derived.Test.YtojocffjajcdmaaDoorLJ
import Derived.Test.YtojocffjajcdmaaDoorLQ
import Derived.Test.YtojocffjajcdmaaDoorLZ
namespace Go.Proofs.YtojocffjajcdmaaDoor.RF
open Go Go.RowKit Go.Shelf Go.Sort Go.Proofs.YtojocffjajcdmaaDoor Go.Proofs.YtojocffjajcdmaaDoor.RS Go.Proofs.YtojocffjajcdmaaDoorW.PrintWords Go.Proofs.YtojocffjajcdmaaDoorW.PrintLast Go.Proofs.YtojocffjajcdmaaDoorW.PrintMore PChunkAll
set_option linter.unusedVariables false
set_option linter.unusedSimpArgs false

theorem grpF_mem (P : List S112 → Prop) : ∀ (l : List S33) (o : List CH), (∀ x ∈ l, P x.f2) → (∀ c ∈ o, P c.1 ∧ c.2.length ≤ 1000) → ∀ c ∈ l.foldl stepG o, P c.1 ∧ c.2.length ≤ 1000
  | [], o, _, ho => ho
  | x :: l, o, hl, ho => by
    rw [List.foldl_cons]
    refine grpF_mem P l _ (fun y hy => hl y (List.mem_cons_of_mem _ hy)) (fun c hc => ?_)
    have hx := hl x List.mem_cons_self
    have hnew : P (x.f2, [rowE x]).1 ∧ (x.f2, [rowE x]).2.length ≤ 1000 := ⟨hx, by simp⟩
    unfold stepG at hc
    split at hc
    · rcases List.mem_append.1 hc with hc | hc
      · exact ho c hc
      · rw [List.mem_singleton] at hc; subst hc; exact hnew
    · rename_i d hd
      have hdm := ho d (List.mem_of_getLast? hd)
      split at hc
      · rcases List.mem_append.1 hc with hc | hc
        · exact ho c hc
        · rw [List.mem_singleton] at hc; subst hc; exact hnew
      · rename_i hn
        rcases List.mem_append.1 hc with hc | hc
        · rw [List.dropLast_eq_take] at hc
          exact ho c (List.mem_of_mem_take hc)
        · rw [List.mem_singleton] at hc
          subst hc
          refine ⟨hdm.1, ?_⟩
          have : d.2.length ≠ 1000 := fun h => hn (.inr h)
          have := hdm.2
          simp
          omega
theorem grpG_mem {P : List S112 → Prop} {l : List S33} (h : ∀ x ∈ l, P x.f2) : ∀ c ∈ grpG l, P c.1 ∧ c.2.length ≤ 1000 := grpF_mem P l [] h (fun c hc => by cases hc)
theorem noneC_below {w W : World} {A : Option Addr} {l : List S33} (h : NoneC w A l.length) (hr : Kd.C k33 w A l.length l) (hb : Below w.heap.size w W) : NoneC W A l.length := by
  intro b o hA i hi n2 c2 hc
  subst hA
  obtain ⟨b', o', e, hx⟩ := ents_at hr (by omega)
  injection e with e; injection e with e1 e2
  subst e1; subst e2
  obtain ⟨A2, c2', _, _, h2, _⟩ := hx i hi
  have := pw_cell_below hb h2
  rw [this] at hc
  injection hc with hc
  injection hc with e1 e2 e3
  subst e1; subst e3
  exact h b o rfl i hi _ _ h2
/-- What Group answers. -/
def grpE (l : List S33) : List CH := grpG (ST.srt ltL (sortE (dedL l)))
theorem grpE_mem {l : List S33} (hE : EntsOk l) {rs : List RK} (h : rs.map RK.x = grpE l) : ∀ r ∈ rs, r.ls.length < 4398046511104 ∧ r.rows.length ≤ 1000 := by
  intro r hr
  have hm : r.x ∈ grpE l := by rw [← h]; exact List.mem_map_of_mem hr
  exact grpG_mem (P := fun ls => ls.length < 4398046511104) (fun x hx => lens_of (dedL_ok hE) ((sortE_perm _).mem_iff.1 ((ST.srt_perm _ _).mem_iff.1 hx))) _ hm
theorem grpE_len (l : List S33) : (grpE l).length ≤ l.length := by
  have h1 := grpG_len (ST.srt ltL (sortE (dedL l)))
  rw [ST.srt_length, sortE_len] at h1
  exact Nat.le_trans h1 (dedL_len l)
theorem lenE_of {l : List S33} (h : EntsOk l) : LenE l := h.2.2
theorem len_map {rs : List RK} {l : List CH} (h : rs.map RK.x = l) : rs.length = l.length := by rw [← h, List.length_map]

set_option maxRecDepth 100000 in
set_option maxHeartbeats 4000000 in
theorem groups_any (A : Option Addr) (c : Nat) (l : List S33) (w : World) (hT : Tabs w) (hr : Kd.C k33 w A l.length l) (hc : l.length ≤ c) (hE : EntsOk l) (hS : SzE l) (hN : NoneC w A l.length) :
    Calls Tryd.prog 14 #[.slice A l.length c] w (LawRes w) := by
  have HX0 := Lib.hid hr
  have HKN := Lib.hid (fun W (hb : Below w.heap.size w W) => knows4_any W (hT.below hb))
  have HAL := Lib.hid (all_any A c l w hr hc hE)
  have HCG : Hid (∀ A' c' W, Below w.heap.size w W → Kd.C k33 W A' l.length l → Calls Tryd.prog 60 #[.slice A' l.length c'] W (SplP 53 71 W (grpE l))) := Lib.hid (fun A' c' W hb h => cgroup_any A' c' l W (hT.below hb) h hE)
  have HRG : Hid (∀ W, Below w.heap.size w W → Calls Tryd.prog 61 #[.slice A l.length c] W (SplP 50 93 W (grpE l))) := Lib.hid (fun W hb => by
    have h := rgroup_any A c l W (Kd.C_below hr hb) (noneC_below hN hr hb) hE hS
    rw [← group_eq] at h
    exact h)
  have HSM := Lib.hid (fun A1 c1 W (h1 : Kd.C k33 W A1 l.length l) (h3 : Kd.C k33 W A l.length l) => sames_any A1 A c1 c l W h1 h3 (lenE_of hE))
  have HMM := Lib.hid (fun (rs : List RK) (h : rs.map RK.x = grpE l) => grpE_mem hE h)
  have hll : (grpE l).length ≤ 4398046511104 := by have h1 := grpE_len l; have h2 := hE.1; omega
  clear hT hr hc hE hS hN
  generalize grpE l = GL at *
  go_enter Tryd.func14, Tryd.ntmps14
  go_wp2_with (first
    | (go_at_call 19; (with_reducible refine (HAL.out).mono ?_); rintro e w1 ⟨A1, c1, rfl, hc1, hC1, hb⟩; have HY1 := Lib.hid hC1; have HB1 := Lib.hid hb; clear hc1 hC1 hb)
    | (go_at_call 60; (with_reducible refine (HCG.out _ _ _ HB1.out HY1.out).mono ?_); rintro e w2 ⟨A5, c5, rsA, he, hrA, hOA, hb⟩; rw [len_map hrA] at he; rw [len_map hrA] at hOA; subst he; have HOA := Lib.hid hOA; have HRA := Lib.hid hrA; have HB2 := Lib.hid (below_step HB1.out hb); have HY2 := Lib.hid (Kd.C_below HY1.out hb); clear hb hOA hrA)
    | (go_at_call 61; (with_reducible refine (HRG.out _ HB2.out).mono ?_); rintro e w3 ⟨A6, c6, rsB, he, hrB, hOB, hb⟩; rw [len_map hrB] at he hOB; subst he; have HB3 := Lib.hid (below_step HB2.out hb); have HY3 := Lib.hid (Kd.C_below HY2.out hb); have HOA3 := Lib.hid (HOA.out.below hb); have HOB := Lib.hid hOB; have HRB := Lib.hid hrB; clear hb hOB hrB)
    | (go_at_call 44; (with_reducible refine (sames44_any A5 A6 GL.length c5 c6 rsA rsB _ (HOA3.out.reads (fun r hr => by have := (HMM.out _ HRA.out r hr).1; omega)).1 (HOB.out.reads (fun r hr => by have := (HMM.out _ HRB.out r hr).1; omega)).1 (HRA.out.trans HRB.out.symm) (by omega) (fun r hr => by have := HMM.out _ HRA.out r hr; omega)).mono ?_); rintro e w4 ⟨rfl, hb⟩; have HB4 := Lib.hid (below_step HB3.out hb); have HY4 := Lib.hid (Kd.C_below HY3.out hb); clear hb)
    | (go_at_call 38; (with_reducible refine (HSM.out _ _ _ HY4.out (Kd.C_below HX0.out HB4.out)).mono ?_); rintro e w5 ⟨rfl, hb⟩; have HB5 := Lib.hid (below_step HB4.out hb); clear hb)
    | (go_at_call 42; (with_reducible refine (HKN.out _ HB5.out).mono ?_); rintro e w6 ⟨rfl, hb⟩; have HB6 := Lib.hid (below_step HB5.out hb); clear hb))
  go_ret
  exact ⟨rfl, HB6.out⟩
end Go.Proofs.YtojocffjajcdmaaDoor.RF
