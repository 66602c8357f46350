import Derived.Test.YtjfggmkfnofldaaG4
namespace Go.Proofs.Ytjfggmkfnofldaa
open Go.RowKit
set_option linter.unusedVariables false

theorem ordB_congr (nw : Bool) : ∀ (es os : List Ent), es.map (fun e => (e.s, e.t)) = os.map (fun e => (e.s, e.t)) → ordB nw es = ordB nw os
  | [], [], _ => rfl
  | [_], [_], _ => rfl
  | a :: b :: l, a' :: b' :: l', h => by
    simp only [List.map_cons, List.cons.injEq, Prod.mk.injEq] at h
    obtain ⟨⟨h1, h2⟩, ⟨h3, h4⟩, h5⟩ := h
    rw [ordB, ordB, ordB_congr nw (b :: l) (b' :: l') (by simp [h3, h4, h5])]
    simp only [entFirst, h1, h2, h3, h4]
  | [], _ :: _, h => by simp at h
  | _ :: _, [], h => by simp at h
  | [_], _ :: _ :: _, h => by simp at h
  | _ :: _ :: _, [_], h => by simp at h
theorem RowA.keys {w : World} {A : Option Addr} {es : List Ent} {xs : List AEnt} (h : RowA w A es xs) : es.map (fun e => (e.s, e.t)) = xs.map (fun e => (e.s, e.t)) := by
  apply List.ext_getElem
  · simp [h.len]
  · intro i h1 h2
    have := h.ents i (by simpa using h1) (by simpa using h2)
    simp [this.s, this.t]
theorem spoil_of {w : World} {base : Nat} {v : Value} {os : List Ent} {xs : List AEnt} (h : OwnRowA w base v os xs) : SpoilIs w base v os w :=
  ⟨h.own, fun o ho => by
    obtain ⟨i, hi, rfl⟩ := List.getElem_of_mem ho
    exact labby_of_own (h.ents i hi (by rw [← h.len]; exact hi)).labs rfl, Below.refl _ _⟩
theorem OwnRowA.ns {w : World} {base : Nat} {v : Value} {os : List Ent} {xs : List AEnt} (h : OwnRowA w base v os xs) : ∀ o ∈ os, o.n ≤ 9000000000000000 := fun o ho => by
  obtain ⟨i, hi, rfl⟩ := List.getElem_of_mem ho
  have := (h.ents i hi (by rw [← h.len]; exact hi)).sz
  omega

theorem sames_true (A B : Option Addr) (c d : Nat) (es fs : List Ent) (xs : List AEnt) (w : World) (hr : RowA w A es xs) (hq : RowA w B fs xs) (hs : es.length ≤ 9000000000000000000) (hs2 : fs.length ≤ 9000000000000000000) :
    Calls Try.prog 13 #[.slice A es.length c, .slice B fs.length d] w fun e w' => e = .returned (.bool true) ∧ Below w.heap.size w w' :=
  (sames_any A B c d es fs xs xs w hr hq hs hs2).mono fun e w' h => ⟨by rw [h.1]; simp, h.2⟩

set_option maxHeartbeats 1000000 in
theorem mergeRows_any (A : Option Addr) (c : Nat) (nw : Bool) (es : List Ent) (xs : List AEnt) (w : World) (hr : RowA w A es xs) (hs : es.length * 56 ≤ 140737488355328) :
    Calls Try.prog 9 #[.slice A es.length c, .bool nw] w fun e w' => e = .returned (.bool true) ∧ Below w.heap.size w w' := by
  have HA := Lib.hid (all29 A c es xs w hr hs)
  have HL := Lib.hid hr.len
  have HR := Lib.hid hr
  have HK := Lib.hid hr.keys
  clear hr
  go_enter Try.func9, Try.ntmps9
  go_wp2_with fail
  refine (HA.out).mono ?_
  rintro r w1 ⟨v1, os1, rfl, ho1, hb1⟩
  obtain ⟨A1, c1, rfl⟩ := own_sl ho1.own
  obtain ⟨_, hr1, _⟩ := ho1.rowA
  have hl1 : os1.length = es.length := by rw [ho1.len, HL.out]
  have hos1 : os1.length * 56 ≤ 140737488355328 := by omega
  have HT := Lib.hid (turn30 A1 c1 os1 xs w1 hr1 hos1)
  have HK1 : Hid (ordB nw os1 = ordB nw es) := Lib.hid (ordB_congr nw _ _ (hr1.keys.trans HK.out.symm))
  have HR1 := Lib.hid hr1
  have HL1 := Lib.hid hl1
  clear hr1 ho1 hl1
  go_wp2_with fail
  refine (HT.out).mono ?_
  rintro r w2 ⟨v2, os2, rfl, ho2, hb2⟩
  obtain ⟨A2, c2, rfl⟩ := own_sl ho2.own
  have HO2 := Lib.hid ho2
  have hl2 : os2.length = es.length := by rw [ho2.len, List.length_reverse, HL.out]
  have HL2 := Lib.hid hl2
  clear ho2 hl2
  go_wp2_with fail
  refine (ord_any A1 c1 nw os1 w2 (HR1.out.cells.below hb2) (by omega)).mono ?_
  rintro r w3 ⟨rfl, hb3⟩
  rw [HK1.out]
  go_wp2_with fail
  have hb13 := thenB hb1 (thenB hb2 hb3)
  refine (rord_any A c nw es w3 (HR.out.cells.below hb13) (by omega)).mono ?_
  rintro r w4 ⟨rfl, hb4⟩
  have hb14 := thenB hb13 hb4
  have heq : (ordB nw es == ordB nw es) = true := by simp
  go_wp2_with fail
  refine (rturn22 A c es w4 (HR.out.cells.below hb14) hs).mono ?_
  rintro r w5 ⟨v5, rfl, ho5, hb5⟩
  obtain ⟨A5, c5, rfl⟩ := own_sl ho5
  have hr5 : RowA w5 A5 es.reverse xs.reverse := ⟨own_rowCells ho5, by simp [HL.out], fun i h1 h2 => by
    have hl := HL.out
    rw [List.getElem_reverse, List.getElem_reverse]
    have e : es.length - 1 - i = xs.length - 1 - i := by omega
    simp only [e]
    simp at h1 h2
    exact (HR.out.ents (xs.length - 1 - i) (by omega) (by omega)).below (thenB hb14 hb5)⟩
  have hb25 := thenB hb3 (thenB hb4 hb5)
  have HO25 := Lib.hid (HO2.out.below hb25)
  have hsm := sames_true A2 A5 c2 c5 os2 es.reverse xs.reverse w5 HO25.out.rowA.2.1 hr5 (by have := HL2.out; omega) (by simp; omega)
  rw [List.length_reverse] at hsm
  have HS := Lib.hid hsm
  clear hsm hr5 ho5
  go_wp2_with fail
  refine (HS.out).mono ?_
  rintro r w6 ⟨rfl, hb6⟩
  clear HS
  have HO6 := Lib.hid (HO25.out.below hb6)
  have hsp := spoil15 w1.heap.size c2 A2 os2 w6 (spoil_of HO6.out) (by have := HL2.out; omega) HO6.out.ns
  have HSP := Lib.hid hsp
  clear hsp
  go_wp2_with fail
  refine (HSP.out).mono ?_
  rintro r w7 ⟨rfl, hb7⟩
  have hb17 : Below w1.heap.size w1 w7 := (thenB hb2 (thenB hb25 hb6)).trans hb7
  have hb07 := thenB hb1 hb17
  have hsm := sames_true A1 A c1 c os1 es xs w7 (HR1.out.below hb17) (HR.out.below hb07) (by omega) (by omega)
  have HS := Lib.hid hsm
  clear hsm
  go_wp2_with fail
  refine (HS.out).mono ?_
  rintro r w8 ⟨rfl, hb8⟩
  clear HS
  go_wp2_with (go_at_call 16; refine (knows_any _).mono ?_; rintro r w9 ⟨rfl, hb9⟩)
  go_ret
  exact ⟨rfl, thenB hb07 (thenB hb8 hb9)⟩
end Go.Proofs.Ytjfggmkfnofldaa
