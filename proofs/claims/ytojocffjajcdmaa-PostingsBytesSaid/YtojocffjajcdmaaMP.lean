import Derived.Shelf.SlIterI.Nil
import Derived.Shelf.SortM.Plain
import Derived.Shelf.SortM.SortNone
import Derived.Test.YtojocffjajcdmaaProg
import Derived.Test.YtojocffjajcdmaaPPostingsListsx8
import Derived.Lib.Hide
import Derived.Lib.SlMapFilter
import Derived.WalkKit
import Derived.Maps.Ext
import Derived.Maps.Own
import Derived.Maps.OwnOps
import Derived.Maps.Views
import Derived.Maps.RangeWalk
import Derived.Laws.IdiomRangeMap
import Derived.Deep.LoopGhost
import Derived.OneCell
import Derived.WalkSpells
import Derived.Deep.RegionHeldLaw
import Derived.Deep.RegionHeld3
import Derived.Laws.AppendOwn
namespace Go.Proofs.Ytojocffjajcdmaa
open Go.RowKit Go.Maps Go.Sort Go.Shelf
set_option linter.unusedVariables false
set_option linter.unusedSimpArgs false

/-! ### slices.Sorted(maps.Keys(m)), laid -/
def keysA_ren : Go.Shelf.Ren := ⟨fun | 7 => 41 | 10 => 51 | n => n, fun | 23 => 56 | 26 => 3 | 3 => 57 | 28 => 62 | 0 => 0 | 27 => 61 | 33 => 72 | 4 => 4 | n => n, fun | n => n⟩
theorem keysA : SlLaysZI.n7 Try.prog keysA_ren :=
  { mixed := by kernel_rfl,
    f7 := ⟨Try.f41.name, by decide, Try.func41.trans (congrArg some (by kernel_rfl))⟩,
    f10 := ⟨Try.f51.name, by decide, Try.func51.trans (congrArg some (by kernel_rfl))⟩,
    t0 := Try.underlying0,
    a0 := Try.isAgg0,
    z0 := Try.sizeOf0,
    v0 := Try.zeroValue0,
    t4 := Try.underlying4,
    a4 := Try.isAgg4,
    z4 := Try.sizeOf4,
    v4 := Try.zeroValue4,
    t23 := Try.underlying56,
    a23 := Try.isAgg56,
    z23 := Try.sizeOf56,
    v23 := Try.zeroValue56,
    t26 := Try.underlying3,
    a26 := Try.isAgg3,
    z26 := Try.sizeOf3,
    v26 := Try.zeroValue3,
    t27 := Try.underlying61,
    a27 := Try.isAgg61,
    z27 := Try.sizeOf61,
    v27 := Try.zeroValue61,
    t28 := Try.underlying62,
    a28 := Try.isAgg62,
    z28 := Try.sizeOf62,
    v28 := Try.zeroValue62,
    t33 := Try.underlying72,
    a33 := Try.isAgg72,
    z33 := Try.sizeOf72,
    v33 := Try.zeroValue72 }

def sortedA_ren : Go.Shelf.Ren := ⟨fun | 6 => 40 | 8 => 49 | 9 => 50 | 11 => 53 | 13 => 55 | 12 => 54 | 23 => 65 | 24 => 66 | 14 => 56 | 15 => 57 | 16 => 58 | 17 => 59 | 18 => 60 | 19 => 61 | 20 => 62 | 21 => 63 | 22 => 64 | 25 => 67 | 26 => 68 | 27 => 69 | 28 => 70 | 29 => 71 | 30 => 72 | 31 => 73 | n => n, fun | 26 => 3 | 28 => 62 | 24 => 22 | 0 => 0 | 3 => 3 | 37 => 73 | 48 => 89 | 50 => 91 | 4 => 4 | 40 => 81 | 39 => 80 | 45 => 86 | 5 => 5 | 9 => 9 | 51 => 92 | 55 => 96 | 57 => 98 | 58 => 99 | 33 => 72 | n => n, fun | n => n⟩
theorem sortedA : SlLaysZI.n6 Try.prog sortedA_ren :=   { mixed := by kernel_rfl,     f6 := ⟨Try.f40.name, by decide, Try.func40.trans (congrArg some (by kernel_rfl))⟩,     f8 := ⟨Try.f49.name, by decide, Try.func49.trans (congrArg some (by kernel_rfl))⟩,     f11 := ⟨Try.f53.name, by decide, Try.func53.trans (congrArg some (by kernel_rfl))⟩,     t0 := Try.underlying0,     a0 := Try.isAgg0,     z0 := Try.sizeOf0,     v0 := Try.zeroValue0,     t24 := Try.underlying22,     a24 := Try.isAgg22,     z24 := Try.sizeOf22,     v24 := Try.zeroValue22,     t26 := Try.underlying3,     a26 := Try.isAgg3,     z26 := Try.sizeOf3,     v26 := Try.zeroValue3,     t28 := Try.underlying62,     a28 := Try.isAgg62,     z28 := Try.sizeOf62,     v28 := Try.zeroValue62,     i26 := by kernel_rfl }  
def sortA_ren : Go.Shelf.Ren := ⟨fun | 5 => 50 | 8 => 55 | 7 => 54 | 19 => 65 | 20 => 66 | 10 => 56 | 11 => 57 | 12 => 58 | 13 => 59 | 14 => 60 | 15 => 61 | 16 => 62 | 17 => 63 | 18 => 64 | 30 => 67 | 31 => 68 | 32 => 69 | 33 => 70 | 34 => 71 | 35 => 72 | 40 => 73 | n => n, fun | 23 => 22 | 25 => 3 | 3 => 3 | 32 => 73 | 22 => 22 | 0 => 0 | 44 => 89 | 46 => 91 | 4 => 4 | 36 => 81 | 35 => 80 | 41 => 86 | 5 => 5 | 9 => 9 | 53 => 92 | 57 => 96 | 63 => 98 | 64 => 99 | n => n, fun | n => n⟩
theorem sortA : SlLaysM.n5 Try.prog sortA_ren :=
  { mixed := by kernel_rfl,
    f5 := ⟨Try.f50.name, by decide, Try.func50.trans (congrArg some (by kernel_rfl))⟩,
    f7 := ⟨Try.f54.name, by decide, Try.func54.trans (congrArg some (by kernel_rfl))⟩,
    f8 := Try.func55.trans (congrArg some (by kernel_rfl)),
    f10 := ⟨Try.f56.name, by decide, Try.func56.trans (congrArg some (by kernel_rfl))⟩,
    f11 := ⟨Try.f57.name, by decide, Try.func57.trans (congrArg some (by kernel_rfl))⟩,
    f12 := ⟨Try.f58.name, by decide, Try.func58.trans (congrArg some (by kernel_rfl))⟩,
    f13 := ⟨Try.f59.name, by decide, Try.func59.trans (congrArg some (by kernel_rfl))⟩,
    f14 := ⟨Try.f60.name, by decide, Try.func60.trans (congrArg some (by kernel_rfl))⟩,
    f15 := ⟨Try.f61.name, by decide, Try.func61.trans (congrArg some (by kernel_rfl))⟩,
    f16 := ⟨Try.f62.name, by decide, Try.func62.trans (congrArg some (by kernel_rfl))⟩,
    f17 := ⟨Try.f63.name, by decide, Try.func63.trans (congrArg some (by kernel_rfl))⟩,
    f18 := ⟨Try.f64.name, by decide, Try.func64.trans (congrArg some (by kernel_rfl))⟩,
    f19 := Try.func65.trans (congrArg some (by kernel_rfl)),
    f20 := Try.func66.trans (congrArg some (by kernel_rfl)),
    f30 := ⟨Try.f67.name, by decide, Try.func67.trans (congrArg some (by kernel_rfl))⟩,
    f31 := Try.func68.trans (congrArg some (by kernel_rfl)),
    f32 := Try.func69.trans (congrArg some (by kernel_rfl)),
    f33 := ⟨Try.f70.name, by decide, Try.func70.trans (congrArg some (by kernel_rfl))⟩,
    f34 := ⟨Try.f71.name, by decide, Try.func71.trans (congrArg some (by kernel_rfl))⟩,
    f35 := ⟨Try.f72.name, by decide, Try.func72.trans (congrArg some (by kernel_rfl))⟩,
    f40 := ⟨Try.f73.name, by decide, Try.func73.trans (congrArg some (by kernel_rfl))⟩,
    t0 := Try.underlying0,
    a0 := Try.isAgg0,
    z0 := Try.sizeOf0,
    v0 := Try.zeroValue0,
    t3 := Try.underlying3,
    a3 := Try.isAgg3,
    z3 := Try.sizeOf3,
    v3 := Try.zeroValue3,
    t4 := Try.underlying4,
    a4 := Try.isAgg4,
    z4 := Try.sizeOf4,
    v4 := Try.zeroValue4,
    t5 := Try.underlying5,
    a5 := Try.isAgg5,
    z5 := Try.sizeOf5,
    v5 := Try.zeroValue5,
    t9 := Try.underlying9,
    a9 := Try.isAgg9,
    z9 := Try.sizeOf9,
    v9 := Try.zeroValue9,
    t22 := Try.underlying22,
    a22 := Try.isAgg22,
    z22 := Try.sizeOf22,
    v22 := Try.zeroValue22,
    t23 := Try.underlying22,
    a23 := Try.isAgg22,
    z23 := Try.sizeOf22,
    v23 := Try.zeroValue22,
    t25 := Try.underlying3,
    a25 := Try.isAgg3,
    z25 := Try.sizeOf3,
    v25 := Try.zeroValue3,
    t32 := Try.underlying73,
    a32 := Try.isAgg73,
    z32 := Try.sizeOf73,
    v32 := Try.zeroValue73,
    t35 := Try.underlying80,
    a35 := Try.isAgg80,
    z35 := Try.sizeOf80,
    v35 := Try.zeroValue80,
    t36 := Try.underlying81,
    a36 := Try.isAgg81,
    z36 := Try.sizeOf81,
    v36 := Try.zeroValue81,
    t41 := Try.underlying86,
    a41 := Try.isAgg86,
    z41 := Try.sizeOf86,
    v41 := Try.zeroValue86,
    t44 := Try.underlying89,
    a44 := Try.isAgg89,
    z44 := Try.sizeOf89,
    v44 := Try.zeroValue89,
    t46 := Try.underlying91,
    a46 := Try.isAgg91,
    z46 := Try.sizeOf91,
    v46 := Try.zeroValue91,
    t53 := Try.underlying92,
    a53 := Try.isAgg92,
    z53 := Try.sizeOf92,
    v53 := Try.zeroValue92,
    t57 := Try.underlying96,
    a57 := Try.isAgg96,
    z57 := Try.sizeOf96,
    v57 := Try.zeroValue96,
    t63 := Try.underlying98,
    a63 := Try.isAgg98,
    z63 := Try.sizeOf98,
    v63 := Try.zeroValue98,
    t64 := Try.underlying99,
    a64 := Try.isAgg99,
    z64 := Try.sizeOf99,
    v64 := Try.zeroValue99 }

theorem sortsA (m : Nat) : AnyZI.SortsIn Try.prog sortedA_ren Fence.wide m :=
  ⟨fun blk off cap ss W hH hblk hsz => callsIn_wide.2 (AnyM.slices_Sort_int sortA blk off cap ss W hH hblk hsz),
   fun p cap W => callsIn_wide.2 (AnyM.slices_Sort_int_none sortA p cap W)⟩
theorem keys_any (mb : Option Nat) (W : World) : Calls Try.prog 41 #[.map mb] W fun e w' => e = .returned (.func (.func 51) #[] #[.pointer (some ⟨W.heap.size, 0, none⟩)]) ∧ w' = W.alloc (.cells #[.map mb] 56) :=
  (callsIn_wide (n := 5)).1 (AnyZI.keys_in keysA Fence.wide 5 trivial rfl mb W)
theorem sorted_any {H : Type} (b nn : Nat) (D0 : DataW H) (R : Value → Option (DataW H × List MemPlace)) (w : World) (hown : w.ownsMap Try.prog 3 R b nn D0) (hmax : Maps.size D0 ≤ maxLen) (hbytes : Maps.size D0 * 8 ≤ 140737488351232) :
    Calls Try.prog 40 #[.func (.func 51) #[] #[.pointer (some ⟨w.heap.size, 0, none⟩)]] (w.alloc (.cells #[.map (some b)] 56)) fun e w' => ∃ (v : Value) (ss : List Int), e = .returned v ∧ ss.Perm (intKeys D0) ∧
      w'.ownsRow (w.heap.size + 1) 3 1 v ss.length ((ss.mergeSort (fun x y => decide (x ≤ y))).map encZ) ∧ Below (w.heap.size + 1) (w.alloc (.cells #[.map (some b)] 56)) w' := by
  refine (callsIn_wide (n := 5)).1 ?_
  have hbl := hown.lt
  have hseq : SeqGives Fence.wide 2 Try.prog 51 #[.pointer (some ⟨w.heap.size, 0, none⟩)] encZ (fun ss => ss.Perm (intKeys D0)) (Maps.size D0) (w.alloc (.cells #[.map (some b)] 56)) :=
    AnyZI.keys_gives (ρ := keysA_ren) { keysA with } Fence.wide _ trivial rfl (by omega) w.heap.size b nn D0 _ (by simp) (by simp) (by
      obtain ⟨es, clock, hb, Ft, hs, hD⟩ := hown
      exact ⟨es, clock, (Below.heap_alloc _ _ b hbl).trans hb, Ft, hs, hD⟩)
  have cS := AnyZI.sorted_in sortedA Fence.wide 5 trivial trivial trivial trivial rfl (by omega) (sortsA _) (enters_of Try.func50 (by kernel_rfl) rfl) 51 #[.pointer (some ⟨w.heap.size, 0, none⟩)] trivial (enters_of Try.func51 (by kernel_rfl) rfl) _ _ hmax (by omega) _ hseq
  refine cS.mono ?_
  rintro e w' ⟨v, ss, rfl, hS, hrow, hnil, hb⟩
  have hsz : (w.alloc (.cells #[.map (some b)] 56)).heap.size = w.heap.size + 1 := by simp
  rw [hsz] at hrow hb
  exact ⟨v, ss, rfl, hS, hrow, hb⟩
end Go.Proofs.Ytojocffjajcdmaa
namespace Go.Proofs.Ytojocffjajcdmaa
open Go.RowKit Go.Maps
set_option linter.unusedVariables false
set_option linter.unusedSimpArgs false

/-! ### A map from ints to pairs of bools -/
abbrev pr (x y : Bool) : DataW Unit := .agg [.lit (.bool x), .lit (.bool y)]
structure BB where
  x : Bool
  y : Bool
abbrev va (p : BB) : Value := .agg #[.bool p.x, .bool p.y]
def R2 : Value → Option (DataW Unit × List MemPlace)
  | .agg a => match a.toList with
    | [.bool x, .bool y] => some (pr x y, [])
    | _ => none
  | _ => none
theorem R2_mk (x y : Bool) : R2 (.agg #[.bool x, .bool y]) = some (pr x y, []) := rfl
theorem R2_inv {v : Value} {y : DataW Unit × List MemPlace} (h : R2 v = some y) : ∃ p : BB, v = va p ∧ y = (pr p.x p.y, []) := by
  unfold R2 at h
  split at h
  · rename_i a
    split at h
    · rename_i x y' ha
      injection h with h
      refine ⟨⟨x, y'⟩, ?_, h.symm⟩
      obtain ⟨l⟩ := a
      simp only at ha
      rw [ha]
    · cases h
  · cases h
theorem keyed3 : Keyed Try.prog 3 := int_keyed Try.underlying3
theorem zero57 (w : World) : (zeroValue 57).run Try.prog w = .ok (.agg #[.bool false, .bool false]) w := by kernel_rfl
theorem key_inv {key : Value} {kl : Lit} (h : keyOf Try.prog 3 key = some kl) : ∃ x : Int, key = .int .i64 x ∧ kl = .int .i64 x ∧ (Lit.int .i64 x).wf = true := by
  obtain ⟨x, h1, h2, h3⟩ := Maps.keyOf_i64 Try.underlying3 h
  exact ⟨x, h1, h2, h3⟩

theorem alloc_grown {w W : World} {r : Option Nat} (h : w.grownBy W r) (o : Obj) : w.grownBy (W.alloc o) r :=
  ⟨h.os, h.tape, h.output, Nat.le_trans h.size (by simp), fun k hk hr => (Below.heap_alloc W o k (Nat.lt_of_lt_of_le hk h.size)).trans (h.block k hk hr)⟩
/-- What a predicate says of a pair. -/
def pdD (f : Bool → Bool → Bool) (_ : Lit) : DataW Unit → Bool
  | .agg [.lit (.bool x), .lit (.bool y)] => !f x y
  | _ => false

set_option maxHeartbeats 1000000 in
/-- The closure that DeleteFunc is given: what is asked of its fits. -/
theorem del_any (g bx : Nat) (f : Bool → Bool → Bool) (i : Int) (x y : Bool) (W : World) (eg : ∀ args w, (callFunc g args).run Try.prog w = .ok (.enter g args) w)
    (hf : ∀ x y W, Calls Try.prog g #[.bool x, .bool y] W fun e w' => e = .returned (.bool (f x y)) ∧ W = w') (hx : W.cell? ⟨bx, 0, none⟩ = some (.func (.func g) #[] #[])) :
    Calls Try.prog 39 #[.int .i64 i, .agg #[.bool x, .bool y], .pointer (some ⟨bx, 0, none⟩)] W fun e w' => e = .returned (.bool (!f x y)) ∧ W.grownBy w' none := by
  have hb : bx < W.heap.size := World.block_lt_of_cell? W _ hx
  have hne : ¬ bx = W.heap.size := by omega
  have HF := Lib.hid (fun W => hf x y W)
  clear hf
  go_enter Try.func39, Try.ntmps39
  go_wp2_with (first | (go_at_fn g; refine (HF.out _).mono ?_; rintro e w2 ⟨rfl, rfl⟩))
  go_ret
  exact ⟨rfl, ⟨rfl, rfl, rfl, by simp, fun k hk _ => Below.heap_alloc _ _ k hk⟩⟩

set_option maxHeartbeats 4000000 in
set_option maxRecDepth 100000 in
theorem delete_any (g bx : Nat) (f : Bool → Bool → Bool) (b n : Nat) (D : DataW Unit) (w : World) (eg : ∀ args w, (callFunc g args).run Try.prog w = .ok (.enter g args) w)
    (hf : ∀ x y W, Calls Try.prog g #[.bool x, .bool y] W fun e w' => e = .returned (.bool (f x y)) ∧ W = w') (hown : w.ownsMap Try.prog 3 R2 b n D) (hx : w.cell? ⟨bx, 0, none⟩ = some (.func (.func g) #[] #[])) (hbx : bx ≠ b) :
    Calls Try.prog 38 #[.map (some b), .func (.func 39) #[] #[.pointer (some ⟨bx, 0, none⟩)]] w fun e w' => e = .returned (.tuple #[]) ∧ w'.ownsMap Try.prog 3 R2 b n (Lib.deleteFuncD (pdD f) D) ∧ w.grownBy w' (some b) := by
  obtain ⟨es0, rfl, hap, hkeys⟩ := hown.entries keyed3
  have hbl := World.block_lt_of_cell? w _ hx
  have e39 : ∀ args w, (callFunc 39 args).run Try.prog w = .ok (.enter 39 args) w := enters_of Try.func39 (by kernel_rfl) rfl
  have HD := Lib.hid (fun (W : World) (i : Int) (x y : Bool) (hg : w.grownBy W (some b)) => del_any g bx f i x y W eg hf (hg.cell hx (by intro e; injection e with e; exact hbx e)))
  clear hf eg hx
  go_enter Try.func38, Try.ntmps38
  go_wp2_with (first
    | (at_range; refine wpList_range_own _ rfl _ 56 rfl 3 57 keyed3 Try.underlying56 R2 b n _ rfl hown ?_; intro w0 hrg0 hg0 hs0))
  go_loopw [8] (fun _ wr => ∃ (left : Lit → Bool) (cnt : Nat), wr.ranges Try.prog 3 R2 b w.heap.size n (Fk (pdD f) es0 left) left cnt ∧ w.grownBy wr (some b))
    (fun _ wr => wr.rangeLeft b w.heap.size)
  case atStart => exact ⟨_, _, by rw [Fk_start hkeys]; exact hrg0, hg0.but _⟩
  case round =>
    obtain ⟨left, cnt, hrg, hgw⟩ := hrel
    go_wp2_with (first
      | (at_next; refine wpList_next_ranges _ rfl _ rfl 3 keyed3 R2 (Value.int .i64) va (fun key kl h => by obtain ⟨x, h1, _⟩ := key_inv h; exact ⟨x, h1⟩) (fun v y h => by obtain ⟨p, h1, _⟩ := R2_inv h; exact ⟨p, h1⟩) b w.heap.size n _ _ _ rfl hrg ?_ ?_))
    · intro _ hl0
      go_wp2
      go_end0
      exact ⟨rfl, by rw [← Fk_end hl0]; exact hrg.owns, hgw⟩
    · intro i c kl yd yp w1 cnt1 hkey hlx hv hat hrg1 hlt hg1 hs1 hen
      have hgw1 := hgw.andThen hg1 (fun j hj => by cases hj; exact Or.inl (Nat.le_refl _))
      have hkl := keyed3.key hkey
      have hyd : yd = pr c.x c.y := by
        obtain ⟨p, hp, hq⟩ := R2_inv hv
        simp only [Prod.mk.injEq] at hq
        simp at hp
        rw [hq.1, hp.1, hp.2]
      subst hyd
      obtain ⟨cx, cy⟩ := c
      have hpd : pdD f kl (pr cx cy) = !f cx cy := rfl
      have HE := Lib.hid hrg1
      have HA := Lib.hid (alloc_grown hgw1 (.cells #[.bool cx, .bool cy] 57))
      have HR1 : Hid ((w1.alloc (.cells #[.bool cx, .bool cy] 57)).ranges Try.prog 3 R2 b w.heap.size n (Fk (pdD f) es0 left) (fun z => left z && !z.sameKey kl) cnt1) := Lib.hid (hrg1.kept (alloc_grown (World.grownBy.refl w1 none) _) (by simp) (by simp))
      have HC := Lib.hid (HD.out _ i cx cy HA.out)
      have hbw := hrg1.owns.lt
      cases hp : f cx cy with
      | true =>
        have HPF : Hid (pdD f kl (pr cx cy) = false) := Lib.hid (by rw [hpd, hp]; rfl)
        rw [hp] at HC
        clear hp hpd
        go_wp2_with (first
          | (go_at_fn 39; refine (HC.out).mono ?_; rintro e w2 ⟨rfl, hg2⟩))
        have hrg2 := HR1.out.kept hg2 (by simp) (by simp)
        go_roundw
        case rel => exact ⟨_, cnt1, by rw [← Fk_stays hap hkl hlx HPF.out hat]; exact hrg2, HA.out.andThen hg2 (fun j hj => by cases hj)⟩
        case measure => rw [hrg2.left_eq, hrg.left_eq]; exact hlt
      | false =>
        have HPF : Hid (pdD f kl (pr cx cy) = true) := Lib.hid (by rw [hpd, hp]; rfl)
        rw [hp] at HC
        clear hp hpd
        go_wp2_with (first
          | (go_at_fn 39; refine (HC.out).mono ?_; rintro e w2 ⟨rfl, hg2⟩; have hrg2 := HR1.out.kept hg2 (by simp) (by simp))
          | (at_delete; refine wpList_delete_ranges _ rfl _ _ 56 3 rfl 57 keyed3 Try.underlying56 R2 b w.heap.size n _ _ _ rfl hrg2 _ _ rfl hkey ?_; intro w3 cnt3 hrg3 hle hturn; go_frame))
        rw [strike_twice] at hrg3
        go_roundw
        case rel => exact ⟨_, cnt3, by rw [← Fk_struck hap hkl hlx HPF.out hat]; exact hrg3, (HA.out.andThen hg2 (fun j hj => by cases hj)).andThen hturn.grown (fun j hj => by cases hj; exact Or.inr rfl)⟩
        case measure => rw [hrg3.left_eq, hrg.left_eq]; omega
end Go.Proofs.Ytojocffjajcdmaa
namespace Go.Proofs.Ytojocffjajcdmaa
open Go.RowKit Go.Maps Go.Proofs.YtojocffjajcdmaaW.PrintWords Go.Proofs.YtojocffjajcdmaaW.PrintLast Go.Proofs.YtojocffjajcdmaaW.PrintMore PPostingsLists
set_option linter.unusedVariables false
set_option linter.unusedSimpArgs false

abbrev KI := Kd.int .i64
def WfL (l : List Int) : Prop := ∀ x ∈ l, -9223372036854775808 ≤ x ∧ x ≤ 9223372036854775807
theorem wf_i64 {x : Int} (h : -9223372036854775808 ≤ x ∧ x ≤ 9223372036854775807) : (Lit.int .i64 x).wf = true := by
  have h1 : IntKind.i64.min = -9223372036854775808 := rfl
  have h2 : IntKind.i64.max = 9223372036854775807 := rfl
  simp [Lit.wf, h1, h2, h]
/-- Block b is a map of at most k entries; A, B: what the pairs say; there is a pair where one of the two says so. -/
def M2 (w : World) (b k : Nat) (A B : Int → Bool) : Prop :=
  ∃ (D : DataW Unit) (n : Nat), n ≤ k ∧ w.ownsMap Try.prog 3 R2 b n D ∧ (∀ i, D.atKey (.int .i64 i) (pr false false) = pr (A i) (B i)) ∧ ∀ i, Maps.has D (.int .i64 i) = (A i || B i)
theorem M2.made (w : World) : M2 (w.alloc (.map #[] 0)) w.heap.size 0 (fun _ => false) (fun _ => false) :=
  ⟨.map [], 0, Nat.le_refl _, World.ownsMap_made w _ _ _, fun i => rfl, fun i => rfl⟩
theorem M2.below {w w' : World} {b k : Nat} {A B : Int → Bool} (h : M2 w b k A B) (hb : Below w.heap.size w w') : M2 w' b k A B := by
  obtain ⟨D, n, h1, h2, h3⟩ := h
  exact ⟨D, n, h1, h2.kept (row := none) ⟨hb.os, hb.tape, hb.output, hb.size, fun k hk _ => hb.block k hk⟩ (by simp), h3⟩
theorem M2.lookup {w : World} {b k : Nat} {A B : Int → Bool} (h : M2 w b k A B) (i : Int) (hi : (Lit.int .i64 i).wf = true) :
    (Instr.lookup 56 (.map (some b)) (.int .i64 i) false).run Try.prog w = .ok (.agg #[.bool (A i), .bool (B i)]) w := by
  obtain ⟨D, n, h1, ho, hD, _⟩ := h
  obtain ⟨v, ps, hrun, hv⟩ := ho.lookup keyed3 Try.underlying56 (zero57 w) (R2_mk false false) (Go.Maps.keyOf_int_mk Try.underlying3 hi)
  rw [hD i] at hv
  rw [hrun]
  obtain ⟨p, rfl, hp⟩ := R2_inv hv
  simp only [Prod.mk.injEq, pr, DataW.agg.injEq, List.cons.injEq, DataW.lit.injEq, Lit.bool.injEq, and_true] at hp
  rw [hp.1.1, hp.1.2]
/-- What a store leaves. -/
theorem M2.put {w' : World} {b k n : Nat} {A B : Int → Bool} {D : DataW Unit} (hM : Maps.IsMap D) (hn : n ≤ k) (hD : ∀ i, D.atKey (.int .i64 i) (pr false false) = pr (A i) (B i)) (hH : ∀ i, Maps.has D (.int .i64 i) = (A i || B i))
    (i : Int) (x y : Bool) (hxy : (x || y) = true) (ho : w'.ownsMap Try.prog 3 R2 b (n + 1) (D.put (.int .i64 i) (pr x y))) : M2 w' b (k + 1) (fun j => if j = i then x else A j) (fun j => if j = i then y else B j) := by
  refine ⟨_, n + 1, by omega, ho, fun j => ?_, fun j => ?_⟩
  · by_cases e : j = i
    · subst e
      rw [Maps.atKey_put_same hM (by trivial)]
      simp
    · rw [Maps.atKey_put_other (by simpa using e), hD j]
      simp [e]
  · by_cases e : j = i
    · subst e
      rw [Maps.has_put_same hM (by trivial)]
      simp [hxy]
    · rw [Maps.has_put_other (by simpa using e), hH j]
      simp [e]
theorem idx0 (x y : Bool) (w : World) : (Instr.index 57 (.agg #[.bool x, .bool y]) (.int .i64 0)).run Try.prog w = .ok (.bool x) w := by kernel_rfl
theorem idx1 (x y : Bool) (w : World) : (Instr.index 57 (.agg #[.bool x, .bool y]) (.int .i64 1)).run Try.prog w = .ok (.bool y) w := by kernel_rfl
theorem spot_none {w : World} {a : Addr} {v : Value} (h : w.cell? a = some v) : a = ⟨a.block, a.off, none⟩ := by
  obtain ⟨b, o, e⟩ := a
  cases e with
  | none => rfl
  | some x =>
    exfalso
    unfold World.cell? at h
    split at h <;> simp at h
theorem addr_add (b o j : Nat) : (⟨b, o, none⟩ : Addr).add j = ⟨b, o + j, none⟩ := by unfold Addr.add; split <;> simp_all
theorem int_at {w : World} {A : Option Addr} {l : List Int} (h : Kd.C KI w A l.length l) (hp : 0 < l.length) : ∃ b o, A = some ⟨b, o, none⟩ ∧ ∀ i, i < l.length → w.cell? ⟨b, o + i, none⟩ = some (.int .i64 (l.getD i 0)) := by
  have key : ∀ i, i < l.length → ∃ ad, A = some ad ∧ w.cell? (ad.add i) = some (.int .i64 (l.getD i 0)) := by
    intro i hi
    obtain ⟨ad, c, e, hl, hK, hc⟩ := Kd.C_get h 0 (i : Int) (by omega) (by omega)
    have hk : c = [.int .i64 (l.getD (i : Int).toNat 0)] := hK
    subst hk
    have h0 := hc 0 _ rfl
    rw [Int.toNat_natCast] at h0
    have e2 : i * KI.sz + 0 = i := by show i * 1 + 0 = i; omega
    rw [e2] at h0
    exact ⟨ad, e, h0⟩
  obtain ⟨ad, e, h0⟩ := key 0 hp
  have hsp := spot_none (a := ad) (by have h1 : ad.add 0 = ad := rfl; rw [h1] at h0; exact h0)
  refine ⟨ad.block, ad.off, by rw [← hsp]; exact e, fun i hi => ?_⟩
  obtain ⟨ad', e', h'⟩ := key i hi
  rw [e] at e'
  injection e' with e'
  subst e'
  rw [hsp] at h'
  rw [addr_add] at h'
  exact h'

/-- The sorted numbers that fit. -/
def inL (l : List Int) (i : Int) : Bool := l.contains i
def isPick (f : Bool → Bool → Bool) (a b r : List Int) : Prop := r.Pairwise (· < ·) ∧ ∀ i, i ∈ r ↔ ((inL a i || inL b i) = true ∧ f (inL a i) (inL b i) = true)
theorem pick_unique {f : Bool → Bool → Bool} {a b r r' : List Int} (h : isPick f a b r) (h' : isPick f a b r') : r = r' := by
  refine List.Perm.eq_of_pairwise (le := fun x y : Int => x < y) (fun x y _ _ h1 h2 => absurd h1 (by omega)) h.1 h'.1 ?_
  refine (List.perm_ext_iff_of_nodup (h.1.imp (fun {x y} hxy e => by omega)) (h'.1.imp (fun {x y} hxy e => by omega))).2 fun i => ?_
  rw [h.2, h'.2]
theorem take_contains (l : List Int) (k : Nat) (h : k < l.length) : (fun j => if j = l.getD k 0 then true else inL (l.take k) j) = inL (l.take (k + 1)) := by
  funext j
  unfold inL
  rw [List.take_succ_eq_append_getElem h]
  have e : l.getD k 0 = l[k] := by simp [h]
  rw [e, List.contains_append]
  by_cases hj : j = l[k]
  · simp [hj]
  · simp [hj]
def PkRel1 (a : List Int) (w : World) (bx m : Nat) (fv : Value) (v15 : Value) (wr : World) : Prop :=
  ∃ k : Nat, v15 = .int .i64 (k : Int) ∧ k ≤ a.length ∧ M2 wr m k (inL (a.take k)) (fun _ => false) ∧ wr.cell? ⟨bx, 0, none⟩ = some fv ∧ Below w.heap.size w wr
def PkRel2 (a b : List Int) (w : World) (bx m : Nat) (fv : Value) (v29 : Value) (wr : World) : Prop :=
  ∃ k : Nat, v29 = .int .i64 (k : Int) ∧ k ≤ b.length ∧ M2 wr m (a.length + k) (inL a) (inL (b.take k)) ∧ wr.cell? ⟨bx, 0, none⟩ = some fv ∧ Below w.heap.size w wr
theorem below_but {w W W' : World} {base m : Nat} (hb : Below base w W) (hm : base ≤ m) (hs : base ≤ W.heap.size) (hg : W.grownBy W' (some m)) : Below base w W' :=
  pw_below_grown hb (some m) hs hg (fun k hk => by injection hk with hk; omega)
def IntsBelow (r : List Int) (w : World) (e : Ending) (w' : World) : Prop := ∃ v, e = .returned v ∧ Kd.R KI 3 w' w.heap.size (fun _ => True) v r ∧ Below w.heap.size w w'
def PickRes (f : Bool → Bool → Bool) (a b : List Int) (w : World) (e : Ending) (w' : World) : Prop := ∃ r, isPick f a b r ∧ WfL r ∧ IntsBelow r w e w'

theorem keys_left (f : Bool → Bool → Bool) {w : World} {m n : Nat} {D : DataW Unit} {A B : Int → Bool} (ho : w.ownsMap Try.prog 3 R2 m n D) (hD : ∀ i, D.atKey (.int .i64 i) (pr false false) = pr (A i) (B i)) (hH : ∀ i, Maps.has D (.int .i64 i) = (A i || B i)) :
    (intKeys (Lib.deleteFuncD (pdD f) D)).Nodup ∧ ∀ i, i ∈ intKeys (Lib.deleteFuncD (pdD f) D) ↔ ((A i || B i) = true ∧ f (A i) (B i) = true) := by
  obtain ⟨es, rfl, hap, hkeys⟩ := ho.entries keyed3
  obtain ⟨es', hE, hko⟩ := ho.keysOf
  obtain rfl : es = es' := by simpa using hE
  have hk : ∀ p ∈ es, ∃ x, p.1 = .int .i64 x := fun p hp => by
    obtain ⟨v, hv⟩ := hko p hp
    obtain ⟨x, _, hx, _⟩ := key_inv hv
    exact ⟨x, hx⟩
  have hat : ∀ p ∈ es, ∀ x, p.1 = .int .i64 x → p.2 = pr (A x) (B x) := fun p hp x hx => by
    have h1 := WideAt.atKey_mem (pr false false) (hkeys p hp) hap (k := p.1) (d := p.2) (by simpa using hp)
    rw [hx, hD x] at h1
    exact h1.symm
  refine ⟨?_, fun i => ?_⟩
  · show ((es.filter fun p => !pdD f p.1 p.2).map fun p => Go.intOf p.1).Nodup
    refine List.pairwise_map.2 ((hap.filter _).imp_of_mem fun {p q} hp hq hne e => hne ?_)
    obtain ⟨x, hx⟩ := hk p (List.mem_filter.1 hp).1
    obtain ⟨y, hy⟩ := hk q (List.mem_filter.1 hq).1
    rw [hx, hy] at e ⊢
    exact congrArg _ e
  · show i ∈ (es.filter fun p => !pdD f p.1 p.2).map (fun p => Go.intOf p.1) ↔ _
    rw [List.mem_map]
    constructor
    · rintro ⟨p, hp, rfl⟩
      obtain ⟨h1, h2⟩ := List.mem_filter.1 hp
      obtain ⟨x, hx⟩ := hk p h1
      have h3 := hat p h1 x hx
      rw [hx]
      show (A x || B x) = true ∧ f (A x) (B x) = true
      refine ⟨?_, ?_⟩
      · rw [← hH x, has_eq, List.any_eq_true]
        exact ⟨p, h1, by rw [hx]; simp [Lit.sameKey]⟩
      · rw [h3, hx] at h2
        simpa [pdD] using h2
    · rintro ⟨h1, h2⟩
      rw [← hH i, has_eq, List.any_eq_true] at h1
      obtain ⟨p, hp, hs⟩ := h1
      obtain ⟨x, hx⟩ := hk p hp
      have hxi : x = i := by rw [hx] at hs; simpa [Lit.sameKey] using hs
      subst hxi
      refine ⟨p, List.mem_filter.2 ⟨hp, ?_⟩, by rw [hx]; rfl⟩
      rw [hat p hp x hx]
      simpa [pdD] using h2
theorem sorted_strict {ss l : List Int} (hp : ss.Perm l) (hn : l.Nodup) : (ss.mergeSort (fun x y => decide (x ≤ y))).Pairwise (· < ·) ∧ ∀ i, i ∈ ss.mergeSort (fun x y => decide (x ≤ y)) ↔ i ∈ l := by
  have hperm := (List.mergeSort_perm ss (fun x y => decide (x ≤ y))).trans hp
  have hs := List.pairwise_mergeSort (le := fun x y : Int => decide (x ≤ y)) (fun a b c h1 h2 => by simp only [decide_eq_true_eq] at *; omega) (fun a b => by simp only [Bool.or_eq_true, decide_eq_true_eq]; omega) ss
  have hnd := hperm.nodup_iff.2 hn
  refine ⟨?_, fun i => hperm.mem_iff⟩
  have h2 := List.pairwise_and_iff.2 ⟨hs, hnd⟩
  exact h2.imp (fun {x y} h => by have h1 := h.1; simp only [decide_eq_true_eq] at h1; have := h.2; omega)
theorem isMap_of_owns {w : World} {b n : Nat} {D : DataW Unit} (h : w.ownsMap Try.prog 3 R2 b n D) : Maps.IsMap D := by
  obtain ⟨es, clock, _, _, _, rfl⟩ := h
  exact ⟨_, rfl⟩
theorem owns_size {w : World} {b n : Nat} {D : DataW Unit} (h : w.ownsMap Try.prog 3 R2 b n D) : Maps.size D ≤ n := by
  obtain ⟨es, clock, _, F, hs, rfl⟩ := h
  rw [size_eq]
  have h1 : ∀ l : List (Lit × DataW Unit), (l.foldr DataW.insert []).length = l.length := by
    intro l
    induction l with
    | nil => rfl
    | cons a l ih =>
      have h2 : ∀ (x : Lit × DataW Unit) (m : List (Lit × DataW Unit)), (DataW.insert x m).length = m.length + 1 := by
        intro x m
        induction m with
        | nil => rfl
        | cons b m ihm => unfold DataW.insert; split <;> simp_all
      rw [List.foldr_cons, h2, ih]; rfl
  rw [h1]
  simpa using hs

set_option maxHeartbeats 8000000 in
set_option maxRecDepth 100000 in
theorem picked_any (g : Nat) (f : Bool → Bool → Bool) (A B : Option Addr) (ca cb : Nat) (a b : List Int) (w : World) (eg : ∀ args w, (callFunc g args).run Try.prog w = .ok (.enter g args) w)
    (hf : ∀ x y W, Calls Try.prog g #[.bool x, .bool y] W fun e w' => e = .returned (.bool (f x y)) ∧ W = w') (ha : Kd.C KI w A a.length a) (hb : Kd.C KI w B b.length b) (hla : a.length ≤ 17592186044416) (hlb : b.length ≤ 17592186044416) (wa : WfL a) (wb : WfL b) (hsum : (a.length + b.length) * 8 ≤ 140737488351232) :
    Calls Try.prog 23 #[.slice A a.length ca, .slice B b.length cb, .func (.func g) #[] #[]] w (PickRes f a b w) := by
  have HA := Lib.hid ha
  have HB := Lib.hid hb
  have HF := Lib.hid hf
  have HEG := Lib.hid eg
  have WA := Lib.hid wa
  have WB := Lib.hid wb
  clear ha hb hf wa wb eg
  have hmm := @run_makeMap Try.prog
  go_enter Try.func23, Try.ntmps23
  go_wp2
  clear hmm
  go_loopw [15] (fun v15 wr => PkRel1 a w w.heap.size (w.heap.size + 1) (.func (.func g) #[] #[]) v15 wr) (fun v15 _ => a.length - (intOf v15).toNat)
  case atStart =>
    have e : inL (a.take 0) = fun _ => false := by funext i; simp [inL]
    refine ⟨0, rfl, Nat.zero_le _, ?_, ?_, below_alloc (below_alloc (Below.refl _ _) _) _⟩
    · rw [e]
      have h := M2.made (w.alloc (.cells #[.func (.func g) #[] #[]] 43))
      rw [show (w.alloc (.cells #[.func (.func g) #[] #[]] 43)).heap.size = w.heap.size + 1 by simp] at h
      exact h
    · exact pw_cell_below (below_alloc (Below.refl _ _) _) (by rw [blk_cell (heap_alloc_new w _)]; rfl)
  case round =>
    obtain ⟨k, rfl, hk, hM, hbx, hb⟩ := hrel
    have HBX := Lib.hid hbx
    have HBK := Lib.hid hb
    by_cases hlt : k < a.length
    · have hki : (k : Int) < (a.length : Int) := by omega
      obtain ⟨b0, o0, rfl, hx⟩ := int_at HA.out (by omega)
      have hx0 := pw_cell_below hb (hx k hlt)
      have wfx : (Lit.int .i64 (a.getD k 0)).wf = true := wf_i64 (WA.out _ (by rw [show a.getD k 0 = a[k] by simp [hlt]]; exact List.getElem_mem hlt))
      have HT := Lib.hid (take_contains a k hlt)
      generalize a.getD k 0 = x at *
      have hlk := hM.lookup x wfx
      have hkey := Go.Maps.keyOf_int_mk Try.underlying3 wfx
      obtain ⟨D, n, hn, hown, hD, hH⟩ := hM
      have HD := Lib.hid hD
      have HH := Lib.hid hH
      have HO := Lib.hid hown
      have hi := fun p w => idx1 p false w
      generalize inL (a.take k) x = p at hlk
      clear hx hb hbx hD hH hown wfx
      go_wp2_with (at_mapUpdate; refine wpList_mapUpdate_own _ rfl _ _ _ 56 rfl 3 57 keyed3 Try.underlying56 R2 (w.heap.size + 1) n D rfl HO.out (by unfold maxLen; omega) _ _ _ rfl rfl hkey _ [] (R2_mk true false) ?_; intro w1 hown1 hgrow1)
      go_roundw
      case rel =>
        refine ⟨k + 1, by go_num, by omega, ?_, hgrow1.cell HBX.out (by simp), below_but HBK.out (by omega) HBK.out.size hgrow1⟩
        have h := M2.put (isMap_of_owns HO.out) hn HD.out HH.out x true false rfl hown1
        rw [HT.out] at h
        rw [show (fun j => if j = x then false else false) = (fun _ : Int => false) by funext j; simp] at h
        exact h
      case measure => simp [intOf]; omega
    · have hki : ¬ (k : Int) < (a.length : Int) := by omega
      have hkE : k = a.length := by omega
      subst hkE
      have hM0 : M2 wr (w.heap.size + 1) (a.length + 0) (inL a) (inL (b.take 0)) := by
        rw [List.take_of_length_le (Nat.le_refl _)] at hM
        rw [show inL (b.take 0) = fun _ => false by funext i; simp [inL]]
        exact hM
      have HM0 := Lib.hid hM0
      clear hM hM0 hbx hb
      go_wp2
      go_loopw [29] (fun v29 wr => PkRel2 a b w w.heap.size (w.heap.size + 1) (.func (.func g) #[] #[]) v29 wr) (fun v29 _ => b.length - (intOf v29).toNat)
      case atStart => exact ⟨0, rfl, Nat.zero_le _, HM0.out, HBX.out, HBK.out⟩
      case round =>
        obtain ⟨k, rfl, hk, hM, hbx, hb⟩ := hrel
        have HBX2 := Lib.hid hbx
        have HBK2 := Lib.hid hb
        by_cases hlt : k < b.length
        · have hki : (k : Int) < (b.length : Int) := by omega
          obtain ⟨b0, o0, rfl, hx⟩ := int_at HB.out (by omega)
          have hx0 := pw_cell_below hb (hx k hlt)
          have wfx : (Lit.int .i64 (b.getD k 0)).wf = true := wf_i64 (WB.out _ (by rw [show b.getD k 0 = b[k] by simp [hlt]]; exact List.getElem_mem hlt))
          have HT := Lib.hid (take_contains b k hlt)
          generalize b.getD k 0 = x at *
          have hlk := hM.lookup x wfx
          have hkey := Go.Maps.keyOf_int_mk Try.underlying3 wfx
          obtain ⟨D, n, hn, hown, hD, hH⟩ := hM
          have HD := Lib.hid hD
          have HH := Lib.hid hH
          have HO := Lib.hid hown
          have hi := fun p q w => idx0 p q w
          have HP : Hid ((fun j => if j = x then inL a x else inL a j) = inL a) := Lib.hid (by funext j; by_cases e : j = x <;> simp [e])
          generalize inL a x = p at hlk HP
          generalize inL (b.take k) x = q at hlk
          clear hx hb hbx hD hH hown wfx
          go_wp2_with (at_mapUpdate; refine wpList_mapUpdate_own _ rfl _ _ _ 56 rfl 3 57 keyed3 Try.underlying56 R2 (w.heap.size + 1) n D rfl HO.out (by unfold maxLen; omega) _ _ _ rfl rfl hkey _ [] (R2_mk p true) ?_; intro w1 hown1 hgrow1)
          go_roundw
          case rel =>
            refine ⟨k + 1, by go_num, by omega, ?_, hgrow1.cell HBX2.out (by simp), below_but HBK2.out (by omega) HBK2.out.size hgrow1⟩
            have h := M2.put (isMap_of_owns HO.out) hn HD.out HH.out x p true (by simp) hown1
            rw [HT.out, HP.out] at h
            exact h
          case measure => simp [intOf]; omega
        · have hki : ¬ (k : Int) < (b.length : Int) := by omega
          have hkE : k = b.length := by omega
          subst hkE
          rw [List.take_of_length_le (Nat.le_refl _)] at hM
          obtain ⟨D, n, hn, hown, hD, hH⟩ := hM
          have HD := Lib.hid hD
          have HH := Lib.hid hH
          have HO := Lib.hid hown
          clear hD hH hown hb hbx
          go_wp2_with (first
            | (go_at_call 38; (refine (delete_any g w.heap.size f (w.heap.size + 1) n D wr HEG.out HF.out HO.out HBX2.out (by omega)).mono ?_); rintro e w2 ⟨rfl, ho2, hg2⟩; have HO2 := Lib.hid ho2; have HB2 := Lib.hid (below_but HBK2.out (by omega) HBK2.out.size hg2); have HSZ := Lib.hid (owns_size ho2); clear ho2 hg2)
            | (go_at_call 41; (refine (keys_any (some (w.heap.size + 1)) w2).mono ?_); rintro e w3 ⟨rfl, rfl⟩)
            | (go_at_call 40; (refine (sorted_any (w.heap.size + 1) n _ R2 w2 HO2.out (by have := HSZ.out; unfold maxLen; omega) (by have := HSZ.out; omega)).mono ?_); rintro e w4 ⟨v, ss, rfl, hp, hrow, hb4⟩; have HP4 := Lib.hid hp; have HR4 := Lib.hid hrow; have HB4 := Lib.hid hb4; clear hp hrow hb4))
          go_ret
          obtain ⟨hnd, hmem⟩ := keys_left f HO.out HD.out HH.out
          obtain ⟨hst, hm⟩ := sorted_strict HP4.out hnd
          have hw2 : w.heap.size ≤ w2.heap.size := HB2.out.size
          have hsz3 : (w2.alloc (.cells #[.map (some (w.heap.size + 1))] 56)).heap.size = w2.heap.size + 1 := by simp
          have hb3 : Below w.heap.size w (w2.alloc (.cells #[.map (some (w.heap.size + 1))] 56)) := below_alloc HB2.out _
          refine ⟨_, ⟨hst, fun i => by rw [hm, hmem]⟩, fun i hi => ?_, v, rfl, ?_, hb3.trans (HB4.out.mono (by omega))⟩
          · have h1 := intKeys_wf HO2.out Try.underlying3 i ((hm i).1 hi)
            have e1 : IntKind.i64.min = -9223372036854775808 := rfl
            have e2 : IntKind.i64.max = 9223372036854775807 := rfl
            simp [Lit.wf, e1, e2] at h1
            exact h1
          · have hl : ss.length = (ss.mergeSort (fun x y => decide (x ≤ y))).length := (List.length_mergeSort ss).symm
            have h := HR4.out
            rw [hl] at h
            exact Kd.R_lower (Kd.R_of_own (h1 := fun _ => rfl) (ok := fun _ => True) h (fun _ _ => trivial)) (by omega)
end Go.Proofs.Ytojocffjajcdmaa
namespace Go.Proofs.Ytojocffjajcdmaa
open Go.RowKit Go.Maps Go.Proofs.YtojocffjajcdmaaW.PrintWords Go.Proofs.YtojocffjajcdmaaW.PrintLast Go.Proofs.YtojocffjajcdmaaW.PrintMore PPostingsLists
set_option linter.unusedVariables false
set_option linter.unusedSimpArgs false

/-! ### The reference's words -/
structure Blk (w : World) (b : Nat) (cs : Array Value) (t : Nat) : Prop where
  out : w.heap[b]? = some (.cells cs t (0, 0))
theorem Blk.new (w : World) (cs : Array Value) (t b : Nat) (hb : b = w.heap.size) : Blk (w.alloc (.cells cs t)) b cs t := by
  subst hb; exact ⟨by show (w.heap.push _)[_]? = _; simp⟩
theorem Blk.lt {w : World} {b t : Nat} {cs : Array Value} (h : Blk w b cs t) : b < w.heap.size :=
  (Array.getElem?_eq_some_iff.1 h.out).1
theorem Blk.alloc {w : World} {b t : Nat} {cs : Array Value} (h : Blk w b cs t) (o : Obj) : Blk (w.alloc o) b cs t :=
  ⟨(Below.heap_alloc w o b h.lt).trans h.out⟩
theorem Blk.drew {w : World} {b t : Nat} {cs : Array Value} (h : Blk w b cs t) : Blk w.drew b cs t := ⟨h.out⟩
theorem Blk.cell {w : World} {b t : Nat} {cs : Array Value} (h : Blk w b cs t) (i : Nat) (v : Value) (hv : cs[i]? = some v) : w.cell? ⟨b, i, none⟩ = some v := by
  unfold World.cell?; rw [h.out]; simpa using hv
def RowCells (w : World) (A : Option Addr) (xs : List Value) : Prop := 0 < xs.length → ∃ b o, A = some ⟨b, o, none⟩ ∧ ∀ j u, xs[j]? = some u → w.cell? ⟨b, o + j, none⟩ = some u
theorem RowCells.below {w w' : World} {A : Option Addr} {xs : List Value} (h : RowCells w A xs) (hb : Below w.heap.size w w') : RowCells w' A xs := fun hp => by
  obtain ⟨b, o, e, hc⟩ := h hp
  exact ⟨b, o, e, fun j u hu => pw_cell_below hb (hc j u hu)⟩
theorem rowCells_new {w : World} {cs : Array Value} {t n : Nat} (hn : n = w.heap.size) : RowCells (w.alloc (.cells cs t)) (some ⟨n, 0, none⟩) cs.toList := fun hp => ⟨n, 0, rfl, fun j u hu => by
  rw [Nat.zero_add]; exact (Blk.new w cs t n hn).cell j u (by rw [← Array.getElem?_toList]; exact hu)⟩
theorem rowCells_grown {w w' : World} {b t : Nat} {cs : Array Value} {row : Option Nat} (h : Blk w b cs t) (hg : w.grownBy w' row) (hne : row ≠ some b) : RowCells w' (some ⟨b, 0, none⟩) cs.toList := fun hp => ⟨b, 0, rfl, fun j u hu => by
  have h2 : Blk w' b cs t := ⟨(hg.block b h.lt (fun e => hne e.symm)).trans h.out⟩
  rw [Nat.zero_add]; exact h2.cell j u (by rw [← Array.getElem?_toList]; exact hu)⟩
theorem _root_.Go.World.ownsRow.drew2 {w : World} {base : Nat} {e : TypeId} {size : Nat} {v : Value} {n : Nat} {xs : List Value} (h : w.ownsRow base e size v n xs) : w.drew.ownsRow base e size v n xs := h
theorem own_made' {W : World} {B n : Nat} (hB : B ≤ W.heap.size) (hn : n = W.heap.size) : (W.alloc (.cells #[] 3)).ownsRow B 3 1 (.slice (some ⟨n, 0, none⟩) 0 0) 0 [] := by
  subst hn
  exact World.ownsRow_made W #[] 0 (base := B) (e := 3) (size := 1) hB (by unfold maxLen; omega) rfl
theorem step_append_row {P : Program} (w : World) {ops : Array Oper} {o : Oper} {a : Act} {K : Act → World → Prop} {Q : Exit → Act → World → Prop} {E : Prop} (hgd : o.guard = none) (s x : Operand) (t : TypeId)
    (ho : o.op = .call { callee := .builtin .append, args := #[s, x], argTypes := #[t, t] })
    (base : Nat) (e : TypeId) (i : TypeInfo) (z : Value) (size bytes : Nat) (ht : P.underlying t = some (.slice e)) (hi : P.info? e = some i) (hz : i.zero = some z)
    (hsize : i.size = size) (hby : i.bytes = bytes) (hzs : z.cells.size = size) (hsz : 0 < size)
    (v : Value) (n : Nat) (xs : List Value) (hs : a.eval s = v) (hown : w.ownsRow base e size v n xs)
    (A : Option Addr) (m c : Nat) (news : List Value) (hx : a.eval x = .slice A m c) (hA : A = none → c = 0) (hmc : m ≤ c) (hl : news.length = m * size) (hnews : RowCells w A news) (h1 : ∀ u ∈ news, u.oneCell' = true)
    (h63 : n + m ≤ maxLen) (hbytes : (n + m) * bytes ≤ 140737488351232) (hbase : base ≤ w.heap.size)
    (h : ∀ v' w', w'.ownsRow base e size v' (n + m) (xs ++ news) → w.grownBy w' v.ownBlock → K (a.put o.dst v') w') :
    if Region.wanted o (yielded ops a.tmps) = true then Oper.wp P o a w K Q else E := by
  have hw : Region.wanted o (yielded ops a.tmps) = true := by simp [Region.wanted, hgd]
  rw [if_pos hw]
  rcases A with _ | ad
  · obtain rfl : c = 0 := hA rfl
    obtain rfl : m = 0 := by omega
    have hn : news = [] := List.eq_nil_of_length_eq_zero (by simpa using hl)
    subst hn
    have hrun := run_append_owned_none (P := P) (w := w) base t o.type e i size ht hi v n xs hown
    unfold Oper.wp
    simp [execOp, ho, resolve, invoke, builtin, hs, hx, hrun, Result.andThen]
    exact h v w (by simpa using hown) ⟨rfl, rfl, rfl, Nat.le_refl _, fun k _ _ => rfl⟩
  · exact wp_append_own w s x t ho base e i z size bytes ht hi hz hsize hby hzs hsz v n xs hs hown ad m c news hx hl (fun j u hu => by
      have hj := (List.getElem?_eq_some_iff.1 hu).1
      obtain ⟨b, o', e', hc⟩ := hnews (by omega)
      cases e'
      rw [addr_add]
      exact hc j u hu) h1 h63 (by omega) hbase (fun v' w' h2 h3 _ => h v' w' h2 h3)
abbrev zc (l : List Int) : List Value := l.map (Value.int .i64)
theorem rows_C {w : World} {A : Option Addr} {l : List Int} (h : Kd.C KI w A l.length l) : RowCells w A (zc l) := fun hp => by
  obtain ⟨b, o, e, hc⟩ := int_at h (by simpa using hp)
  refine ⟨b, o, e, fun j u hu => ?_⟩
  have hj : j < l.length := by have := (List.getElem?_eq_some_iff.1 hu).1; simpa using this
  rw [hc j hj]
  rw [List.getElem?_map, List.getElem?_eq_getElem hj] at hu
  simp only [Option.map_some, Option.some.injEq] at hu
  rw [← hu]
  simp [hj]
theorem rows_take {w : World} {A : Option Addr} {l : List Int} (h : RowCells w A (zc l)) (n : Nat) : RowCells w A (zc (l.take n)) := fun hp => by
  have hp' : 0 < (zc l).length := by simp at hp ⊢; omega
  obtain ⟨b, o, e, hc⟩ := h hp'
  refine ⟨b, o, e, fun j u hu => hc j u ?_⟩
  unfold zc at hu
  rw [List.map_take, List.getElem?_take] at hu
  split at hu
  · exact hu
  · cases hu
theorem rows_drop {w : World} {b o : Nat} {l : List Int} (h : RowCells w (some ⟨b, o, none⟩) (zc l)) (n : Nat) : RowCells w (some ⟨b, o + n, none⟩) (zc (l.drop n)) := fun hp => by
  have hp' : 0 < (zc l).length := by simp at hp ⊢; omega
  obtain ⟨b', o', e, hc⟩ := h hp'
  injection e with e; injection e with e1 e2
  subst e1; subst e2
  refine ⟨b, o + n, rfl, fun j u hu => ?_⟩
  unfold zc at hu
  rw [List.map_drop, List.getElem?_drop] at hu
  have := hc _ u hu
  rwa [← Nat.add_assoc] at this

/-! ### Plain: a number put into a rising list -/
def posL (n : Int) (l : List Int) : Nat → Nat
  | 0 => 0
  | k + 1 => if n < l.getD k 0 then posL n l k else k + 1
def withL (l : List Int) (n : Int) : List Int := if inL l n = true then l else l.take (posL n l l.length) ++ n :: l.drop (posL n l l.length)
theorem posL_le (n : Int) (l : List Int) (k : Nat) : posL n l k ≤ k := by
  induction k with
  | zero => exact Nat.le_refl _
  | succ k ih => rw [posL]; split <;> omega
theorem posL_spec (n : Int) (l : List Int) (k : Nat) : (∀ j, posL n l k ≤ j → j < k → n < l.getD j 0) ∧ (0 < posL n l k → ¬ n < l.getD (posL n l k - 1) 0) := by
  induction k with
  | zero => exact ⟨fun j h1 h2 => by omega, fun h => by simp [posL] at h⟩
  | succ k ih =>
    rw [posL]
    split
    · rename_i h
      refine ⟨fun j h1 h2 => ?_, ih.2⟩
      by_cases e : j = k
      · rw [e]; exact h
      · exact ih.1 j h1 (by omega)
    · rename_i h
      exact ⟨fun j h1 h2 => by omega, fun _ => by simpa using h⟩
theorem with_mem (l : List Int) (n i : Int) : i ∈ withL l n ↔ i ∈ l ∨ i = n := by
  unfold withL
  split
  · rename_i h
    have hn : n ∈ l := by simpa [inL] using h
    constructor
    · exact fun h => .inl h
    · rintro (h | rfl)
      · exact h
      · exact hn
  · rw [List.mem_append, List.mem_cons]
    conv => rhs; rw [← List.take_append_drop (posL n l l.length) l, List.mem_append]
    constructor
    · rintro (h | h | h)
      · exact .inl (.inl h)
      · exact .inr h
      · exact .inl (.inr h)
    · rintro ((h | h) | h)
      · exact .inl h
      · exact .inr (.inr h)
      · exact .inr (.inl h)
theorem getD_lt {l : List Int} (hs : l.Pairwise (· < ·)) {i j : Nat} (hij : i < j) (hj : j < l.length) : l.getD i 0 < l.getD j 0 := by
  have h := List.pairwise_iff_getElem.1 hs i j (by omega) hj hij
  simpa [show i < l.length by omega, hj] using h
theorem with_rise (l : List Int) (n : Int) (hs : l.Pairwise (· < ·)) : (withL l n).Pairwise (· < ·) := by
  unfold withL
  split
  · exact hs
  · rename_i hin
    have hnin : ∀ j, j < l.length → l.getD j 0 ≠ n := fun j hj e => hin (by
      unfold inL
      rw [List.contains_iff_mem]
      rw [← e, show l.getD j 0 = l[j] by simp [hj]]
      exact List.getElem_mem hj)
    obtain ⟨h1, h2⟩ := posL_spec n l l.length
    have hle := posL_le n l l.length
    generalize posL n l l.length = p at *
    rw [List.pairwise_append]
    have ht : ∀ x ∈ l.take p, x < n := fun x hx => by
      obtain ⟨j, hj, rfl⟩ := List.mem_iff_getElem.1 hx
      rw [List.length_take] at hj
      rw [List.getElem_take]
      have h3 := h2 (by omega)
      have h4 := hnin (p - 1) (by omega)
      have e : l[j] = l.getD j 0 := by simp [show j < l.length by omega]
      rw [e]
      by_cases hjp : j = p - 1
      · rw [hjp]; omega
      · have := getD_lt hs (i := j) (j := p - 1) (by omega) (by omega)
        omega
    have hd : ∀ x ∈ l.drop p, n < x := fun x hx => by
      obtain ⟨j, hj, rfl⟩ := List.mem_iff_getElem.1 hx
      rw [List.length_drop] at hj
      rw [List.getElem_drop]
      have := h1 (p + j) (by omega) (by omega)
      have e : l[p + j] = l.getD (p + j) 0 := by simp [show p + j < l.length by omega]
      rw [e]; exact this
    refine ⟨hs.sublist (List.take_sublist _ _), List.pairwise_cons.2 ⟨hd, hs.sublist (List.drop_sublist _ _)⟩, fun x hx y hy => ?_⟩
    rcases List.mem_cons.1 hy with rfl | hy
    · exact ht x hx
    · have := ht x hx; have := hd y hy; omega
end Go.Proofs.Ytojocffjajcdmaa
namespace Go.Proofs.Ytojocffjajcdmaa
open Go.RowKit Go.Maps Go.Proofs.YtojocffjajcdmaaW.PrintWords Go.Proofs.YtojocffjajcdmaaW.PrintLast Go.Proofs.YtojocffjajcdmaaW.PrintMore PPostingsLists
set_option linter.unusedVariables false
set_option linter.unusedSimpArgs false

theorem w64 {x : Int} (h1 : -9223372036854775808 ≤ x) (h2 : x ≤ 9223372036854775807) : wrap64 x = x := by unfold wrap64; omega
theorem inL_drop (l : List Int) (n : Int) {j : Nat} (h : j < l.length) : inL (l.drop j) n = (decide (l.getD j 0 = n) || inL (l.drop (j + 1)) n) := by
  unfold inL
  rw [List.drop_eq_getElem_cons h]
  have e : l.getD j 0 = l[j] := by simp [h]
  rw [e, List.contains_cons]
  congr 1
  by_cases e2 : l[j] = n
  · simp [e2]
  · have e3 : ¬ n = l[j] := fun x => e2 x.symm
    simp [e2, e3]
theorem in_l0 (l : List Int) (n : Int) (hl : l.length ≤ 17592186044416) : ∀ m j : Nat, m + j = l.length → icehouseref05_in.l0 (m + 1) l n (j : Int) = some (inL (l.drop j) n) := by
  intro m
  induction m with
  | zero =>
    intro j hj
    have e : l.drop j = [] := List.drop_eq_nil_of_le (by omega)
    rw [e]
    rw [icehouseref05_in.l0, if_neg (by omega)]
    rfl
  | succ m ih =>
    intro j hj
    rw [icehouseref05_in.l0, if_pos (by omega), if_pos (by omega), inL_drop l n (by omega)]
    have er : rd l (j : Int) = l.getD j 0 := rfl
    rw [er]
    split
    · rename_i h; simp only [h, decide_true, Bool.true_or]
    · rename_i h
      simp only [h, decide_false, Bool.false_or]
      rw [w64 (by omega) (by omega)]
      exact ih (j + 1) (by omega)
theorem in_any (A : Option Addr) (c : Nat) (l : List Int) (n : Int) (w : World) (h : Kd.C KI w A l.length l) (hc : l.length ≤ c) (hl : l.length ≤ 17592186044416) :
    Calls Try.prog 25 #[.slice A l.length c, .int .i64 n] w fun e w' => e = .returned (.bool (inL l n)) ∧ Drawn0 w w' :=
  icehouseref05_in.calls (l.length + 1) A c l n (inL l n) w h hc (in_l0 l n hl l.length 0 rfl)

/-- A slice of numbers that can be read, and nothing more of it is said. -/
def Rows1 (w : World) (v : Value) (l : List Int) : Prop := ∃ A c, v = .slice A l.length c ∧ Kd.C KI w A l.length l ∧ l.length ≤ c ∧ ((A = none ∧ c = 0) ∨ ∃ b o, A = some ⟨b, o, none⟩)
theorem C_of_own {w : World} {b n : Nat} {v : Value} {l : List Int} (hn : n = l.length) (h : w.ownsRow b 3 1 v n (zc l)) : Rows1 w v l := by
  subst hn
  have h2 : KI.R 3 w b (fun _ => True) v l := Kd.R_of_own (h1 := fun _ => rfl) (ok := fun _ => True) h (fun _ _ => trivial)
  obtain ⟨A, c, he, hc, hC⟩ := Kd.R_reads h2
  refine ⟨A, c, he, hC, hc, ?_⟩
  rcases h.2 with ⟨hv, h0⟩ | ⟨g, cap, cur, hv, _⟩
  · rw [he] at hv; injection hv with h1 h2 h3; exact .inl ⟨h1, h3⟩
  · rw [he] at hv; injection hv with h1; exact .inr ⟨g, 0, h1⟩
theorem Rows1.below {w w' : World} {v : Value} {l : List Int} (h : Rows1 w v l) (hb : Below w.heap.size w w') : Rows1 w' v l := by
  obtain ⟨A, c, he, hC, hc, hA⟩ := h
  exact ⟨A, c, he, Kd.C_below hC hb, hc, hA⟩
theorem Rows1.nil (w : World) : Rows1 w (.slice none 0 0) [] := ⟨none, 0, rfl, Kd.C_nil _ _, Nat.le_refl _, .inl ⟨rfl, rfl⟩⟩
theorem zc_len (l : List Int) : (zc l).length = l.length := by simp
theorem zc_one (l : List Int) : ∀ u ∈ zc l, u.oneCell' = true := fun u hu => by
  obtain ⟨x, _, rfl⟩ := List.mem_map.1 hu
  rfl
theorem withL_len (l : List Int) (n : Int) : (withL l n).length ≤ l.length + 1 := by
  unfold withL
  split
  · omega
  · have := posL_le n l l.length
    simp; omega
def WithPost (l : List Int) (n : Int) (w : World) (e : Ending) (w' : World) : Prop := ∃ v, e = .returned v ∧ Rows1 w' v (withL l n) ∧ Below w.heap.size w w'
theorem with_own {W : World} {base p : Nat} {v : Value} {l : List Int} {n : Int} (hin : inL l n = false) (hp : posL n l l.length = p) (hm : p ≤ l.length)
    (h : W.ownsRow base 3 1 v (0 + p + 1 + (l.length - p)) ((([] ++ zc (l.take p)) ++ [.int .i64 n]) ++ zc (l.drop p))) : Rows1 W v (withL l n) := by
  have e : withL l n = l.take p ++ n :: l.drop p := by unfold withL; rw [if_neg (by rw [hin]; simp), hp]
  refine C_of_own (b := base) (n := 0 + p + 1 + (l.length - p)) (by rw [e]; simp; omega) ?_
  rw [e]
  have e2 : zc (l.take p ++ n :: l.drop p) = (([] ++ zc (l.take p)) ++ [.int .i64 n]) ++ zc (l.drop p) := by simp [zc]
  rw [e2]
  exact h
theorem info3p : ∃ i, Try.prog.info? 3 = some i ∧ i.zero = some (.int .i64 0) ∧ i.size = 1 ∧ i.bytes = 8 := by
  have h := info3
  cases e : Try.prog.info? 3 with
  | none => rw [e] at h; cases h
  | some i =>
    rw [e] at h
    simp only [Option.map_some, Option.some.injEq, Prod.mk.injEq] at h
    exact ⟨i, rfl, h.1, h.2.1, h.2.2⟩

set_option maxHeartbeats 4000000 in
set_option maxRecDepth 100000 in
theorem with_any (l : List Int) (n : Int) (v : Value) (w : World) (h : Rows1 w v l) (hl : l.length ≤ 4194304) :
    Calls Try.prog 26 #[v, .int .i64 n] w (WithPost l n w) := by
  obtain ⟨i0, hi0, hz0, hz1, hz2⟩ := info3p
  obtain ⟨A, c, rfl, hC, hc, hA⟩ := h
  have HC := Lib.hid hC
  have HA := Lib.hid hA
  clear hC hA
  go_enter Try.func26, Try.ntmps26
  cases hin : inL l n with
  | true =>
    go_wp2_with (go_at_call 25; (refine (in_any A c l n w HC.out hc (by omega)).mono ?_); rintro e w2 ⟨rfl, hd⟩; rw [hin]; have HB := Lib.hid hd.below; clear hd)
    go_ret
    refine ⟨_, rfl, ?_, HB.out⟩
    have e : withL l n = l := by unfold withL; rw [if_pos hin]
    rw [e]
    exact ⟨A, c, rfl, Kd.C_below HC.out HB.out, hc, HA.out⟩
  | false =>
    go_wp2_with (go_at_call 25; (refine (in_any A c l n w HC.out hc (by omega)).mono ?_); rintro e w2 ⟨rfl, hd⟩; rw [hin]; have HB := Lib.hid hd.below; clear hd)
    go_loopw [5] (fun v5 wi => ∃ j : Nat, v5 = .int .i64 j ∧ j ≤ l.length ∧ posL n l l.length = posL n l j ∧ Below w.heap.size w wi) (fun v5 _ => (intOf v5).toNat)
    case atStart => exact ⟨l.length, rfl, Nat.le_refl _, rfl, HB.out⟩
    case round =>
      obtain ⟨j, rfl, hj, hp, hb⟩ := hrel
      have HP := Lib.hid hp
      have HIN := Lib.hid hin
      have HBW := Lib.hid hb
      clear hp HB hb hin
      rcases Nat.eq_zero_or_pos j with h0 | hj0
      · have hz3 : decide (0 < (j : Int)) = false := decide_eq_false (by omega)
        have hz4 : decide (0 < j) = false := decide_eq_false (by omega)
        have hfp : posL n l l.length = j := by rw [HP.out, h0]; rfl
        rcases HA.out with ⟨rfl, hc0⟩ | ⟨b, o, rfl⟩
        · clear h0
          have HFP := Lib.hid hfp
          clear hfp
          have hout : l = [] := List.eq_nil_of_length_eq_zero (by omega)
          have hco1 : c - j = 0 := by omega
          have hco2 : c = j := by omega
          have HCO := Lib.hid hc0
          have HT1 : Hid (∀ W, Below wr.heap.size wr W → RowCells W none (zc (l.take j))) := Lib.hid (fun W _ hp => by rw [hout] at hp; simp at hp)
          have HT3 : Hid (∀ W, Below wr.heap.size wr W → RowCells W none (zc (l.drop j))) := Lib.hid (fun W _ hp => by rw [hout] at hp; simp at hp)
          have hdn : l.drop j = [] := by rw [hout]; simp
          have hm1 : (j : Int) ≤ (l.length : Int) := by omega
          have hm2 : (j : Int) ≤ (c : Int) := by omega
          clear hc0 hout
          go_wp2_with fail
          all_goals go_region_held_law (fun w' => Below wr.heap.size wr w')
            (first
              | exact Below.refl _ _
              | exact (Below.refl _ _).drew
              | exact hB8 | exact hB7 | exact hB6 | exact hB7.drew | exact hB6.drew
              | exact ((Below.refl _ _).alloc (Nat.le_refl _) _).drew
              | exact (((Below.refl _ _).alloc (Nat.le_refl _) _).alloc (by simp) _).drew
              | exact (hB6.alloc hB6.size _).drew
              | exact (hB6.alloc hB6.size _))
            (first
              | (refine step_append_row _ rfl (.tmp 25) (.tmp 28) 22 rfl wr.heap.size 3 i0 _ 1 8 Try.underlying22 hi0 hz0 hz1 hz2 rfl (by decide) _ 0 [] rfl
                  (by first | exact (own_made' (Nat.le_refl _) rfl).drew2 | exact ((own_made' (Nat.le_refl _) rfl).alloc _).drew2 | exact (own_made' (by simp) (by simp)).drew2)
                  _ _ _ (zc (l.take j)) rfl (by intro _; have := HCO.out; omega) (by omega) (by rw [zc_len, List.length_take]; omega)
                  (by first | exact HT1.out _ ((Below.refl _ _).alloc (Nat.le_refl _) _).drew | exact HT1.out _ (((Below.refl _ _).alloc (Nat.le_refl _) _).alloc (by simp) _).drew)
                  (zc_one _) (by unfold maxLen; omega) (by omega) (by simp only [World.size_alloc, World.size_drew]; omega) ?_
                 intro v6 w6 hown6 hgrow6
                 have hB6 : Below wr.heap.size wr w6 := by
                   first
                     | exact ((Below.refl _ _).alloc (Nat.le_refl _) _).drew.grown hgrow6 (by simp only [World.size_alloc, World.size_drew]; omega) (by intro q hq; simp [Value.ownBlock, Act.eval, Act.put] at hq; omega)
                     | exact (((Below.refl _ _).alloc (Nat.le_refl _) _).alloc (by simp) _).drew.grown hgrow6 (by simp only [World.size_alloc, World.size_drew]; omega) (by intro q hq; simp [Value.ownBlock, Act.eval, Act.put] at hq; omega))
              | (refine step_append_row _ rfl (.tmp 29) (.tmp 31) 22 rfl wr.heap.size 3 i0 _ 1 8 Try.underlying22 hi0 hz0 hz1 hz2 rfl (by decide) _ (0 + j) ([] ++ zc (l.take j)) rfl
                  (by first | exact hown6 | exact hown6.alloc _ | exact (hown6.alloc _).drew2 | exact hown6.drew2)
                  _ 1 1 [.int .i64 n] rfl (by intro e; cases e) (Nat.le_refl _) rfl
                  (by first
                    | exact rowCells_new (cs := #[.int .i64 n]) rfl
                    | exact rowCells_grown (cs := #[.int .i64 n]) (t := 3) ((Blk.new _ _ _ _ (by simp)).drew) hgrow6 (by simp [Value.ownBlock, Act.eval, Act.put])
                    | exact rowCells_grown (cs := #[.int .i64 n]) (t := 3) (((Blk.new _ _ _ _ (by simp)).alloc _).drew) hgrow6 (by simp [Value.ownBlock, Act.eval, Act.put]))
                  (by simp [Value.oneCell']) (by unfold maxLen; omega) (by omega) (by have := hB6.size; simp <;> omega) ?_
                 intro v7 w7 hown7 hgrow7
                 have hB7 : Below wr.heap.size wr w7 := by
                   first
                     | exact hB6.grown hgrow7 hB6.size (fun q hq => (hown6.lt q hq).1)
                     | exact (hB6.alloc hB6.size _).grown hgrow7 (by have := hB6.size; simp; omega) (fun q hq => (hown6.lt q hq).1))
              | (refine step_append_row _ rfl (.tmp 32) (.tmp 35) 22 rfl wr.heap.size 3 i0 _ 1 8 Try.underlying22 hi0 hz0 hz1 hz2 rfl (by decide) _ (0 + j + 1) _ rfl
                  hown7 _ _ _ (zc (l.drop j)) rfl (by intro _; have := HCO.out; omega) (by omega) (by rw [zc_len, List.length_drop]; omega)
                  (by first | exact HT3.out _ hB7 | (have := HT3.out _ hB7; simpa using this) | (exact fun hp => by rw [hdn] at hp; simp at hp)) (zc_one _) (by unfold maxLen; omega) (by omega) hB7.size ?_
                 intro v8 w8 hown8 hgrow8
                 have hB8 : Below wr.heap.size wr w8 := hB7.grown hgrow8 hB7.size (fun q hq => (hown7.lt q hq).1)))
          all_goals
            have hfin := Lib.hid (with_own HIN.out HFP.out hj hown8)
            have hbf := Lib.hid (HBW.out.trans (hB8.mono HBW.out.size))
            clear hown8 hown7 hown6 hgrow8 hgrow7 hgrow6 hB6 hB7 hB8
            go_wp2_with fail
            go_ret
            exact ⟨_, rfl, by (first | exact hfin.out | (simp; exact hfin.out)), hbf.out⟩
        · clear h0
          have HFP := Lib.hid hfp
          clear hfp
          have HT1 : Hid (∀ W, Below wr.heap.size wr W → RowCells W (some ⟨b, o, none⟩) (zc (l.take j))) := Lib.hid (fun W hW => (rows_take (rows_C (Kd.C_below HC.out HBW.out)) j).below hW)
          have HT3 : Hid (∀ W, Below wr.heap.size wr W → RowCells W (some ⟨b, o + j, none⟩) (zc (l.drop j))) := Lib.hid (fun W hW => (rows_drop (rows_C (Kd.C_below HC.out HBW.out)) j).below hW)
          have hm1 : (j : Int) ≤ (l.length : Int) := by omega
          have hm2 : (j : Int) ≤ (c : Int) := by omega
          have hdd : (c - j = 0 ∧ c = j ∧ l.drop j = []) ∨ (¬ (c - j = 0) ∧ ¬ (c = j)) := by
            by_cases hco : j = c
            · exact .inl ⟨by omega, by omega, List.drop_eq_nil_of_le (by omega)⟩
            · exact .inr ⟨by omega, by omega⟩
          rcases hdd with ⟨hco1, hco2, hdn⟩ | ⟨hco1, hco2⟩
          all_goals go_wp2_with fail
          all_goals go_region_held_law (fun w' => Below wr.heap.size wr w')
            (first
              | exact Below.refl _ _
              | exact (Below.refl _ _).drew
              | exact hB8 | exact hB7 | exact hB6 | exact hB7.drew | exact hB6.drew
              | exact ((Below.refl _ _).alloc (Nat.le_refl _) _).drew
              | exact (((Below.refl _ _).alloc (Nat.le_refl _) _).alloc (by simp) _).drew
              | exact (hB6.alloc hB6.size _).drew
              | exact (hB6.alloc hB6.size _))
            (first
              | (refine step_append_row _ rfl (.tmp 25) (.tmp 28) 22 rfl wr.heap.size 3 i0 _ 1 8 Try.underlying22 hi0 hz0 hz1 hz2 rfl (by decide) _ 0 [] rfl
                  (by first | exact (own_made' (Nat.le_refl _) rfl).drew2 | exact ((own_made' (Nat.le_refl _) rfl).alloc _).drew2 | exact (own_made' (by simp) (by simp)).drew2)
                  _ _ _ (zc (l.take j)) rfl (by intro e; cases e) (by omega) (by rw [zc_len, List.length_take]; omega)
                  (by first | exact HT1.out _ ((Below.refl _ _).alloc (Nat.le_refl _) _).drew | exact HT1.out _ (((Below.refl _ _).alloc (Nat.le_refl _) _).alloc (by simp) _).drew)
                  (zc_one _) (by unfold maxLen; omega) (by omega) (by simp only [World.size_alloc, World.size_drew]; omega) ?_
                 intro v6 w6 hown6 hgrow6
                 have hB6 : Below wr.heap.size wr w6 := by
                   first
                     | exact ((Below.refl _ _).alloc (Nat.le_refl _) _).drew.grown hgrow6 (by simp only [World.size_alloc, World.size_drew]; omega) (by intro q hq; simp [Value.ownBlock, Act.eval, Act.put] at hq; omega)
                     | exact (((Below.refl _ _).alloc (Nat.le_refl _) _).alloc (by simp) _).drew.grown hgrow6 (by simp only [World.size_alloc, World.size_drew]; omega) (by intro q hq; simp [Value.ownBlock, Act.eval, Act.put] at hq; omega))
              | (refine step_append_row _ rfl (.tmp 29) (.tmp 31) 22 rfl wr.heap.size 3 i0 _ 1 8 Try.underlying22 hi0 hz0 hz1 hz2 rfl (by decide) _ (0 + j) ([] ++ zc (l.take j)) rfl
                  (by first | exact hown6 | exact hown6.alloc _ | exact (hown6.alloc _).drew2 | exact hown6.drew2)
                  _ 1 1 [.int .i64 n] rfl (by intro e; cases e) (Nat.le_refl _) rfl
                  (by first
                    | exact rowCells_new (cs := #[.int .i64 n]) rfl
                    | exact rowCells_grown (cs := #[.int .i64 n]) (t := 3) ((Blk.new _ _ _ _ (by simp)).drew) hgrow6 (by simp [Value.ownBlock, Act.eval, Act.put])
                    | exact rowCells_grown (cs := #[.int .i64 n]) (t := 3) (((Blk.new _ _ _ _ (by simp)).alloc _).drew) hgrow6 (by simp [Value.ownBlock, Act.eval, Act.put]))
                  (by simp [Value.oneCell']) (by unfold maxLen; omega) (by omega) (by have := hB6.size; simp <;> omega) ?_
                 intro v7 w7 hown7 hgrow7
                 have hB7 : Below wr.heap.size wr w7 := by
                   first
                     | exact hB6.grown hgrow7 hB6.size (fun q hq => (hown6.lt q hq).1)
                     | exact (hB6.alloc hB6.size _).grown hgrow7 (by have := hB6.size; simp; omega) (fun q hq => (hown6.lt q hq).1))
              | (refine step_append_row _ rfl (.tmp 32) (.tmp 35) 22 rfl wr.heap.size 3 i0 _ 1 8 Try.underlying22 hi0 hz0 hz1 hz2 rfl (by decide) _ (0 + j + 1) _ rfl
                  hown7 _ _ _ (zc (l.drop j)) rfl (by intro e; cases e) (by omega) (by rw [zc_len, List.length_drop]; omega)
                  (by first | exact HT3.out _ hB7 | (have := HT3.out _ hB7; simpa using this) | (exact fun hp => by rw [hdn] at hp; simp at hp)) (zc_one _) (by unfold maxLen; omega) (by omega) hB7.size ?_
                 intro v8 w8 hown8 hgrow8
                 have hB8 : Below wr.heap.size wr w8 := hB7.grown hgrow8 hB7.size (fun q hq => (hown7.lt q hq).1)))
          all_goals
            have hfin := Lib.hid (with_own HIN.out HFP.out hj hown8)
            have hbf := Lib.hid (HBW.out.trans (hB8.mono HBW.out.size))
            clear hown8 hown7 hown6 hgrow8 hgrow7 hgrow6 hB6 hB7 hB8
            go_wp2_with fail
            go_ret
            exact ⟨_, rfl, by (first | exact hfin.out | (simp; exact hfin.out)), hbf.out⟩
      · obtain ⟨b, o, rfl, hx⟩ := int_at HC.out (by omega)
        have hx0 := pw_cell_below HBW.out (hx (j - 1) (by omega))
        have hjp : 0 < (j : Int) := by omega
        have HG : Hid (posL n l j = if n < l.getD (j - 1) 0 then posL n l (j - 1) else j) := Lib.hid (by
          obtain ⟨m, hm⟩ : ∃ m, j = m + 1 := ⟨j - 1, by omega⟩
          subst hm; rfl)
        clear hx
        generalize l.getD (j - 1) 0 = x at *
        by_cases hgt : n < x
        · go_wp2_with fail
          go_roundw
          case rel => exact ⟨j - 1, by go_num, by omega, by rw [HP.out, HG.out, if_pos hgt], HBW.out⟩
          case measure => simp [intOf]; omega
        · have hfp : posL n l l.length = j := by rw [HP.out, HG.out, if_neg hgt]
          have HFP := Lib.hid hfp
          clear hfp
          have HT1 : Hid (∀ W, Below wr.heap.size wr W → RowCells W (some ⟨b, o, none⟩) (zc (l.take j))) := Lib.hid (fun W hW => (rows_take (rows_C (Kd.C_below HC.out HBW.out)) j).below hW)
          have HT3 : Hid (∀ W, Below wr.heap.size wr W → RowCells W (some ⟨b, o + j, none⟩) (zc (l.drop j))) := Lib.hid (fun W hW => (rows_drop (rows_C (Kd.C_below HC.out HBW.out)) j).below hW)
          have hm1 : (j : Int) ≤ (l.length : Int) := by omega
          have hm2 : (j : Int) ≤ (c : Int) := by omega
          have hdd : (c - j = 0 ∧ c = j ∧ l.drop j = []) ∨ (¬ (c - j = 0) ∧ ¬ (c = j)) := by
            by_cases hco : j = c
            · exact .inl ⟨by omega, by omega, List.drop_eq_nil_of_le (by omega)⟩
            · exact .inr ⟨by omega, by omega⟩
          rcases hdd with ⟨hco1, hco2, hdn⟩ | ⟨hco1, hco2⟩
          all_goals go_wp2_with fail
          all_goals go_region_held_law (fun w' => Below wr.heap.size wr w')
            (first
              | exact Below.refl _ _
              | exact (Below.refl _ _).drew
              | exact hB8 | exact hB7 | exact hB6 | exact hB7.drew | exact hB6.drew
              | exact ((Below.refl _ _).alloc (Nat.le_refl _) _).drew
              | exact (((Below.refl _ _).alloc (Nat.le_refl _) _).alloc (by simp) _).drew
              | exact (hB6.alloc hB6.size _).drew
              | exact (hB6.alloc hB6.size _))
            (first
              | (refine step_append_row _ rfl (.tmp 25) (.tmp 28) 22 rfl wr.heap.size 3 i0 _ 1 8 Try.underlying22 hi0 hz0 hz1 hz2 rfl (by decide) _ 0 [] rfl
                  (by first | exact (own_made' (Nat.le_refl _) rfl).drew2 | exact ((own_made' (Nat.le_refl _) rfl).alloc _).drew2 | exact (own_made' (by simp) (by simp)).drew2)
                  _ _ _ (zc (l.take j)) rfl (by intro e; cases e) (by omega) (by rw [zc_len, List.length_take]; omega)
                  (by first | exact HT1.out _ ((Below.refl _ _).alloc (Nat.le_refl _) _).drew | exact HT1.out _ (((Below.refl _ _).alloc (Nat.le_refl _) _).alloc (by simp) _).drew)
                  (zc_one _) (by unfold maxLen; omega) (by omega) (by simp only [World.size_alloc, World.size_drew]; omega) ?_
                 intro v6 w6 hown6 hgrow6
                 have hB6 : Below wr.heap.size wr w6 := by
                   first
                     | exact ((Below.refl _ _).alloc (Nat.le_refl _) _).drew.grown hgrow6 (by simp only [World.size_alloc, World.size_drew]; omega) (by intro q hq; simp [Value.ownBlock, Act.eval, Act.put] at hq; omega)
                     | exact (((Below.refl _ _).alloc (Nat.le_refl _) _).alloc (by simp) _).drew.grown hgrow6 (by simp only [World.size_alloc, World.size_drew]; omega) (by intro q hq; simp [Value.ownBlock, Act.eval, Act.put] at hq; omega))
              | (refine step_append_row _ rfl (.tmp 29) (.tmp 31) 22 rfl wr.heap.size 3 i0 _ 1 8 Try.underlying22 hi0 hz0 hz1 hz2 rfl (by decide) _ (0 + j) ([] ++ zc (l.take j)) rfl
                  (by first | exact hown6 | exact hown6.alloc _ | exact (hown6.alloc _).drew2 | exact hown6.drew2)
                  _ 1 1 [.int .i64 n] rfl (by intro e; cases e) (Nat.le_refl _) rfl
                  (by first
                    | exact rowCells_new (cs := #[.int .i64 n]) rfl
                    | exact rowCells_grown (cs := #[.int .i64 n]) (t := 3) ((Blk.new _ _ _ _ (by simp)).drew) hgrow6 (by simp [Value.ownBlock, Act.eval, Act.put])
                    | exact rowCells_grown (cs := #[.int .i64 n]) (t := 3) (((Blk.new _ _ _ _ (by simp)).alloc _).drew) hgrow6 (by simp [Value.ownBlock, Act.eval, Act.put]))
                  (by simp [Value.oneCell']) (by unfold maxLen; omega) (by omega) (by have := hB6.size; simp <;> omega) ?_
                 intro v7 w7 hown7 hgrow7
                 have hB7 : Below wr.heap.size wr w7 := by
                   first
                     | exact hB6.grown hgrow7 hB6.size (fun q hq => (hown6.lt q hq).1)
                     | exact (hB6.alloc hB6.size _).grown hgrow7 (by have := hB6.size; simp; omega) (fun q hq => (hown6.lt q hq).1))
              | (refine step_append_row _ rfl (.tmp 32) (.tmp 35) 22 rfl wr.heap.size 3 i0 _ 1 8 Try.underlying22 hi0 hz0 hz1 hz2 rfl (by decide) _ (0 + j + 1) _ rfl
                  hown7 _ _ _ (zc (l.drop j)) rfl (by intro e; cases e) (by omega) (by rw [zc_len, List.length_drop]; omega)
                  (by first | exact HT3.out _ hB7 | (have := HT3.out _ hB7; simpa using this) | (exact fun hp => by rw [hdn] at hp; simp at hp)) (zc_one _) (by unfold maxLen; omega) (by omega) hB7.size ?_
                 intro v8 w8 hown8 hgrow8
                 have hB8 : Below wr.heap.size wr w8 := hB7.grown hgrow8 hB7.size (fun q hq => (hown7.lt q hq).1)))
          all_goals
            have hfin := Lib.hid (with_own HIN.out HFP.out hj hown8)
            have hbf := Lib.hid (HBW.out.trans (hB8.mono HBW.out.size))
            clear hown8 hown7 hown6 hgrow8 hgrow7 hgrow6 hB6 hB7 hB8
            go_wp2_with fail
            go_ret
            exact ⟨_, rfl, by (first | exact hfin.out | (simp; exact hfin.out)), hbf.out⟩
end Go.Proofs.Ytojocffjajcdmaa
namespace Go.Proofs.Ytojocffjajcdmaa
open Go.RowKit Go.Maps Go.Proofs.YtojocffjajcdmaaW.PrintWords Go.Proofs.YtojocffjajcdmaaW.PrintLast Go.Proofs.YtojocffjajcdmaaW.PrintMore PPostingsLists
set_option linter.unusedVariables false
set_option linter.unusedSimpArgs false

def Acc (w wr : World) (S : Int → Bool) (m : Nat) (v : Value) : Prop := ∃ out : List Int, out.length ≤ m ∧ out.Pairwise (· < ·) ∧ (∀ i, i ∈ out ↔ S i = true) ∧ Rows1 wr v out ∧ Below w.heap.size w wr
theorem Acc.nil (w : World) (S : Int → Bool) (hS : ∀ i, S i = false) : Acc w w S 0 (.slice none 0 0) := ⟨[], Nat.le_refl _, List.Pairwise.nil, fun i => by simp [hS], Rows1.nil _, Below.refl _ _⟩
theorem Acc.as {w wr : World} {S S' : Int → Bool} {m m' : Nat} {v : Value} (h : Acc w wr S m v) (hm : m ≤ m') (hS : ∀ i, S i = S' i) : Acc w wr S' m' v := by
  obtain ⟨out, h1, h2, h3, h4⟩ := h
  exact ⟨out, by omega, h2, fun i => by rw [h3, hS], h4⟩
theorem Acc.bel {w wr : World} {S : Int → Bool} {m : Nat} {v : Value} (h : Acc w wr S m v) : Below w.heap.size w wr := by
  obtain ⟨out, h1, h2, h3, h4, h5⟩ := h; exact h5
theorem Acc.to {w wr w' : World} {S : Int → Bool} {m : Nat} {v : Value} (h : Acc w wr S m v) (hb : Below wr.heap.size wr w') : Acc w w' S m v := by
  obtain ⟨out, h1, h2, h3, h4, h5⟩ := h
  exact ⟨out, h1, h2, h3, h4.below hb, h5.trans (hb.mono h5.size)⟩
def AccPost (w : World) (S : Int → Bool) (m : Nat) (e : Ending) (w' : World) : Prop := ∃ v, e = .returned v ∧ Acc w w' S m v
theorem with_acc (w wr : World) (S : Int → Bool) (m : Nat) (v : Value) (n : Int) (h : Acc w wr S m v) (hm : m ≤ 4194304) :
    Calls Try.prog 26 #[v, .int .i64 n] wr (AccPost w (fun i => S i || decide (i = n)) (m + 1)) := by
  obtain ⟨out, h1, h2, h3, h4, h5⟩ := h
  refine (with_any out n v wr h4 (by omega)).mono ?_
  rintro e w' ⟨v', rfl, hr, hb⟩
  refine ⟨v', rfl, withL out n, ?_, with_rise out n h2, fun i => ?_, hr, h5.trans (hb.mono h5.size)⟩
  · have := withL_len out n; omega
  · rw [with_mem, h3]; simp
theorem inL_take (l : List Int) (k : Nat) (h : k < l.length) (i : Int) : inL (l.take (k + 1)) i = (inL (l.take k) i || decide (i = l.getD k 0)) := by
  have h1 : (if i = l.getD k 0 then true else inL (l.take k) i) = inL (l.take (k + 1)) i := congrFun (take_contains l k h) i
  rw [← h1]
  by_cases e : i = l.getD k 0
  · rw [if_pos e]; simp [e]
  · rw [if_neg e, decide_eq_false e, Bool.or_false]
def KeepRel (a : List Int) (P : Int → Bool) (w : World) (v5 v6 : Value) (wr : World) : Prop :=
  ∃ k : Nat, v6 = .int .i64 (k : Int) ∧ k ≤ a.length ∧ Acc w wr (fun i => inL (a.take k) i && P i) k v5
def OrRel (a b : List Int) (w : World) (v5 v7 : Value) (wr : World) : Prop :=
  ∃ k : Nat, v7 = .int .i64 (k : Int) ∧ k ≤ b.length ∧ Acc w wr (fun i => inL a i || inL (b.take k) i) (a.length + k) v5

set_option maxHeartbeats 4000000 in
set_option maxRecDepth 100000 in
theorem rand_any (A B : Option Addr) (ca cb : Nat) (a b : List Int) (w : World) (ha : Kd.C KI w A a.length a) (hca : a.length ≤ ca) (hb : Kd.C KI w B b.length b) (hcb : b.length ≤ cb) (hla : a.length ≤ 2097152) (hlb : b.length ≤ 2097152) :
    Calls Try.prog 10 #[.slice A a.length ca, .slice B b.length cb] w (AccPost w (fun i => inL a i && inL b i) a.length) := by
  have HA := Lib.hid ha
  have HB := Lib.hid hb
  clear ha hb
  go_enter Try.func10, Try.ntmps10
  go_wp2
  go_loopw [5, 6] (fun v5 v6 wr => KeepRel a (inL b) w v5 v6 wr) (fun _ v6 _ => a.length - (intOf v6).toNat)
  case atStart => exact ⟨0, rfl, Nat.zero_le _, Acc.nil _ _ (fun i => by simp [inL])⟩
  case round =>
    obtain ⟨k, rfl, hk, hacc⟩ := hrel
    have HC := Lib.hid hacc
    clear hacc
    by_cases hlt : k < a.length
    · have hki : (k : Int) < (a.length : Int) := by omega
      obtain ⟨b0, o0, rfl, hx⟩ := int_at HA.out (by omega)
      have hx0 := pw_cell_below HC.out.bel (hx k hlt)
      have HT := Lib.hid (inL_take a k hlt)
      clear hx
      generalize a.getD k 0 = x at *
      cases hin : inL b x with
      | false =>
        go_wp2_with (go_at_call 25; (refine (in_any B cb b x wr (Kd.C_below HB.out HC.out.bel) hcb (by omega)).mono ?_); rintro e w2 ⟨rfl, hd⟩; rw [hin]; have HB2 := Lib.hid hd.below; clear hd)
        go_roundw
        case rel => exact ⟨k + 1, by go_num, by omega, (HC.out.to HB2.out).as (by omega) (fun i => by
          rw [HT.out]
          by_cases e : i = x
          · subst e; simp [hin]
          · simp [e])⟩
        case measure => simp [intOf]; omega
      | true =>
        go_wp2_with (first
          | (go_at_call 25; (refine (in_any B cb b x wr (Kd.C_below HB.out HC.out.bel) hcb (by omega)).mono ?_); rintro e w2 ⟨rfl, hd⟩; rw [hin]; have HB2 := Lib.hid hd.below; have hx1 := pw_cell_below hd.below hx0; clear hd)
          | (go_at_call 26; (refine (with_acc w w2 _ k _ x (HC.out.to HB2.out) (by omega)).mono ?_); rintro e w3 ⟨v3, rfl, hacc3⟩; have HC3 := Lib.hid hacc3; clear hacc3))
        go_roundw
        case rel => exact ⟨k + 1, by go_num, by omega, HC3.out.as (by omega) (fun i => by
          rw [HT.out]
          by_cases e : i = x
          · subst e; simp [hin]
          · simp [e])⟩
        case measure => simp [intOf]; omega
    · have hki : ¬ (k : Int) < (a.length : Int) := by omega
      obtain rfl : k = a.length := by omega
      go_wp2
      go_ret
      exact ⟨_, rfl, HC.out.as (Nat.le_refl _) (fun i => by rw [List.take_of_length_le (Nat.le_refl _)])⟩
set_option maxHeartbeats 4000000 in
set_option maxRecDepth 100000 in
theorem rnot_any (A B : Option Addr) (ca cb : Nat) (a b : List Int) (w : World) (ha : Kd.C KI w A a.length a) (hca : a.length ≤ ca) (hb : Kd.C KI w B b.length b) (hcb : b.length ≤ cb) (hla : a.length ≤ 2097152) (hlb : b.length ≤ 2097152) :
    Calls Try.prog 14 #[.slice A a.length ca, .slice B b.length cb] w (AccPost w (fun i => inL a i && !inL b i) a.length) := by
  have HA := Lib.hid ha
  have HB := Lib.hid hb
  clear ha hb
  go_enter Try.func14, Try.ntmps14
  go_wp2
  go_loopw [5, 6] (fun v5 v6 wr => KeepRel a (fun i => !inL b i) w v5 v6 wr) (fun _ v6 _ => a.length - (intOf v6).toNat)
  case atStart => exact ⟨0, rfl, Nat.zero_le _, Acc.nil _ _ (fun i => by simp [inL])⟩
  case round =>
    obtain ⟨k, rfl, hk, hacc⟩ := hrel
    have HC := Lib.hid hacc
    clear hacc
    by_cases hlt : k < a.length
    · have hki : (k : Int) < (a.length : Int) := by omega
      obtain ⟨b0, o0, rfl, hx⟩ := int_at HA.out (by omega)
      have hx0 := pw_cell_below HC.out.bel (hx k hlt)
      have HT := Lib.hid (inL_take a k hlt)
      clear hx
      generalize a.getD k 0 = x at *
      cases hin : inL b x with
      | true =>
        go_wp2_with (go_at_call 25; (refine (in_any B cb b x wr (Kd.C_below HB.out HC.out.bel) hcb (by omega)).mono ?_); rintro e w2 ⟨rfl, hd⟩; rw [hin]; have HB2 := Lib.hid hd.below; clear hd)
        go_roundw
        case rel => exact ⟨k + 1, by go_num, by omega, (HC.out.to HB2.out).as (by omega) (fun i => by
          rw [HT.out]
          by_cases e : i = x
          · subst e; simp [hin]
          · simp [e])⟩
        case measure => simp [intOf]; omega
      | false =>
        go_wp2_with (first
          | (go_at_call 25; (refine (in_any B cb b x wr (Kd.C_below HB.out HC.out.bel) hcb (by omega)).mono ?_); rintro e w2 ⟨rfl, hd⟩; rw [hin]; have HB2 := Lib.hid hd.below; have hx1 := pw_cell_below hd.below hx0; clear hd)
          | (go_at_call 26; (refine (with_acc w w2 _ k _ x (HC.out.to HB2.out) (by omega)).mono ?_); rintro e w3 ⟨v3, rfl, hacc3⟩; have HC3 := Lib.hid hacc3; clear hacc3))
        go_roundw
        case rel => exact ⟨k + 1, by go_num, by omega, HC3.out.as (by omega) (fun i => by
          rw [HT.out]
          by_cases e : i = x
          · subst e; simp [hin]
          · simp [e])⟩
        case measure => simp [intOf]; omega
    · have hki : ¬ (k : Int) < (a.length : Int) := by omega
      obtain rfl : k = a.length := by omega
      go_wp2
      go_ret
      exact ⟨_, rfl, HC.out.as (Nat.le_refl _) (fun i => by rw [List.take_of_length_le (Nat.le_refl _)])⟩
set_option maxHeartbeats 4000000 in
set_option maxRecDepth 100000 in
theorem ror_any (A B : Option Addr) (ca cb : Nat) (a b : List Int) (w : World) (ha : Kd.C KI w A a.length a) (hca : a.length ≤ ca) (hb : Kd.C KI w B b.length b) (hcb : b.length ≤ cb) (hla : a.length ≤ 2097152) (hlb : b.length ≤ 2097152) :
    Calls Try.prog 12 #[.slice A a.length ca, .slice B b.length cb] w (AccPost w (fun i => inL a i || inL b i) (a.length + b.length)) := by
  have HA := Lib.hid ha
  have HB := Lib.hid hb
  clear ha hb
  go_enter Try.func12, Try.ntmps12
  go_wp2
  go_loopw [5, 6] (fun v5 v6 wr => KeepRel a (fun _ => true) w v5 v6 wr) (fun _ v6 _ => a.length - (intOf v6).toNat)
  case atStart => exact ⟨0, rfl, Nat.zero_le _, Acc.nil _ _ (fun i => by simp [inL])⟩
  case round =>
    obtain ⟨k, rfl, hk, hacc⟩ := hrel
    have HC := Lib.hid hacc
    clear hacc
    by_cases hlt : k < a.length
    · have hki : (k : Int) < (a.length : Int) := by omega
      obtain ⟨b0, o0, rfl, hx⟩ := int_at HA.out (by omega)
      have hx0 := pw_cell_below HC.out.bel (hx k hlt)
      have HT := Lib.hid (inL_take a k hlt)
      clear hx
      generalize a.getD k 0 = x at *
      go_wp2_with (go_at_call 26; (refine (with_acc w wr _ k _ x HC.out (by omega)).mono ?_); rintro e w3 ⟨v3, rfl, hacc3⟩; have HC3 := Lib.hid hacc3; clear hacc3)
      go_roundw
      case rel => exact ⟨k + 1, by go_num, by omega, HC3.out.as (by omega) (fun i => by rw [HT.out]; simp)⟩
      case measure => simp [intOf]; omega
    · have hki : ¬ (k : Int) < (a.length : Int) := by omega
      obtain rfl : k = a.length := by omega
      go_wp2
      go_loopw [5, 7] (fun v5 v7 wr => OrRel a b w v5 v7 wr) (fun _ v7 _ => b.length - (intOf v7).toNat)
      case atStart => exact ⟨0, rfl, Nat.zero_le _, HC.out.as (Nat.le_refl _) (fun i => by rw [List.take_of_length_le (Nat.le_refl _)]; simp [inL])⟩
      case round =>
        obtain ⟨k, rfl, hk, hacc⟩ := hrel
        have HC := Lib.hid hacc
        clear hacc
        by_cases hlt : k < b.length
        · have hki : (k : Int) < (b.length : Int) := by omega
          obtain ⟨b0, o0, rfl, hx⟩ := int_at HB.out (by omega)
          have hx0 := pw_cell_below HC.out.bel (hx k hlt)
          have HT := Lib.hid (inL_take b k hlt)
          clear hx
          generalize b.getD k 0 = x at *
          go_wp2_with (go_at_call 26; (refine (with_acc w wr _ (a.length + k) _ x HC.out (by omega)).mono ?_); rintro e w3 ⟨v3, rfl, hacc3⟩; have HC3 := Lib.hid hacc3; clear hacc3)
          go_roundw
          case rel => exact ⟨k + 1, by go_num, by omega, HC3.out.as (by omega) (fun i => by rw [HT.out, Bool.or_assoc])⟩
          case measure => simp [intOf]; omega
        · have hki : ¬ (k : Int) < (b.length : Int) := by omega
          obtain rfl : k = b.length := by omega
          go_wp2
          go_ret
          exact ⟨_, rfl, HC.out.as (Nat.le_refl _) (fun i => by rw [List.take_of_length_le (Nat.le_refl _)])⟩
end Go.Proofs.Ytojocffjajcdmaa
namespace Go.Proofs.Ytojocffjajcdmaa
open Go.RowKit Go.Maps Go.Proofs.YtojocffjajcdmaaW.PrintWords Go.Proofs.YtojocffjajcdmaaW.PrintLast Go.Proofs.YtojocffjajcdmaaW.PrintMore PPostingsLists
set_option linter.unusedVariables false
set_option linter.unusedSimpArgs false

theorem nodup_len (r l : List Int) (hn : r.Nodup) (hs : ∀ i ∈ r, i ∈ l) : r.length ≤ l.length := by
  induction r generalizing l with
  | nil => exact Nat.zero_le _
  | cons x r ih =>
    have hx := hs x List.mem_cons_self
    have h1 := ih (l.erase x) (List.nodup_cons.1 hn).2 (fun i hi => by
      have hne : i ≠ x := fun e => (List.nodup_cons.1 hn).1 (e ▸ hi)
      exact (List.mem_erase_of_ne hne).2 (hs i (List.mem_cons_of_mem _ hi)))
    have h2 := List.length_erase_of_mem hx
    have h3 := List.length_pos_of_mem hx
    simp only [List.length_cons]
    omega
theorem mem_inL {l : List Int} {i : Int} : inL l i = true ↔ i ∈ l := by simp [inL]
theorem pick_sub {f : Bool → Bool → Bool} {a b r : List Int} (h : isPick f a b r) : ∀ i ∈ r, i ∈ a ∨ i ∈ b := fun i hi => by
  have h1 := ((h.2 i).1 hi).1
  rw [Bool.or_eq_true, mem_inL, mem_inL] at h1
  exact h1
theorem pick_len {f : Bool → Bool → Bool} {a b r : List Int} (h : isPick f a b r) : r.length ≤ a.length + b.length := by
  have := nodup_len r (a ++ b) (h.1.imp (fun {x y} hxy e => by omega)) (fun i hi => List.mem_append.2 (pick_sub h i hi))
  simpa using this
theorem pick_wf {f : Bool → Bool → Bool} {a b r : List Int} (h : isPick f a b r) (ha : WfL a) (hb : WfL b) : WfL r := fun i hi => by
  rcases pick_sub h i hi with h1 | h1
  · exact ha i h1
  · exact hb i h1

abbrev Row1 := Option Addr × Nat × List Int
structure Rs (N : Nat) (w : World) (t : Row1) : Prop where
  C : Kd.C KI w t.1 t.2.2.length t.2.2
  cap : t.2.2.length ≤ t.2.1
  wf : WfL t.2.2
  len : t.2.2.length ≤ N
def Has (N : Nat) (w : World) (L : List Row1) : Prop := ∀ t ∈ L, Rs N w t
theorem Has.below {N : Nat} {w w' : World} {L : List Row1} (h : Has N w L) (hb : Below w.heap.size w w') : Has N w' L := fun t ht =>
  ⟨Kd.C_below (h t ht).C hb, (h t ht).cap, (h t ht).wf, (h t ht).len⟩
theorem Has.more {N M : Nat} {w : World} {L : List Row1} (h : Has N w L) (hm : N ≤ M) : Has M w L := fun t ht =>
  ⟨(h t ht).C, (h t ht).cap, (h t ht).wf, Nat.le_trans (h t ht).len hm⟩
theorem Has.cons {N : Nat} {w : World} {L : List Row1} {t : Row1} (h : Has N w L) (ht : Rs N w t) : Has N w (t :: L) := fun u hu => by
  rcases List.mem_cons.1 hu with rfl | hu
  · exact ht
  · exact h u hu
def PkPost (f : Bool → Bool → Bool) (a b : List Int) (N : Nat) (w : World) (L : List Row1) (e : Ending) (w' : World) : Prop :=
  ∃ A' c' r, e = .returned (.slice A' r.length c') ∧ isPick f a b r ∧ Has (2 * N) w' ((A', c', r) :: L) ∧ Below w.heap.size w w'
theorem pk_of_res {f : Bool → Bool → Bool} {a b : List Int} {N : Nat} {w w' : World} {L : List Row1} {A B : Option Addr} {ca cb : Nat} {e : Ending} (hL : Has N w L) (ha : (A, ca, a) ∈ L) (hb : (B, cb, b) ∈ L) (h : PickRes f a b w e w') : PkPost f a b N w L e w' := by
  obtain ⟨r, hp, hw, v, rfl, hr, hbl⟩ := h
  obtain ⟨A', c', rfl, hc, hC⟩ := Kd.R_reads hr
  have h1 := (hL _ ha).len
  have h2 := (hL _ hb).len
  have h3 := pick_len hp
  exact ⟨A', c', r, rfl, hp, ((hL.below hbl).more (by omega)).cons ⟨hC, hc, hw, by simp only at h1 h2 ⊢; omega⟩, hbl⟩
theorem pk_of_acc {f : Bool → Bool → Bool} {S : Int → Bool} {m : Nat} {a b : List Int} {N : Nat} {w w' : World} {L : List Row1} {A B : Option Addr} {ca cb : Nat} {e : Ending} (hL : Has N w L) (ha : (A, ca, a) ∈ L) (hb : (B, cb, b) ∈ L)
    (hS : ∀ i, S i = ((inL a i || inL b i) && f (inL a i) (inL b i))) (h : AccPost w S m e w') : PkPost f a b N w L e w' := by
  obtain ⟨v, rfl, out, ho1, ho2, ho3, ⟨A', c', rfl, hC, hc, _⟩, hbl⟩ := h
  have hp : isPick f a b out := ⟨ho2, fun i => by rw [ho3, hS, Bool.and_eq_true]⟩
  have h1 := (hL _ ha).len
  have h2 := (hL _ hb).len
  have h3 := pick_len hp
  exact ⟨A', c', out, rfl, hp, ((hL.below hbl).more (by omega)).cons ⟨hC, hc, pick_wf hp (hL _ ha).wf (hL _ hb).wf, by simp only at h1 h2 ⊢; omega⟩, hbl⟩

def fAnd (x y : Bool) : Bool := x && y
def fOr (x y : Bool) : Bool := x || y
def fNot (x y : Bool) : Bool := x && !y
theorem fits24 (x y : Bool) (W : World) : Calls Try.prog 24 #[.bool x, .bool y] W fun e w' => e = .returned (.bool (fAnd x y)) ∧ W = w' := by
  cases x <;> cases y <;> (go_enter Try.func24, Try.ntmps24; go_wp2; go_ret; exact ⟨rfl, rfl⟩)
theorem fits27 (x y : Bool) (W : World) : Calls Try.prog 27 #[.bool x, .bool y] W fun e w' => e = .returned (.bool (fOr x y)) ∧ W = w' := by
  cases x <;> cases y <;> (go_enter Try.func27, Try.ntmps27; go_wp2; go_ret; exact ⟨rfl, rfl⟩)
theorem fits28 (x y : Bool) (W : World) : Calls Try.prog 28 #[.bool x, .bool y] W fun e w' => e = .returned (.bool (fNot x y)) ∧ W = w' := by
  cases x <;> cases y <;> (go_enter Try.func28, Try.ntmps28; go_wp2; go_ret; exact ⟨rfl, rfl⟩)
theorem enter24 (args : Array Value) (w : World) : (callFunc 24 args).run Try.prog w = .ok (.enter 24 args) w := by kernel_rfl
theorem enter27 (args : Array Value) (w : World) : (callFunc 27 args).run Try.prog w = .ok (.enter 27 args) w := by kernel_rfl
theorem enter28 (args : Array Value) (w : World) : (callFunc 28 args).run Try.prog w = .ok (.enter 28 args) w := by kernel_rfl
theorem pick_call (g : Nat) (f : Bool → Bool → Bool) (eg : ∀ args w, (callFunc g args).run Try.prog w = .ok (.enter g args) w) (hf : ∀ x y W, Calls Try.prog g #[.bool x, .bool y] W fun e w' => e = .returned (.bool (f x y)) ∧ W = w')
    {N : Nat} {w : World} {L : List Row1} (A B : Option Addr) (ca cb : Nat) (a b : List Int) (hL : Has N w L) (hN : N ≤ 1099511627776) (ha : (A, ca, a) ∈ L) (hb : (B, cb, b) ∈ L) :
    Calls Try.prog 23 #[.slice A a.length ca, .slice B b.length cb, .func (.func g) #[] #[]] w (PkPost f a b N w L) := by
  have h1 := (hL _ ha).len
  have h2 := (hL _ hb).len
  simp only at h1 h2
  exact (picked_any g f A B ca cb a b w eg hf (hL _ ha).C (hL _ hb).C (by omega) (by omega) (hL _ ha).wf (hL _ hb).wf (by omega)).mono (fun e w' h => pk_of_res hL ha hb h)

set_option maxRecDepth 100000 in
theorem and_any {N : Nat} {w : World} {L : List Row1} (A B : Option Addr) (ca cb : Nat) (a b : List Int) (hL : Has N w L) (hN : N ≤ 1099511627776) (ha : (A, ca, a) ∈ L) (hb : (B, cb, b) ∈ L) :
    Calls Try.prog 9 #[.slice A a.length ca, .slice B b.length cb] w (PkPost fAnd a b N w L) := by
  have H := Lib.hid (pick_call 24 fAnd enter24 fits24 A B ca cb a b hL hN ha hb)
  clear hL ha hb
  go_enter Try.func9, Try.ntmps9
  go_wp2_with (go_at_call 23; (refine H.out.mono ?_); rintro e w2 ⟨A', c', r, rfl, hp⟩; have HP := Lib.hid hp; clear hp)
  go_ret
  exact ⟨A', c', r, rfl, HP.out⟩
set_option maxRecDepth 100000 in
theorem or_any {N : Nat} {w : World} {L : List Row1} (A B : Option Addr) (ca cb : Nat) (a b : List Int) (hL : Has N w L) (hN : N ≤ 1099511627776) (ha : (A, ca, a) ∈ L) (hb : (B, cb, b) ∈ L) :
    Calls Try.prog 11 #[.slice A a.length ca, .slice B b.length cb] w (PkPost fOr a b N w L) := by
  have H := Lib.hid (pick_call 27 fOr enter27 fits27 A B ca cb a b hL hN ha hb)
  clear hL ha hb
  go_enter Try.func11, Try.ntmps11
  go_wp2_with (go_at_call 23; (refine H.out.mono ?_); rintro e w2 ⟨A', c', r, rfl, hp⟩; have HP := Lib.hid hp; clear hp)
  go_ret
  exact ⟨A', c', r, rfl, HP.out⟩
set_option maxRecDepth 100000 in
theorem not_any {N : Nat} {w : World} {L : List Row1} (A B : Option Addr) (ca cb : Nat) (a b : List Int) (hL : Has N w L) (hN : N ≤ 1099511627776) (ha : (A, ca, a) ∈ L) (hb : (B, cb, b) ∈ L) :
    Calls Try.prog 13 #[.slice A a.length ca, .slice B b.length cb] w (PkPost fNot a b N w L) := by
  have H := Lib.hid (pick_call 28 fNot enter28 fits28 A B ca cb a b hL hN ha hb)
  clear hL ha hb
  go_enter Try.func13, Try.ntmps13
  go_wp2_with (go_at_call 23; (refine H.out.mono ?_); rintro e w2 ⟨A', c', r, rfl, hp⟩; have HP := Lib.hid hp; clear hp)
  go_ret
  exact ⟨A', c', r, rfl, HP.out⟩
theorem rand_has {N : Nat} {w : World} {L : List Row1} (A B : Option Addr) (ca cb : Nat) (a b : List Int) (hL : Has N w L) (h2a : a.length ≤ 2097152) (h2b : b.length ≤ 2097152) (ha : (A, ca, a) ∈ L) (hb : (B, cb, b) ∈ L) :
    Calls Try.prog 10 #[.slice A a.length ca, .slice B b.length cb] w (PkPost fAnd a b N w L) :=
  (rand_any A B ca cb a b w (hL _ ha).C (hL _ ha).cap (hL _ hb).C (hL _ hb).cap h2a h2b).mono (fun e w' h => pk_of_acc hL ha hb (fun i => by unfold fAnd; cases inL a i <;> cases inL b i <;> rfl) h)
theorem ror_has {N : Nat} {w : World} {L : List Row1} (A B : Option Addr) (ca cb : Nat) (a b : List Int) (hL : Has N w L) (h2a : a.length ≤ 2097152) (h2b : b.length ≤ 2097152) (ha : (A, ca, a) ∈ L) (hb : (B, cb, b) ∈ L) :
    Calls Try.prog 12 #[.slice A a.length ca, .slice B b.length cb] w (PkPost fOr a b N w L) :=
  (ror_any A B ca cb a b w (hL _ ha).C (hL _ ha).cap (hL _ hb).C (hL _ hb).cap h2a h2b).mono (fun e w' h => pk_of_acc hL ha hb (fun i => by unfold fOr; cases inL a i <;> cases inL b i <;> rfl) h)
theorem rnot_has {N : Nat} {w : World} {L : List Row1} (A B : Option Addr) (ca cb : Nat) (a b : List Int) (hL : Has N w L) (h2a : a.length ≤ 2097152) (h2b : b.length ≤ 2097152) (ha : (A, ca, a) ∈ L) (hb : (B, cb, b) ∈ L) :
    Calls Try.prog 14 #[.slice A a.length ca, .slice B b.length cb] w (PkPost fNot a b N w L) :=
  (rnot_any A B ca cb a b w (hL _ ha).C (hL _ ha).cap (hL _ hb).C (hL _ hb).cap h2a h2b).mono (fun e w' h => pk_of_acc hL ha hb (fun i => by unfold fNot; cases inL a i <;> cases inL b i <;> rfl) h)

/-! ### Ints, Right -/
theorem ints_l0 (a b : List Int) (hl : a.length = b.length) (hN : a.length ≤ 17592186044416) : ∀ m j : Nat, m + j = a.length → icehouselaw05_Ints.l0 (m + 1) a b (j : Int) = some (decide (a.drop j = b.drop j)) := by
  intro m
  induction m with
  | zero =>
    intro j hj
    have e1 : a.drop j = [] := List.drop_eq_nil_of_le (by omega)
    have e2 : b.drop j = [] := List.drop_eq_nil_of_le (by omega)
    rw [e1, e2, icehouselaw05_Ints.l0, if_neg (by omega)]
    rfl
  | succ m ih =>
    intro j hj
    rw [icehouselaw05_Ints.l0, if_pos (by omega), if_pos (by omega), if_pos (by omega)]
    have hja : j < a.length := by omega
    have hjb : j < b.length := by omega
    have ea : rd a (j : Int) = a[j] := by unfold rd; simp [hja]
    have eb : rd b (j : Int) = b[j] := by unfold rd; simp [hjb]
    rw [ea, eb, List.drop_eq_getElem_cons hja, List.drop_eq_getElem_cons hjb]
    split
    · rename_i h
      rw [w64 (by omega) (by omega)]
      have := ih (j + 1) (by omega)
      rw [show ((j : Int) + 1) = ((j + 1 : Nat) : Int) by omega, this, h]
      refine congrArg some (decide_eq_decide.2 ⟨fun e => by rw [e], fun e => (List.cons.inj e).2⟩)
    · rename_i h
      refine congrArg some (decide_eq_false (fun e => h (List.cons.inj e).1)).symm
def BlPost (r : Bool) (N : Nat) (w : World) (L : List Row1) (e : Ending) (w' : World) : Prop := e = .returned (.bool r) ∧ Has N w' L ∧ Below w.heap.size w w'
theorem ints_any {N : Nat} {w : World} {L : List Row1} (A B : Option Addr) (ca cb : Nat) (a b : List Int) (hL : Has N w L) (hN : N ≤ 1099511627776) (ha : (A, ca, a) ∈ L) (hb : (B, cb, b) ∈ L) :
    Calls Try.prog 8 #[.slice A a.length ca, .slice B b.length cb] w (BlPost (decide (a = b)) N w L) := by
  refine (icehouselaw05_Ints.calls (a.length + 1) A ca a B cb b (decide (a = b)) w (hL _ ha).C (hL _ ha).cap (hL _ hb).C (hL _ hb).cap ?_).mono (fun e w' h => ⟨h.1, hL.below h.2.below, h.2.below⟩)
  have h1 := (hL _ ha).len
  simp only at h1
  unfold icehouselaw05_Ints.f
  by_cases hl : a.length = b.length
  · rw [if_pos (by omega)]
    exact ints_l0 a b hl (by omega) a.length 0 rfl
  · rw [if_neg (by omega)]
    have : a ≠ b := fun e => hl (by rw [e])
    simp [this]
theorem right_eq (x : List Int) : ∀ (k : Nat) (i : Int), postings_Right.l0 k x x (x.length : Int) i = icehouseref05_Right.l0 k x i := by
  intro k
  induction k with
  | zero => intro i; rfl
  | succ k ih =>
    intro i
    rw [postings_Right.l0, icehouseref05_Right.l0]
    by_cases h : i < (x.length : Int)
    · simp only [if_pos h, ih]
    · simp only [if_neg h]
theorem right_ends (x : List Int) (hN : x.length ≤ 17592186044416) : ∀ m j : Nat, m + j = x.length → ∃ r, icehouseref05_Right.l0 (m + 1) x (j : Int) = some r := by
  intro m
  induction m with
  | zero => intro j hj; rw [icehouseref05_Right.l0, if_neg (by omega)]; exact ⟨_, rfl⟩
  | succ m ih =>
    intro j hj
    rw [icehouseref05_Right.l0, if_pos (by omega), if_pos (by omega)]
    have hs : ∃ r, icehouseref05_Right.l0 (m + 1) x (wrap64 ((j : Int) + 1)) = some r := by
      rw [w64 (by omega) (by omega)]
      exact ih (j + 1) (by omega)
    split
    · exact ⟨_, rfl⟩
    · split
      · exact ⟨_, rfl⟩
      · split
        · rename_i h0
          have e : wrap64 ((j : Int) - 1) = (j : Int) - 1 := w64 (by omega) (by omega)
          rw [e, if_pos (by omega), if_pos (by omega)]
          split
          · exact ⟨_, rfl⟩
          · exact hs
        · exact hs
theorem right_ex {N : Nat} {w : World} {L : List Row1} {A : Option Addr} {ca : Nat} {a : List Int} (hL : Has N w L) (hN : N ≤ 1099511627776) (ha : (A, ca, a) ∈ L) : ∃ r, icehouseref05_Right.f (a.length + 1) a = some r ∧ postings_Right.f (a.length + 1) a = some r := by
  have h1 := (hL _ ha).len
  simp only at h1
  obtain ⟨r, hr⟩ := right_ends a (by omega) a.length 0 rfl
  refine ⟨r, hr, ?_⟩
  unfold postings_Right.f
  rw [right_eq]
  exact hr
theorem rright_any {N : Nat} {w : World} {L : List Row1} (A : Option Addr) (ca : Nat) (a : List Int) (r : Bool) (h : icehouseref05_Right.f (a.length + 1) a = some r) (hL : Has N w L) (ha : (A, ca, a) ∈ L) : Calls Try.prog 7 #[.slice A a.length ca] w (BlPost r N w L) :=
  (icehouseref05_Right.calls _ A ca a r w (hL _ ha).C (hL _ ha).cap h).mono (fun e w' h => ⟨h.1, hL.below h.2.below, h.2.below⟩)
theorem right_any {N : Nat} {w : World} {L : List Row1} (A : Option Addr) (ca : Nat) (a : List Int) (r : Bool) (h : postings_Right.f (a.length + 1) a = some r) (hL : Has N w L) (ha : (A, ca, a) ∈ L) : Calls Try.prog 6 #[.slice A a.length ca] w (BlPost r N w L) :=
  (postings_Right.calls _ A ca a r w (hL _ ha).C (hL _ ha).cap h).mono (fun e w' h => ⟨h.1, hL.below h.2.below, h.2.below⟩)
end Go.Proofs.Ytojocffjajcdmaa
namespace Go.Proofs.Ytojocffjajcdmaa
open Go.RowKit Go.Maps Go.Proofs.YtojocffjajcdmaaW.PrintWords Go.Proofs.YtojocffjajcdmaaW.PrintLast Go.Proofs.YtojocffjajcdmaaW.PrintMore PPostingsLists
set_option linter.unusedVariables false
set_option linter.unusedSimpArgs false

theorem put0 : postings_Put.f 20 [5, 6, 9] = some ([3, 5, 0, 2], 0) := by kernel_rfl
theorem str0 : strOfNums [3, 5, 0, 2] = ⟨#[3, 5, 0, 2]⟩ := by rfl
theorem lit_C (w : World) (l : List Int) (hl : l.length ≤ 4611686018427387904) : Kd.C KI (w.alloc (.cells (zc l).toArray 3)) (some ⟨w.heap.size, 0, none⟩) l.length l := by
  refine Kd.C_of_reads (enc := Value.int .i64) (d := (0 : Int)) (h1 := fun _ => rfl) ?_
  refine ⟨rfl, by omega, fun _ => ⟨_, rfl, fun j hj => ?_⟩⟩
  rw [addr_add, Nat.zero_add]
  exact (Blk.new w (zc l).toArray 3 _ rfl).cell j _ (by simp [hj])
theorem lit_Rs {N : Nat} (w : World) (l : List Int) (hw : WfL l) (hl : l.length ≤ N) (hN : N ≤ 1099511627776) : Rs N (w.alloc (.cells (zc l).toArray 3)) (some ⟨w.heap.size, 0, none⟩, l.length, l) :=
  ⟨lit_C w l (by omega), Nat.le_refl _, hw, hl⟩
set_option maxRecDepth 100000 in
theorem lit_has {N : Nat} {w : World} {L : List Row1} (l : List Int) (hw : WfL l) (hl : l.length ≤ N) (hN : N ≤ 1099511627776) (hL : Has N w L) : Has N (w.alloc (.cells (zc l).toArray 3)) ((some ⟨w.heap.size, 0, none⟩, l.length, l) :: L) :=
  (hL.below (below_alloc (Below.refl _ _) _)).cons (lit_Rs w l hw hl hN)
theorem pick_eq {f : Bool → Bool → Bool} {a b r : List Int} (h : isPick f a b r) (r' : List Int) (h' : isPick f a b r') : decide (r = r') = true := decide_eq_true (pick_unique h h')
theorem pick1 : isPick fAnd [1, 3, 5] [3, 4, 5] [3, 5] := ⟨by decide, fun i => by simp [inL, fAnd]; omega⟩
theorem pick2 : isPick fNot [1, 3] [3] [1] := ⟨by decide, fun i => by simp [inL, fNot]; omega⟩

theorem num_any (n : Int) (w : World) : Calls Try.prog 21 #[.int .i64 n] w fun e w' => e = .returned (.int .i64 n) ∧ w' = w := by
  go_enter Try.func21, Try.ntmps21
  go_wp2
  go_ret
  exact ⟨rfl, rfl⟩
theorem wf1 : WfL [1, 3, 5] := fun x hx => by simp at hx; omega
theorem wf2 : WfL [3, 4, 5] := fun x hx => by simp at hx; omega
theorem wf3 : WfL [3, 5] := fun x hx => by simp at hx; omega
theorem wf4 : WfL [1, 3] := fun x hx => by simp at hx; omega
theorem wf5 : WfL [3] := fun x hx => by simp at hx; omega
theorem wf6 : WfL [1] := fun x hx => by simp at hx; omega
def Bl (r : Bool) (w : World) (e : Ending) (w' : World) : Prop := e = .returned (.bool r) ∧ Below w.heap.size w w'
theorem bel {w w1 w2 : World} (h : Below w.heap.size w w1) (h2 : Below w1.heap.size w1 w2) : Below w.heap.size w w2 := h.trans (h2.mono h.size)
theorem lit_at {w : World} (l : List Int) (hw : WfL l) (hl : l.length ≤ 8) (L : List Row1) (hL : Has 8 w L) : Has 8 (w.alloc (.cells (zc l).toArray 3)) ((some ⟨w.heap.size, 0, none⟩, l.length, l) :: L) := lit_has l hw hl (by omega) hL
def KnPost (r : List Int) (w : World) (e : Ending) (w' : World) : Prop := ∃ A c, e = .returned (.slice A r.length c) ∧ Has 16 w' [(A, c, r)] ∧ Below w.heap.size w w'
theorem has_one {N : Nat} {w : World} {t : Row1} {L : List Row1} (h : Has N w (t :: L)) : Has N w [t] := fun u hu => h u (by simp at hu; simp [hu])
theorem know_and (W : World) : Calls Try.prog 9 #[.slice (some ⟨W.heap.size, 0, none⟩) 3 3, .slice (some ⟨W.heap.size + 1, 0, none⟩) 3 3] ((W.alloc (.cells #[.int .i64 1, .int .i64 3, .int .i64 5] 3)).alloc (.cells #[.int .i64 3, .int .i64 4, .int .i64 5] 3)) (KnPost [3, 5] W) := by
  have h := lit_at [3, 4, 5] wf2 (by decide) _ (lit_at [1, 3, 5] wf1 (by decide) [] (w := W) (fun t ht => by cases ht))
  rw [show (W.alloc (.cells (zc [1, 3, 5]).toArray 3)).heap.size = W.heap.size + 1 by simp] at h
  have h2 := and_any (some ⟨W.heap.size, 0, none⟩) (some ⟨W.heap.size + 1, 0, none⟩) 3 3 [1, 3, 5] [3, 4, 5] h (by omega) (.tail _ (.head _)) (.head _)
  refine h2.mono ?_
  rintro e w' ⟨A, c, r, rfl, hp, hL, hb⟩
  have hr := pick_unique hp pick1
  subst hr
  exact ⟨A, c, rfl, has_one hL, bel (below_alloc (below_alloc (Below.refl _ _) _) _) hb⟩
theorem know_not (W : World) : Calls Try.prog 13 #[.slice (some ⟨W.heap.size, 0, none⟩) 2 2, .slice (some ⟨W.heap.size + 1, 0, none⟩) 1 1] ((W.alloc (.cells #[.int .i64 1, .int .i64 3] 3)).alloc (.cells #[.int .i64 3] 3)) (KnPost [1] W) := by
  have h := lit_at [3] wf5 (by decide) _ (lit_at [1, 3] wf4 (by decide) [] (w := W) (fun t ht => by cases ht))
  rw [show (W.alloc (.cells (zc [1, 3]).toArray 3)).heap.size = W.heap.size + 1 by simp] at h
  have h2 := not_any (some ⟨W.heap.size, 0, none⟩) (some ⟨W.heap.size + 1, 0, none⟩) 2 1 [1, 3] [3] h (by omega) (.tail _ (.head _)) (.head _)
  refine h2.mono ?_
  rintro e w' ⟨A, c, r, rfl, hp, hL, hb⟩
  have hr := pick_unique hp pick2
  subst hr
  exact ⟨A, c, rfl, has_one hL, bel (below_alloc (below_alloc (Below.refl _ _) _) _) hb⟩
theorem know_ints1 (W : World) (A : Option Addr) (c : Nat) (hL : Has 16 W [(A, c, [3, 5])]) : Calls Try.prog 8 #[.slice A 2 c, .slice (some ⟨W.heap.size, 0, none⟩) 2 2] (W.alloc (.cells #[.int .i64 3, .int .i64 5] 3)) (Bl true W) := by
  have h2 := ints_any A (some ⟨W.heap.size, 0, none⟩) c 2 [3, 5] [3, 5] (lit_has (w := W) [3, 5] wf3 (by decide) (by omega) hL) (by omega) (.tail _ (.head _)) (.head _)
  exact h2.mono (fun e w' h => ⟨h.1, bel (below_alloc (Below.refl _ _) _) h.2.2⟩)
theorem know_ints2 (W : World) (A : Option Addr) (c : Nat) (hL : Has 16 W [(A, c, [1])]) : Calls Try.prog 8 #[.slice A 1 c, .slice (some ⟨W.heap.size, 0, none⟩) 1 1] (W.alloc (.cells #[.int .i64 1] 3)) (Bl true W) := by
  have h2 := ints_any A (some ⟨W.heap.size, 0, none⟩) c 1 [1] [1] (lit_has (w := W) [1] wf6 (by decide) (by omega) hL) (by omega) (.tail _ (.head _)) (.head _)
  exact h2.mono (fun e w' h => ⟨h.1, bel (below_alloc (Below.refl _ _) _) h.2.2⟩)
theorem know_put (W : World) : Calls Try.prog 17 #[.slice (some ⟨W.heap.size, 0, none⟩) 3 3] (W.alloc (.cells #[.int .i64 5, .int .i64 6, .int .i64 9] 3)) fun e w' => ∃ A c, e = .returned (.tuple #[.slice A 4 c, .int .i64 0]) ∧ (convert 28 9 (.slice A 4 c)).run Try.prog w' = .ok (.string ⟨#[3, 5, 0, 2]⟩) w' ∧ Below W.heap.size W w' := by
  have h := postings_Put.calls 20 (some ⟨W.heap.size, 0, none⟩) 3 [5, 6, 9] [3, 5, 0, 2] 0 (W.alloc (.cells (zc [5, 6, 9]).toArray 3)) (lit_C W _ (by decide)) (Nat.le_refl _) put0
  refine h.mono ?_
  rintro e w2 ⟨v, rfl, ho, hb⟩
  obtain ⟨Ac, qc, rfl⟩ := Kd.R_slice ho
  have h := Kd.C_string (P := Try.prog) (A := Ac) (c := qc) Try.underlying28 Try.underlying5 Try.underlying9 (Kd.R_reads' ho).2.2
  rw [str0] at h
  exact ⟨Ac, qc, rfl, h, bel (below_alloc (Below.refl _ _) _) hb⟩

set_option maxHeartbeats 2000000 in
set_option maxRecDepth 100000 in
theorem knows_any (w : World) : Calls Try.prog 15 #[] w (Bl true w) := by
  go_enter Try.func15, Try.ntmps15
  go_wp2_with (first
    | (go_at_call 17; (with_reducible refine (know_put _).mono ?_); rintro e w2 ⟨A2, c2, rfl, hcv, hb⟩; have HB2 := Lib.hid hb; clear hb)
    | (go_at_call 21; (with_reducible refine (num_any _ _).mono ?_); rintro e w2 ⟨rfl, rfl⟩)
    | (go_at_call 9; (with_reducible refine (know_and _).mono ?_); rintro e w3 ⟨A3, c3, rfl, hL, hb⟩; have HL3 := Lib.hid hL; have HB3 := Lib.hid (bel HB2.out hb); clear hL hb)
    | (go_at_call 13; (with_reducible refine (know_not _).mono ?_); rintro e w5 ⟨A5, c5, rfl, hL, hb⟩; have HL5 := Lib.hid hL; have HB5 := Lib.hid (bel HB4.out hb); clear hL hb)
    | (go_at_call 8; (with_reducible refine (know_ints1 _ _ _ HL3.out).mono ?_); rintro e w4 ⟨rfl, hb⟩; have HB4 := Lib.hid (bel HB3.out hb); clear hb)
    | (go_at_call 8; (with_reducible refine (know_ints2 _ _ _ HL5.out).mono ?_); rintro e w6 ⟨rfl, hb⟩; have HB6 := Lib.hid (bel HB5.out hb); clear hb))
  go_ret
  exact ⟨rfl, HB6.out⟩
end Go.Proofs.Ytojocffjajcdmaa
