import Derived.Shelf.SlIterI.Nil
import Derived.Shelf.SortM.Plain
import Derived.Shelf.SortM.SortNone
import Derived.Test.YtojocffjajcdmaaDoorProg
import Derived.Test.YtojocffjajcdmaaDoorPPostingsNilx8
import Derived.Test.YtojocffjajcdmaaDoorPPostingsNilx1
import Derived.Lib.Hide
import Derived.Lib.SlMapFilter
import Derived.WalkKit
import Derived.Maps.Ext
import Derived.Maps.Own
import Derived.Maps.OwnOps
import Derived.Maps.Views
import Derived.Maps.RangeWalk
import Derived.Laws.IdiomRangeMap
import Derived.Deep.LoopGhost
import Derived.OneCell
import Derived.WalkSpells
namespace Go.Proofs.YtojocffjajcdmaaDoor.PN
open Go.RowKit Go.Maps Go.Sort Go.Shelf
set_option linter.unusedVariables false
set_option linter.unusedSimpArgs false

/-! ### slices.Sorted(maps.Keys(m)), laid -/
def keysA_ren : Go.Shelf.Ren := ⟨fun | 7 => 164 | 10 => 181 | n => n, fun | 23 => 207 | 26 => 3 | 3 => 208 | 28 => 179 | 0 => 0 | 27 => 178 | 33 => 193 | 4 => 4 | n => n, fun | n => n⟩
theorem keysA : SlLaysZI.n7 Tryd.prog keysA_ren :=
  { mixed := by kernel_rfl,
    f7 := ⟨Tryd.f164.name, by decide, Tryd.func164.trans (congrArg some (by kernel_rfl))⟩,
    f10 := ⟨Tryd.f181.name, by decide, Tryd.func181.trans (congrArg some (by kernel_rfl))⟩,
    t0 := Tryd.underlying0,
    a0 := Tryd.isAgg0,
    z0 := Tryd.sizeOf0,
    v0 := Tryd.zeroValue0,
    t4 := Tryd.underlying4,
    a4 := Tryd.isAgg4,
    z4 := Tryd.sizeOf4,
    v4 := Tryd.zeroValue4,
    t23 := Tryd.underlying207,
    a23 := Tryd.isAgg207,
    z23 := Tryd.sizeOf207,
    v23 := Tryd.zeroValue207,
    t26 := Tryd.underlying3,
    a26 := Tryd.isAgg3,
    z26 := Tryd.sizeOf3,
    v26 := Tryd.zeroValue3,
    t27 := Tryd.underlying178,
    a27 := Tryd.isAgg178,
    z27 := Tryd.sizeOf178,
    v27 := Tryd.zeroValue178,
    t28 := Tryd.underlying179,
    a28 := Tryd.isAgg179,
    z28 := Tryd.sizeOf179,
    v28 := Tryd.zeroValue179,
    t33 := Tryd.underlying193,
    a33 := Tryd.isAgg193,
    z33 := Tryd.sizeOf193,
    v33 := Tryd.zeroValue193 }

def sortedA_ren : Go.Shelf.Ren := ⟨fun | 6 => 131 | 8 => 167 | 9 => 129 | 11 => 193 | 13 => 166 | 12 => 165 | 23 => 191 | 24 => 192 | 14 => 182 | 15 => 183 | 16 => 184 | 17 => 185 | 18 => 186 | 19 => 187 | 20 => 188 | 21 => 189 | 22 => 190 | 25 => 207 | 26 => 208 | 27 => 209 | 28 => 210 | 29 => 211 | 30 => 147 | 31 => 217 | n => n, fun | 26 => 3 | 28 => 179 | 24 => 107 | 0 => 0 | 3 => 3 | 37 => 200 | 48 => 230 | 50 => 199 | 4 => 4 | 40 => 222 | 39 => 221 | 45 => 227 | 5 => 5 | 9 => 9 | 51 => 246 | 55 => 250 | 57 => 254 | 58 => 238 | 33 => 193 | n => n, fun | n => n⟩
theorem sortedA : SlLaysZI.n6 Tryd.prog sortedA_ren :=   { mixed := by kernel_rfl,     f6 := ⟨Tryd.f131.name, by decide, Tryd.func131.trans (congrArg some (by kernel_rfl))⟩,     f8 := ⟨Tryd.f167.name, by decide, Tryd.func167.trans (congrArg some (by kernel_rfl))⟩,     f11 := ⟨Tryd.f193.name, by decide, Tryd.func193.trans (congrArg some (by kernel_rfl))⟩,     t0 := Tryd.underlying0,     a0 := Tryd.isAgg0,     z0 := Tryd.sizeOf0,     v0 := Tryd.zeroValue0,     t24 := Tryd.underlying107,     a24 := Tryd.isAgg107,     z24 := Tryd.sizeOf107,     v24 := Tryd.zeroValue107,     t26 := Tryd.underlying3,     a26 := Tryd.isAgg3,     z26 := Tryd.sizeOf3,     v26 := Tryd.zeroValue3,     t28 := Tryd.underlying179,     a28 := Tryd.isAgg179,     z28 := Tryd.sizeOf179,     v28 := Tryd.zeroValue179,     i26 := by kernel_rfl }  
def sortA_ren : Go.Shelf.Ren := ⟨fun | 5 => 129 | 8 => 166 | 7 => 165 | 19 => 191 | 20 => 192 | 10 => 182 | 11 => 183 | 12 => 184 | 13 => 185 | 14 => 186 | 15 => 187 | 16 => 188 | 17 => 189 | 18 => 190 | 30 => 207 | 31 => 208 | 32 => 209 | 33 => 210 | 34 => 211 | 35 => 147 | 40 => 217 | n => n, fun | 23 => 107 | 25 => 3 | 3 => 3 | 32 => 200 | 22 => 107 | 0 => 0 | 44 => 230 | 46 => 199 | 4 => 4 | 36 => 222 | 35 => 221 | 41 => 227 | 5 => 5 | 9 => 9 | 53 => 246 | 57 => 250 | 63 => 254 | 64 => 238 | n => n, fun | n => n⟩
theorem sortA : SlLaysM.n5 Tryd.prog sortA_ren :=
  { mixed := by kernel_rfl,
    f5 := ⟨Tryd.f129.name, by decide, Tryd.func129.trans (congrArg some (by kernel_rfl))⟩,
    f7 := ⟨Tryd.f165.name, by decide, Tryd.func165.trans (congrArg some (by kernel_rfl))⟩,
    f8 := Tryd.func166.trans (congrArg some (by kernel_rfl)),
    f10 := ⟨Tryd.f182.name, by decide, Tryd.func182.trans (congrArg some (by kernel_rfl))⟩,
    f11 := ⟨Tryd.f183.name, by decide, Tryd.func183.trans (congrArg some (by kernel_rfl))⟩,
    f12 := ⟨Tryd.f184.name, by decide, Tryd.func184.trans (congrArg some (by kernel_rfl))⟩,
    f13 := ⟨Tryd.f185.name, by decide, Tryd.func185.trans (congrArg some (by kernel_rfl))⟩,
    f14 := ⟨Tryd.f186.name, by decide, Tryd.func186.trans (congrArg some (by kernel_rfl))⟩,
    f15 := ⟨Tryd.f187.name, by decide, Tryd.func187.trans (congrArg some (by kernel_rfl))⟩,
    f16 := ⟨Tryd.f188.name, by decide, Tryd.func188.trans (congrArg some (by kernel_rfl))⟩,
    f17 := ⟨Tryd.f189.name, by decide, Tryd.func189.trans (congrArg some (by kernel_rfl))⟩,
    f18 := ⟨Tryd.f190.name, by decide, Tryd.func190.trans (congrArg some (by kernel_rfl))⟩,
    f19 := Tryd.func191.trans (congrArg some (by kernel_rfl)),
    f20 := Tryd.func192.trans (congrArg some (by kernel_rfl)),
    f30 := ⟨Tryd.f207.name, by decide, Tryd.func207.trans (congrArg some (by kernel_rfl))⟩,
    f31 := Tryd.func208.trans (congrArg some (by kernel_rfl)),
    f32 := Tryd.func209.trans (congrArg some (by kernel_rfl)),
    f33 := ⟨Tryd.f210.name, by decide, Tryd.func210.trans (congrArg some (by kernel_rfl))⟩,
    f34 := ⟨Tryd.f211.name, by decide, Tryd.func211.trans (congrArg some (by kernel_rfl))⟩,
    f35 := ⟨Tryd.f147.name, by decide, Tryd.func147.trans (congrArg some (by kernel_rfl))⟩,
    f40 := ⟨Tryd.f217.name, by decide, Tryd.func217.trans (congrArg some (by kernel_rfl))⟩,
    t0 := Tryd.underlying0,
    a0 := Tryd.isAgg0,
    z0 := Tryd.sizeOf0,
    v0 := Tryd.zeroValue0,
    t3 := Tryd.underlying3,
    a3 := Tryd.isAgg3,
    z3 := Tryd.sizeOf3,
    v3 := Tryd.zeroValue3,
    t4 := Tryd.underlying4,
    a4 := Tryd.isAgg4,
    z4 := Tryd.sizeOf4,
    v4 := Tryd.zeroValue4,
    t5 := Tryd.underlying5,
    a5 := Tryd.isAgg5,
    z5 := Tryd.sizeOf5,
    v5 := Tryd.zeroValue5,
    t9 := Tryd.underlying9,
    a9 := Tryd.isAgg9,
    z9 := Tryd.sizeOf9,
    v9 := Tryd.zeroValue9,
    t22 := Tryd.underlying107,
    a22 := Tryd.isAgg107,
    z22 := Tryd.sizeOf107,
    v22 := Tryd.zeroValue107,
    t23 := Tryd.underlying107,
    a23 := Tryd.isAgg107,
    z23 := Tryd.sizeOf107,
    v23 := Tryd.zeroValue107,
    t25 := Tryd.underlying3,
    a25 := Tryd.isAgg3,
    z25 := Tryd.sizeOf3,
    v25 := Tryd.zeroValue3,
    t32 := Tryd.underlying200,
    a32 := Tryd.isAgg200,
    z32 := Tryd.sizeOf200,
    v32 := Tryd.zeroValue200,
    t35 := Tryd.underlying221,
    a35 := Tryd.isAgg221,
    z35 := Tryd.sizeOf221,
    v35 := Tryd.zeroValue221,
    t36 := Tryd.underlying222,
    a36 := Tryd.isAgg222,
    z36 := Tryd.sizeOf222,
    v36 := Tryd.zeroValue222,
    t41 := Tryd.underlying227,
    a41 := Tryd.isAgg227,
    z41 := Tryd.sizeOf227,
    v41 := Tryd.zeroValue227,
    t44 := Tryd.underlying230,
    a44 := Tryd.isAgg230,
    z44 := Tryd.sizeOf230,
    v44 := Tryd.zeroValue230,
    t46 := Tryd.underlying199,
    a46 := Tryd.isAgg199,
    z46 := Tryd.sizeOf199,
    v46 := Tryd.zeroValue199,
    t53 := Tryd.underlying246,
    a53 := Tryd.isAgg246,
    z53 := Tryd.sizeOf246,
    v53 := Tryd.zeroValue246,
    t57 := Tryd.underlying250,
    a57 := Tryd.isAgg250,
    z57 := Tryd.sizeOf250,
    v57 := Tryd.zeroValue250,
    t63 := Tryd.underlying254,
    a63 := Tryd.isAgg254,
    z63 := Tryd.sizeOf254,
    v63 := Tryd.zeroValue254,
    t64 := Tryd.underlying238,
    a64 := Tryd.isAgg238,
    z64 := Tryd.sizeOf238,
    v64 := Tryd.zeroValue238 }

theorem sortsA (m : Nat) : AnyZI.SortsIn Tryd.prog sortedA_ren Fence.wide m :=
  ⟨fun blk off cap ss W hH hblk hsz => callsIn_wide.2 (AnyM.slices_Sort_int sortA blk off cap ss W hH hblk hsz),
   fun p cap W => callsIn_wide.2 (AnyM.slices_Sort_int_none sortA p cap W)⟩
theorem keys_any (mb : Option Nat) (W : World) : Calls Tryd.prog 164 #[.map mb] W fun e w' => e = .returned (.func (.func 181) #[] #[.pointer (some ⟨W.heap.size, 0, none⟩)]) ∧ w' = W.alloc (.cells #[.map mb] 207) :=
  (callsIn_wide (n := 5)).1 (AnyZI.keys_in keysA Fence.wide 5 trivial rfl mb W)
theorem sorted_any {H : Type} (b nn : Nat) (D0 : DataW H) (R : Value → Option (DataW H × List MemPlace)) (w : World) (hown : w.ownsMap Tryd.prog 3 R b nn D0) (hmax : Maps.size D0 ≤ maxLen) (hbytes : Maps.size D0 * 8 ≤ 140737488351232) :
    Calls Tryd.prog 131 #[.func (.func 181) #[] #[.pointer (some ⟨w.heap.size, 0, none⟩)]] (w.alloc (.cells #[.map (some b)] 207)) fun e w' => ∃ (v : Value) (ss : List Int), e = .returned v ∧ ss.Perm (intKeys D0) ∧
      w'.ownsRow (w.heap.size + 1) 3 1 v ss.length ((ss.mergeSort (fun x y => decide (x ≤ y))).map encZ) ∧ Below (w.heap.size + 1) (w.alloc (.cells #[.map (some b)] 207)) w' := by
  refine (callsIn_wide (n := 5)).1 ?_
  have hbl := hown.lt
  have hseq : SeqGives Fence.wide 2 Tryd.prog 181 #[.pointer (some ⟨w.heap.size, 0, none⟩)] encZ (fun ss => ss.Perm (intKeys D0)) (Maps.size D0) (w.alloc (.cells #[.map (some b)] 207)) :=
    AnyZI.keys_gives (ρ := keysA_ren) { keysA with } Fence.wide _ trivial rfl (by omega) w.heap.size b nn D0 _ (by simp) (by simp) (by
      obtain ⟨es, clock, hb, Ft, hs, hD⟩ := hown
      exact ⟨es, clock, (Below.heap_alloc _ _ b hbl).trans hb, Ft, hs, hD⟩)
  have cS := AnyZI.sorted_in sortedA Fence.wide 5 trivial trivial trivial trivial rfl (by omega) (sortsA _) (enters_of Tryd.func129 (by kernel_rfl) rfl) 181 #[.pointer (some ⟨w.heap.size, 0, none⟩)] trivial (enters_of Tryd.func181 (by kernel_rfl) rfl) _ _ hmax (by omega) _ hseq
  refine cS.mono ?_
  rintro e w' ⟨v, ss, rfl, hS, hrow, hnil, hb⟩
  have hsz : (w.alloc (.cells #[.map (some b)] 207)).heap.size = w.heap.size + 1 := by simp
  rw [hsz] at hrow hb
  exact ⟨v, ss, rfl, hS, hrow, hb⟩
end Go.Proofs.YtojocffjajcdmaaDoor.PN
namespace Go.Proofs.YtojocffjajcdmaaDoor.PN
open Go.RowKit Go.Maps
set_option linter.unusedVariables false
set_option linter.unusedSimpArgs false

/-! ### A map from ints to pairs of bools -/
abbrev pr (x y : Bool) : DataW Unit := .agg [.lit (.bool x), .lit (.bool y)]
structure BB where
  x : Bool
  y : Bool
abbrev va (p : BB) : Value := .agg #[.bool p.x, .bool p.y]
def R2 : Value → Option (DataW Unit × List MemPlace)
  | .agg a => match a.toList with
    | [.bool x, .bool y] => some (pr x y, [])
    | _ => none
  | _ => none
theorem R2_mk (x y : Bool) : R2 (.agg #[.bool x, .bool y]) = some (pr x y, []) := rfl
theorem R2_inv {v : Value} {y : DataW Unit × List MemPlace} (h : R2 v = some y) : ∃ p : BB, v = va p ∧ y = (pr p.x p.y, []) := by
  unfold R2 at h
  split at h
  · rename_i a
    split at h
    · rename_i x y' ha
      injection h with h
      refine ⟨⟨x, y'⟩, ?_, h.symm⟩
      obtain ⟨l⟩ := a
      simp only at ha
      rw [ha]
    · cases h
  · cases h
theorem keyed3 : Keyed Tryd.prog 3 := int_keyed Tryd.underlying3
theorem zero208 (w : World) : (zeroValue 208).run Tryd.prog w = .ok (.agg #[.bool false, .bool false]) w := by kernel_rfl
theorem key_inv {key : Value} {kl : Lit} (h : keyOf Tryd.prog 3 key = some kl) : ∃ x : Int, key = .int .i64 x ∧ kl = .int .i64 x ∧ (Lit.int .i64 x).wf = true := by
  obtain ⟨x, h1, h2, h3⟩ := Maps.keyOf_i64 Tryd.underlying3 h
  exact ⟨x, h1, h2, h3⟩

theorem alloc_grown {w W : World} {r : Option Nat} (h : w.grownBy W r) (o : Obj) : w.grownBy (W.alloc o) r :=
  ⟨h.os, h.tape, h.output, Nat.le_trans h.size (by simp), fun k hk hr => (Below.heap_alloc W o k (Nat.lt_of_lt_of_le hk h.size)).trans (h.block k hk hr)⟩
/-- What a predicate says of a pair. -/
def pdD (f : Bool → Bool → Bool) (_ : Lit) : DataW Unit → Bool
  | .agg [.lit (.bool x), .lit (.bool y)] => !f x y
  | _ => false

set_option maxHeartbeats 1000000 in
/-- The closure that DeleteFunc is given: what is asked of its fits. -/
theorem del_any (g bx : Nat) (f : Bool → Bool → Bool) (i : Int) (x y : Bool) (W : World) (eg : ∀ args w, (callFunc g args).run Tryd.prog w = .ok (.enter g args) w)
    (hf : ∀ x y W, Calls Tryd.prog g #[.bool x, .bool y] W fun e w' => e = .returned (.bool (f x y)) ∧ W = w') (hx : W.cell? ⟨bx, 0, none⟩ = some (.func (.func g) #[] #[])) :
    Calls Tryd.prog 163 #[.int .i64 i, .agg #[.bool x, .bool y], .pointer (some ⟨bx, 0, none⟩)] W fun e w' => e = .returned (.bool (!f x y)) ∧ W.grownBy w' none := by
  have hb : bx < W.heap.size := World.block_lt_of_cell? W _ hx
  have hne : ¬ bx = W.heap.size := by omega
  have HF := Lib.hid (fun W => hf x y W)
  clear hf
  go_enter Tryd.func163, Tryd.ntmps163
  go_wp2_with (first | (go_at_fn g; refine (HF.out _).mono ?_; rintro e w2 ⟨rfl, rfl⟩))
  go_ret
  exact ⟨rfl, ⟨rfl, rfl, rfl, by simp, fun k hk _ => Below.heap_alloc _ _ k hk⟩⟩

set_option maxHeartbeats 4000000 in
set_option maxRecDepth 100000 in
theorem delete_any (g bx : Nat) (f : Bool → Bool → Bool) (b n : Nat) (D : DataW Unit) (w : World) (eg : ∀ args w, (callFunc g args).run Tryd.prog w = .ok (.enter g args) w)
    (hf : ∀ x y W, Calls Tryd.prog g #[.bool x, .bool y] W fun e w' => e = .returned (.bool (f x y)) ∧ W = w') (hown : w.ownsMap Tryd.prog 3 R2 b n D) (hx : w.cell? ⟨bx, 0, none⟩ = some (.func (.func g) #[] #[])) (hbx : bx ≠ b) :
    Calls Tryd.prog 162 #[.map (some b), .func (.func 163) #[] #[.pointer (some ⟨bx, 0, none⟩)]] w fun e w' => e = .returned (.tuple #[]) ∧ w'.ownsMap Tryd.prog 3 R2 b n (Lib.deleteFuncD (pdD f) D) ∧ w.grownBy w' (some b) := by
  obtain ⟨es0, rfl, hap, hkeys⟩ := hown.entries keyed3
  have hbl := World.block_lt_of_cell? w _ hx
  have e39 : ∀ args w, (callFunc 163 args).run Tryd.prog w = .ok (.enter 163 args) w := enters_of Tryd.func163 (by kernel_rfl) rfl
  have HD := Lib.hid (fun (W : World) (i : Int) (x y : Bool) (hg : w.grownBy W (some b)) => del_any g bx f i x y W eg hf (hg.cell hx (by intro e; injection e with e; exact hbx e)))
  clear hf eg hx
  go_enter Tryd.func162, Tryd.ntmps162
  go_wp2_with (first
    | (at_range; refine wpList_range_own _ rfl _ 207 rfl 3 208 keyed3 Tryd.underlying207 R2 b n _ rfl hown ?_; intro w0 hrg0 hg0 hs0))
  go_loopw [8] (fun _ wr => ∃ (left : Lit → Bool) (cnt : Nat), wr.ranges Tryd.prog 3 R2 b w.heap.size n (Fk (pdD f) es0 left) left cnt ∧ w.grownBy wr (some b))
    (fun _ wr => wr.rangeLeft b w.heap.size)
  case atStart => exact ⟨_, _, by rw [Fk_start hkeys]; exact hrg0, hg0.but _⟩
  case round =>
    obtain ⟨left, cnt, hrg, hgw⟩ := hrel
    go_wp2_with (first
      | (at_next; refine wpList_next_ranges _ rfl _ rfl 3 keyed3 R2 (Value.int .i64) va (fun key kl h => by obtain ⟨x, h1, _⟩ := key_inv h; exact ⟨x, h1⟩) (fun v y h => by obtain ⟨p, h1, _⟩ := R2_inv h; exact ⟨p, h1⟩) b w.heap.size n _ _ _ rfl hrg ?_ ?_))
    · intro _ hl0
      go_wp2
      go_end0
      exact ⟨rfl, by rw [← Fk_end hl0]; exact hrg.owns, hgw⟩
    · intro i c kl yd yp w1 cnt1 hkey hlx hv hat hrg1 hlt hg1 hs1 hen
      have hgw1 := hgw.andThen hg1 (fun j hj => by cases hj; exact Or.inl (Nat.le_refl _))
      have hkl := keyed3.key hkey
      have hyd : yd = pr c.x c.y := by
        obtain ⟨p, hp, hq⟩ := R2_inv hv
        simp only [Prod.mk.injEq] at hq
        simp at hp
        rw [hq.1, hp.1, hp.2]
      subst hyd
      obtain ⟨cx, cy⟩ := c
      have hpd : pdD f kl (pr cx cy) = !f cx cy := rfl
      have HE := Lib.hid hrg1
      have HA := Lib.hid (alloc_grown hgw1 (.cells #[.bool cx, .bool cy] 208))
      have HR1 : Hid ((w1.alloc (.cells #[.bool cx, .bool cy] 208)).ranges Tryd.prog 3 R2 b w.heap.size n (Fk (pdD f) es0 left) (fun z => left z && !z.sameKey kl) cnt1) := Lib.hid (hrg1.kept (alloc_grown (World.grownBy.refl w1 none) _) (by simp) (by simp))
      have HC := Lib.hid (HD.out _ i cx cy HA.out)
      have hbw := hrg1.owns.lt
      cases hp : f cx cy with
      | true =>
        have HPF : Hid (pdD f kl (pr cx cy) = false) := Lib.hid (by rw [hpd, hp]; rfl)
        rw [hp] at HC
        clear hp hpd
        go_wp2_with (first
          | (go_at_fn 163; refine (HC.out).mono ?_; rintro e w2 ⟨rfl, hg2⟩))
        have hrg2 := HR1.out.kept hg2 (by simp) (by simp)
        go_roundw
        case rel => exact ⟨_, cnt1, by rw [← Fk_stays hap hkl hlx HPF.out hat]; exact hrg2, HA.out.andThen hg2 (fun j hj => by cases hj)⟩
        case measure => rw [hrg2.left_eq, hrg.left_eq]; exact hlt
      | false =>
        have HPF : Hid (pdD f kl (pr cx cy) = true) := Lib.hid (by rw [hpd, hp]; rfl)
        rw [hp] at HC
        clear hp hpd
        go_wp2_with (first
          | (go_at_fn 163; refine (HC.out).mono ?_; rintro e w2 ⟨rfl, hg2⟩; have hrg2 := HR1.out.kept hg2 (by simp) (by simp))
          | (at_delete; refine wpList_delete_ranges _ rfl _ _ 207 3 rfl 208 keyed3 Tryd.underlying207 R2 b w.heap.size n _ _ _ rfl hrg2 _ _ rfl hkey ?_; intro w3 cnt3 hrg3 hle hturn; go_frame))
        rw [strike_twice] at hrg3
        go_roundw
        case rel => exact ⟨_, cnt3, by rw [← Fk_struck hap hkl hlx HPF.out hat]; exact hrg3, (HA.out.andThen hg2 (fun j hj => by cases hj)).andThen hturn.grown (fun j hj => by cases hj; exact Or.inr rfl)⟩
        case measure => rw [hrg3.left_eq, hrg.left_eq]; omega
end Go.Proofs.YtojocffjajcdmaaDoor.PN
namespace Go.Proofs.YtojocffjajcdmaaDoor.PN
open Go.RowKit Go.Maps Go.Proofs.YtojocffjajcdmaaDoorW.PrintWords Go.Proofs.YtojocffjajcdmaaDoorW.PrintLast Go.Proofs.YtojocffjajcdmaaDoorW.PrintMore Go.Proofs.YtojocffjajcdmaaDoor.PPostingsNil
set_option linter.unusedVariables false
set_option linter.unusedSimpArgs false

abbrev KI := Kd.int .i64
def WfL (l : List Int) : Prop := ∀ x ∈ l, -9223372036854775808 ≤ x ∧ x ≤ 9223372036854775807
theorem wf_i64 {x : Int} (h : -9223372036854775808 ≤ x ∧ x ≤ 9223372036854775807) : (Lit.int .i64 x).wf = true := by
  have h1 : IntKind.i64.min = -9223372036854775808 := rfl
  have h2 : IntKind.i64.max = 9223372036854775807 := rfl
  simp [Lit.wf, h1, h2, h]
/-- Block b is a map of at most k entries; A, B: what the pairs say; there is a pair where one of the two says so. -/
def M2 (w : World) (b k : Nat) (A B : Int → Bool) : Prop :=
  ∃ (D : DataW Unit) (n : Nat), n ≤ k ∧ w.ownsMap Tryd.prog 3 R2 b n D ∧ (∀ i, D.atKey (.int .i64 i) (pr false false) = pr (A i) (B i)) ∧ ∀ i, Maps.has D (.int .i64 i) = (A i || B i)
theorem M2.made (w : World) : M2 (w.alloc (.map #[] 0)) w.heap.size 0 (fun _ => false) (fun _ => false) :=
  ⟨.map [], 0, Nat.le_refl _, World.ownsMap_made w _ _ _, fun i => rfl, fun i => rfl⟩
theorem M2.below {w w' : World} {b k : Nat} {A B : Int → Bool} (h : M2 w b k A B) (hb : Below w.heap.size w w') : M2 w' b k A B := by
  obtain ⟨D, n, h1, h2, h3⟩ := h
  exact ⟨D, n, h1, h2.kept (row := none) ⟨hb.os, hb.tape, hb.output, hb.size, fun k hk _ => hb.block k hk⟩ (by simp), h3⟩
theorem M2.lookup {w : World} {b k : Nat} {A B : Int → Bool} (h : M2 w b k A B) (i : Int) (hi : (Lit.int .i64 i).wf = true) :
    (Instr.lookup 207 (.map (some b)) (.int .i64 i) false).run Tryd.prog w = .ok (.agg #[.bool (A i), .bool (B i)]) w := by
  obtain ⟨D, n, h1, ho, hD, _⟩ := h
  obtain ⟨v, ps, hrun, hv⟩ := ho.lookup keyed3 Tryd.underlying207 (zero208 w) (R2_mk false false) (Go.Maps.keyOf_int_mk Tryd.underlying3 hi)
  rw [hD i] at hv
  rw [hrun]
  obtain ⟨p, rfl, hp⟩ := R2_inv hv
  simp only [Prod.mk.injEq, pr, DataW.agg.injEq, List.cons.injEq, DataW.lit.injEq, Lit.bool.injEq, and_true] at hp
  rw [hp.1.1, hp.1.2]
/-- What a store leaves. -/
theorem M2.put {w' : World} {b k n : Nat} {A B : Int → Bool} {D : DataW Unit} (hM : Maps.IsMap D) (hn : n ≤ k) (hD : ∀ i, D.atKey (.int .i64 i) (pr false false) = pr (A i) (B i)) (hH : ∀ i, Maps.has D (.int .i64 i) = (A i || B i))
    (i : Int) (x y : Bool) (hxy : (x || y) = true) (ho : w'.ownsMap Tryd.prog 3 R2 b (n + 1) (D.put (.int .i64 i) (pr x y))) : M2 w' b (k + 1) (fun j => if j = i then x else A j) (fun j => if j = i then y else B j) := by
  refine ⟨_, n + 1, by omega, ho, fun j => ?_, fun j => ?_⟩
  · by_cases e : j = i
    · subst e
      rw [Maps.atKey_put_same hM (by trivial)]
      simp
    · rw [Maps.atKey_put_other (by simpa using e), hD j]
      simp [e]
  · by_cases e : j = i
    · subst e
      rw [Maps.has_put_same hM (by trivial)]
      simp [hxy]
    · rw [Maps.has_put_other (by simpa using e), hH j]
      simp [e]
theorem idx0 (x y : Bool) (w : World) : (Instr.index 208 (.agg #[.bool x, .bool y]) (.int .i64 0)).run Tryd.prog w = .ok (.bool x) w := by kernel_rfl
theorem idx1 (x y : Bool) (w : World) : (Instr.index 208 (.agg #[.bool x, .bool y]) (.int .i64 1)).run Tryd.prog w = .ok (.bool y) w := by kernel_rfl
theorem spot_none {w : World} {a : Addr} {v : Value} (h : w.cell? a = some v) : a = ⟨a.block, a.off, none⟩ := by
  obtain ⟨b, o, e⟩ := a
  cases e with
  | none => rfl
  | some x =>
    exfalso
    unfold World.cell? at h
    split at h <;> simp at h
theorem addr_add (b o j : Nat) : (⟨b, o, none⟩ : Addr).add j = ⟨b, o + j, none⟩ := by unfold Addr.add; split <;> simp_all
theorem int_at {w : World} {A : Option Addr} {l : List Int} (h : Kd.C KI w A l.length l) (hp : 0 < l.length) : ∃ b o, A = some ⟨b, o, none⟩ ∧ ∀ i, i < l.length → w.cell? ⟨b, o + i, none⟩ = some (.int .i64 (l.getD i 0)) := by
  have key : ∀ i, i < l.length → ∃ ad, A = some ad ∧ w.cell? (ad.add i) = some (.int .i64 (l.getD i 0)) := by
    intro i hi
    obtain ⟨ad, c, e, hl, hK, hc⟩ := Kd.C_get h 0 (i : Int) (by omega) (by omega)
    have hk : c = [.int .i64 (l.getD (i : Int).toNat 0)] := hK
    subst hk
    have h0 := hc 0 _ rfl
    rw [Int.toNat_natCast] at h0
    have e2 : i * KI.sz + 0 = i := by show i * 1 + 0 = i; omega
    rw [e2] at h0
    exact ⟨ad, e, h0⟩
  obtain ⟨ad, e, h0⟩ := key 0 hp
  have hsp := spot_none (a := ad) (by have h1 : ad.add 0 = ad := rfl; rw [h1] at h0; exact h0)
  refine ⟨ad.block, ad.off, by rw [← hsp]; exact e, fun i hi => ?_⟩
  obtain ⟨ad', e', h'⟩ := key i hi
  rw [e] at e'
  injection e' with e'
  subst e'
  rw [hsp] at h'
  rw [addr_add] at h'
  exact h'

/-- The sorted numbers that fit. -/
def inL (l : List Int) (i : Int) : Bool := l.contains i
def isPick (f : Bool → Bool → Bool) (a b r : List Int) : Prop := r.Pairwise (· < ·) ∧ ∀ i, i ∈ r ↔ ((inL a i || inL b i) = true ∧ f (inL a i) (inL b i) = true)
theorem pick_unique {f : Bool → Bool → Bool} {a b r r' : List Int} (h : isPick f a b r) (h' : isPick f a b r') : r = r' := by
  refine List.Perm.eq_of_pairwise (le := fun x y : Int => x < y) (fun x y _ _ h1 h2 => absurd h1 (by omega)) h.1 h'.1 ?_
  refine (List.perm_ext_iff_of_nodup (h.1.imp (fun {x y} hxy e => by omega)) (h'.1.imp (fun {x y} hxy e => by omega))).2 fun i => ?_
  rw [h.2, h'.2]
theorem take_contains (l : List Int) (k : Nat) (h : k < l.length) : (fun j => if j = l.getD k 0 then true else inL (l.take k) j) = inL (l.take (k + 1)) := by
  funext j
  unfold inL
  rw [List.take_succ_eq_append_getElem h]
  have e : l.getD k 0 = l[k] := by simp [h]
  rw [e, List.contains_append]
  by_cases hj : j = l[k]
  · simp [hj]
  · simp [hj]
def PkRel1 (a : List Int) (w : World) (bx m : Nat) (fv : Value) (v15 : Value) (wr : World) : Prop :=
  ∃ k : Nat, v15 = .int .i64 (k : Int) ∧ k ≤ a.length ∧ M2 wr m k (inL (a.take k)) (fun _ => false) ∧ wr.cell? ⟨bx, 0, none⟩ = some fv ∧ Below w.heap.size w wr
def PkRel2 (a b : List Int) (w : World) (bx m : Nat) (fv : Value) (v29 : Value) (wr : World) : Prop :=
  ∃ k : Nat, v29 = .int .i64 (k : Int) ∧ k ≤ b.length ∧ M2 wr m (a.length + k) (inL a) (inL (b.take k)) ∧ wr.cell? ⟨bx, 0, none⟩ = some fv ∧ Below w.heap.size w wr
theorem below_but {w W W' : World} {base m : Nat} (hb : Below base w W) (hm : base ≤ m) (hs : base ≤ W.heap.size) (hg : W.grownBy W' (some m)) : Below base w W' :=
  pw_below_grown hb (some m) hs hg (fun k hk => by injection hk with hk; omega)
def IntsBelow (r : List Int) (w : World) (e : Ending) (w' : World) : Prop := ∃ v, e = .returned v ∧ Kd.R KI 3 w' w.heap.size (fun _ => True) v r ∧ Below w.heap.size w w'
def PickRes (f : Bool → Bool → Bool) (a b : List Int) (w : World) (e : Ending) (w' : World) : Prop := ∃ r, isPick f a b r ∧ WfL r ∧ IntsBelow r w e w'

theorem keys_left (f : Bool → Bool → Bool) {w : World} {m n : Nat} {D : DataW Unit} {A B : Int → Bool} (ho : w.ownsMap Tryd.prog 3 R2 m n D) (hD : ∀ i, D.atKey (.int .i64 i) (pr false false) = pr (A i) (B i)) (hH : ∀ i, Maps.has D (.int .i64 i) = (A i || B i)) :
    (intKeys (Lib.deleteFuncD (pdD f) D)).Nodup ∧ ∀ i, i ∈ intKeys (Lib.deleteFuncD (pdD f) D) ↔ ((A i || B i) = true ∧ f (A i) (B i) = true) := by
  obtain ⟨es, rfl, hap, hkeys⟩ := ho.entries keyed3
  obtain ⟨es', hE, hko⟩ := ho.keysOf
  obtain rfl : es = es' := by simpa using hE
  have hk : ∀ p ∈ es, ∃ x, p.1 = .int .i64 x := fun p hp => by
    obtain ⟨v, hv⟩ := hko p hp
    obtain ⟨x, _, hx, _⟩ := key_inv hv
    exact ⟨x, hx⟩
  have hat : ∀ p ∈ es, ∀ x, p.1 = .int .i64 x → p.2 = pr (A x) (B x) := fun p hp x hx => by
    have h1 := WideAt.atKey_mem (pr false false) (hkeys p hp) hap (k := p.1) (d := p.2) (by simpa using hp)
    rw [hx, hD x] at h1
    exact h1.symm
  refine ⟨?_, fun i => ?_⟩
  · show ((es.filter fun p => !pdD f p.1 p.2).map fun p => Go.intOf p.1).Nodup
    refine List.pairwise_map.2 ((hap.filter _).imp_of_mem fun {p q} hp hq hne e => hne ?_)
    obtain ⟨x, hx⟩ := hk p (List.mem_filter.1 hp).1
    obtain ⟨y, hy⟩ := hk q (List.mem_filter.1 hq).1
    rw [hx, hy] at e ⊢
    exact congrArg _ e
  · show i ∈ (es.filter fun p => !pdD f p.1 p.2).map (fun p => Go.intOf p.1) ↔ _
    rw [List.mem_map]
    constructor
    · rintro ⟨p, hp, rfl⟩
      obtain ⟨h1, h2⟩ := List.mem_filter.1 hp
      obtain ⟨x, hx⟩ := hk p h1
      have h3 := hat p h1 x hx
      rw [hx]
      show (A x || B x) = true ∧ f (A x) (B x) = true
      refine ⟨?_, ?_⟩
      · rw [← hH x, has_eq, List.any_eq_true]
        exact ⟨p, h1, by rw [hx]; simp [Lit.sameKey]⟩
      · rw [h3, hx] at h2
        simpa [pdD] using h2
    · rintro ⟨h1, h2⟩
      rw [← hH i, has_eq, List.any_eq_true] at h1
      obtain ⟨p, hp, hs⟩ := h1
      obtain ⟨x, hx⟩ := hk p hp
      have hxi : x = i := by rw [hx] at hs; simpa [Lit.sameKey] using hs
      subst hxi
      refine ⟨p, List.mem_filter.2 ⟨hp, ?_⟩, by rw [hx]; rfl⟩
      rw [hat p hp x hx]
      simpa [pdD] using h2
theorem sorted_strict {ss l : List Int} (hp : ss.Perm l) (hn : l.Nodup) : (ss.mergeSort (fun x y => decide (x ≤ y))).Pairwise (· < ·) ∧ ∀ i, i ∈ ss.mergeSort (fun x y => decide (x ≤ y)) ↔ i ∈ l := by
  have hperm := (List.mergeSort_perm ss (fun x y => decide (x ≤ y))).trans hp
  have hs := List.pairwise_mergeSort (le := fun x y : Int => decide (x ≤ y)) (fun a b c h1 h2 => by simp only [decide_eq_true_eq] at *; omega) (fun a b => by simp only [Bool.or_eq_true, decide_eq_true_eq]; omega) ss
  have hnd := hperm.nodup_iff.2 hn
  refine ⟨?_, fun i => hperm.mem_iff⟩
  have h2 := List.pairwise_and_iff.2 ⟨hs, hnd⟩
  exact h2.imp (fun {x y} h => by have h1 := h.1; simp only [decide_eq_true_eq] at h1; have := h.2; omega)
theorem isMap_of_owns {w : World} {b n : Nat} {D : DataW Unit} (h : w.ownsMap Tryd.prog 3 R2 b n D) : Maps.IsMap D := by
  obtain ⟨es, clock, _, _, _, rfl⟩ := h
  exact ⟨_, rfl⟩
theorem owns_size {w : World} {b n : Nat} {D : DataW Unit} (h : w.ownsMap Tryd.prog 3 R2 b n D) : Maps.size D ≤ n := by
  obtain ⟨es, clock, _, F, hs, rfl⟩ := h
  rw [size_eq]
  have h1 : ∀ l : List (Lit × DataW Unit), (l.foldr DataW.insert []).length = l.length := by
    intro l
    induction l with
    | nil => rfl
    | cons a l ih =>
      have h2 : ∀ (x : Lit × DataW Unit) (m : List (Lit × DataW Unit)), (DataW.insert x m).length = m.length + 1 := by
        intro x m
        induction m with
        | nil => rfl
        | cons b m ihm => unfold DataW.insert; split <;> simp_all
      rw [List.foldr_cons, h2, ih]; rfl
  rw [h1]
  simpa using hs

set_option maxHeartbeats 8000000 in
set_option maxRecDepth 100000 in
theorem picked_any (g : Nat) (f : Bool → Bool → Bool) (A B : Option Addr) (ca cb : Nat) (a b : List Int) (w : World) (eg : ∀ args w, (callFunc g args).run Tryd.prog w = .ok (.enter g args) w)
    (hf : ∀ x y W, Calls Tryd.prog g #[.bool x, .bool y] W fun e w' => e = .returned (.bool (f x y)) ∧ W = w') (ha : Kd.C KI w A a.length a) (hb : Kd.C KI w B b.length b) (hla : a.length ≤ 17592186044416) (hlb : b.length ≤ 17592186044416) (wa : WfL a) (wb : WfL b) (hsum : (a.length + b.length) * 8 ≤ 140737488351232) :
    Calls Tryd.prog 127 #[.slice A a.length ca, .slice B b.length cb, .func (.func g) #[] #[]] w (PickRes f a b w) := by
  have HA := Lib.hid ha
  have HB := Lib.hid hb
  have HF := Lib.hid hf
  have HEG := Lib.hid eg
  have WA := Lib.hid wa
  have WB := Lib.hid wb
  clear ha hb hf wa wb eg
  have hmm := @run_makeMap Tryd.prog
  go_enter Tryd.func127, Tryd.ntmps127
  go_wp2
  clear hmm
  go_loopw [15] (fun v15 wr => PkRel1 a w w.heap.size (w.heap.size + 1) (.func (.func g) #[] #[]) v15 wr) (fun v15 _ => a.length - (intOf v15).toNat)
  case atStart =>
    have e : inL (a.take 0) = fun _ => false := by funext i; simp [inL]
    refine ⟨0, rfl, Nat.zero_le _, ?_, ?_, below_alloc (below_alloc (Below.refl _ _) _) _⟩
    · rw [e]
      have h := M2.made (w.alloc (.cells #[.func (.func g) #[] #[]] 175))
      rw [show (w.alloc (.cells #[.func (.func g) #[] #[]] 175)).heap.size = w.heap.size + 1 by simp] at h
      exact h
    · exact pw_cell_below (below_alloc (Below.refl _ _) _) (by rw [blk_cell (heap_alloc_new w _)]; rfl)
  case round =>
    obtain ⟨k, rfl, hk, hM, hbx, hb⟩ := hrel
    have HBX := Lib.hid hbx
    have HBK := Lib.hid hb
    by_cases hlt : k < a.length
    · have hki : (k : Int) < (a.length : Int) := by omega
      obtain ⟨b0, o0, rfl, hx⟩ := int_at HA.out (by omega)
      have hx0 := pw_cell_below hb (hx k hlt)
      have wfx : (Lit.int .i64 (a.getD k 0)).wf = true := wf_i64 (WA.out _ (by rw [show a.getD k 0 = a[k] by simp [hlt]]; exact List.getElem_mem hlt))
      have HT := Lib.hid (take_contains a k hlt)
      generalize a.getD k 0 = x at *
      have hlk := hM.lookup x wfx
      have hkey := Go.Maps.keyOf_int_mk Tryd.underlying3 wfx
      obtain ⟨D, n, hn, hown, hD, hH⟩ := hM
      have HD := Lib.hid hD
      have HH := Lib.hid hH
      have HO := Lib.hid hown
      have hi := fun p w => idx1 p false w
      generalize inL (a.take k) x = p at hlk
      clear hx hb hbx hD hH hown wfx
      go_wp2_with (at_mapUpdate; refine wpList_mapUpdate_own _ rfl _ _ _ 207 rfl 3 208 keyed3 Tryd.underlying207 R2 (w.heap.size + 1) n D rfl HO.out (by unfold maxLen; omega) _ _ _ rfl rfl hkey _ [] (R2_mk true false) ?_; intro w1 hown1 hgrow1)
      go_roundw
      case rel =>
        refine ⟨k + 1, by go_num, by omega, ?_, hgrow1.cell HBX.out (by simp), below_but HBK.out (by omega) HBK.out.size hgrow1⟩
        have h := M2.put (isMap_of_owns HO.out) hn HD.out HH.out x true false rfl hown1
        rw [HT.out] at h
        rw [show (fun j => if j = x then false else false) = (fun _ : Int => false) by funext j; simp] at h
        exact h
      case measure => simp [intOf]; omega
    · have hki : ¬ (k : Int) < (a.length : Int) := by omega
      have hkE : k = a.length := by omega
      subst hkE
      have hM0 : M2 wr (w.heap.size + 1) (a.length + 0) (inL a) (inL (b.take 0)) := by
        rw [List.take_of_length_le (Nat.le_refl _)] at hM
        rw [show inL (b.take 0) = fun _ => false by funext i; simp [inL]]
        exact hM
      have HM0 := Lib.hid hM0
      clear hM hM0 hbx hb
      go_wp2
      go_loopw [29] (fun v29 wr => PkRel2 a b w w.heap.size (w.heap.size + 1) (.func (.func g) #[] #[]) v29 wr) (fun v29 _ => b.length - (intOf v29).toNat)
      case atStart => exact ⟨0, rfl, Nat.zero_le _, HM0.out, HBX.out, HBK.out⟩
      case round =>
        obtain ⟨k, rfl, hk, hM, hbx, hb⟩ := hrel
        have HBX2 := Lib.hid hbx
        have HBK2 := Lib.hid hb
        by_cases hlt : k < b.length
        · have hki : (k : Int) < (b.length : Int) := by omega
          obtain ⟨b0, o0, rfl, hx⟩ := int_at HB.out (by omega)
          have hx0 := pw_cell_below hb (hx k hlt)
          have wfx : (Lit.int .i64 (b.getD k 0)).wf = true := wf_i64 (WB.out _ (by rw [show b.getD k 0 = b[k] by simp [hlt]]; exact List.getElem_mem hlt))
          have HT := Lib.hid (take_contains b k hlt)
          generalize b.getD k 0 = x at *
          have hlk := hM.lookup x wfx
          have hkey := Go.Maps.keyOf_int_mk Tryd.underlying3 wfx
          obtain ⟨D, n, hn, hown, hD, hH⟩ := hM
          have HD := Lib.hid hD
          have HH := Lib.hid hH
          have HO := Lib.hid hown
          have hi := fun p q w => idx0 p q w
          have HP : Hid ((fun j => if j = x then inL a x else inL a j) = inL a) := Lib.hid (by funext j; by_cases e : j = x <;> simp [e])
          generalize inL a x = p at hlk HP
          generalize inL (b.take k) x = q at hlk
          clear hx hb hbx hD hH hown wfx
          go_wp2_with (at_mapUpdate; refine wpList_mapUpdate_own _ rfl _ _ _ 207 rfl 3 208 keyed3 Tryd.underlying207 R2 (w.heap.size + 1) n D rfl HO.out (by unfold maxLen; omega) _ _ _ rfl rfl hkey _ [] (R2_mk p true) ?_; intro w1 hown1 hgrow1)
          go_roundw
          case rel =>
            refine ⟨k + 1, by go_num, by omega, ?_, hgrow1.cell HBX2.out (by simp), below_but HBK2.out (by omega) HBK2.out.size hgrow1⟩
            have h := M2.put (isMap_of_owns HO.out) hn HD.out HH.out x p true (by simp) hown1
            rw [HT.out, HP.out] at h
            exact h
          case measure => simp [intOf]; omega
        · have hki : ¬ (k : Int) < (b.length : Int) := by omega
          have hkE : k = b.length := by omega
          subst hkE
          rw [List.take_of_length_le (Nat.le_refl _)] at hM
          obtain ⟨D, n, hn, hown, hD, hH⟩ := hM
          have HD := Lib.hid hD
          have HH := Lib.hid hH
          have HO := Lib.hid hown
          clear hD hH hown hb hbx
          go_wp2_with (first
            | (go_at_call 162; (refine (delete_any g w.heap.size f (w.heap.size + 1) n D wr HEG.out HF.out HO.out HBX2.out (by omega)).mono ?_); rintro e w2 ⟨rfl, ho2, hg2⟩; have HO2 := Lib.hid ho2; have HB2 := Lib.hid (below_but HBK2.out (by omega) HBK2.out.size hg2); have HSZ := Lib.hid (owns_size ho2); clear ho2 hg2)
            | (go_at_call 164; (refine (keys_any (some (w.heap.size + 1)) w2).mono ?_); rintro e w3 ⟨rfl, rfl⟩)
            | (go_at_call 131; (refine (sorted_any (w.heap.size + 1) n _ R2 w2 HO2.out (by have := HSZ.out; unfold maxLen; omega) (by have := HSZ.out; omega)).mono ?_); rintro e w4 ⟨v, ss, rfl, hp, hrow, hb4⟩; have HP4 := Lib.hid hp; have HR4 := Lib.hid hrow; have HB4 := Lib.hid hb4; clear hp hrow hb4))
          go_ret
          obtain ⟨hnd, hmem⟩ := keys_left f HO.out HD.out HH.out
          obtain ⟨hst, hm⟩ := sorted_strict HP4.out hnd
          have hw2 : w.heap.size ≤ w2.heap.size := HB2.out.size
          have hsz3 : (w2.alloc (.cells #[.map (some (w.heap.size + 1))] 207)).heap.size = w2.heap.size + 1 := by simp
          have hb3 : Below w.heap.size w (w2.alloc (.cells #[.map (some (w.heap.size + 1))] 207)) := below_alloc HB2.out _
          refine ⟨_, ⟨hst, fun i => by rw [hm, hmem]⟩, fun i hi => ?_, v, rfl, ?_, hb3.trans (HB4.out.mono (by omega))⟩
          · have h1 := intKeys_wf HO2.out Tryd.underlying3 i ((hm i).1 hi)
            have e1 : IntKind.i64.min = -9223372036854775808 := rfl
            have e2 : IntKind.i64.max = 9223372036854775807 := rfl
            simp [Lit.wf, e1, e2] at h1
            exact h1
          · have hl : ss.length = (ss.mergeSort (fun x y => decide (x ≤ y))).length := (List.length_mergeSort ss).symm
            have h := HR4.out
            rw [hl] at h
            exact Kd.R_lower (Kd.R_of_own (h1 := fun _ => rfl) (ok := fun _ => True) h (fun _ _ => trivial)) (by omega)
end Go.Proofs.YtojocffjajcdmaaDoor.PN
namespace Go.Proofs.YtojocffjajcdmaaDoor.PN
open Go.RowKit Go.Maps Go.Proofs.YtojocffjajcdmaaDoorW.PrintWords Go.Proofs.YtojocffjajcdmaaDoorW.PrintLast Go.Proofs.YtojocffjajcdmaaDoorW.PrintMore Go.Proofs.YtojocffjajcdmaaDoor.PPostingsNil
set_option linter.unusedVariables false
set_option linter.unusedSimpArgs false
set_option maxRecDepth 100000

structure Blk (w : World) (b : Nat) (cs : Array Value) (t : Nat) : Prop where
  out : w.heap[b]? = some (.cells cs t (0, 0))
theorem Blk.new (w : World) (cs : Array Value) (t b : Nat) (hb : b = w.heap.size) : Blk (w.alloc (.cells cs t)) b cs t := by
  subst hb; exact ⟨by show (w.heap.push _)[_]? = _; simp⟩
theorem Blk.lt {w : World} {b t : Nat} {cs : Array Value} (h : Blk w b cs t) : b < w.heap.size :=
  (Array.getElem?_eq_some_iff.1 h.out).1
theorem Blk.alloc {w : World} {b t : Nat} {cs : Array Value} (h : Blk w b cs t) (o : Obj) : Blk (w.alloc o) b cs t :=
  ⟨(Below.heap_alloc w o b h.lt).trans h.out⟩
theorem Blk.drew {w : World} {b t : Nat} {cs : Array Value} (h : Blk w b cs t) : Blk w.drew b cs t := ⟨h.out⟩
theorem Blk.cell {w : World} {b t : Nat} {cs : Array Value} (h : Blk w b cs t) (i : Nat) (v : Value) (hv : cs[i]? = some v) : w.cell? ⟨b, i, none⟩ = some v := by
  unfold World.cell?; rw [h.out]; simpa using hv
abbrev zc (l : List Int) : List Value := l.map (Value.int .i64)
theorem w64 {x : Int} (h1 : -9223372036854775808 ≤ x) (h2 : x ≤ 9223372036854775807) : wrap64 x = x := by unfold wrap64; omega
theorem nodup_len (r l : List Int) (hn : r.Nodup) (hs : ∀ i ∈ r, i ∈ l) : r.length ≤ l.length := by
  induction r generalizing l with
  | nil => exact Nat.zero_le _
  | cons x r ih =>
    have hx := hs x List.mem_cons_self
    have h1 := ih (l.erase x) (List.nodup_cons.1 hn).2 (fun i hi => by
      have hne : i ≠ x := fun e => (List.nodup_cons.1 hn).1 (e ▸ hi)
      exact (List.mem_erase_of_ne hne).2 (hs i (List.mem_cons_of_mem _ hi)))
    have h2 := List.length_erase_of_mem hx
    have h3 := List.length_pos_of_mem hx
    simp only [List.length_cons]
    omega
theorem mem_inL {l : List Int} {i : Int} : inL l i = true ↔ i ∈ l := by simp [inL]
theorem pick_sub {f : Bool → Bool → Bool} {a b r : List Int} (h : isPick f a b r) : ∀ i ∈ r, i ∈ a ∨ i ∈ b := fun i hi => by
  have h1 := ((h.2 i).1 hi).1
  rw [Bool.or_eq_true, mem_inL, mem_inL] at h1
  exact h1
theorem pick_len {f : Bool → Bool → Bool} {a b r : List Int} (h : isPick f a b r) : r.length ≤ a.length + b.length := by
  have := nodup_len r (a ++ b) (h.1.imp (fun {x y} hxy e => by omega)) (fun i hi => List.mem_append.2 (pick_sub h i hi))
  simpa using this
theorem pick_wf {f : Bool → Bool → Bool} {a b r : List Int} (h : isPick f a b r) (ha : WfL a) (hb : WfL b) : WfL r := fun i hi => by
  rcases pick_sub h i hi with h1 | h1
  · exact ha i h1
  · exact hb i h1

abbrev Row1 := Option Addr × Nat × List Int
structure Rs (N : Nat) (w : World) (t : Row1) : Prop where
  C : Kd.C KI w t.1 t.2.2.length t.2.2
  cap : t.2.2.length ≤ t.2.1
  wf : WfL t.2.2
  len : t.2.2.length ≤ N
def Has (N : Nat) (w : World) (L : List Row1) : Prop := ∀ t ∈ L, Rs N w t
theorem Has.below {N : Nat} {w w' : World} {L : List Row1} (h : Has N w L) (hb : Below w.heap.size w w') : Has N w' L := fun t ht =>
  ⟨Kd.C_below (h t ht).C hb, (h t ht).cap, (h t ht).wf, (h t ht).len⟩
theorem Has.more {N M : Nat} {w : World} {L : List Row1} (h : Has N w L) (hm : N ≤ M) : Has M w L := fun t ht =>
  ⟨(h t ht).C, (h t ht).cap, (h t ht).wf, Nat.le_trans (h t ht).len hm⟩
theorem Has.cons {N : Nat} {w : World} {L : List Row1} {t : Row1} (h : Has N w L) (ht : Rs N w t) : Has N w (t :: L) := fun u hu => by
  rcases List.mem_cons.1 hu with rfl | hu
  · exact ht
  · exact h u hu
def PkPost (f : Bool → Bool → Bool) (a b : List Int) (N : Nat) (w : World) (L : List Row1) (e : Ending) (w' : World) : Prop :=
  ∃ A' c' r, e = .returned (.slice A' r.length c') ∧ isPick f a b r ∧ Has (2 * N) w' ((A', c', r) :: L) ∧ Below w.heap.size w w'
theorem pk_of_res {f : Bool → Bool → Bool} {a b : List Int} {N : Nat} {w w' : World} {L : List Row1} {A B : Option Addr} {ca cb : Nat} {e : Ending} (hL : Has N w L) (ha : (A, ca, a) ∈ L) (hb : (B, cb, b) ∈ L) (h : PickRes f a b w e w') : PkPost f a b N w L e w' := by
  obtain ⟨r, hp, hw, v, rfl, hr, hbl⟩ := h
  obtain ⟨A', c', rfl, hc, hC⟩ := Kd.R_reads hr
  have h1 := (hL _ ha).len
  have h2 := (hL _ hb).len
  have h3 := pick_len hp
  exact ⟨A', c', r, rfl, hp, ((hL.below hbl).more (by omega)).cons ⟨hC, hc, hw, by simp only at h1 h2 ⊢; omega⟩, hbl⟩
def fAnd (x y : Bool) : Bool := x && y
def fOr (x y : Bool) : Bool := x || y
def fNot (x y : Bool) : Bool := x && !y
theorem fits24 (x y : Bool) (W : World) : Calls Tryd.prog 130 #[.bool x, .bool y] W fun e w' => e = .returned (.bool (fAnd x y)) ∧ W = w' := by
  cases x <;> cases y <;> (go_enter Tryd.func130, Tryd.ntmps130; go_wp2; go_ret; exact ⟨rfl, rfl⟩)
theorem fits28 (x y : Bool) (W : World) : Calls Tryd.prog 158 #[.bool x, .bool y] W fun e w' => e = .returned (.bool (fNot x y)) ∧ W = w' := by
  cases x <;> cases y <;> (go_enter Tryd.func158, Tryd.ntmps158; go_wp2; go_ret; exact ⟨rfl, rfl⟩)
theorem enter24 (args : Array Value) (w : World) : (callFunc 130 args).run Tryd.prog w = .ok (.enter 130 args) w := by kernel_rfl
theorem enter28 (args : Array Value) (w : World) : (callFunc 158 args).run Tryd.prog w = .ok (.enter 158 args) w := by kernel_rfl
theorem pick_call (g : Nat) (f : Bool → Bool → Bool) (eg : ∀ args w, (callFunc g args).run Tryd.prog w = .ok (.enter g args) w) (hf : ∀ x y W, Calls Tryd.prog g #[.bool x, .bool y] W fun e w' => e = .returned (.bool (f x y)) ∧ W = w')
    {N : Nat} {w : World} {L : List Row1} (A B : Option Addr) (ca cb : Nat) (a b : List Int) (hL : Has N w L) (hN : N ≤ 1099511627776) (ha : (A, ca, a) ∈ L) (hb : (B, cb, b) ∈ L) :
    Calls Tryd.prog 127 #[.slice A a.length ca, .slice B b.length cb, .func (.func g) #[] #[]] w (PkPost f a b N w L) := by
  have h1 := (hL _ ha).len
  have h2 := (hL _ hb).len
  simp only at h1 h2
  exact (picked_any g f A B ca cb a b w eg hf (hL _ ha).C (hL _ hb).C (by omega) (by omega) (hL _ ha).wf (hL _ hb).wf (by omega)).mono (fun e w' h => pk_of_res hL ha hb h)

set_option maxRecDepth 100000 in
theorem and_any {N : Nat} {w : World} {L : List Row1} (A B : Option Addr) (ca cb : Nat) (a b : List Int) (hL : Has N w L) (hN : N ≤ 1099511627776) (ha : (A, ca, a) ∈ L) (hb : (B, cb, b) ∈ L) :
    Calls Tryd.prog 74 #[.slice A a.length ca, .slice B b.length cb] w (PkPost fAnd a b N w L) := by
  have H := Lib.hid (pick_call 130 fAnd enter24 fits24 A B ca cb a b hL hN ha hb)
  clear hL ha hb
  go_enter Tryd.func74, Tryd.ntmps74
  go_wp2_with (go_at_call 127; (refine H.out.mono ?_); rintro e w2 ⟨A', c', r, rfl, hp⟩; have HP := Lib.hid hp; clear hp)
  go_ret
  exact ⟨A', c', r, rfl, HP.out⟩
set_option maxRecDepth 100000 in
theorem not_any {N : Nat} {w : World} {L : List Row1} (A B : Option Addr) (ca cb : Nat) (a b : List Int) (hL : Has N w L) (hN : N ≤ 1099511627776) (ha : (A, ca, a) ∈ L) (hb : (B, cb, b) ∈ L) :
    Calls Tryd.prog 122 #[.slice A a.length ca, .slice B b.length cb] w (PkPost fNot a b N w L) := by
  have H := Lib.hid (pick_call 158 fNot enter28 fits28 A B ca cb a b hL hN ha hb)
  clear hL ha hb
  go_enter Tryd.func122, Tryd.ntmps122
  go_wp2_with (go_at_call 127; (refine H.out.mono ?_); rintro e w2 ⟨A', c', r, rfl, hp⟩; have HP := Lib.hid hp; clear hp)
  go_ret
  exact ⟨A', c', r, rfl, HP.out⟩
/-! ### Ints, Right -/
theorem ints_l0 (a b : List Int) (hl : a.length = b.length) (hN : a.length ≤ 17592186044416) : ∀ m j : Nat, m + j = a.length → icehouselaw05_Ints.l0 (m + 1) a b (j : Int) = some (decide (a.drop j = b.drop j)) := by
  intro m
  induction m with
  | zero =>
    intro j hj
    have e1 : a.drop j = [] := List.drop_eq_nil_of_le (by omega)
    have e2 : b.drop j = [] := List.drop_eq_nil_of_le (by omega)
    rw [e1, e2, icehouselaw05_Ints.l0, if_neg (by omega)]
    rfl
  | succ m ih =>
    intro j hj
    rw [icehouselaw05_Ints.l0, if_pos (by omega), if_pos (by omega), if_pos (by omega)]
    have hja : j < a.length := by omega
    have hjb : j < b.length := by omega
    have ea : rd a (j : Int) = a[j] := by unfold rd; simp [hja]
    have eb : rd b (j : Int) = b[j] := by unfold rd; simp [hjb]
    rw [ea, eb, List.drop_eq_getElem_cons hja, List.drop_eq_getElem_cons hjb]
    split
    · rename_i h
      rw [w64 (by omega) (by omega)]
      have := ih (j + 1) (by omega)
      rw [show ((j : Int) + 1) = ((j + 1 : Nat) : Int) by omega, this, h]
      refine congrArg some (decide_eq_decide.2 ⟨fun e => by rw [e], fun e => (List.cons.inj e).2⟩)
    · rename_i h
      refine congrArg some (decide_eq_false (fun e => h (List.cons.inj e).1)).symm
def BlPost (r : Bool) (N : Nat) (w : World) (L : List Row1) (e : Ending) (w' : World) : Prop := e = .returned (.bool r) ∧ Has N w' L ∧ Below w.heap.size w w'
theorem ints_any {N : Nat} {w : World} {L : List Row1} (A B : Option Addr) (ca cb : Nat) (a b : List Int) (hL : Has N w L) (hN : N ≤ 1099511627776) (ha : (A, ca, a) ∈ L) (hb : (B, cb, b) ∈ L) :
    Calls Tryd.prog 72 #[.slice A a.length ca, .slice B b.length cb] w (BlPost (decide (a = b)) N w L) := by
  refine (icehouselaw05_Ints.calls (a.length + 1) A ca a B cb b (decide (a = b)) w (hL _ ha).C (hL _ ha).cap (hL _ hb).C (hL _ hb).cap ?_).mono (fun e w' h => ⟨h.1, hL.below h.2.below, h.2.below⟩)
  have h1 := (hL _ ha).len
  simp only at h1
  unfold icehouselaw05_Ints.f
  by_cases hl : a.length = b.length
  · rw [if_pos (by omega)]
    exact ints_l0 a b hl (by omega) a.length 0 rfl
  · rw [if_neg (by omega)]
    have : a ≠ b := fun e => hl (by rw [e])
    simp [this]
theorem put0 : postings_Put.f 20 [5, 6, 9] = some ([3, 5, 0, 2], 0) := by kernel_rfl
theorem str0 : strOfNums [3, 5, 0, 2] = ⟨#[3, 5, 0, 2]⟩ := by rfl
theorem lit_C (w : World) (l : List Int) (hl : l.length ≤ 4611686018427387904) : Kd.C KI (w.alloc (.cells (zc l).toArray 3)) (some ⟨w.heap.size, 0, none⟩) l.length l := by
  refine Kd.C_of_reads (enc := Value.int .i64) (d := (0 : Int)) (h1 := fun _ => rfl) ?_
  refine ⟨rfl, by omega, fun _ => ⟨_, rfl, fun j hj => ?_⟩⟩
  rw [addr_add, Nat.zero_add]
  exact (Blk.new w (zc l).toArray 3 _ rfl).cell j _ (by simp [hj])
theorem lit_Rs {N : Nat} (w : World) (l : List Int) (hw : WfL l) (hl : l.length ≤ N) (hN : N ≤ 1099511627776) : Rs N (w.alloc (.cells (zc l).toArray 3)) (some ⟨w.heap.size, 0, none⟩, l.length, l) :=
  ⟨lit_C w l (by omega), Nat.le_refl _, hw, hl⟩
set_option maxRecDepth 100000 in
theorem lit_has {N : Nat} {w : World} {L : List Row1} (l : List Int) (hw : WfL l) (hl : l.length ≤ N) (hN : N ≤ 1099511627776) (hL : Has N w L) : Has N (w.alloc (.cells (zc l).toArray 3)) ((some ⟨w.heap.size, 0, none⟩, l.length, l) :: L) :=
  (hL.below (below_alloc (Below.refl _ _) _)).cons (lit_Rs w l hw hl hN)
theorem pick_eq {f : Bool → Bool → Bool} {a b r : List Int} (h : isPick f a b r) (r' : List Int) (h' : isPick f a b r') : decide (r = r') = true := decide_eq_true (pick_unique h h')
theorem pick1 : isPick fAnd [1, 3, 5] [3, 4, 5] [3, 5] := ⟨by decide, fun i => by simp [inL, fAnd]; omega⟩
theorem pick2 : isPick fNot [1, 3] [3] [1] := ⟨by decide, fun i => by simp [inL, fNot]; omega⟩

theorem num_any (n : Int) (w : World) : Calls Tryd.prog 70 #[.int .i64 n] w fun e w' => e = .returned (.int .i64 n) ∧ w' = w := by
  go_enter Tryd.func70, Tryd.ntmps70
  go_wp2
  go_ret
  exact ⟨rfl, rfl⟩
theorem wf1 : WfL [1, 3, 5] := fun x hx => by simp at hx; omega
theorem wf2 : WfL [3, 4, 5] := fun x hx => by simp at hx; omega
theorem wf3 : WfL [3, 5] := fun x hx => by simp at hx; omega
theorem wf4 : WfL [1, 3] := fun x hx => by simp at hx; omega
theorem wf5 : WfL [3] := fun x hx => by simp at hx; omega
theorem wf6 : WfL [1] := fun x hx => by simp at hx; omega
def Bl (r : Bool) (w : World) (e : Ending) (w' : World) : Prop := e = .returned (.bool r) ∧ Below w.heap.size w w'
theorem bel {w w1 w2 : World} (h : Below w.heap.size w w1) (h2 : Below w1.heap.size w1 w2) : Below w.heap.size w w2 := h.trans (h2.mono h.size)
theorem lit_at {w : World} (l : List Int) (hw : WfL l) (hl : l.length ≤ 8) (L : List Row1) (hL : Has 8 w L) : Has 8 (w.alloc (.cells (zc l).toArray 3)) ((some ⟨w.heap.size, 0, none⟩, l.length, l) :: L) := lit_has l hw hl (by omega) hL
def KnPost (r : List Int) (w : World) (e : Ending) (w' : World) : Prop := ∃ A c, e = .returned (.slice A r.length c) ∧ Has 16 w' [(A, c, r)] ∧ Below w.heap.size w w'
theorem has_one {N : Nat} {w : World} {t : Row1} {L : List Row1} (h : Has N w (t :: L)) : Has N w [t] := fun u hu => h u (by simp at hu; simp [hu])
theorem know_and (W : World) : Calls Tryd.prog 74 #[.slice (some ⟨W.heap.size, 0, none⟩) 3 3, .slice (some ⟨W.heap.size + 1, 0, none⟩) 3 3] ((W.alloc (.cells #[.int .i64 1, .int .i64 3, .int .i64 5] 3)).alloc (.cells #[.int .i64 3, .int .i64 4, .int .i64 5] 3)) (KnPost [3, 5] W) := by
  have h := lit_at [3, 4, 5] wf2 (by decide) _ (lit_at [1, 3, 5] wf1 (by decide) [] (w := W) (fun t ht => by cases ht))
  rw [show (W.alloc (.cells (zc [1, 3, 5]).toArray 3)).heap.size = W.heap.size + 1 by simp] at h
  have h2 := and_any (some ⟨W.heap.size, 0, none⟩) (some ⟨W.heap.size + 1, 0, none⟩) 3 3 [1, 3, 5] [3, 4, 5] h (by omega) (.tail _ (.head _)) (.head _)
  refine h2.mono ?_
  rintro e w' ⟨A, c, r, rfl, hp, hL, hb⟩
  have hr := pick_unique hp pick1
  subst hr
  exact ⟨A, c, rfl, has_one hL, bel (below_alloc (below_alloc (Below.refl _ _) _) _) hb⟩
theorem know_not (W : World) : Calls Tryd.prog 122 #[.slice (some ⟨W.heap.size, 0, none⟩) 2 2, .slice (some ⟨W.heap.size + 1, 0, none⟩) 1 1] ((W.alloc (.cells #[.int .i64 1, .int .i64 3] 3)).alloc (.cells #[.int .i64 3] 3)) (KnPost [1] W) := by
  have h := lit_at [3] wf5 (by decide) _ (lit_at [1, 3] wf4 (by decide) [] (w := W) (fun t ht => by cases ht))
  rw [show (W.alloc (.cells (zc [1, 3]).toArray 3)).heap.size = W.heap.size + 1 by simp] at h
  have h2 := not_any (some ⟨W.heap.size, 0, none⟩) (some ⟨W.heap.size + 1, 0, none⟩) 2 1 [1, 3] [3] h (by omega) (.tail _ (.head _)) (.head _)
  refine h2.mono ?_
  rintro e w' ⟨A, c, r, rfl, hp, hL, hb⟩
  have hr := pick_unique hp pick2
  subst hr
  exact ⟨A, c, rfl, has_one hL, bel (below_alloc (below_alloc (Below.refl _ _) _) _) hb⟩
theorem know_ints1 (W : World) (A : Option Addr) (c : Nat) (hL : Has 16 W [(A, c, [3, 5])]) : Calls Tryd.prog 72 #[.slice A 2 c, .slice (some ⟨W.heap.size, 0, none⟩) 2 2] (W.alloc (.cells #[.int .i64 3, .int .i64 5] 3)) (Bl true W) := by
  have h2 := ints_any A (some ⟨W.heap.size, 0, none⟩) c 2 [3, 5] [3, 5] (lit_has (w := W) [3, 5] wf3 (by decide) (by omega) hL) (by omega) (.tail _ (.head _)) (.head _)
  exact h2.mono (fun e w' h => ⟨h.1, bel (below_alloc (Below.refl _ _) _) h.2.2⟩)
theorem know_ints2 (W : World) (A : Option Addr) (c : Nat) (hL : Has 16 W [(A, c, [1])]) : Calls Tryd.prog 72 #[.slice A 1 c, .slice (some ⟨W.heap.size, 0, none⟩) 1 1] (W.alloc (.cells #[.int .i64 1] 3)) (Bl true W) := by
  have h2 := ints_any A (some ⟨W.heap.size, 0, none⟩) c 1 [1] [1] (lit_has (w := W) [1] wf6 (by decide) (by omega) hL) (by omega) (.tail _ (.head _)) (.head _)
  exact h2.mono (fun e w' h => ⟨h.1, bel (below_alloc (Below.refl _ _) _) h.2.2⟩)
theorem know_put (W : World) : Calls Tryd.prog 121 #[.slice (some ⟨W.heap.size, 0, none⟩) 3 3] (W.alloc (.cells #[.int .i64 5, .int .i64 6, .int .i64 9] 3)) fun e w' => ∃ A c, e = .returned (.tuple #[.slice A 4 c, .int .i64 0]) ∧ (convert 23 9 (.slice A 4 c)).run Tryd.prog w' = .ok (.string ⟨#[3, 5, 0, 2]⟩) w' ∧ Below W.heap.size W w' := by
  have h := postings_Put.calls 20 (some ⟨W.heap.size, 0, none⟩) 3 [5, 6, 9] [3, 5, 0, 2] 0 (W.alloc (.cells (zc [5, 6, 9]).toArray 3)) (lit_C W _ (by decide)) (Nat.le_refl _) put0
  refine h.mono ?_
  rintro e w2 ⟨v, rfl, ho, hb⟩
  obtain ⟨Ac, qc, rfl⟩ := Kd.R_slice ho
  have h := Kd.C_string (P := Tryd.prog) (A := Ac) (c := qc) Tryd.underlying23 Tryd.underlying5 Tryd.underlying9 (Kd.R_reads' ho).2.2
  rw [str0] at h
  exact ⟨Ac, qc, rfl, h, bel (below_alloc (Below.refl _ _) _) hb⟩

set_option maxHeartbeats 2000000 in
set_option maxRecDepth 100000 in
theorem knows_any (w : World) : Calls Tryd.prog 64 #[] w (Bl true w) := by
  go_enter Tryd.func64, Tryd.ntmps64
  go_wp2_with (first
    | (go_at_call 121; (with_reducible refine (know_put _).mono ?_); rintro e w2 ⟨A2, c2, rfl, hcv, hb⟩; have HB2 := Lib.hid hb; clear hb)
    | (go_at_call 70; (with_reducible refine (num_any _ _).mono ?_); rintro e w2 ⟨rfl, rfl⟩)
    | (go_at_call 74; (with_reducible refine (know_and _).mono ?_); rintro e w3 ⟨A3, c3, rfl, hL, hb⟩; have HL3 := Lib.hid hL; have HB3 := Lib.hid (bel HB2.out hb); clear hL hb)
    | (go_at_call 122; (with_reducible refine (know_not _).mono ?_); rintro e w5 ⟨A5, c5, rfl, hL, hb⟩; have HL5 := Lib.hid hL; have HB5 := Lib.hid (bel HB4.out hb); clear hL hb)
    | (go_at_call 72; (with_reducible refine (know_ints1 _ _ _ HL3.out).mono ?_); rintro e w4 ⟨rfl, hb⟩; have HB4 := Lib.hid (bel HB3.out hb); clear hb)
    | (go_at_call 72; (with_reducible refine (know_ints2 _ _ _ HL5.out).mono ?_); rintro e w6 ⟨rfl, hb⟩; have HB6 := Lib.hid (bel HB5.out hb); clear hb))
  go_ret
  exact ⟨rfl, HB6.out⟩
end Go.Proofs.YtojocffjajcdmaaDoor.PN
