import Derived.Test.YtjfggmkfnofldaaB2
import Derived.Deep.AppendLies
import Derived.StillTactics
import Derived.Deep.RegionLaw
import Derived.StillTailTactics
namespace Go.Proofs.Ytjfggmkfnofldaa
open Go.RowKit
set_option linter.unusedVariables false

theorem info62 : (Try.prog.info? 62).map (fun i => (i.zero, i.size, i.bytes)) = some (some (.agg #[.slice none 0 0, .int .i64 0]), 2, 32) := by kernel_rfl

abbrev It.val (x : It) : Value := .agg #[x.sl, .int .i64 x.ix]

set_option maxHeartbeats 1000000 in
theorem pop_core (hb ab n cap : Nat) (nw : Bool) (x : It) (w : World) (hne : hb ≠ ab) (hn : n < 1000000000000) (hcap : n + 1 ≤ cap)
   (h0 : w.cell? ⟨hb, 0, none⟩ = some (.slice (some ⟨ab, 0, none⟩) (n + 1) cap))
   (z0 : w.frozen? ⟨hb, 0, none⟩ = false)
   (x0 : w.cell? ⟨ab, n * 2, none⟩ = some x.sl) (x1 : w.cell? ⟨ab, n * 2 + 1, none⟩ = some (.int .i64 x.ix)) :
   Calls Try.prog 69 #[.pointer (some ⟨hb, 0, none⟩)] w
      fun e w' => e = .returned (.iface 62 x.val) ∧ w' = ((w.setCell ⟨hb, 0, none⟩ (.slice (some ⟨ab, 0, none⟩) n cap)).alloc (.cells #[x.sl, .int .i64 x.ix] 62)).drew.drew := by
  have lh := World.block_lt_of_cell? w _ h0
  have la := World.block_lt_of_cell? w _ x0
  simp only at lh la
  go_enter Try.func69, Try.ntmps69
  go_wp2
  go_region
  go_wp2
  go_region
  go_wp2
  go_ret
  exact ⟨rfl, rfl⟩

theorem assert62 : ∀ (w : World) (v : Value), (Instr.typeAssert (.iface 62 v) 20 62 false).run Try.prog w = .ok v w := fun w v => by kernel_rfl
theorem grown_cell {w w1 : World} {o : Obj} {row : Option Nat} {a : Addr} {u : Value} (hg : ((w.alloc o).drew).grownBy w1 row) (h : w.cell? a = some u) (hne : row ≠ some a.block) : w1.cell? a = some u :=
  hg.cell ((World.cell?_alloc_lt w o a (World.block_lt_of_cell? w a h)).trans h) (Ne.symm hne)
theorem grown_frozen {w w1 : World} {o : Obj} {row : Option Nat} {b i : Nat} (hg : ((w.alloc o).drew).grownBy w1 row) (hl : b < w.heap.size) (h : w.frozen? ⟨b, i, none⟩ = false) (hne : row ≠ some b) : w1.frozen? ⟨b, i, none⟩ = false :=
  ((World.frozen?_of_block (a := ⟨b, i, none⟩) (hg.block b (by simp; omega) (Ne.symm hne))).trans (World.frozen?_alloc_old w o ⟨b, i, none⟩ (Nat.ne_of_lt hl))).trans h
theorem grown_over {w w1 : World} {o : Obj} {row : Option Nat} (h : ((w.alloc o).drew).grownBy w1 row) : w.grownBy w1 row :=
  ⟨h.os, h.tape, h.output, Nat.le_trans (by simp) h.size, fun k hk hne => (h.block k (by simp; omega) hne).trans (Below.heap_alloc w o k hk)⟩
def PushPost (w : World) (base hb : Nat) (v : Value) (n : Nat) (xs : List Value) (x : It) (e : Ending) (w' : World) : Prop :=
  e = .returned (.tuple #[]) ∧ ∃ g cap w1, w1.ownsRow base 62 2 (.slice (some ⟨g, 0, none⟩) (n + 1) cap) (n + 1) (xs ++ [x.sl, .int .i64 x.ix]) ∧
    w.grownBy w1 v.ownBlock ∧ (v.ownBlock = some g ∨ w.heap.size ≤ g) ∧ w' = w1.setCell ⟨hb, 0, none⟩ (.slice (some ⟨g, 0, none⟩) (n + 1) cap)

set_option maxHeartbeats 1000000 in
theorem push_core (base hb n : Nat) (v : Value) (x : It) (xs : List Value) (w : World) (hn : n < 1000000000000) (hbase : base ≤ w.heap.size)
   (h0 : w.cell? ⟨hb, 0, none⟩ = some v) (hv1 : v.oneCell' = true)
   (z0 : w.frozen? ⟨hb, 0, none⟩ = false) (hne : v.ownBlock ≠ some hb)
   (ho : w.ownsRow base 62 2 v n xs) :
   Calls Try.prog 70 #[.pointer (some ⟨hb, 0, none⟩), .iface 62 x.val] w (PushPost w base hb v n xs x) := by
  obtain ⟨i0, hi0, hz0, hz1, hz2⟩ := info_parts info62
  have hta := assert62
  have lh := World.block_lt_of_cell? w _ h0
  simp only at lh
  go_enter Try.func70, Try.ntmps70
  go_wp2_with fail
  go_region_law
    ((refine step_append_lies _ (by rfl) _ _ _ (by rfl) base 62 i0 _ 2 32 Try.underlying58 hi0 hz0 hz1 hz2 rfl (by omega) v n xs (by rfl) ((ho.alloc _).drew)
        ⟨w.heap.size, 0, none⟩ 1 1 [x.sl, .int .i64 x.ix] (by rfl) (by rfl) (World.news_of_block (cs := #[x.sl, .int .i64 x.ix]) (t := 62) (fr := (0, 0)) (heap_alloc_new w _)) (by simp [Value.oneCell'])
        (by omega) (by simp only [maxLen]; omega) (by omega) (by simp; omega) (w.heap.size + 1) (by simp) ?_; intro gg cap w1 hown1 hgrow hat hlt; have zz1 := grown_frozen hgrow lh z0 hne; have zz0 := grown_cell hgrow h0 hne))
  all_goals go_end0
  all_goals exact ⟨rfl, gg, cap, w1, hown1, grown_over hgrow, hat.imp_right (fun h => by omega), rfl⟩
end Go.Proofs.Ytjfggmkfnofldaa
