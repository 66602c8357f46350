import Derived.Test.YtjfggmkfnofldaaB1
namespace Go.Proofs.Ytjfggmkfnofldaa
open Go.RowKit
set_option linter.unusedVariables false

set_option maxHeartbeats 400000 in
theorem len_any (hb : Nat) (A : Option Addr) (n c : Nat) (w : World) (h0 : w.cell? ⟨hb, 0, none⟩ = some (.slice A n c)) :
    Calls Try.prog 38 #[.pointer (some ⟨hb, 0, none⟩)] w fun e w' => e = .returned (.int .i64 n) ∧ w = w' := by
  go_enter Try.func38, Try.ntmps38
  go_wp2
  go_ret
  exact ⟨rfl, rfl⟩

set_option maxHeartbeats 400000 in
theorem none_nil (w : World) : Calls Try.prog 37 #[.pointer none] w fun e w' => e = .returned (.bool true) ∧ w = w' := by
  go_enter Try.func37, Try.ntmps37
  go_wp2
  go_ret
  exact ⟨rfl, rfl⟩
set_option maxHeartbeats 400000 in
theorem none_unmade (a : Nat) (w : World) (h : w.cell? ⟨a, 0, none⟩ = some (.pointer none)) : Calls Try.prog 37 #[.pointer (some ⟨a, 0, none⟩)] w fun e w' => e = .returned (.bool true) ∧ w = w' := by
  go_enter Try.func37, Try.ntmps37
  go_wp2
  go_ret
  exact ⟨rfl, rfl⟩
set_option maxHeartbeats 400000 in
theorem none_made (a : Nat) (b : Addr) (w : World) (h : w.cell? ⟨a, 0, none⟩ = some (.pointer (some b))) : Calls Try.prog 37 #[.pointer (some ⟨a, 0, none⟩)] w fun e w' => e = .returned (.bool false) ∧ w = w' := by
  go_enter Try.func37, Try.ntmps37
  go_wp2
  go_ret
  exact ⟨rfl, rfl⟩

set_option maxHeartbeats 1000000 in
theorem swap_lt (hb ab n cap : Nat) (i j : Nat) (x y : It) (w : World) (hij : i < j) (hi : i < n) (hj : j < n) (hne : hb ≠ ab)
   (h0 : w.cell? ⟨hb, 0, none⟩ = some (.slice (some ⟨ab, 0, none⟩) n cap))
   (x0 : w.cell? ⟨ab, i * 2, none⟩ = some x.sl) (x1 : w.cell? ⟨ab, i * 2 + 1, none⟩ = some (.int .i64 x.ix))
   (y0 : w.cell? ⟨ab, j * 2, none⟩ = some y.sl) (y1 : w.cell? ⟨ab, j * 2 + 1, none⟩ = some (.int .i64 y.ix))
   (f0 : w.frozen? ⟨ab, i * 2, none⟩ = false) (f1 : w.frozen? ⟨ab, i * 2 + 1, none⟩ = false) (f2 : w.frozen? ⟨ab, j * 2, none⟩ = false) (f3 : w.frozen? ⟨ab, j * 2 + 1, none⟩ = false) :
   Calls Try.prog 71 #[.pointer (some ⟨hb, 0, none⟩), .int .i64 i, .int .i64 j] w
      fun e w' => e = .returned (.tuple #[]) ∧ w' = ((((w.setCell ⟨ab, i * 2, none⟩ y.sl).setCell ⟨ab, i * 2 + 1, none⟩ (.int .i64 y.ix)).setCell ⟨ab, j * 2, none⟩ x.sl).setCell ⟨ab, j * 2 + 1, none⟩ (.int .i64 x.ix)).drew := by
  go_enter Try.func71, Try.ntmps71
  go_wp2
  go_region
  all_goals go_end0
  all_goals exact ⟨rfl, rfl⟩
set_option maxHeartbeats 1000000 in
theorem swap_gt (hb ab n cap : Nat) (i j : Nat) (x y : It) (w : World) (hij : j < i) (hi : i < n) (hj : j < n) (hne : hb ≠ ab)
   (h0 : w.cell? ⟨hb, 0, none⟩ = some (.slice (some ⟨ab, 0, none⟩) n cap))
   (x0 : w.cell? ⟨ab, i * 2, none⟩ = some x.sl) (x1 : w.cell? ⟨ab, i * 2 + 1, none⟩ = some (.int .i64 x.ix))
   (y0 : w.cell? ⟨ab, j * 2, none⟩ = some y.sl) (y1 : w.cell? ⟨ab, j * 2 + 1, none⟩ = some (.int .i64 y.ix))
   (f0 : w.frozen? ⟨ab, i * 2, none⟩ = false) (f1 : w.frozen? ⟨ab, i * 2 + 1, none⟩ = false) (f2 : w.frozen? ⟨ab, j * 2, none⟩ = false) (f3 : w.frozen? ⟨ab, j * 2 + 1, none⟩ = false) :
   Calls Try.prog 71 #[.pointer (some ⟨hb, 0, none⟩), .int .i64 i, .int .i64 j] w
      fun e w' => e = .returned (.tuple #[]) ∧ w' = ((((w.setCell ⟨ab, i * 2, none⟩ y.sl).setCell ⟨ab, i * 2 + 1, none⟩ (.int .i64 y.ix)).setCell ⟨ab, j * 2, none⟩ x.sl).setCell ⟨ab, j * 2 + 1, none⟩ (.int .i64 x.ix)).drew := by
  go_enter Try.func71, Try.ntmps71
  go_wp2
  go_region
  all_goals go_end0
  all_goals exact ⟨rfl, rfl⟩

set_option maxHeartbeats 1000000 in
theorem swap_eq (hb ab n cap : Nat) (i : Nat) (x : It) (w : World) (hi : i < n) (hne : hb ≠ ab)
   (h0 : w.cell? ⟨hb, 0, none⟩ = some (.slice (some ⟨ab, 0, none⟩) n cap))
   (x0 : w.cell? ⟨ab, i * 2, none⟩ = some x.sl) (x1 : w.cell? ⟨ab, i * 2 + 1, none⟩ = some (.int .i64 x.ix))
   (f0 : w.frozen? ⟨ab, i * 2, none⟩ = false) (f1 : w.frozen? ⟨ab, i * 2 + 1, none⟩ = false) :
   Calls Try.prog 71 #[.pointer (some ⟨hb, 0, none⟩), .int .i64 i, .int .i64 i] w
      fun e w' => e = .returned (.tuple #[]) ∧ w' = ((((w.setCell ⟨ab, i * 2, none⟩ x.sl).setCell ⟨ab, i * 2 + 1, none⟩ (.int .i64 x.ix)).setCell ⟨ab, i * 2, none⟩ x.sl).setCell ⟨ab, i * 2 + 1, none⟩ (.int .i64 x.ix)).drew := by
  go_enter Try.func71, Try.ntmps71
  go_wp2
  go_region
  all_goals go_end0
  all_goals exact ⟨rfl, rfl⟩
end Go.Proofs.Ytjfggmkfnofldaa
