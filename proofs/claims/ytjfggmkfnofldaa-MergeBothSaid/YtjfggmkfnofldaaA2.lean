import Derived.Test.YtjfggmkfnofldaaA1
namespace Go.Proofs.Ytjfggmkfnofldaa
open Go.RowKit
def cmpE (s t s' t' : Int) : Int := orI (cmpI t t') (cmpI s s')
abbrev entV (s t : Int) (l n : Value) : Value := .agg #[.int .i64 s, .int .i64 t, l, n]
abbrev entC (s t : Int) (l n : Value) : Array Value := #[.int .i64 s, .int .i64 t, l, n]

theorem two_new0 (w : World) (a b : Value) (t : Nat) : (w.alloc (.cells #[a, b] t)).drew.cell? ⟨w.heap.size, 0, none⟩ = some a := (Blk.new w _ _ _ rfl).drew.cell 0 _ rfl
theorem two_new1 (w : World) (a b : Value) (t : Nat) : (w.alloc (.cells #[a, b] t)).drew.cell? ⟨w.heap.size, 1, none⟩ = some b := (Blk.new w _ _ _ rfl).drew.cell 1 _ rfl
theorem or2_new (a b : Int) (w : World) : Calls Try.prog 49 #[.slice (some ⟨w.heap.size, 0, none⟩) 2 2] (w.alloc (.cells #[.int .i64 a, .int .i64 b] 3)).drew
    fun e w' => e = .returned (.int .i64 (orI a b)) ∧ (w.alloc (.cells #[.int .i64 a, .int .i64 b] 3)).drew = w' :=
  or2_any a b _ _ (two_new0 _ _ _ _) (two_new1 _ _ _ _)
set_option maxHeartbeats 400000 in
theorem order_any (s1 t1 s2 t2 : Int) (l1 l2 n1 n2 : Value) (z : Array Value) (w : World) :
    Calls Try.prog 48 #[.agg z, .agg #[.int .i64 s1, .int .i64 t1, l1, n1], .agg #[.int .i64 s2, .int .i64 t2, l2, n2]] w
      fun e w' => e = .returned (.int .i64 (cmpE s1 t1 s2 t2)) ∧ Below w.heap.size w w' := by
  go_enter Try.func48, Try.ntmps48
  go_wp2
  refine wp_gen (fun W => Below w.heap.size w W ∧ Blk W (w.heap.size + 1) (entC s1 t1 l1 n1) 34 ∧ Blk W (w.heap.size + 1 + 1) (entC s2 t2 l2 n2) 34)
    ⟨(((Below.refl _ _).alloc (by simp) _).alloc (by simp) _).alloc (by simp; omega) _, (Blk.new _ _ _ _ (by simp)).alloc _, Blk.new _ _ _ _ (by simp)⟩ ?_
  rintro W ⟨hb, b1, b2⟩
  have c1 := b1.cell 0 _ rfl
  have c2 := b1.cell 1 _ rfl
  have c3 := b2.cell 0 _ rfl
  have c4 := b2.cell 1 _ rfl
  go_region_held3 (fun w' => w'.cell? ⟨w.heap.size + 1, 0, none⟩ = some (.int .i64 s1) ∧ w'.cell? ⟨w.heap.size + 1, 1, none⟩ = some (.int .i64 t1) ∧ w'.cell? ⟨w.heap.size + 1 + 1, 0, none⟩ = some (.int .i64 s2) ∧ w'.cell? ⟨w.heap.size + 1 + 1, 1, none⟩ = some (.int .i64 t2)) (go_keep)
    (first | (go_at_call 50; refine (compare_any _ _ _).mono ?_; rintro e w' ⟨rfl, rfl⟩)
           | (go_at_call 49; refine (or2_new _ _ _).mono ?_; rintro e w' ⟨rfl, rfl⟩))
  go_wp2
  go_ret
  exact ⟨rfl, (hb.alloc hb.size _).drew⟩

def beforeE (s t s' t' : Int) : Bool := decide (cmpE s t s' t' < 0)
set_option maxHeartbeats 400000 in
theorem before_any (s1 t1 s2 t2 : Int) (l1 l2 n1 n2 : Value) (w : World) :
    Calls Try.prog 44 #[.agg #[.int .i64 s1, .int .i64 t1, l1, n1], .agg #[.int .i64 s2, .int .i64 t2, l2, n2]] w
      fun e w' => e = .returned (.bool (beforeE s1 t1 s2 t2)) ∧ Below w.heap.size w w' := by
  go_enter Try.func44, Try.ntmps44
  go_wp2_with fail
  refine (order_any s1 t1 s2 t2 l1 l2 n1 n2 _ _).mono ?_
  rintro e w1 ⟨rfl, hb1⟩
  go_wp2
  go_ret
  exact ⟨rfl, (((Below.refl _ _).alloc (by simp) _).alloc (by simp) _).trans (hb1.mono (by simp; omega))⟩

def firstE (newest : Bool) (s t s' t' : Int) : Bool := if newest then beforeE s' t' s t else beforeE s t s' t'

set_option maxHeartbeats 400000 in
theorem first_any (s1 t1 s2 t2 : Int) (A1 A2 : Option Addr) (m1 c1 m2 c2 : Nat) (n1 n2 : ByteArray) (nw : Bool) (w : World) :
    Calls Try.prog 33 #[.agg #[.int .i64 s1, .int .i64 t1, .slice A1 m1 c1, .string n1], .agg #[.int .i64 s2, .int .i64 t2, .slice A2 m2 c2, .string n2], .bool nw] w
      fun e w' => e = .returned (.bool (firstE nw s1 t1 s2 t2)) ∧ Below w.heap.size w w' := by
  cases nw
  · go_enter Try.func33, Try.ntmps33
    go_wp2_with fail
    refine (before_any s1 t1 s2 t2 _ _ _ _ _).mono ?_
    rintro e w1 ⟨rfl, hb1⟩
    go_wp2
    go_ret
    exact ⟨rfl, (((Below.refl _ _).alloc (by simp) _).alloc (by simp) _).trans (hb1.mono (by simp; omega))⟩
  · go_enter Try.func33, Try.ntmps33
    go_wp2_with fail
    refine (before_any s2 t2 s1 t1 _ _ _ _ _).mono ?_
    rintro e w1 ⟨rfl, hb1⟩
    go_wp2
    go_ret
    exact ⟨rfl, (((Below.refl _ _).alloc (by simp) _).alloc (by simp) _).trans (hb1.mono (by simp; omega))⟩
end Go.Proofs.Ytjfggmkfnofldaa
