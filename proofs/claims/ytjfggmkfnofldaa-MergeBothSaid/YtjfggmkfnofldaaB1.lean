import Derived.Test.YtjfggmkfnofldaaA2
import Derived.RegionTactic
import Derived.BigRegion
import Derived.Deep.DeepCutAuto
namespace Go.Proofs.Ytjfggmkfnofldaa
open Go.RowKit
set_option linter.unusedVariables false

/-- What an entry's four cells hold. -/
structure Ent where
  s : Int
  t : Int
  A : Option Addr
  n : Nat
  c : Nat
  x : ByteArray
abbrev Ent.cells (e : Ent) : Array Value := #[.int .i64 e.s, .int .i64 e.t, .slice e.A e.n e.c, .string e.x]
instance : Inhabited Ent := ⟨⟨0, 0, none, 0, 0, ⟨#[]⟩⟩⟩
/-- A row of the heap: its entries (from number k on in block b), its capacity, its number. -/
structure It where
  b : Nat
  k : Nat
  c : Nat
  es : List Ent
  ix : Int
abbrev It.sl (i : It) : Value := .slice (some ⟨i.b, i.k * 4, none⟩) i.es.length i.c
def It.hd (i : It) : Ent := i.es.headD default
def entFirst (nw : Bool) (a b : Ent) : Bool := firstE nw a.s a.t b.s b.t
def itLess (nw : Bool) (x y : It) : Bool :=
  if entFirst nw x.hd y.hd then true else if entFirst nw y.hd x.hd then false else decide (x.ix < y.ix)
/-- The four cells of an entry at a place. -/
structure EntCells (w : World) (b o : Nat) (e : Ent) : Prop where
  c0 : w.cell? ⟨b, o, none⟩ = some (.int .i64 e.s)
  c1 : w.cell? ⟨b, o + 1, none⟩ = some (.int .i64 e.t)
  c2 : w.cell? ⟨b, o + 2, none⟩ = some (.slice e.A e.n e.c)
  c3 : w.cell? ⟨b, o + 3, none⟩ = some (.string e.x)
theorem EntCells.below {w w' : World} {B b o : Nat} {e : Ent} (h : EntCells w b o e) (hb : Below B w w') (hB : b < B) : EntCells w' b o e :=
  ⟨(hb.cell (p := ⟨b, _, none⟩) hB).trans h.c0, (hb.cell (p := ⟨b, _, none⟩) hB).trans h.c1, (hb.cell (p := ⟨b, _, none⟩) hB).trans h.c2, (hb.cell (p := ⟨b, _, none⟩) hB).trans h.c3⟩

theorem keepc {w w' : World} {a : Addr} {v : Value} (hb : Below w.heap.size w w') (h : w.cell? a = some v) : w'.cell? a = some v :=
  (hb.cell (World.block_lt_of_cell? w a h)).trans h

theorem undrew {w w2 : World} (h : Below w.drew.heap.size w.drew w2) : Below w.heap.size w w2 := ⟨h.os, h.tape, h.output, h.size, h.block⟩
theorem thenB {w0 w w2 : World} (h : Below w0.heap.size w0 w) (h2 : Below w.heap.size w w2) : Below w0.heap.size w0 w2 := h.trans (h2.mono h.size)
def LessCut (w : World) (x y : It) (s7 s8 : Value) (wx : World) : Prop :=
  ∃ p q, s7 = .pointer (some ⟨p, 0, none⟩) ∧ s8 = .pointer (some ⟨q, 0, none⟩) ∧ Blk wx p #[x.sl, .int .i64 x.ix] 62 ∧ Blk wx q #[y.sl, .int .i64 y.ix] 62 ∧ Below w.heap.size w wx ∧ w.heap.size ≤ p ∧ w.heap.size ≤ q

theorem lessCut1 (w : World) (x y : It) : LessCut w x y (.pointer (some ⟨w.heap.size, 0, none⟩)) (.pointer (some ⟨w.heap.size + 1, 0, none⟩))
    ((w.alloc (.cells #[x.sl, .int .i64 x.ix] 62)).alloc (.cells #[y.sl, .int .i64 y.ix] 62)).drew :=
  ⟨_, _, rfl, rfl, ((Blk.new w _ _ _ rfl).alloc _).drew, (Blk.new _ _ _ _ (by simp)).drew, (((Below.refl _ _).alloc (by simp) _).alloc (by simp) _).drew, by simp, by simp⟩
theorem lessCut2 (w : World) (x y : It) : LessCut w x y (.pointer (some ⟨w.heap.size + 1, 0, none⟩)) (.pointer (some ⟨w.heap.size, 0, none⟩))
    ((w.alloc (.cells #[y.sl, .int .i64 y.ix] 62)).alloc (.cells #[x.sl, .int .i64 x.ix] 62)).drew :=
  ⟨_, _, rfl, rfl, (Blk.new _ _ _ _ (by simp)).drew, ((Blk.new w _ _ _ rfl).alloc _).drew, (((Below.refl _ _).alloc (by simp) _).alloc (by simp) _).drew, by simp, by simp⟩
set_option maxHeartbeats 1000000 in
theorem less_core (hb ab n cap : Nat) (nw : Bool) (i j : Nat) (x y : It) (w : World) (hi : i < n) (hj : j < n) (hn : n ≤ 1000000000000) (hx : 0 < x.es.length) (hy : 0 < y.es.length)
   (h0 : w.cell? ⟨hb, 0, none⟩ = some (.slice (some ⟨ab, 0, none⟩) n cap)) (h1 : w.cell? ⟨hb, 1, none⟩ = some (.bool nw))
   (x0 : w.cell? ⟨ab, i * 2, none⟩ = some x.sl) (x1 : w.cell? ⟨ab, i * 2 + 1, none⟩ = some (.int .i64 x.ix))
   (y0 : w.cell? ⟨ab, j * 2, none⟩ = some y.sl) (y1 : w.cell? ⟨ab, j * 2 + 1, none⟩ = some (.int .i64 y.ix))
   (ex : EntCells w x.b (x.k * 4) x.hd) (ey : EntCells w y.b (y.k * 4) y.hd) :
   Calls Try.prog 68 #[.pointer (some ⟨hb, 0, none⟩), .int .i64 i, .int .i64 j] w
      fun e w' => e = .returned (.bool (itLess nw x y)) ∧ Below w.heap.size w w' := by
  have lh := World.block_lt_of_cell? w _ h0
  have la := World.block_lt_of_cell? w _ x0
  have lx := World.block_lt_of_cell? w _ ex.c0
  have ly := World.block_lt_of_cell? w _ ey.c0
  simp only at lh la lx ly
  go_enter Try.func68, Try.ntmps68
  go_upto_region 1 with fail
  go_cut [7, 8] (fun s7 s8 wx => LessCut w x y s7 s8 wx)
  case first =>
    go_region
    all_goals (go_wp2_with fail; go_meet; first | exact lessCut1 w x y | exact lessCut2 w x y)
  case rest =>
    obtain ⟨p, q, rfl, rfl, bp, bq, hb1, gp, gq⟩ := hcut
    have ex' := ex.below hb1 lx
    have ey' := ey.below hb1 ly
    have n0 := (hb1.cell (p := ⟨hb, 1, none⟩) lh).trans h1
    have p0 := bp.cell 0 _ rfl
    have p1 := bp.cell 1 _ rfl
    have q0 := bq.cell 0 _ rfl
    have q1 := bq.cell 1 _ rfl
    have px : (0 : Int) < (x.es.length : Int) := by omega
    have py : (0 : Int) < (y.es.length : Int) := by omega
    obtain ⟨e0, e1, e2, e3⟩ := ex'
    obtain ⟨f0, f1, f2, f3⟩ := ey'
    have lp := bp.lt
    have lq := bq.lt
    have lx1 := World.block_lt_of_cell? wc _ e0
    have ly1 := World.block_lt_of_cell? wc _ f0
    have lh1 := World.block_lt_of_cell? wc _ n0
    simp only at lx1 ly1 lh1
    clear ex ey h0 h1 x0 x1 y0 y1
    go_wp2_with fail
    go_region_held3 (fun w' => w'.cell? ⟨p, 0, none⟩ = some x.sl ∧ w'.cell? ⟨p, 1, none⟩ = some (.int .i64 x.ix) ∧ w'.cell? ⟨q, 0, none⟩ = some y.sl ∧ w'.cell? ⟨q, 1, none⟩ = some (.int .i64 y.ix) ∧ w'.cell? ⟨hb, 1, none⟩ = some (.bool nw)
       ∧ w'.cell? ⟨x.b, x.k * 4, none⟩ = some (.int .i64 x.hd.s) ∧ w'.cell? ⟨x.b, x.k * 4 + 1, none⟩ = some (.int .i64 x.hd.t) ∧ w'.cell? ⟨x.b, x.k * 4 + 2, none⟩ = some (.slice x.hd.A x.hd.n x.hd.c) ∧ w'.cell? ⟨x.b, x.k * 4 + 3, none⟩ = some (.string x.hd.x)
       ∧ w'.cell? ⟨y.b, y.k * 4, none⟩ = some (.int .i64 y.hd.s) ∧ w'.cell? ⟨y.b, y.k * 4 + 1, none⟩ = some (.int .i64 y.hd.t) ∧ w'.cell? ⟨y.b, y.k * 4 + 2, none⟩ = some (.slice y.hd.A y.hd.n y.hd.c) ∧ w'.cell? ⟨y.b, y.k * 4 + 3, none⟩ = some (.string y.hd.x))
     (first | go_keep | (exact ⟨keepc hb2 p0, keepc hb2 p1, keepc hb2 q0, keepc hb2 q1, keepc hb2 n0, keepc hb2 e0, keepc hb2 e1, keepc hb2 e2, keepc hb2 e3, keepc hb2 f0, keepc hb2 f1, keepc hb2 f2, keepc hb2 f3⟩))
     (first | (go_at_call 33; refine (first_any _ _ _ _ _ _ _ _ _ _ _ _ _ _).mono ?_; rintro e w2 ⟨rfl, hb2⟩))
    go_wp2_with fail
    · have ht : firstE nw x.hd.s x.hd.t y.hd.s y.hd.t = true := by assumption
      go_ret
      exact ⟨by simp [itLess, entFirst, ht], thenB hb1 (undrew hb2)⟩
    · have ht : firstE nw x.hd.s x.hd.t y.hd.s y.hd.t = false := by assumption
      replace p0 := keepc hb2 p0
      replace p1 := keepc hb2 p1
      replace q0 := keepc hb2 q0
      replace q1 := keepc hb2 q1
      replace n0 := keepc hb2 n0
      replace e0 := keepc hb2 e0
      replace e1 := keepc hb2 e1
      replace e2 := keepc hb2 e2
      replace e3 := keepc hb2 e3
      replace f0 := keepc hb2 f0
      replace f1 := keepc hb2 f1
      replace f2 := keepc hb2 f2
      replace f3 := keepc hb2 f3
      have hbb : Below w.heap.size w w2 := thenB hb1 (undrew hb2)
      clear hb1 hb2 bp bq
      go_region_held3 (fun w' => w'.cell? ⟨p, 0, none⟩ = some x.sl ∧ w'.cell? ⟨p, 1, none⟩ = some (.int .i64 x.ix) ∧ w'.cell? ⟨q, 0, none⟩ = some y.sl ∧ w'.cell? ⟨q, 1, none⟩ = some (.int .i64 y.ix) ∧ w'.cell? ⟨hb, 1, none⟩ = some (.bool nw)
       ∧ w'.cell? ⟨x.b, x.k * 4, none⟩ = some (.int .i64 x.hd.s) ∧ w'.cell? ⟨x.b, x.k * 4 + 1, none⟩ = some (.int .i64 x.hd.t) ∧ w'.cell? ⟨x.b, x.k * 4 + 2, none⟩ = some (.slice x.hd.A x.hd.n x.hd.c) ∧ w'.cell? ⟨x.b, x.k * 4 + 3, none⟩ = some (.string x.hd.x)
       ∧ w'.cell? ⟨y.b, y.k * 4, none⟩ = some (.int .i64 y.hd.s) ∧ w'.cell? ⟨y.b, y.k * 4 + 1, none⟩ = some (.int .i64 y.hd.t) ∧ w'.cell? ⟨y.b, y.k * 4 + 2, none⟩ = some (.slice y.hd.A y.hd.n y.hd.c) ∧ w'.cell? ⟨y.b, y.k * 4 + 3, none⟩ = some (.string y.hd.x))
       (first | go_keep | (exact ⟨keepc hb3 p0, keepc hb3 p1, keepc hb3 q0, keepc hb3 q1, keepc hb3 n0, keepc hb3 e0, keepc hb3 e1, keepc hb3 e2, keepc hb3 e3, keepc hb3 f0, keepc hb3 f1, keepc hb3 f2, keepc hb3 f3⟩))
       (first | (go_at_call 33; refine (first_any _ _ _ _ _ _ _ _ _ _ _ _ _ _).mono ?_; rintro e w3 ⟨rfl, hb3⟩))
      go_wp2_with fail
      · have ht2 : firstE nw y.hd.s y.hd.t x.hd.s x.hd.t = true := by assumption
        go_ret
        exact ⟨by simp [itLess, entFirst, ht, ht2], thenB hbb (undrew hb3)⟩
      · have ht2 : firstE nw y.hd.s y.hd.t x.hd.s x.hd.t = false := by assumption
        have hr : itLess nw x y = decide (x.ix < y.ix) := by simp [itLess, entFirst, ht, ht2]
        replace p1 := keepc hb3 p1
        replace q1 := keepc hb3 q1
        have hbc : Below w.heap.size w w3 := thenB hbb (undrew hb3)
        clear p0 q0 n0 e0 e1 e2 e3 f0 f1 f2 f3
        have HR := Lib.hid hr; clear hr
        go_ret
        exact ⟨by rw [HR.out]; rfl, hbc⟩
end Go.Proofs.Ytjfggmkfnofldaa
