import Derived.Test.YtojocffjajcdmaaDoorRA
import Derived.Deep.DeepFit
namespace Go.Proofs.YtojocffjajcdmaaDoor
open Go.RowKit Go.Proofs.YtojocffjajcdmaaDoorW.PrintWords Go.Proofs.YtojocffjajcdmaaDoorW.PrintLast Go.Proofs.YtojocffjajcdmaaDoorW.PrintMore PChunkAll
set_option linter.unusedVariables false
set_option linter.unusedSimpArgs false

/-- Block b holds just these cells. -/
structure Blk (w : World) (b : Nat) (cs : Array Value) (t : Nat) : Prop where
  out : w.heap[b]? = some (.cells cs t (0, 0))

theorem Blk.new (w : World) (cs : Array Value) (t b : Nat) (hb : b = w.heap.size) : Blk (w.alloc (.cells cs t)) b cs t := by
  subst hb; exact ⟨by show (w.heap.push _)[_]? = _; simp⟩
theorem Blk.lt {w : World} {b t : Nat} {cs : Array Value} (h : Blk w b cs t) : b < w.heap.size :=
  (Array.getElem?_eq_some_iff.1 h.out).1
theorem Blk.below {w w' : World} {B b t : Nat} {cs : Array Value} (h : Blk w b cs t) (hb : Below B w w') (hB : b < B) : Blk w' b cs t :=
  ⟨(hb.block b hB).trans h.out⟩
theorem Blk.alloc {w : World} {b t : Nat} {cs : Array Value} (h : Blk w b cs t) (o : Obj) : Blk (w.alloc o) b cs t :=
  ⟨(Below.heap_alloc w o b h.lt).trans h.out⟩
theorem Blk.drew {w : World} {b t : Nat} {cs : Array Value} (h : Blk w b cs t) : Blk w.drew b cs t := ⟨h.out⟩
theorem Blk.drewN {w : World} {b t : Nat} {cs : Array Value} (h : Blk w b cs t) (n : Nat) : Blk (w.drewN n) b cs t := ⟨h.out⟩
theorem Blk.cell {w : World} {b t : Nat} {cs : Array Value} (h : Blk w b cs t) (i : Nat) (v : Value) (hv : cs[i]? = some v) : w.cell? ⟨b, i, none⟩ = some v := by
  unfold World.cell?; rw [h.out]; simpa using hv
theorem Blk.frozen {w : World} {b t : Nat} {cs : Array Value} (h : Blk w b cs t) (i : Nat) : w.frozen? ⟨b, i, none⟩ = false := by
  unfold World.frozen?; rw [h.out]; simp
theorem Blk.set {w : World} {b t : Nat} {cs : Array Value} (h : Blk w b cs t) (i : Nat) (v : Value) : Blk (w.setCell ⟨b, i, none⟩ v) b (cs.setIfInBounds i v) t := by
  constructor
  show (w.heap.modify b _)[b]? = _
  simp [Array.getElem?_modify, h.out]
theorem Blk.far {w : World} {b t : Nat} {cs : Array Value} (h : Blk w b cs t) (a : Addr) (v : Value) (hne : b ≠ a.block) : Blk (w.setCell a v) b cs t :=
  ⟨(Below.heap_setCell w a v b hne).trans h.out⟩

theorem wp_gen {P : Program} {c : Code} {Q : Exit → Act → World → Prop} {a : Act} {W : World} (S : World → Prop) (h : S W)
    (k : ∀ W', S W' → Code.wp P c Q a W') : Code.wp P c Q a W := k W h
theorem ret_of {v v' : Value} (h : v = v') : Ending.returned v = Ending.returned v' := by rw [h]

set_option maxHeartbeats 400000 in
theorem isNaN_any (a : Int) (w : World) :
    Calls Tryd.prog 147 #[.int .i64 a] w fun e w' => e = .returned (.bool false) ∧ w = w' := by
  go_enter Tryd.func147, Tryd.ntmps147
  go_wp2
  go_ret
  exact ⟨by simp, rfl⟩

def cmpI (a b : Int) : Int := if a < b then -1 else if a > b then 1 else 0

set_option maxHeartbeats 400000 in
theorem compare_any (a b : Int) (w : World) :
    Calls Tryd.prog 98 #[.int .i64 a, .int .i64 b] w fun e w' => e = .returned (.int .i64 (cmpI a b)) ∧ w = w' := by
  by_cases h1 : a < b
  · have hr : cmpI a b = -1 := by simp [cmpI, h1]
    have HR := Lib.hid hr; clear hr
    go_enter Tryd.func98, Tryd.ntmps98
    go_wp2_with (go_at_call 147; refine (isNaN_any _ _).mono ?_; rintro e w' ⟨rfl, rfl⟩)
    go_ret
    exact ⟨by rw [HR.out]; rfl, rfl⟩
  · by_cases h2 : b < a
    · have hr : cmpI a b = 1 := by simp [cmpI, h1, h2]
      have HR := Lib.hid hr; clear hr
      go_enter Tryd.func98, Tryd.ntmps98
      go_wp2_with (go_at_call 147; refine (isNaN_any _ _).mono ?_; rintro e w' ⟨rfl, rfl⟩)
      go_ret
      exact ⟨by rw [HR.out]; rfl, rfl⟩
    · have hr : cmpI a b = 0 := by simp [cmpI, h1, h2]
      have HR := Lib.hid hr; clear hr
      go_enter Tryd.func98, Tryd.ntmps98
      go_wp2_with (go_at_call 147; refine (isNaN_any _ _).mono ?_; rintro e w' ⟨rfl, rfl⟩)
      go_ret
      exact ⟨by rw [HR.out]; rfl, rfl⟩
def orI (a b : Int) : Int := if a = 0 then b else a

set_option maxHeartbeats 400000 in
theorem or2_any (a b : Int) (g : Nat) (w : World) (h0 : w.cell? ⟨g, 0, none⟩ = some (.int .i64 a)) (h1 : w.cell? ⟨g, 1, none⟩ = some (.int .i64 b)) :
    Calls Tryd.prog 149 #[.slice (some ⟨g, 0, none⟩) 2 2] w fun e w' => e = .returned (.int .i64 (orI a b)) ∧ w = w' := by
  by_cases ha : a = 0
  · subst ha
    have hr : orI 0 b = b := by simp [orI]
    have HR := Lib.hid hr; clear hr
    by_cases hb : b = 0
    · subst hb
      go_enter Tryd.func149, Tryd.ntmps149
      go_wp2
      refine wp_loop_rounds 3 ?_; rw [rounds_succ]
      go_wp2
      rw [rounds_succ]
      go_wp2
      rw [rounds_succ]
      go_wp2
      go_ret
      exact ⟨by rw [HR.out]; rfl, rfl⟩
    · have hb' : (b != 0) = true := by simpa using hb
      clear hb
      go_enter Tryd.func149, Tryd.ntmps149
      go_wp2
      refine wp_loop_rounds 2 ?_; rw [rounds_succ]
      go_wp2
      rw [rounds_succ]
      go_wp2
      go_ret
      exact ⟨by rw [HR.out]; rfl, rfl⟩
  · have hr : orI a b = a := by simp [orI, ha]
    have HR := Lib.hid hr; clear hr
    have ha' : (a != 0) = true := by simpa using ha
    clear ha
    go_enter Tryd.func149, Tryd.ntmps149
    go_wp2
    refine wp_loop_rounds 1 ?_; rw [rounds_succ]
    go_wp2
    go_ret
    exact ⟨by rw [HR.out]; rfl, rfl⟩
def cmpE (s t s' t' : Int) : Int := orI (cmpI t t') (cmpI s s')
abbrev entV4 (s t : Int) (l n : Value) : Value := .agg #[.int .i64 s, .int .i64 t, l, n]
abbrev entC4 (s t : Int) (l n : Value) : Array Value := #[.int .i64 s, .int .i64 t, l, n]

theorem two_new0 (w : World) (a b : Value) (t : Nat) : (w.alloc (.cells #[a, b] t)).drew.cell? ⟨w.heap.size, 0, none⟩ = some a := (Blk.new w _ _ _ rfl).drew.cell 0 _ rfl
theorem two_new1 (w : World) (a b : Value) (t : Nat) : (w.alloc (.cells #[a, b] t)).drew.cell? ⟨w.heap.size, 1, none⟩ = some b := (Blk.new w _ _ _ rfl).drew.cell 1 _ rfl
theorem or2_new (a b : Int) (w : World) : Calls Tryd.prog 149 #[.slice (some ⟨w.heap.size, 0, none⟩) 2 2] (w.alloc (.cells #[.int .i64 a, .int .i64 b] 3)).drew
    fun e w' => e = .returned (.int .i64 (orI a b)) ∧ (w.alloc (.cells #[.int .i64 a, .int .i64 b] 3)).drew = w' :=
  or2_any a b _ _ (two_new0 _ _ _ _) (two_new1 _ _ _ _)
set_option maxHeartbeats 400000 in
theorem order_any (s1 t1 s2 t2 : Int) (l1 l2 n1 n2 : Value) (z : Array Value) (w : World) :
    Calls Tryd.prog 110 #[.agg z, .agg #[.int .i64 s1, .int .i64 t1, l1, n1], .agg #[.int .i64 s2, .int .i64 t2, l2, n2]] w
      fun e w' => e = .returned (.int .i64 (cmpE s1 t1 s2 t2)) ∧ Below w.heap.size w w' := by
  go_enter Tryd.func110, Tryd.ntmps110
  go_wp2
  refine wp_gen (fun W => Below w.heap.size w W ∧ Blk W (w.heap.size + 1) (entC4 s1 t1 l1 n1) 33 ∧ Blk W (w.heap.size + 1 + 1) (entC4 s2 t2 l2 n2) 33)
    ⟨(((Below.refl _ _).alloc (by simp) _).alloc (by simp) _).alloc (by simp; omega) _, (Blk.new _ _ _ _ (by simp)).alloc _, Blk.new _ _ _ _ (by simp)⟩ ?_
  rintro W ⟨hb, b1, b2⟩
  have c1 := b1.cell 0 _ rfl
  have c2 := b1.cell 1 _ rfl
  have c3 := b2.cell 0 _ rfl
  have c4 := b2.cell 1 _ rfl
  go_region_held3 (fun w' => w'.cell? ⟨w.heap.size + 1, 0, none⟩ = some (.int .i64 s1) ∧ w'.cell? ⟨w.heap.size + 1, 1, none⟩ = some (.int .i64 t1) ∧ w'.cell? ⟨w.heap.size + 1 + 1, 0, none⟩ = some (.int .i64 s2) ∧ w'.cell? ⟨w.heap.size + 1 + 1, 1, none⟩ = some (.int .i64 t2)) (go_keep)
    (first | (go_at_call 98; refine (compare_any _ _ _).mono ?_; rintro e w' ⟨rfl, rfl⟩)
           | (go_at_call 149; refine (or2_new _ _ _).mono ?_; rintro e w' ⟨rfl, rfl⟩))
  go_wp2
  go_ret
  exact ⟨rfl, (hb.alloc hb.size _).drew⟩

def beforeE (s t s' t' : Int) : Bool := decide (cmpE s t s' t' < 0)
set_option maxHeartbeats 400000 in
theorem before_any (s1 t1 s2 t2 : Int) (l1 l2 n1 n2 : Value) (w : World) :
    Calls Tryd.prog 51 #[.agg #[.int .i64 s1, .int .i64 t1, l1, n1], .agg #[.int .i64 s2, .int .i64 t2, l2, n2]] w
      fun e w' => e = .returned (.bool (beforeE s1 t1 s2 t2)) ∧ Below w.heap.size w w' := by
  go_enter Tryd.func51, Tryd.ntmps51
  go_wp2_with fail
  refine (order_any s1 t1 s2 t2 l1 l2 n1 n2 _ _).mono ?_
  rintro e w1 ⟨rfl, hb1⟩
  go_wp2
  go_ret
  exact ⟨rfl, (((Below.refl _ _).alloc (by simp) _).alloc (by simp) _).trans (hb1.mono (by simp; omega))⟩

end Go.Proofs.YtojocffjajcdmaaDoor
