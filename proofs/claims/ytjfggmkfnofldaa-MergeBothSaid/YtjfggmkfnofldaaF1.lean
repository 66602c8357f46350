import Derived.Test.YtjfggmkfnofldaaE1
namespace Go.Proofs.Ytjfggmkfnofldaa
open Go.RowKit
set_option linter.unusedVariables false

def NoNext (w : World) (e : Ending) (w' : World) : Prop := e = .returned (.tuple #[.agg #[.int .i64 0, .int .i64 0, .slice none 0 0, .string ⟨#[]⟩], .bool false]) ∧ Below w.heap.size w w'

set_option maxHeartbeats 400000 in
theorem next_nil (w : World) : Calls Try.prog 26 #[.pointer none] w (NoNext w) := by
  go_enter Try.func26, Try.ntmps26
  go_wp2
  refine wp_loop_rounds 1 ?_; rw [rounds_succ]
  go_wp2_with (go_at_call 37; refine (none_nil _).mono ?_; rintro e w1 ⟨rfl, rfl⟩)
  refine bodyPost_ret (v := .tuple #[.agg #[.int .i64 0, .int .i64 0, .slice none 0 0, .string ⟨#[]⟩], .bool false]) (res26 _ w.heap.size _ _ _ _ _ (Blk.new _ _ _ _ rfl) _ rfl rfl) rfl ?_
  exact ⟨rfl, (Below.refl _ _).alloc (Nat.le_refl _) _⟩
set_option maxHeartbeats 400000 in
theorem next_unmade (a : Nat) (w : World) (h : w.cell? ⟨a, 0, none⟩ = some (.pointer none)) : Calls Try.prog 26 #[.pointer (some ⟨a, 0, none⟩)] w (NoNext w) := by
  have h2 := keepc ((Below.refl w.heap.size w).alloc (Nat.le_refl _) (.cells #[.int .i64 0, .int .i64 0, .slice none 0 0, .string ⟨#[]⟩] 34)) h
  go_enter Try.func26, Try.ntmps26
  go_wp2
  refine wp_loop_rounds 1 ?_; rw [rounds_succ]
  go_wp2_with (go_at_call 37; refine (none_unmade _ _ h2).mono ?_; rintro e w1 ⟨rfl, rfl⟩)
  refine bodyPost_ret (v := .tuple #[.agg #[.int .i64 0, .int .i64 0, .slice none 0 0, .string ⟨#[]⟩], .bool false]) (res26 _ w.heap.size _ _ _ _ _ (Blk.new _ _ _ _ rfl) _ rfl rfl) rfl ?_
  exact ⟨rfl, (Below.refl _ _).alloc (Nat.le_refl _) _⟩

def kE (s t : Int) : Ent := ⟨s, t, none, 0, 0, ⟨#[]⟩⟩
theorem kE_ok (w : World) (s t : Int) (hs : (Lit.int .i64 s).wf = true) (ht : (Lit.int .i64 t).wf = true) : EntOk w (kE s t) :=
  ⟨hs, ht, [], fun h => by simp [lcells] at h, rfl, ⟨Nat.le_refl _, fun _ => rfl⟩, by show 0 * 32 ≤ 140737488355328; omega⟩
theorem knows_all : refAll false 0 [[kE 4 1, kE 2 3], [kE 4 1, kE 9 2]] = [kE 4 1, kE 9 2, kE 2 3] := by kernel_rfl

theorem rowCells_blk {w : World} {b t : Nat} {cs : Array Value} (h : Blk w b cs t) : RowCells w (some ⟨b, 0, none⟩) cs.toList := fun _ =>
  ⟨b, 0, rfl, fun j u hu => by rw [Nat.zero_add]; exact h.cell j u (by simpa using hu)⟩

theorem three {α : Type} (os : List α) (h : os.length = 3) : ∃ a b c, os = [a, b, c] := by
  match os, h with
  | [a, b, c], _ => exact ⟨a, b, c, rfl⟩

def kA : Array Value := #[.int .i64 4, .int .i64 1, .slice none 0 0, .string ⟨#[]⟩, .int .i64 2, .int .i64 3, .slice none 0 0, .string ⟨#[]⟩]
def kB : Array Value := #[.int .i64 4, .int .i64 1, .slice none 0 0, .string ⟨#[]⟩, .int .i64 9, .int .i64 2, .slice none 0 0, .string ⟨#[]⟩]
def kRows (b : Nat) : List Raw := [⟨some ⟨b, 0, none⟩, 2, [kE 4 1, kE 2 3]⟩, ⟨some ⟨b + 1, 0, none⟩, 2, [kE 4 1, kE 9 2]⟩]
def kW (w : World) : World := ((w.alloc (.cells kA 34)).alloc (.cells kB 34)).alloc (.cells #[.slice (some ⟨w.heap.size, 0, none⟩) 2 2, .slice (some ⟨w.heap.size + 1, 0, none⟩) 2 2] 24)
theorem kW_below (w : World) : Below w.heap.size w (kW w) := (((Below.refl _ _).alloc (Nat.le_refl _) _).alloc (by simp) _).alloc (by simp; omega) _
def KPost (w : World) (e : Ending) (w' : World) : Prop :=
  ∃ A c o0 o1 o2, e = .returned (.slice A 3 c) ∧ RowCells w' A (ecells [o0, o1, o2]) ∧ (o0.s = 4 ∧ o0.t = 1) ∧ (o1.s = 9 ∧ o1.t = 2) ∧ (o2.s = 2 ∧ o2.t = 3) ∧ Below w.heap.size w w'
theorem knows_call (w : World) : Calls Try.prog 12 #[.slice (some ⟨w.heap.size + 1 + 1, 0, none⟩) 2 2, .bool false, .int .i64 0] (kW w) (KPost w) := by
  have b0 : Blk (kW w) w.heap.size kA 34 := ((Blk.new _ _ _ _ rfl).alloc _).alloc _
  have b1 : Blk (kW w) (w.heap.size + 1) kB 34 := (Blk.new _ _ _ _ (by simp)).alloc _
  have b2 : Blk (kW w) (w.heap.size + 1 + 1) #[.slice (some ⟨w.heap.size, 0, none⟩) 2 2, .slice (some ⟨w.heap.size + 1, 0, none⟩) 2 2] 24 := Blk.new _ _ _ _ (by simp)
  have hrs : ∀ r ∈ kRows w.heap.size, r.ok (kW w) := by
    intro r hr
    rcases List.mem_cons.1 hr with rfl | hr
    · exact ⟨rowCells_blk b0, by show 2 * 56 ≤ 140737488355328; omega⟩
    · rcases List.mem_cons.1 hr with rfl | hr
      · exact ⟨rowCells_blk b1, by show 2 * 56 ≤ 140737488355328; omega⟩
      · cases hr
  have hok : ∀ r ∈ kRows w.heap.size, ∀ e ∈ r.es, EntOk (kW w) e := by
    intro r hr e he
    rcases List.mem_cons.1 hr with rfl | hr
    · rcases List.mem_cons.1 he with rfl | he
      · exact kE_ok _ _ _ (by decide) (by decide)
      · rcases List.mem_cons.1 he with rfl | he
        · exact kE_ok _ _ _ (by decide) (by decide)
        · cases he
    · rcases List.mem_cons.1 hr with rfl | hr
      · rcases List.mem_cons.1 he with rfl | he
        · exact kE_ok _ _ _ (by decide) (by decide)
        · rcases List.mem_cons.1 he with rfl | he
          · exact kE_ok _ _ _ (by decide) (by decide)
          · cases he
      · cases hr
  refine (all_any (some ⟨w.heap.size + 1 + 1, 0, none⟩) 2 false 0 (kRows w.heap.size) (kW w) (rowCells_blk b2) hrs (by show 2 ≤ 100000000000; omega) hok (by show 4 ≤ 100000000000; omega)).mono ?_
  rintro e w' ⟨its, v, os, hits, rfl, ho, hb⟩
  rw [all_eq _ _ _ _ hits, show (kRows w.heap.size).map Raw.es = [[kE 4 1, kE 2 3], [kE 4 1, kE 9 2]] from rfl, knows_all] at ho
  obtain ⟨o0, o1, o2, rfl⟩ := three os ho.len
  obtain ⟨A, c, rfl⟩ := own_sl ho.own
  have hn := ho.own.1
  have r0 := ho.row 0 (by simp) (by simp)
  have r1 := ho.row 1 (by simp) (by simp)
  have r2 := ho.row 2 (by simp) (by simp)
  exact ⟨A, c, o0, o1, o2, rfl, own_rowCells ho.own, ⟨r0.s, r0.t⟩, ⟨r1.s, r1.t⟩, ⟨r2.s, r2.t⟩, (kW_below w).trans (hb.mono (kW_below w).size)⟩

theorem ords (o0 o1 o2 : Ent) (h0 : o0.s = 4 ∧ o0.t = 1) (h1 : o1.s = 9 ∧ o1.t = 2) (h2 : o2.s = 2 ∧ o2.t = 3) : ordB false [o0, o1, o2] = true ∧ ordB true [o0, o1, o2] = false := by
  obtain ⟨a, b, A, n, c, x⟩ := o0
  obtain ⟨a1, b1, A1, n1, c1, x1⟩ := o1
  obtain ⟨a2, b2, A2, n2, c2, x2⟩ := o2
  obtain ⟨rfl, rfl⟩ := h0
  obtain ⟨rfl, rfl⟩ := h1
  obtain ⟨rfl, rfl⟩ := h2
  exact ⟨rfl, rfl⟩

set_option maxHeartbeats 1000000 in
theorem knows_any (w : World) : Calls Try.prog 16 #[] w fun e w' => e = .returned (.bool true) ∧ Below w.heap.size w w' := by
  have hk := knows_call w
  unfold kW kA kB at hk
  have HK := Lib.hid hk; clear hk
  go_enter Try.func16, Try.ntmps16
  go_wp2_with fail
  refine (HK.out).mono ?_
  rintro e w1 ⟨A, c, o0, o1, o2, rfl, hr, h0, h1, h2, hb⟩
  have HO := Lib.hid (ords o0 o1 o2 h0 h1 h2)
  obtain ⟨b, o, rfl, hc⟩ := hr (by rw [ecells_length]; simp)
  have c0 : w1.cell? ⟨b, o, none⟩ = some (.int .i64 4) := by have := hc 0 (.int .i64 o0.s) rfl; rwa [h0.1] at this
  have c1 : w1.cell? ⟨b, o + 4, none⟩ = some (.int .i64 9) := by have := hc 4 (.int .i64 o1.s) rfl; rwa [h1.1] at this
  have c2 : w1.cell? ⟨b, o + 8, none⟩ = some (.int .i64 2) := by have := hc 8 (.int .i64 o2.s) rfl; rwa [h2.1] at this
  have q1 := ord_any (some ⟨b, o, none⟩) c false [o0, o1, o2] w1 hr (by simp)
  have q2 := fun w2 (h : Below w1.heap.size w1 w2) => ord_any (some ⟨b, o, none⟩) c true [o0, o1, o2] w2 (hr.below h) (by simp)
  rw [HO.out.1] at q1
  rw [HO.out.2] at q2
  have Q1 := Lib.hid q1
  have Q2 := Lib.hid q2
  clear q1 q2 hc hr h0 h1 h2 HO
  go_wp2_with fail
  refine (Q1.out).mono ?_
  rintro e w2 ⟨rfl, hb2⟩
  go_wp2_with fail
  refine (Q2.out w2 hb2).mono ?_
  rintro e w3 ⟨rfl, hb3⟩
  go_wp2_with fail
  go_ret
  exact ⟨rfl, thenB (thenB hb hb2) hb3⟩

set_option maxHeartbeats 1000000 in
theorem mergeNil_any (w : World) : Calls Try.prog 8 #[] w fun e w' => e = .returned (.bool true) ∧ Below w.heap.size w w' := by
  go_enter Try.func8, Try.ntmps8
  go_wp2
  refine wp_loop_rounds 3 ?_; rw [rounds_succ]
  go_wp2_with (first
    | (go_at_call 26; refine (next_nil _).mono ?_; rintro e w1 ⟨rfl, hb1⟩)
    | (go_at_call 28; refine (skipped_nil _).mono ?_; rintro e w2 ⟨rfl, rfl⟩))
  have p0 : ((w1.alloc (.cells #[.int .i64 0, .int .i64 0, .slice none 0 0, .string ⟨#[]⟩] 34)).alloc (.cells #[.pointer none, .map none, .int .i64 0] 52)).cell? ⟨w1.heap.size + 1, 0, none⟩ = some (.pointer none) :=
    (Blk.new _ #[.pointer none, .map none, .int .i64 0] 52 (w1.heap.size + 1) (by simp)).cell 0 _ rfl
  rw [rounds_succ]
  go_wp2_with fail
  refine (next_unmade _ _ p0).mono ?_
  rintro e w2 ⟨rfl, hb2⟩
  have p1 := keepc hb2 p0
  have p2 := keepc ((Below.refl w2.heap.size w2).alloc (Nat.le_refl _) (.cells #[.int .i64 0, .int .i64 0, .slice none 0 0, .string ⟨#[]⟩] 34)) p1
  go_wp2_with (first
    | (go_at_call 28; refine (skipped_unmade _ _ p2).mono ?_; rintro e w3 ⟨rfl, rfl⟩))
  rw [rounds_succ]
  go_wp2_with (first
    | (go_at_call 16; refine (knows_any _).mono ?_; rintro e w4 ⟨rfl, hb4⟩))
  go_ret
  refine ⟨rfl, thenB ?_ hb4⟩
  refine Below.alloc ?_ (by have := hb1.size; have := hb2.size; simp at this; simp; omega) _
  refine Below.alloc ?_ (by have := hb1.size; have := hb2.size; simp at this; simp; omega) _
  exact thenB ((hb1.alloc hb1.size _).alloc (by have := hb1.size; simp; omega) _) hb2
end Go.Proofs.Ytjfggmkfnofldaa
