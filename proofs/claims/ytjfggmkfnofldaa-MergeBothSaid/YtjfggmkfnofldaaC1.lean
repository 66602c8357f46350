import Derived.Test.YtjfggmkfnofldaaB8
import Derived.Lib.SliceRun
namespace Go.Proofs.Ytjfggmkfnofldaa
open Go.RowKit
set_option linter.unusedVariables false

theorem info34 : (Try.prog.info? 34).map (fun i => (i.zero, i.size, i.bytes)) = some (some (.agg #[.int .i64 0, .int .i64 0, .slice none 0 0, .string ⟨#[]⟩]), 4, 56) := by kernel_rfl
theorem info55 : (Try.prog.info? 55).map (fun i => (i.zero, i.size, i.bytes)) = some (some (.agg #[.string ⟨#[]⟩, .string ⟨#[]⟩]), 2, 32) := by kernel_rfl

/-- A row of cells at an address; what it is worth where it is not empty. -/
def RowCells (w : World) (A : Option Addr) (xs : List Value) : Prop := 0 < xs.length → ∃ b o, A = some ⟨b, o, none⟩ ∧ ∀ j u, xs[j]? = some u → w.cell? ⟨b, o + j, none⟩ = some u
theorem RowCells.below {w w' : World} {A : Option Addr} {xs : List Value} (h : RowCells w A xs) (hb : Below w.heap.size w w') : RowCells w' A xs := fun hp => by
  obtain ⟨b, o, e, hc⟩ := h hp
  exact ⟨b, o, e, fun j u hu => keepc hb (hc j u hu)⟩
theorem addr_add (b o j : Nat) : (⟨b, o, none⟩ : Addr).add j = ⟨b, o + j, none⟩ := by unfold Addr.add; split <;> simp_all

def ecells (es : List Ent) : List Value := es.flatMap fun e => e.cells.toList
theorem ecells_length (es : List Ent) : (ecells es).length = es.length * 4 := by
  induction es with
  | nil => rfl
  | cons a l ih => rw [show ecells (a :: l) = a.cells.toList ++ ecells l from rfl, List.length_append, ih]; simp; omega
/-- What two cells of a label hold. -/
abbrev Lab := ByteArray × ByteArray
def lcells (ls : List Lab) : List Value := ls.flatMap fun l => [.string l.1, .string l.2]
theorem lcells_length (ls : List Lab) : (lcells ls).length = ls.length * 2 := by
  induction ls with
  | nil => rfl
  | cons a l ih => rw [show lcells (a :: l) = [.string a.1, .string a.2] ++ lcells l from rfl, List.length_append, ih]; simp; omega
theorem ecells_one (es : List Ent) : ∀ u ∈ ecells es, u.oneCell' = true := by
  intro u hu
  obtain ⟨e, _, he⟩ := List.mem_flatMap.1 hu
  simp at he
  rcases he with rfl | rfl | rfl | rfl <;> rfl
theorem lcells_one (ls : List Lab) : ∀ u ∈ lcells ls, u.oneCell' = true := by
  intro u hu
  obtain ⟨e, _, he⟩ := List.mem_flatMap.1 hu
  simp at he
  rcases he with rfl | rfl <;> rfl

def ClonePost (w : World) (t sz n : Nat) (xs : List Value) (e : Ending) (w' : World) : Prop :=
  ∃ v', e = .returned v' ∧ w'.ownsRow w.heap.size t sz v' n xs ∧ Below w.heap.size w w'

theorem nil24 : ∀ (w : World) (a : Option Addr) (n c n' c' : Nat), (binOp .eql 24 (.slice a n c) (.slice none n' c')).run Try.prog w = .ok (.bool a.isNone) w := fun w a n c n' c' => Lib.run_eql_slice_nil w _ _ a n c n' c' Try.underlying24
theorem nil32 : ∀ (w : World) (a : Option Addr) (n c n' c' : Nat), (binOp .eql 32 (.slice a n c) (.slice none n' c')).run Try.prog w = .ok (.bool a.isNone) w := fun w a n c n' c' => Lib.run_eql_slice_nil w _ _ a n c n' c' Try.underlying32

set_option maxHeartbeats 1000000 in
theorem clone24 (A : Option Addr) (n c : Nat) (xs : List Value) (w : World) (hl : xs.length = n * 4) (h1 : ∀ u ∈ xs, u.oneCell' = true) (hr : RowCells w A xs) (hs : n * 56 ≤ 140737488355328) :
    Calls Try.prog 35 #[.slice A n c] w (ClonePost w 34 4 n xs) := by
  have q := nil24
  rcases A with _ | ad
  · have hn : n = 0 := by
      rcases Nat.eq_zero_or_pos n with h | h
      · exact h
      · obtain ⟨b, o, e, _⟩ := hr (by omega); cases e
    subst hn
    have hx : xs = [] := List.eq_nil_of_length_eq_zero (by simpa using hl)
    subst hx
    go_enter Try.func35, Try.ntmps35
    go_wp2
    go_ret
    exact ⟨_, rfl, World.ownsRow_nil _ _ _ _, Below.refl _ _⟩
  · obtain ⟨i0, hi0, hz0, hz1, hz2⟩ := info_parts info34
    have hmade := World.ownsRow_made w #[] 0 (base := w.heap.size) (e := 34) (size := 4) (Nat.le_refl _) (by unfold maxLen; omega) rfl
    have hnews : ∀ j u, xs[j]? = some u → (w.alloc (.cells #[] 34)).cell? (ad.add j) = some u := by
      intro j u hu
      have hj : j < xs.length := (List.getElem?_eq_some_iff.1 hu).1
      obtain ⟨b, o, e, hc⟩ := hr (by omega)
      cases e
      rw [addr_add]
      exact keepc ((Below.refl _ _).alloc (Nat.le_refl _) _) (hc j u hu)
    clear hr
    go_enter Try.func35, Try.ntmps35
    go_wp2_with (at_builtin; refine wpList_append_own _ rfl _ _ 24 rfl w.heap.size 34 i0 _ 4 56 Try.underlying24 hi0 hz0 hz1 hz2 rfl (by decide) _ 0 [] rfl hmade ad n c xs rfl hl hnews h1 (by unfold maxLen; omega) (by omega) (by simp) ?_; intro v' w1 hown hgrow _)
    go_ret
    refine ⟨v', rfl, by simpa using hown, ?_⟩
    exact ((Below.refl _ _).alloc (Nat.le_refl _) _).grown hgrow (by simp) (by intro k hk; cases hk; exact Nat.le_refl _)
set_option maxHeartbeats 1000000 in
theorem clone32 (A : Option Addr) (n c : Nat) (xs : List Value) (w : World) (hl : xs.length = n * 2) (h1 : ∀ u ∈ xs, u.oneCell' = true) (hr : RowCells w A xs) (hs : n * 32 ≤ 140737488355328) :
    Calls Try.prog 41 #[.slice A n c] w (ClonePost w 55 2 n xs) := by
  have q := nil32
  rcases A with _ | ad
  · have hn : n = 0 := by
      rcases Nat.eq_zero_or_pos n with h | h
      · exact h
      · obtain ⟨b, o, e, _⟩ := hr (by omega); cases e
    subst hn
    have hx : xs = [] := List.eq_nil_of_length_eq_zero (by simpa using hl)
    subst hx
    go_enter Try.func41, Try.ntmps41
    go_wp2
    go_ret
    exact ⟨_, rfl, World.ownsRow_nil _ _ _ _, Below.refl _ _⟩
  · obtain ⟨i0, hi0, hz0, hz1, hz2⟩ := info_parts info55
    have hmade := World.ownsRow_made w #[] 0 (base := w.heap.size) (e := 55) (size := 2) (Nat.le_refl _) (by unfold maxLen; omega) rfl
    have hnews : ∀ j u, xs[j]? = some u → (w.alloc (.cells #[] 55)).cell? (ad.add j) = some u := by
      intro j u hu
      have hj : j < xs.length := (List.getElem?_eq_some_iff.1 hu).1
      obtain ⟨b, o, e, hc⟩ := hr (by omega)
      cases e
      rw [addr_add]
      exact keepc ((Below.refl _ _).alloc (Nat.le_refl _) _) (hc j u hu)
    clear hr
    go_enter Try.func41, Try.ntmps41
    go_wp2_with (at_builtin; refine wpList_append_own _ rfl _ _ 32 rfl w.heap.size 55 i0 _ 2 32 Try.underlying32 hi0 hz0 hz1 hz2 rfl (by decide) _ 0 [] rfl hmade ad n c xs rfl hl hnews h1 (by unfold maxLen; omega) (by omega) (by simp) ?_; intro v' w1 hown hgrow _)
    go_ret
    refine ⟨v', rfl, by simpa using hown, ?_⟩
    exact ((Below.refl _ _).alloc (Nat.le_refl _) _).grown hgrow (by simp) (by intro k hk; cases hk; exact Nat.le_refl _)
end Go.Proofs.Ytjfggmkfnofldaa
