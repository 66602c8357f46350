import Derived.Test.YtjfggmkfnofldaaB4
namespace Go.Proofs.Ytjfggmkfnofldaa
open Go.RowKit
set_option linter.unusedVariables false
section
variable {w w' : World} {base hb : Nat} {v : Value} {nw : Bool} {xs : List It}

def PopPost (w : World) (base hb : Nat) (v : Value) (nw : Bool) (ys : List It) (x : It) (e : Ending) (w' : World) : Prop :=
  e = .returned (.iface 62 x.val) ∧ ∃ v', HS w' base hb v' nw ys ∧ Keep2 w w' hb v.ownBlock ∧ v'.ownBlock = v.ownBlock

theorem getI_last (ys : List It) (x : It) : getI (ys ++ [x]) ys.length = x := by simp [getI]

theorem HS.popped (ys : List It) (x : It) (h : HS w base hb v nw (ys ++ [x])) {ab cap : Nat} (hv : v = .slice (some ⟨ab, 0, none⟩) (ys.length + 1) cap) :
    HS (w.setCell ⟨hb, 0, none⟩ (.slice (some ⟨ab, 0, none⟩) ys.length cap)) base hb (.slice (some ⟨ab, 0, none⟩) ys.length cap) nw ys := by
  have hne : hb ≠ ab := fun e => h.row_ne (by rw [hv, e]; rfl)
  have hs := h.small
  simp only [List.length_append, List.length_singleton] at hs
  refine ⟨⟨((h.blk.set 0 _).out)⟩, ?_, h.gb, fun it hi => (h.rows it (List.mem_append_left _ hi)).keep (Below.heap_setCell _ _ _ _ (h.it_ne (h.rows it (List.mem_append_left _ hi))).1), by omega⟩
  have ho := h.own
  refine ⟨hcells_length ys, ?_⟩
  rcases ho.2 with ⟨hv', _⟩ | ⟨g, cap', cur, hv', hb', hg, h1, h2, h3, h4⟩
  · rw [hv] at hv'; cases hv'
  · rw [hv] at hv'
    simp only [Value.slice.injEq, Option.some.injEq, Addr.mk.injEq, and_true, List.length_append, List.length_singleton] at hv'
    obtain ⟨rfl, _, rfl⟩ := hv'
    refine .inr ⟨ab, cap, cur, rfl, hb', (Below.heap_setCell _ _ _ _ (fun e => hne e.symm)).trans hg, by simp at h1; omega, h2, h3, ?_⟩
    rw [hcells_append] at h4
    have := congrArg (List.take (ys.length * 2)) h4
    rw [List.take_take, Nat.min_eq_left (by simp; omega), List.take_left' (hcells_length ys)] at this
    exact this

theorem HS.pop (ys : List It) (x : It) (h : HS w base hb v nw (ys ++ [x])) :
    Calls Try.prog 69 #[.pointer (some ⟨hb, 0, none⟩)] w (PopPost w base hb v nw ys x) := by
  obtain ⟨ab, cap, hv, hc, _, _, hne⟩ := h.form (by simp)
  simp only [List.length_append, List.length_singleton] at hv hc
  obtain ⟨a0, a1, a2, a3⟩ := h.cells hv ys.length (by simp)
  rw [getI_last] at a0 a1
  have hs := h.small
  simp only [List.length_append, List.length_singleton] at hs
  have hcell : w.cell? ⟨hb, 0, none⟩ = some (.slice (some ⟨ab, 0, none⟩) (ys.length + 1) cap) := by rw [← hv]; exact h.blk.cell 0 _ rfl
  refine (pop_core hb ab ys.length cap nw x w hne (by omega) hc hcell (h.blk.frozen 0) a0 a1).mono fun e w' ⟨he, hw⟩ => ?_
  subst hw
  exact ⟨he, _, (((h.popped ys x hv).alloc _).drew).drew, ((((Keep2.refl w hb _).set _ _ (.inl rfl)).alloc _).drew).drew, by rw [hv]; rfl⟩

theorem ownsRow_setOther {w : World} {base : Nat} {e : TypeId} {size : Nat} {v : Value} {n : Nat} {xs : List Value} (h : w.ownsRow base e size v n xs) {b i : Nat} {u : Value} (hne : v.ownBlock ≠ some b) : (w.setCell ⟨b, i, none⟩ u).ownsRow base e size v n xs := by
  refine h.kept (row := some b) ⟨rfl, rfl, rfl, by simp, fun k hk hkb => Below.heap_setCell _ _ _ _ (fun e => hkb (congrArg some e))⟩ (.inr hne)
def PushedPost (w : World) (base hb : Nat) (v : Value) (nw : Bool) (ys : List It) (e : Ending) (w' : World) : Prop :=
  e = .returned (.tuple #[]) ∧ ∃ v', HS w' base hb v' nw ys ∧ Keep2 w w' hb v.ownBlock ∧ (v'.ownBlock = v.ownBlock ∨ ∀ k, v'.ownBlock = some k → w.heap.size ≤ k)

theorem HS.slice1 (h : HS w base hb v nw xs) : v.oneCell' = true := by
  rcases h.own.2 with ⟨rfl, _⟩ | ⟨g, cap', cur, rfl, _⟩ <;> rfl

theorem HS.push (h : HS w base hb v nw xs) (x : It) (hx : RowOk w base x) (hbase : base ≤ w.heap.size) (hl : xs.length < 100000000000) :
    Calls Try.prog 70 #[.pointer (some ⟨hb, 0, none⟩), .iface 62 x.val] w (PushedPost w base hb v nw (xs ++ [x])) := by
  refine (push_core base hb xs.length v x (hcells xs) w (by omega) hbase (h.blk.cell 0 _ rfl) h.slice1 (h.blk.frozen 0) h.row_ne h.own).mono ?_
  rintro e w' ⟨rfl, g, cap, w1, ho, hg, hat, rfl⟩
  have hbl : w1.heap[hb]? = w.heap[hb]? := hg.block hb h.blk.lt (Ne.symm h.row_ne)
  have hb1 : Blk w1 hb #[v, .bool nw] 60 := ⟨hbl.trans h.blk.out⟩
  have hgne : hb ≠ g := by
    rcases hat with hat | hat
    · intro e; exact h.row_ne (by rw [hat, e])
    · have := h.blk.lt; omega
  have rk : ∀ it, RowOk w base it → RowOk (w1.setCell ⟨hb, 0, none⟩ (.slice (some ⟨g, 0, none⟩) (xs.length + 1) cap)) base it := fun it hi =>
    hi.keep ((Below.heap_setCell _ _ _ _ (h.it_ne hi).1).trans (hg.block _ hi.lt (h.it_ne hi).2))
  refine ⟨rfl, .slice (some ⟨g, 0, none⟩) (xs.length + 1) cap, ⟨⟨(hb1.set 0 _).out⟩, ?_, h.gb, ?_, by simp; omega⟩, ((Keep2.of_grown hg hb).set _ _ (.inl rfl)), ?_⟩
  · rw [hcells_append]
    have := ownsRow_setOther ho (b := hb) (i := 0) (u := .slice (some ⟨g, 0, none⟩) (xs.length + 1) cap) (by simp [Value.ownBlock]; exact fun e => hgne e.symm)
    simpa [hcells, itCells] using this
  · intro it hi
    rcases List.mem_append.1 hi with hi | hi
    · exact rk it (h.rows it hi)
    · rw [List.mem_singleton] at hi; subst hi; exact rk it hx
  · rcases hat with hat | hat
    · exact .inl (by rw [hat]; rfl)
    · refine .inr fun k hk => ?_
      simp [Value.ownBlock] at hk; omega
end
end Go.Proofs.Ytjfggmkfnofldaa
