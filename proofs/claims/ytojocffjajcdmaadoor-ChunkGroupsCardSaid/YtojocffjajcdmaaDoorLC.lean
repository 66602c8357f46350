/- Things of one's own into whose inner rows a walk writes: what stays. Chunks of one's own. -/
import Derived.Test.YtojocffjajcdmaaDoorLY
import Derived.Test.YtojocffjajcdmaaDoorLZ
import Derived.Test.YtojocffjajcdmaaDoorLT
import Derived.Deep.RegionHeldLaw
import Derived.Test.YtojocffjajcdmaaDoorVx3
namespace Go.Proofs.YtojocffjajcdmaaDoor.RF
open Go Go.RowKit Go.Shelf Go.Sort Go.Proofs.YtojocffjajcdmaaDoor Go.Proofs.YtojocffjajcdmaaDoorW.PrintWords Go.Proofs.YtojocffjajcdmaaDoorW.PrintLast Go.Proofs.YtojocffjajcdmaaDoorW.PrintMore PChunkAll
set_option linter.unusedVariables false
set_option linter.unusedSimpArgs false

/-- A row of one's own of things of T, each with a row of its own of E, whose cells may be anything by now. -/
structure SpoI {α : Type} (T k E s : Nat) (enc : α → List Value) (A : α → Option Addr) (n c : α → Nat) (B : Nat) (v : Value) (rs : List α) (w0 W : World) : Prop where
  own : W.ownsRow B T k v rs.length (rs.flatMap enc)
  labs : ∀ r ∈ rs, ∃ cs, W.ownsRow B E s (.slice (A r) (n r) (c r)) (n r) cs
  below : Below B w0 W
  le : B ≤ W.heap.size
section
variable {α : Type} {T k E s : Nat} {enc : α → List Value} {A : α → Option Addr} {n c : α → Nat} {B : Nat} {v : Value} {rs : List α} {w0 W : World}
/-- A cell of an inner row: it lies, and may be written. -/
theorem SpoI.at (h : SpoI T k E s enc A n c B v rs w0 W) {r : α} (hr : r ∈ rs) {i j : Nat} (hi : i < n r) (hj : j < s) :
    ∃ g, A r = some ⟨g, 0, none⟩ ∧ B ≤ g ∧ (∃ cur fz, W.heap[g]? = some (.cells cur E fz)) ∧ (∃ u, W.cell? ⟨g, i * s + j, none⟩ = some u) ∧ W.frozen? ⟨g, i * s + j, none⟩ = false := by
  obtain ⟨cs, hc⟩ := h.labs r hr
  rcases hc.2 with ⟨h1, h2⟩ | ⟨q, cap, cur, h1, h2, h3, h4, h5, h6, h7⟩
  · omega
  · injection h1 with a1 a2 a3
    have l1 : i * s + j < cur.size := by
      rw [h6]
      have : (i + 1) * s ≤ cap * s := Nat.mul_le_mul_right _ (by omega)
      rw [Nat.succ_mul] at this
      omega
    exact ⟨q, a1, h2, ⟨_, _, h3⟩, ⟨cur[i * s + j], by simp [World.cell?, h3, l1]⟩, by simp [World.frozen?, h3]⟩
/-- A cell of the outer row. -/
theorem SpoI.outer (h : SpoI T k E s enc A n c B v rs w0 W) (hk : ∀ x, (enc x).length = k) {i j : Nat} (hi : i < rs.length) (hj : j < k) : ∃ g q, v = .slice (some ⟨g, 0, none⟩) rs.length q ∧ ∀ u, (enc rs[i])[j]? = some u → W.cell? ⟨g, i * k + j, none⟩ = some u := by
  rcases h.own.2 with ⟨h1, h2⟩ | ⟨q, cap, cur, h1, h2, h3, h4, h5, h6, h7⟩
  · omega
  · refine ⟨q, cap, h1, fun u hu => ?_⟩
    have hr := h.own
    rw [h1] at hr
    obtain ⟨b, o, e, hc⟩ := own_rowC hr (by rw [flat_len _ k hk]; exact Nat.mul_pos (by omega) (by omega))
    injection e with e
    injection e with e1 e2
    subst e1; subst e2
    have := hc (i * k + j) u ((flat_get enc k hk rs i j hi hj).trans hu)
    rwa [Nat.zero_add] at this
theorem SpoI.alloc (h : SpoI T k E s enc A n c B v rs w0 W) (o : Obj) : SpoI T k E s enc A n c B v rs w0 (W.alloc o) :=
  ⟨own_below h.own ((Below.refl _ _).alloc (Nat.le_refl _) o), fun r hr => (h.labs r hr).imp fun cs hc => own_below hc ((Below.refl _ _).alloc (Nat.le_refl _) o), h.below.alloc h.le o, by have := h.le; simp; omega⟩
theorem SpoI.drew (h : SpoI T k E s enc A n c B v rs w0 W) : SpoI T k E s enc A n c B v rs w0 W.drew :=
  ⟨h.own, h.labs, h.below.drew, h.le⟩
end
theorem own_ne_blk {B : Nat} {e T k n : Nat} {v : Value} {xs : List Value} {W : World} {b : Nat} {cs : Array Value} (h : W.ownsRow B e k v n xs) (hb : Blk W b cs T) (ht : T ≠ e) : v.ownBlock ≠ some b := by
  intro q
  rcases h.2 with ⟨rfl, _⟩ | ⟨g', cap', cur', rfl, _, h6, _⟩
  · cases q
  · simp [Value.ownBlock] at q; subst q; rw [hb.out] at h6; injection h6 with h6; injection h6 with _ h6 _; exact ht h6
theorem own_kept {X X' : World} {B e k n : Nat} {v : Value} {xs : List Value} {row : Option Nat} (h : X.ownsRow B e k v n xs) (hg : X.grownBy X' row) (hne : v.ownBlock ≠ row ∨ v.ownBlock = none) : X'.ownsRow B e k v n xs := by
  refine ⟨h.1, ?_⟩
  rcases h.2 with h2 | ⟨g, cap, cur, rfl, h3, h4, h5⟩
  · exact .inl h2
  · refine .inr ⟨g, cap, cur, rfl, h3, (hg.block g (Array.getElem?_eq_some_iff.1 h4).1 (fun q => ?_)).trans h4, h5⟩
    rcases hne with h | h
    · exact h q
    · cases h
/-! ### Chunks of one's own -/
structure RK where
  A1 : Option Addr
  c1 : Nat
  ls : List S112
  A2 : Option Addr
  c2 : Nat
  rows : List S71
def RK.cells (r : RK) : List Value := [.slice r.A1 r.ls.length r.c1, .slice r.A2 r.rows.length r.c2]
def RK.x (r : RK) : List S112 × List S71 := (r.ls, r.rows)
theorem RK.cells_len (r : RK) : r.cells.length = 2 := rfl
theorem RK.cells_one (r : RK) : ∀ u ∈ r.cells, u.oneCell' = true := by
  intro u hu
  simp only [RK.cells, List.mem_cons, List.not_mem_nil, or_false] at hu
  rcases hu with rfl | rfl <;> rfl
/-- Chunks laid since block B (T: a chunk's type, E: a row's). -/
structure ChksO (T E : Nat) (B : Nat) (v : Value) (rs : List RK) (W : World) : Prop where
  own : W.ownsRow B T 2 v rs.length (rs.flatMap RK.cells)
  labs : ∀ r ∈ rs, r.ls.length ≤ r.c1 ∧ W.ownsRow B 112 2 (.slice r.A1 r.ls.length r.c1) r.ls.length (lcells r.ls)
  rows : ∀ r ∈ rs, r.rows.length ≤ r.c2 ∧ W.ownsRow B E 3 (.slice r.A2 r.rows.length r.c2) r.rows.length (rcells r.rows)
theorem ChksO.below {T E B : Nat} {v : Value} {rs : List RK} {W W' : World} (h : ChksO T E B v rs W) (hb : Below W.heap.size W W') : ChksO T E B v rs W' :=
  ⟨own_below h.own hb, fun r hr => ⟨(h.labs r hr).1, own_below (h.labs r hr).2 hb⟩, fun r hr => ⟨(h.rows r hr).1, own_below (h.rows r hr).2 hb⟩⟩
theorem ChksO.nil (T E B : Nat) (W : World) : ChksO T E B (.slice none 0 0) [] W := ⟨⟨rfl, .inl ⟨rfl, rfl⟩⟩, fun r hr => (by cases hr), fun r hr => (by cases hr)⟩
/-- A row of one's own of another type stays where a row of T is grown. -/
theorem own_grown {W W' : World} {B T e k k' n n' : Nat} {v v' : Value} {xs xs' : List Value} (h : W.ownsRow B T k v n xs) (hg : W.grownBy W' v.ownBlock) (h' : W.ownsRow B e k' v' n' xs') (hne : T ≠ e) : W'.ownsRow B e k' v' n' xs' := by
  refine ⟨h'.1, ?_⟩
  rcases h'.2 with h2 | ⟨g, cap, cur, h2, h3, h4, h5⟩
  · exact .inl h2
  · refine .inr ⟨g, cap, cur, h2, h3, ?_, h5⟩
    rw [hg.block g (Array.getElem?_eq_some_iff.1 h4).1 (fun q => ?_)]; exact h4
    rcases h.2 with ⟨rfl, _⟩ | ⟨g', cap', cur', rfl, _, h6, _⟩
    · cases q
    · simp [Value.ownBlock] at q; subst q; rw [h4] at h6; injection h6 with h6; injection h6 with _ h6 _; exact hne h6.symm
/-- Chunks, one more. -/
theorem ChksO.snoc {T E B : Nat} {v v' : Value} {rs : List RK} {r : RK} {W W' : World} (h : ChksO T E B v rs W) (hT : T ≠ 112) (hE : T ≠ E) (h1 : W'.ownsRow B T 2 v' (rs.length + 1) (rs.flatMap RK.cells ++ r.cells)) (hg : W.grownBy W' v.ownBlock)
    (hl : r.ls.length ≤ r.c1 ∧ W.ownsRow B 112 2 (.slice r.A1 r.ls.length r.c1) r.ls.length (lcells r.ls)) (hr : r.rows.length ≤ r.c2 ∧ W.ownsRow B E 3 (.slice r.A2 r.rows.length r.c2) r.rows.length (rcells r.rows)) : ChksO T E B v' (rs ++ [r]) W' := by
  refine ⟨by simpa using h1, fun q hq => ?_, fun q hq => ?_⟩
  · have hq' : q.ls.length ≤ q.c1 ∧ W.ownsRow B 112 2 (.slice q.A1 q.ls.length q.c1) q.ls.length (lcells q.ls) := by
      rcases List.mem_append.1 hq with hq | hq
      · exact h.labs q hq
      · rw [List.mem_singleton] at hq; subst hq; exact hl
    exact ⟨hq'.1, own_grown h.own hg hq'.2 hT⟩
  · have hq' : q.rows.length ≤ q.c2 ∧ W.ownsRow B E 3 (.slice q.A2 q.rows.length q.c2) q.rows.length (rcells q.rows) := by
      rcases List.mem_append.1 hq with hq | hq
      · exact h.rows q hq
      · rw [List.mem_singleton] at hq; subst hq; exact hr
    exact ⟨hq'.1, own_grown h.own hg hq'.2 hE⟩
/-- Chunks that read. -/
structure ChksR (A : Option Addr) (n : Nat) (rs : List RK) (W : World) : Prop where
  len : n = rs.length
  row : RowC W A (rs.flatMap RK.cells)
  labs : ∀ r ∈ rs, r.ls.length ≤ r.c1 ∧ Kd.C k112 W r.A1 r.ls.length r.ls
  rows : ∀ r ∈ rs, r.rows.length ≤ r.c2 ∧ RowC W r.A2 (rcells r.rows)
theorem ChksO.reads {T E B : Nat} {A : Option Addr} {n c : Nat} {rs : List RK} {W : World} (h : ChksO T E B (.slice A n c) rs W) (hl : ∀ r ∈ rs, r.ls.length ≤ 9223372036854775807) : ChksR A n rs W ∧ n ≤ c := by
  have hn : n = rs.length ∧ n ≤ c := by
    rcases h.own.2 with ⟨h1, h2⟩ | ⟨g, cap, cur, h1, _, _, h3, _⟩
    · injection h1 with a1 a2 a3; omega
    · injection h1 with a1 a2 a3; omega
  obtain ⟨rfl, hc⟩ := hn
  exact ⟨⟨rfl, own_rowC h.own, fun r hr => ⟨(h.labs r hr).1, C_lab (hl r hr) (own_rowC (h.labs r hr).2)⟩, fun r hr => ⟨(h.rows r hr).1, own_rowC (h.rows r hr).2⟩⟩, hc⟩
theorem ChksR.below {A : Option Addr} {n : Nat} {rs : List RK} {W W' : World} (h : ChksR A n rs W) (hb : Below W.heap.size W W') : ChksR A n rs W' :=
  ⟨h.len, h.row.below hb, fun r hr => ⟨(h.labs r hr).1, Kd.C_below (h.labs r hr).2 hb⟩, fun r hr => ⟨(h.rows r hr).1, (h.rows r hr).2.below hb⟩⟩
end Go.Proofs.YtojocffjajcdmaaDoor.RF
/- The reference's Bounds of a chunk. -/
namespace Go.Proofs.YtojocffjajcdmaaDoor.RF
open Go Go.RowKit Go.Shelf Go.Sort Go.Proofs.YtojocffjajcdmaaDoor Go.Proofs.YtojocffjajcdmaaDoorW.PrintWords Go.Proofs.YtojocffjajcdmaaDoorW.PrintLast Go.Proofs.YtojocffjajcdmaaDoorW.PrintMore PChunkAll
set_option linter.unusedVariables false
set_option linter.unusedSimpArgs false

end Go.Proofs.YtojocffjajcdmaaDoor.RF
/- chunk.Between: the entries of some times, of labels of their own. -/
namespace Go.Proofs.YtojocffjajcdmaaDoor.RF
open Go Go.RowKit Go.Shelf Go.Sort Go.Proofs.YtojocffjajcdmaaDoor Go.Proofs.YtojocffjajcdmaaDoorW.PrintWords Go.Proofs.YtojocffjajcdmaaDoorW.PrintLast Go.Proofs.YtojocffjajcdmaaDoorW.PrintMore PChunkAll
set_option linter.unusedVariables false
set_option linter.unusedSimpArgs false

def entX (ls : List S112) (x : S71) : S33 := ⟨x.f0, x.f1, ls, x.f2⟩
def inT (a b : Int) (x : S71) : Bool := decide (a ≤ x.f1) && decide (x.f1 < b)
/-- The entries of some times. -/
def btw (ls : List S112) (rows : List S71) (a b : Int) : List S33 := if rightC ls rows = true then (rows.filter (inT a b)).map (entX ls) else []
/-- Entries laid since block B, each of labels of its own. -/
structure EntsO (B : Nat) (v : Value) (rs : List RE) (W : World) : Prop where
  own : W.ownsRow B 33 4 v rs.length (rs.flatMap RE.cells)
  labs : ∀ r ∈ rs, r.x.f2.length ≤ r.c ∧ W.ownsRow B 112 2 (.slice r.A r.x.f2.length r.c) r.x.f2.length (lcells r.x.f2)
theorem EntsO.below {B : Nat} {v : Value} {rs : List RE} {W W' : World} (h : EntsO B v rs W) (hb : Below W.heap.size W W') : EntsO B v rs W' :=
  ⟨own_below h.own hb, fun r hr => ⟨(h.labs r hr).1, own_below (h.labs r hr).2 hb⟩⟩
theorem EntsO.nil (B : Nat) (W : World) : EntsO B (.slice none 0 0) [] W := ⟨⟨rfl, .inl ⟨rfl, rfl⟩⟩, fun r hr => by cases hr⟩
/-- Entries, one more. -/
theorem EntsO.snoc {B : Nat} {v v' : Value} {rs : List RE} {r : RE} {W W' : World} (h : EntsO B v rs W) (h1 : W'.ownsRow B 33 4 v' (rs.length + 1) (rs.flatMap RE.cells ++ r.cells)) (hg : W.grownBy W' v.ownBlock)
    (hr : r.x.f2.length ≤ r.c ∧ W.ownsRow B 112 2 (.slice r.A r.x.f2.length r.c) r.x.f2.length (lcells r.x.f2)) : EntsO B v' (rs ++ [r]) W' := by
  refine ⟨by simpa using h1, fun q hq => ?_⟩
  have hq' : q.x.f2.length ≤ q.c ∧ W.ownsRow B 112 2 (.slice q.A q.x.f2.length q.c) q.x.f2.length (lcells q.x.f2) := by
    rcases List.mem_append.1 hq with hq | hq
    · exact h.labs q hq
    · rw [List.mem_singleton] at hq; subst hq; exact hr
  refine ⟨hq'.1, hq'.2.1, ?_⟩
  rcases hq'.2.2 with h2 | ⟨g, cap, cur, h2, h3, h4, h5⟩
  · exact .inl h2
  · refine .inr ⟨g, cap, cur, h2, h3, ?_, h5⟩
    rw [hg.block g (Array.getElem?_eq_some_iff.1 h4).1 (fun e => ?_)]; exact h4
    rcases h.own.2 with ⟨rfl, _⟩ | ⟨g', cap', cur', rfl, _, h6, _⟩
    · cases e
    · simp [Value.ownBlock] at e; subst e; rw [h4] at h6; cases h6
theorem EntsO.reads {B : Nat} {A : Option Addr} {n c : Nat} {rs : List RE} {W : World} (h : EntsO B (.slice A n c) rs W) (hm : rs.length ≤ 9223372036854775807) (hl : ∀ r ∈ rs, r.x.f2.length ≤ 9223372036854775807) : n = rs.length ∧ n ≤ c ∧ Kd.C k33 W A rs.length (rs.map (·.x)) := by
  have hn : n = rs.length ∧ n ≤ c := by
    rcases h.own.2 with ⟨h1, h2⟩ | ⟨g, cap, cur, h1, _, _, h3, _⟩
    · injection h1 with a1 a2 a3; omega
    · injection h1 with a1 a2 a3; omega
  obtain ⟨rfl, hc⟩ := hn
  exact ⟨rfl, hc, raw_C hm (own_rowC h.own) (fun r hr => ⟨(h.labs r hr).1, C_lab (hl r hr) (own_rowC (h.labs r hr).2)⟩)⟩
theorem EntsO.ne {B : Nat} {v : Value} {rs : List RE} {W : World} {b t : Nat} {cs : Array Value} (h : EntsO B v rs W) (hb : Blk W b cs t) (ht : t ≠ 33) : v.ownBlock ≠ some b := by
  intro e
  rcases h.own.2 with ⟨rfl, _⟩ | ⟨g', cap', cur', rfl, _, h6, _⟩
  · cases e
  · simp [Value.ownBlock] at e; subst e; rw [hb.out] at h6; injection h6 with h6; injection h6 with _ h6 _; exact ht h6
end Go.Proofs.YtojocffjajcdmaaDoor.RF
/- The law ChunkTimes holds of whatever chunk and times. -/
namespace Go.Proofs.YtojocffjajcdmaaDoor.RF
open Go Go.RowKit Go.Shelf Go.Sort Go.Proofs.YtojocffjajcdmaaDoor Go.Proofs.YtojocffjajcdmaaDoor.RS Go.Proofs.YtojocffjajcdmaaDoorW.PrintWords Go.Proofs.YtojocffjajcdmaaDoorW.PrintLast Go.Proofs.YtojocffjajcdmaaDoorW.PrintMore PChunkAll
set_option linter.unusedVariables false
set_option linter.unusedSimpArgs false

/-! ### Rows rise -/
theorem btw_len (ls : List S112) (rows : List S71) (a b : Int) : (btw ls rows a b).length ≤ 1000 := by
  unfold btw
  cases h : rightC ls rows
  · simp
  · have := (rightC_pos h).2
    have h2 := List.length_filter_le (inT a b) rows
    rw [if_pos rfl, List.length_map]
    omega
theorem EntsO.slice {B : Nat} {A : Option Addr} {c : Nat} {rs : List RE} {W : World} (h : EntsO B (.slice A rs.length c) rs W) : (A = none → c = 0) ∧ rs.length ≤ c := by
  rcases h.own.2 with ⟨h1, h2⟩ | ⟨g, cap, cur, h1, _, _, h3, _⟩
  · injection h1 with a1 a2 a3; exact ⟨fun _ => a3, by omega⟩
  · injection h1 with a1 a2 a3; subst a1 a3; exact ⟨fun e => (by cases e), h3⟩
theorem map_len {l : List S33} {rs : List RE} (h : rs.map RE.x = l) : rs.length = l.length := by rw [← h, List.length_map]
theorem btw_labs {ls : List S112} {rows : List S71} {a b : Int} {rs : List RE} (h : rs.map RE.x = btw ls rows a b) : ∀ r ∈ rs, r.x.f2 = ls := by
  intro r hr
  have hm : r.x ∈ btw ls rows a b := by rw [← h]; exact List.mem_map_of_mem hr
  unfold btw at hm
  split at hm
  · obtain ⟨x, _, e⟩ := List.mem_map.1 hm
    rw [← e]; rfl
  · cases hm
end Go.Proofs.YtojocffjajcdmaaDoor.RF
/- The reference's Entry and Between of a chunk. -/
namespace Go.Proofs.YtojocffjajcdmaaDoor.RF
open Go Go.RowKit Go.Shelf Go.Sort Go.Proofs.YtojocffjajcdmaaDoor Go.Proofs.YtojocffjajcdmaaDoor.RS Go.Proofs.YtojocffjajcdmaaDoorW.PrintWords Go.Proofs.YtojocffjajcdmaaDoorW.PrintLast Go.Proofs.YtojocffjajcdmaaDoorW.PrintMore PChunkAll
set_option linter.unusedVariables false
set_option linter.unusedSimpArgs false

theorem own_madeE {W : World} {B n e size : Nat} (hB : B ≤ W.heap.size) (hn : n = W.heap.size) : (W.alloc (.cells #[] e)).ownsRow B e size (.slice (some ⟨n, 0, none⟩) 0 0) 0 [] := by
  subst hn
  exact World.ownsRow_made W #[] 0 (base := B) (e := e) (size := size) hB (by unfold maxLen; omega) (by simp)
end Go.Proofs.YtojocffjajcdmaaDoor.RF
/- law03.Spoil: it writes into the labels of entries of one's own alone. -/
namespace Go.Proofs.YtojocffjajcdmaaDoor.RF
open Go Go.RowKit Go.Shelf Go.Sort Go.Proofs.YtojocffjajcdmaaDoor Go.Proofs.YtojocffjajcdmaaDoorW.PrintWords Go.Proofs.YtojocffjajcdmaaDoorW.PrintLast Go.Proofs.YtojocffjajcdmaaDoorW.PrintMore PChunkAll
set_option linter.unusedVariables false
set_option linter.unusedSimpArgs false

abbrev SpoE (B : Nat) (v : Value) (rs : List RE) (w0 W : World) : Prop := SpoI 33 4 112 2 RE.cells (fun r => r.A) (fun r => r.x.f2.length) (fun r => r.c) B v rs w0 W
theorem SpoE.lab {B : Nat} {v : Value} {rs : List RE} {w0 W : World} (h : SpoE B v rs w0 W) {i : Nat} (hi : i < rs.length) : ∃ g q, v = .slice (some ⟨g, 0, none⟩) rs.length q ∧ W.cell? ⟨g, i * 4 + 2, none⟩ = some (.slice rs[i].A rs[i].x.f2.length rs[i].c) := by
  obtain ⟨g, q, h1, h2⟩ := h.outer RE.cells_len hi (j := 2) (by decide)
  exact ⟨g, q, h1, h2 _ rfl⟩
end Go.Proofs.YtojocffjajcdmaaDoor.RF
/- law04.Same of equal chunks; a law's two chunks in their boxes. -/
namespace Go.Proofs.YtojocffjajcdmaaDoor.RF
open Go Go.RowKit Go.Shelf Go.Sort Go.Proofs.YtojocffjajcdmaaDoor Go.Proofs.YtojocffjajcdmaaDoorW.PrintWords Go.Proofs.YtojocffjajcdmaaDoorW.PrintLast Go.Proofs.YtojocffjajcdmaaDoorW.PrintMore PChunkAll
set_option linter.unusedVariables false
set_option linter.unusedSimpArgs false

theorem same02_big (l : List S112) (hl : l.length < 4398046511104) (d : Nat) (n i : Nat) (h : i + n = l.length) : icehouselaw02_Same.l0 (n + d + 1) l l (i : Int) = some true := by
  induction n generalizing i with
  | zero => rw [icehouselaw02_Same.l0, if_neg (by omega)]
  | succ n ih =>
    have hw : wrap64 ((i : Int) + 1) = ((i + 1 : Nat) : Int) := by unfold wrap64; omega
    rw [show n + 1 + d + 1 = (n + d + 1) + 1 by omega, icehouselaw02_Same.l0, if_pos (by omega), if_pos (by omega), if_pos (by omega), if_pos rfl, if_pos rfl, hw]
    exact ih (i + 1) (by omega)
theorem same04_l0 (ls : List S112) (rows : List S71) (hm : rows.length < 4398046511104) (d : Nat) (n k : Nat) (hk : k + n = rows.length) : icehouselaw04_Same.l0 (n + d + 1) (k : Int) ls rows ls (rows.map t93) = some true := by
  induction n generalizing k with
  | zero => rw [icehouselaw04_Same.l0, if_neg (by omega)]
  | succ n ih =>
    have hkl : k < rows.length := by omega
    have hw : wrap64 ((k : Int) + 1) = ((k + 1 : Nat) : Int) := by unfold wrap64; omega
    have e : rd_T93 (rows.map t93) (k : Int) = t93 rows[k] := by unfold rd_T93; rw [Int.toNat_natCast]; simp [hkl]
    have e2 : rd_T71 rows (k : Int) = rows[k] := by unfold rd_T71; rw [Int.toNat_natCast]; simp [hkl]
    rw [show n + 1 + d + 1 = (n + d + 1) + 1 by omega, icehouselaw04_Same.l0, if_pos (by omega), if_pos (by omega), if_pos (by simp; omega), e, e2, if_pos (show rows[k].f0 = (t93 rows[k]).f0 from rfl), if_pos (show rows[k].f1 = (t93 rows[k]).f1 from rfl), if_pos (show rows[k].f2.toList = (t93 rows[k]).f2.toList from rfl), hw]
    exact ih (k + 1) (by omega)
theorem same04_f (ls : List S112) (rows : List S71) (hl : ls.length < 4398046511104) (hm : rows.length < 4398046511104) : icehouselaw04_Same.f (ls.length + rows.length + 2) ls rows ls (rows.map t93) = some true := by
  unfold icehouselaw04_Same.f
  have h1 : icehouselaw02_Same.f (ls.length + rows.length + 2) ls ls = some true := by
    unfold icehouselaw02_Same.f
    rw [if_pos rfl]
    exact same02_big ls hl (rows.length + 1) ls.length 0 (by omega)
  rw [h1]
  have h2 : ((rows.length : Int) != ((rows.map t93).length : Int)) = false := by simp
  rw [h2]
  show icehouselaw04_Same.j0 (ls.length + rows.length + 1 + 1) false ls rows ls (rows.map t93) = _
  rw [icehouselaw04_Same.j0, if_neg (by decide)]
  have := same04_l0 ls rows hm ls.length rows.length 0 (by omega)
  rwa [Nat.add_comm rows.length] at this
theorem same41_any (A1 : Option Addr) (c1 : Nat) (A2 : Option Addr) (c2 : Nat) (A3 : Option Addr) (c3 : Nat) (A4 : Option Addr) (c4 : Nat) (ls : List S112) (rows : List S71) (w : World) (hls : ls.length < 4398046511104) (hm : rows.length < 4398046511104)
    (hL1 : Kd.C k112 w A1 ls.length ls) (h1 : ls.length ≤ c1) (hR2 : RowC w A2 (rcells rows)) (h2 : rows.length ≤ c2) (hL3 : Kd.C k112 w A3 ls.length ls) (h3 : ls.length ≤ c3) (hR4 : RowC w A4 (rcells rows)) (h4 : rows.length ≤ c4) :
    Calls Tryd.prog 41 #[chV A1 ls.length c1 A2 rows.length c2, chV A3 ls.length c3 A4 rows.length c4] w fun e w' => e = .returned (.bool true) ∧ Below w.heap.size w w' := by
  have hc := C93 (by omega) hR4
  have hc2 : Kd.C k93 w A4 (rows.map t93).length (rows.map t93) := by simpa using hc
  have := icehouselaw04_Same.calls (ls.length + rows.length + 2) A1 c1 ls A2 c2 rows A3 c3 ls A4 c4 (rows.map t93) true w hL1 h1 (C71 (by omega) hR2) h2 hL3 h3 hc2 (by simpa using h4) (same04_f ls rows hls hm)
  simpa using this
/-- A law's two chunks, the argument and one's own, in their boxes. -/
structure LK (w : World) (B1 : Nat) (A1 : Option Addr) (c1 : Nat) (ls : List S112) (A2 : Option Addr) (c2 : Nat) (rows : List S71) (A3 : Option Addr) (c3 : Nat) (A4 : Option Addr) (c4 : Nat) (W : World) : Prop where
  k0 : Blk W w.heap.size #[.slice A1 ls.length c1, .slice A2 rows.length c2] 50
  k1 : Blk W B1 #[.slice A3 ls.length c3, .slice A4 rows.length c4] 53
  L3 : Kd.C k112 W A3 ls.length ls
  R4 : RowC W A4 (rcells rows)
  below : Below w.heap.size w W
section
variable {w : World} {B1 : Nat} {A1 : Option Addr} {c1 : Nat} {ls : List S112} {A2 : Option Addr} {c2 : Nat} {rows : List S71} {A3 : Option Addr} {c3 : Nat} {A4 : Option Addr} {c4 : Nat} {W W' : World}
theorem LK.step (h : LK w B1 A1 c1 ls A2 c2 rows A3 c3 A4 c4 W) (hb : Below W.heap.size W W') : LK w B1 A1 c1 ls A2 c2 rows A3 c3 A4 c4 W' :=
  ⟨Blk.below h.k0 hb h.k0.lt, Blk.below h.k1 hb h.k1.lt, Kd.C_below h.L3 hb, h.R4.below hb, below_step h.below hb⟩
end

end Go.Proofs.YtojocffjajcdmaaDoor.RF
/- law04.Same of equal chunks; the law ChunkLooks holds of whatever chunk and times. -/
namespace Go.Proofs.YtojocffjajcdmaaDoor.RF
open Go Go.RowKit Go.Shelf Go.Sort Go.Proofs.YtojocffjajcdmaaDoor Go.Proofs.YtojocffjajcdmaaDoor.RS Go.Proofs.YtojocffjajcdmaaDoorW.PrintWords Go.Proofs.YtojocffjajcdmaaDoorW.PrintLast Go.Proofs.YtojocffjajcdmaaDoorW.PrintMore PChunkAll
set_option linter.unusedVariables false
set_option linter.unusedSimpArgs false

theorem EntsO.rd {B n c : Nat} {A : Option Addr} {rs : List RE} {W : World} {ls : List S112} {rows : List S71} {a b : Int} (h : EntsO B (.slice A n c) rs W) (hm : rs.map RE.x = btw ls rows a b) (hls : ls.length < 4398046511104) : Kd.C k33 W A (btw ls rows a b).length (btw ls rows a b) := by
  have h9 := (h.reads (by have := map_len hm; have := btw_len ls rows a b; omega) (fun r hr => by rw [btw_labs hm r hr]; omega)).2.2
  rw [map_len hm, hm] at h9
  exact h9
end Go.Proofs.YtojocffjajcdmaaDoor.RF
