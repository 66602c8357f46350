/- Things of one's own into whose inner rows a walk writes: what stays. Chunks of one's own. -/
import Derived.Test.YtojocffjajcdmaaDoorMY
import Derived.Test.YtojocffjajcdmaaDoorMT
import Derived.Deep.RegionHeldLaw
import Derived.Test.YtojocffjajcdmaaDoorMCT
import Derived.Test.YtojocffjajcdmaaDoorPChunkAllx3
namespace Go.Proofs.YtojocffjajcdmaaDoor.RF
open Go Go.RowKit Go.Shelf Go.Sort Go.Proofs.YtojocffjajcdmaaDoor Go.Proofs.YtojocffjajcdmaaDoorW.PrintWords Go.Proofs.YtojocffjajcdmaaDoorW.PrintLast Go.Proofs.YtojocffjajcdmaaDoorW.PrintMore PChunkAll
set_option linter.unusedVariables false
set_option linter.unusedSimpArgs false

/-- A row of one's own of things of T, each with a row of its own of E, whose cells may be anything by now. -/
structure SpoI {α : Type} (T k E s : Nat) (enc : α → List Value) (A : α → Option Addr) (n c : α → Nat) (B : Nat) (v : Value) (rs : List α) (w0 W : World) : Prop where
  own : W.ownsRow B T k v rs.length (rs.flatMap enc)
  labs : ∀ r ∈ rs, ∃ cs, W.ownsRow B E s (.slice (A r) (n r) (c r)) (n r) cs
  below : Below B w0 W
  le : B ≤ W.heap.size
section
variable {α : Type} {T k E s : Nat} {enc : α → List Value} {A : α → Option Addr} {n c : α → Nat} {B : Nat} {v : Value} {rs : List α} {w0 W : World}
theorem setCell_blk {w : World} {g o : Nat} {cur : Array Value} {e : TypeId} {u : Value} (h : w.heap[g]? = some (.cells cur e (0, 0))) : (w.setCell ⟨g, o, none⟩ u).heap[g]? = some (.cells (cur.set! o u) e (0, 0)) := by
  have hlt := lt_of_block h
  have h' : w.heap[g] = .cells cur e (0, 0) := by simpa [Array.getElem?_eq_getElem hlt] using h
  show (w.heap.modify g _)[g]? = _
  rw [Array.getElem?_eq_getElem (by simpa using hlt), Array.getElem_modify_self, h']
  rfl
/-- A row of one's own stays one, whatever is written into a block. -/
theorem own_written {w : World} {B g o : Nat} {e : TypeId} {size n : Nat} {v u : Value} {cs : List Value} (h : w.ownsRow B e size v n cs) : ∃ cs', (w.setCell ⟨g, o, none⟩ u).ownsRow B e size v n cs' := by
  rcases h.2 with ⟨h1, h2⟩ | ⟨q, cap, cur, h1, h2, h3, h4, h5, h6, h7⟩
  · exact ⟨cs, h.1, .inl ⟨h1, h2⟩⟩
  · by_cases hq : q = g
    · subst hq
      refine ⟨(cur.set! o u).toList.take (n * size), ?_, .inr ⟨q, cap, _, h1, h2, setCell_blk h3, h4, h5, by simpa using h6, rfl⟩⟩
      rw [List.length_take]
      have : (cur.set! o u).toList.length = cap * size := by simpa using h6
      rw [this]
      exact Nat.min_eq_left (Nat.mul_le_mul_right _ h4)
    · refine ⟨cs, h.1, .inr ⟨q, cap, cur, h1, h2, ?_, h4, h5, h6, h7⟩⟩
      rw [Below.heap_setCell _ _ _ _ (fun e => hq e)]; exact h3
theorem SpoI.write (h : SpoI T k E s enc A n c B v rs w0 W) (hTE : T ≠ E) {g o : Nat} {cur : Array Value} {fz : Nat × Nat} {u : Value} (hB : B ≤ g) (hg : W.heap[g]? = some (.cells cur E fz)) : SpoI T k E s enc A n c B v rs w0 (W.setCell ⟨g, o, none⟩ u) := by
  refine ⟨ownsRow_setCell_other h.own (fun e => ?_) u, fun r hr => ?_, h.below.setCell hB u, by have := h.le; simpa [World.setCell] using this⟩
  · rcases h.own.2 with ⟨rfl, _⟩ | ⟨g', cap', cur', rfl, _, h6, _⟩
    · cases e
    · simp [Value.ownBlock] at e; subst e; rw [hg] at h6; injection h6 with h6; injection h6 with _ h6 _; exact hTE h6.symm
  · obtain ⟨cs, hc⟩ := h.labs r hr
    exact own_written hc
/-- A cell of an inner row: it lies, and may be written. -/
theorem SpoI.at (h : SpoI T k E s enc A n c B v rs w0 W) {r : α} (hr : r ∈ rs) {i j : Nat} (hi : i < n r) (hj : j < s) :
    ∃ g, A r = some ⟨g, 0, none⟩ ∧ B ≤ g ∧ (∃ cur fz, W.heap[g]? = some (.cells cur E fz)) ∧ (∃ u, W.cell? ⟨g, i * s + j, none⟩ = some u) ∧ W.frozen? ⟨g, i * s + j, none⟩ = false := by
  obtain ⟨cs, hc⟩ := h.labs r hr
  rcases hc.2 with ⟨h1, h2⟩ | ⟨q, cap, cur, h1, h2, h3, h4, h5, h6, h7⟩
  · omega
  · injection h1 with a1 a2 a3
    have l1 : i * s + j < cur.size := by
      rw [h6]
      have : (i + 1) * s ≤ cap * s := Nat.mul_le_mul_right _ (by omega)
      rw [Nat.succ_mul] at this
      omega
    exact ⟨q, a1, h2, ⟨_, _, h3⟩, ⟨cur[i * s + j], by simp [World.cell?, h3, l1]⟩, by simp [World.frozen?, h3]⟩
/-- A cell of the outer row. -/
theorem SpoI.outer (h : SpoI T k E s enc A n c B v rs w0 W) (hk : ∀ x, (enc x).length = k) {i j : Nat} (hi : i < rs.length) (hj : j < k) : ∃ g q, v = .slice (some ⟨g, 0, none⟩) rs.length q ∧ ∀ u, (enc rs[i])[j]? = some u → W.cell? ⟨g, i * k + j, none⟩ = some u := by
  rcases h.own.2 with ⟨h1, h2⟩ | ⟨q, cap, cur, h1, h2, h3, h4, h5, h6, h7⟩
  · omega
  · refine ⟨q, cap, h1, fun u hu => ?_⟩
    have hr := h.own
    rw [h1] at hr
    obtain ⟨b, o, e, hc⟩ := own_rowC hr (by rw [flat_len _ k hk]; exact Nat.mul_pos (by omega) (by omega))
    injection e with e
    injection e with e1 e2
    subst e1; subst e2
    have := hc (i * k + j) u ((flat_get enc k hk rs i j hi hj).trans hu)
    rwa [Nat.zero_add] at this
theorem SpoI.alloc (h : SpoI T k E s enc A n c B v rs w0 W) (o : Obj) : SpoI T k E s enc A n c B v rs w0 (W.alloc o) :=
  ⟨own_below h.own ((Below.refl _ _).alloc (Nat.le_refl _) o), fun r hr => (h.labs r hr).imp fun cs hc => own_below hc ((Below.refl _ _).alloc (Nat.le_refl _) o), h.below.alloc h.le o, by have := h.le; simp; omega⟩
theorem SpoI.drew (h : SpoI T k E s enc A n c B v rs w0 W) : SpoI T k E s enc A n c B v rs w0 W.drew :=
  ⟨h.own, h.labs, h.below.drew, h.le⟩
end
theorem EntsO.spo {B : Nat} {v : Value} {rs : List RE} {W : World} (h : EntsO B v rs W) (hB : B ≤ W.heap.size) : SpoI 33 4 112 2 RE.cells (fun r => r.A) (fun r => r.x.f2.length) (fun r => r.c) B v rs W W :=
  ⟨h.own, fun r hr => ⟨_, (h.labs r hr).2⟩, Below.refl _ _, hB⟩

/-! ### Chunks of one's own -/
structure RK where
  A1 : Option Addr
  c1 : Nat
  ls : List S112
  A2 : Option Addr
  c2 : Nat
  rows : List S71
def RK.cells (r : RK) : List Value := [.slice r.A1 r.ls.length r.c1, .slice r.A2 r.rows.length r.c2]
def RK.x (r : RK) : List S112 × List S71 := (r.ls, r.rows)
theorem RK.cells_len (r : RK) : r.cells.length = 2 := rfl
theorem RK.cells_one (r : RK) : ∀ u ∈ r.cells, u.oneCell' = true := by
  intro u hu
  simp only [RK.cells, List.mem_cons, List.not_mem_nil, or_false] at hu
  rcases hu with rfl | rfl <;> rfl
/-- Chunks laid since block B (T: a chunk's type, E: a row's). -/
structure ChksO (T E : Nat) (B : Nat) (v : Value) (rs : List RK) (W : World) : Prop where
  own : W.ownsRow B T 2 v rs.length (rs.flatMap RK.cells)
  labs : ∀ r ∈ rs, r.ls.length ≤ r.c1 ∧ W.ownsRow B 112 2 (.slice r.A1 r.ls.length r.c1) r.ls.length (lcells r.ls)
  rows : ∀ r ∈ rs, r.rows.length ≤ r.c2 ∧ W.ownsRow B E 3 (.slice r.A2 r.rows.length r.c2) r.rows.length (rcells r.rows)
theorem ChksO.below {T E B : Nat} {v : Value} {rs : List RK} {W W' : World} (h : ChksO T E B v rs W) (hb : Below W.heap.size W W') : ChksO T E B v rs W' :=
  ⟨own_below h.own hb, fun r hr => ⟨(h.labs r hr).1, own_below (h.labs r hr).2 hb⟩, fun r hr => ⟨(h.rows r hr).1, own_below (h.rows r hr).2 hb⟩⟩
theorem ChksO.nil (T E B : Nat) (W : World) : ChksO T E B (.slice none 0 0) [] W := ⟨⟨rfl, .inl ⟨rfl, rfl⟩⟩, fun r hr => (by cases hr), fun r hr => (by cases hr)⟩
/-- A row of one's own of another type stays where a row of T is grown. -/
theorem own_grown {W W' : World} {B T e k k' n n' : Nat} {v v' : Value} {xs xs' : List Value} (h : W.ownsRow B T k v n xs) (hg : W.grownBy W' v.ownBlock) (h' : W.ownsRow B e k' v' n' xs') (hne : T ≠ e) : W'.ownsRow B e k' v' n' xs' := by
  refine ⟨h'.1, ?_⟩
  rcases h'.2 with h2 | ⟨g, cap, cur, h2, h3, h4, h5⟩
  · exact .inl h2
  · refine .inr ⟨g, cap, cur, h2, h3, ?_, h5⟩
    rw [hg.block g (Array.getElem?_eq_some_iff.1 h4).1 (fun q => ?_)]; exact h4
    rcases h.2 with ⟨rfl, _⟩ | ⟨g', cap', cur', rfl, _, h6, _⟩
    · cases q
    · simp [Value.ownBlock] at q; subst q; rw [h4] at h6; injection h6 with h6; injection h6 with _ h6 _; exact hne h6.symm
/-- Chunks, one more. -/
theorem ChksO.snoc {T E B : Nat} {v v' : Value} {rs : List RK} {r : RK} {W W' : World} (h : ChksO T E B v rs W) (hT : T ≠ 112) (hE : T ≠ E) (h1 : W'.ownsRow B T 2 v' (rs.length + 1) (rs.flatMap RK.cells ++ r.cells)) (hg : W.grownBy W' v.ownBlock)
    (hl : r.ls.length ≤ r.c1 ∧ W.ownsRow B 112 2 (.slice r.A1 r.ls.length r.c1) r.ls.length (lcells r.ls)) (hr : r.rows.length ≤ r.c2 ∧ W.ownsRow B E 3 (.slice r.A2 r.rows.length r.c2) r.rows.length (rcells r.rows)) : ChksO T E B v' (rs ++ [r]) W' := by
  refine ⟨by simpa using h1, fun q hq => ?_, fun q hq => ?_⟩
  · have hq' : q.ls.length ≤ q.c1 ∧ W.ownsRow B 112 2 (.slice q.A1 q.ls.length q.c1) q.ls.length (lcells q.ls) := by
      rcases List.mem_append.1 hq with hq | hq
      · exact h.labs q hq
      · rw [List.mem_singleton] at hq; subst hq; exact hl
    exact ⟨hq'.1, own_grown h.own hg hq'.2 hT⟩
  · have hq' : q.rows.length ≤ q.c2 ∧ W.ownsRow B E 3 (.slice q.A2 q.rows.length q.c2) q.rows.length (rcells q.rows) := by
      rcases List.mem_append.1 hq with hq | hq
      · exact h.rows q hq
      · rw [List.mem_singleton] at hq; subst hq; exact hr
    exact ⟨hq'.1, own_grown h.own hg hq'.2 hE⟩
/-- Chunks that read. -/
structure ChksR (A : Option Addr) (n : Nat) (rs : List RK) (W : World) : Prop where
  len : n = rs.length
  row : RowC W A (rs.flatMap RK.cells)
  labs : ∀ r ∈ rs, r.ls.length ≤ r.c1 ∧ Kd.C k112 W r.A1 r.ls.length r.ls
  rows : ∀ r ∈ rs, r.rows.length ≤ r.c2 ∧ RowC W r.A2 (rcells r.rows)
theorem ChksO.reads {T E B : Nat} {A : Option Addr} {n c : Nat} {rs : List RK} {W : World} (h : ChksO T E B (.slice A n c) rs W) (hl : ∀ r ∈ rs, r.ls.length ≤ 9223372036854775807) : ChksR A n rs W ∧ n ≤ c := by
  have hn : n = rs.length ∧ n ≤ c := by
    rcases h.own.2 with ⟨h1, h2⟩ | ⟨g, cap, cur, h1, _, _, h3, _⟩
    · injection h1 with a1 a2 a3; omega
    · injection h1 with a1 a2 a3; omega
  obtain ⟨rfl, hc⟩ := hn
  exact ⟨⟨rfl, own_rowC h.own, fun r hr => ⟨(h.labs r hr).1, C_lab (hl r hr) (own_rowC (h.labs r hr).2)⟩, fun r hr => ⟨(h.rows r hr).1, own_rowC (h.rows r hr).2⟩⟩, hc⟩
theorem ChksR.below {A : Option Addr} {n : Nat} {rs : List RK} {W W' : World} (h : ChksR A n rs W) (hb : Below W.heap.size W W') : ChksR A n rs W' :=
  ⟨h.len, h.row.below hb, fun r hr => ⟨(h.labs r hr).1, Kd.C_below (h.labs r hr).2 hb⟩, fun r hr => ⟨(h.rows r hr).1, (h.rows r hr).2.below hb⟩⟩
theorem ChksO.spo {T E B : Nat} {v : Value} {rs : List RK} {W : World} (h : ChksO T E B v rs W) (hB : B ≤ W.heap.size) : SpoI T 2 E 3 RK.cells (fun r => r.A2) (fun r => r.rows.length) (fun r => r.c2) B v rs W W :=
  ⟨h.own, fun r hr => ⟨_, (h.rows r hr).2⟩, Below.refl _ _, hB⟩
end Go.Proofs.YtojocffjajcdmaaDoor.RF
/- The reference's Entry and Between of a chunk. -/
namespace Go.Proofs.YtojocffjajcdmaaDoor.RF
open Go Go.RowKit Go.Shelf Go.Sort Go.Proofs.YtojocffjajcdmaaDoor Go.Proofs.YtojocffjajcdmaaDoor.RS Go.Proofs.YtojocffjajcdmaaDoorW.PrintWords Go.Proofs.YtojocffjajcdmaaDoorW.PrintLast Go.Proofs.YtojocffjajcdmaaDoorW.PrintMore PChunkAll
set_option linter.unusedVariables false
set_option linter.unusedSimpArgs false

theorem own_madeE {W : World} {B n e size : Nat} (hB : B ≤ W.heap.size) (hn : n = W.heap.size) : (W.alloc (.cells #[] e)).ownsRow B e size (.slice (some ⟨n, 0, none⟩) 0 0) 0 [] := by
  subst hn
  exact World.ownsRow_made W #[] 0 (base := B) (e := e) (size := size) hB (by unfold maxLen; omega) (by simp)
theorem own_ne_blk {B : Nat} {e T k n : Nat} {v : Value} {xs : List Value} {W : World} {b : Nat} {cs : Array Value} (h : W.ownsRow B e k v n xs) (hb : Blk W b cs T) (ht : T ≠ e) : v.ownBlock ≠ some b := by
  intro q
  rcases h.2 with ⟨rfl, _⟩ | ⟨g', cap', cur', rfl, _, h6, _⟩
  · cases q
  · simp [Value.ownBlock] at q; subst q; rw [hb.out] at h6; injection h6 with h6; injection h6 with _ h6 _; exact ht h6
set_option maxRecDepth 100000 in
set_option maxHeartbeats 4000000 in
/-- A row as an entry of its own labels: the reference's. -/
theorem rentry_own (x : S71) (A : Option Addr) (c : Nat) (ls : List S112) (w : World) (hr : Kd.C k112 w A ls.length ls) (hA : A = none → c = 0) (hc : ls.length ≤ c) (hl : ls.length < 4398046511104) :
    Calls Tryd.prog 102 #[.slice A ls.length c, rowV x] w fun e w' => ∃ A' c', e = .returned (entA ⟨x.f0, x.f1, ls, x.f2⟩ A' c') ∧ ls.length ≤ c' ∧ w'.ownsRow w.heap.size 112 2 (.slice A' ls.length c') ls.length (lcells ls) ∧ Below w.heap.size w w' := by
  have HR := Lib.hid (lab_C hr)
  clear hr
  obtain ⟨i0, hi0, hz0, hz1, hz2⟩ := info_parts info112
  go_enter Tryd.func102, Tryd.ntmps102
  go_wp2
  refine wp_gen (fun W => Below w.heap.size w W ∧ Blk W w.heap.size (rowC x) 93 ∧ Blk W (w.heap.size + 1) #[.int .i64 0, .int .i64 0, .slice none 0 0, .string ⟨#[]⟩] 33)
    ⟨((Below.refl _ _).alloc (by simp) _).alloc (by simp) _, (Blk.new _ _ _ _ rfl).alloc _, Blk.new _ _ _ _ (by simp)⟩ ?_
  rintro W ⟨hb, b1, b2⟩
  have c1 := b1.cell 0 _ rfl
  have c2 := b1.cell 1 _ rfl
  have c3 := b1.cell 2 _ rfl
  have d0 := b2.cell 0 _ rfl
  have d1 := b2.cell 1 _ rfl
  have d2 := b2.cell 2 _ rfl
  have d3 := b2.cell 3 _ rfl
  have e0 := b2.frozen 0
  have e1 := b2.frozen 1
  have e2 := b2.frozen 2
  have e3 := b2.frozen 3
  have HSS : ∀ w', Below W.heap.size W w' → (w'.cell? ⟨w.heap.size, 0, none⟩ = some (.int .i64 x.f0) ∧ w'.cell? ⟨w.heap.size, 1, none⟩ = some (.int .i64 x.f1) ∧ w'.cell? ⟨w.heap.size, 2, none⟩ = some (.string x.f2)) :=
    fun w' hK => ⟨keepc hK c1, keepc hK c2, keepc hK c3⟩
  go_region_held3 (fun w' => w'.cell? ⟨w.heap.size, 0, none⟩ = some (.int .i64 x.f0) ∧ w'.cell? ⟨w.heap.size, 1, none⟩ = some (.int .i64 x.f1) ∧ w'.cell? ⟨w.heap.size, 2, none⟩ = some (.string x.f2))
    (first | exact HSS _ (Below.refl _ _) | exact HSS _ (Below.refl _ _).drew | exact HSS _ hB6 | exact HSS _ hB6.drew | exact HSS _ ((Below.refl _ _).alloc (Nat.le_refl _) _).drew | exact HSS _ ((Below.refl _ _).drew.alloc (Nat.le_refl _) _) | go_keep)
    (first
      | (refine step_append_row _ rfl (.tmp 9) (.tmp 10) 31 rfl w.heap.size 112 i0 _ 2 32 Tryd.underlying31 hi0 hz0 hz1 hz2 rfl (by decide) _ 0 [] rfl
          (by first | exact (own_madeE hb.size rfl).drew2 | exact own_madeE hb.size rfl)
          _ _ _ (lcells ls) rfl hA hc (lcells_len _)
          (by first | exact (HR.out.below (hb.mono2)) | exact HR.out.below (hb.alloc hb.size _).drew | exact HR.out.below (hb.drew.alloc hb.size _))
          (lcells_one _) (by unfold maxLen; omega) (by omega) (by simp only [World.size_alloc, World.size_drew]; have := hb.size; omega) ?_
         intro v6 w6 hown6 hgrow6
         have hB6 : Below W.heap.size W w6 := by
           first
             | exact ((Below.refl _ _).alloc (Nat.le_refl _) _).drew.grown hgrow6 (by simp only [World.size_alloc, World.size_drew]; omega) (by intro q hq; simp [Value.ownBlock, Act.eval, Act.put] at hq; omega)
             | exact ((Below.refl _ _).drew.alloc (Nat.le_refl _) _).grown hgrow6 (by simp only [World.size_alloc, World.size_drew]; omega) (by intro q hq; simp [Value.ownBlock, Act.eval, Act.put] at hq; omega)
         rw [Nat.zero_add, List.nil_append] at hown6
         obtain ⟨A2, q2, rfl, hq2⟩ := own_slice hown6
         have HO2 := Lib.hid hown6
         have hbl := Blk.below b2 hB6 b2.lt
         have hbt := below_step hb hB6
         have s0 := hbl.cell 0 _ rfl
         have s1 := hbl.cell 1 _ rfl
         have s2 := hbl.cell 2 _ rfl
         have s3 := hbl.cell 3 _ rfl
         have g0 := hbl.frozen 0
         have g1 := hbl.frozen 1
         have g2 := hbl.frozen 2
         have g3 := hbl.frozen 3
         clear hown6 hgrow6))
  have hlt : w.heap.size + 1 < W.heap.size := b2.lt
  have B1 := (((hbl.set 0 (.int .i64 x.f0)).set 1 (.int .i64 x.f1)).set 2 (.slice A2 ls.length q2)).set 3 (.string x.f2)
  have B2 : Blk ((((w6.setCell ⟨w.heap.size + 1, 0, none⟩ (.int .i64 x.f0)).setCell ⟨w.heap.size + 1, 1, none⟩ (.int .i64 x.f1)).setCell ⟨w.heap.size + 1, 2, none⟩ (.slice A2 ls.length q2)).setCell ⟨w.heap.size + 1, 3, none⟩ (.string x.f2)) (w.heap.size + 1) #[.int .i64 x.f0, .int .i64 x.f1, .slice A2 ls.length q2, .string x.f2] 33 := by simpa using B1
  have B3 : Below w.heap.size w ((((w6.setCell ⟨w.heap.size + 1, 0, none⟩ (.int .i64 x.f0)).setCell ⟨w.heap.size + 1, 1, none⟩ (.int .i64 x.f1)).setCell ⟨w.heap.size + 1, 2, none⟩ (.slice A2 ls.length q2)).setCell ⟨w.heap.size + 1, 3, none⟩ (.string x.f2)) :=
    (((hbt.setCell (p := ⟨w.heap.size + 1, 0, none⟩) (Nat.le_succ _) _).setCell (p := ⟨w.heap.size + 1, 1, none⟩) (Nat.le_succ _) _).setCell (p := ⟨w.heap.size + 1, 2, none⟩) (Nat.le_succ _) _).setCell (p := ⟨w.heap.size + 1, 3, none⟩) (Nat.le_succ _) _
  have hne : (Value.slice A2 ls.length q2).ownBlock ≠ some (w.heap.size + 1) := own_ne_blk HO2.out hbl (by decide)
  have O4 := ownsRow_setCell_other (a := ⟨w.heap.size + 1, 3, none⟩) (ownsRow_setCell_other (a := ⟨w.heap.size + 1, 2, none⟩) (ownsRow_setCell_other (a := ⟨w.heap.size + 1, 1, none⟩) (ownsRow_setCell_other (a := ⟨w.heap.size + 1, 0, none⟩) HO2.out hne (.int .i64 x.f0)) hne (.int .i64 x.f1)) hne (.slice A2 ls.length q2)) hne (.string x.f2)
  clear s0 s1 s2 s3 g0 g1 g2 g3 hbl hbt hB6 B1 HO2
  generalize ((((w6.setCell ⟨w.heap.size + 1, 0, none⟩ (.int .i64 x.f0)).setCell ⟨w.heap.size + 1, 1, none⟩ (.int .i64 x.f1)).setCell ⟨w.heap.size + 1, 2, none⟩ (.slice A2 ls.length q2)).setCell ⟨w.heap.size + 1, 3, none⟩ (.string x.f2)) = W4 at *
  have HB2 := Lib.hid B2
  have HB3 := Lib.hid B3
  have HO4 := Lib.hid O4
  clear B2 B3 O4
  (try simp only [Exit.then])
  apply_assumption
  apply wp_ret
  refine bodyPost_ret (results_cell_row rfl _ _ _ _ _ _ _ rfl HB2.out.out Tryd.underlying33 rfl (by kernel_rfl)) rfl ?_
  exact ⟨A2, q2, rfl, hq2, HO4.out, HB3.out⟩
def RBtwRel (w : World) (A1 : Option Addr) (c1 : Nat) (ls : List S112) (A2 : Option Addr) (c2 : Nat) (rows : List S71) (a b : Int) (i : Nat) (v : Value) (wr : World) : Prop :=
  ∃ rs : List RE, rs.map RE.x = ((rows.take i).filter (inT a b)).map (entX ls) ∧ EntsO w.heap.size v rs wr ∧ Blk wr w.heap.size #[.slice A1 ls.length c1, .slice A2 rows.length c2] 50 ∧ Below w.heap.size w wr
set_option maxRecDepth 100000 in
set_option maxHeartbeats 4000000 in
theorem rbetween_any (A1 : Option Addr) (c1 : Nat) (ls : List S112) (A2 : Option Addr) (c2 : Nat) (rows : List S71) (ta tb : Int) (w : World) (hsz : SzOk ls) (hls : ls.length < 4398046511104) (hm : rows.length < 4611686018427387904)
    (hL : Kd.C k112 w A1 ls.length ls) (hA1 : A1 = none → c1 = 0) (hc1 : ls.length ≤ c1) (hR : RowC w A2 (rcells rows)) (hwf : ∀ x ∈ rows, (Lit.int .i64 x.f0).wf = true) :
    Calls Tryd.prog 39 #[chV A1 ls.length c1 A2 rows.length c2, .int .i64 ta, .int .i64 tb] w (BtwP w (btw ls rows ta tb)) := by
  have hb0 : Below w.heap.size w (w.alloc (.cells #[.slice A1 ls.length c1, .slice A2 rows.length c2] 50)) := (Below.refl _ _).alloc (Nat.le_refl _) _
  have HC := Lib.hid (rright58_any A1 c1 ls A2 c2 rows (w.alloc (.cells #[.slice A1 ls.length c1, .slice A2 rows.length c2] 50)) hsz hm (Kd.C_below hL hb0) (hR.below hb0) hwf)
  have k0 : Blk (w.alloc (.cells #[.slice A1 ls.length c1, .slice A2 rows.length c2] 50)) w.heap.size #[.slice A1 ls.length c1, .slice A2 rows.length c2] 50 := Blk.new _ _ _ _ rfl
  have HR := Lib.hid hR
  have HEN := Lib.hid (fun (x : S71) W (hb : Below w.heap.size w W) => rentry_own x A1 c1 ls W (Kd.C_below hL hb) hA1 hc1 hls)
  clear hsz hL hR hwf
  cases hr : rightC ls rows
  · rw [hr] at HC
    have HF : Hid (btw ls rows ta tb = []) := by show _ = _; unfold btw; rw [hr]; rfl
    clear hr
    go_enter Tryd.func39, Tryd.ntmps39
    go_wp2_with (go_at_call 58; refine (HC.out).mono ?_; rintro e w1 ⟨rfl, hb⟩)
    go_ret
    exact ⟨none, 0, [], rfl, HF.out.symm, EntsO.nil _ _, below_step hb0 hb⟩
  · rw [hr] at HC
    obtain ⟨h0, h1⟩ := rightC_pos hr
    have HF : Hid (btw ls rows ta tb = (rows.filter (inT ta tb)).map (entX ls)) := by show _ = _; unfold btw; rw [hr]; rfl
    clear hr
    go_enter Tryd.func39, Tryd.ntmps39
    obtain ⟨b, o, rfl, hc⟩ := HR.out (by rw [rcells_len]; omega)
    have HCC := Lib.hid hc
    clear hc
    go_wp2_with (go_at_call 58; refine (HC.out).mono ?_; rintro e w1 ⟨rfl, hb⟩; have hb1 := below_step hb0 hb; have k1 := Blk.grown k0 (grown_below hb) (fun e => by cases e); have c1' := k1.cell 1 _ rfl)
    have HB1 := Lib.hid hb1
    have HK1 := Lib.hid k1
    go_loopw [7, 8] (fun v7 v16 wr => ∃ i : Nat, v16 = .int .i64 (i : Int) ∧ i ≤ rows.length ∧ Hid (RBtwRel w A1 c1 ls (some ⟨b, o, none⟩) c2 rows ta tb i v7 wr)) (fun _ v16 _ => rows.length - (intOf v16).toNat)
    case atStart => exact ⟨0, rfl, Nat.zero_le _, [], rfl, EntsO.nil _ _, HK1.out, HB1.out⟩
    case round =>
      obtain ⟨i, rfl, hi, HI⟩ := hrel
      obtain ⟨rs, hrs, hen, hk, hbw⟩ := HI.out
      obtain ⟨A7, q7, rfl, hq7⟩ := own_val hen.own
      by_cases hlt : i < rows.length
      · have d3 : decide ((i : Int) < (rows.length : Int)) = true := decide_eq_true (by omega)
        have hltz : (i : Int) < (rows.length : Int) := by omega
        obtain ⟨p0, p1, p2⟩ := rcells_at HCC.out i hlt
        have x0 := pw_cell_below hbw p0
        have x1 := pw_cell_below hbw p1
        have x2 := pw_cell_below hbw p2
        have HNX : Hid (((rows.take (i + 1)).filter (inT ta tb)) = (rows.take i).filter (inT ta tb) ++ (if inT ta tb rows[i] = true then [rows[i]] else [])) := by
          show _ = _
          rw [List.take_succ_eq_append_getElem hlt, List.filter_append]
          congr 1
          cases e : inT ta tb rows[i] <;> simp [e]
        have hw1 : IntKind.i64.wrap ((i : Int) + 1) = ((i + 1 : Nat) : Int) := by rw [IntKind.wrap_i64]; omega
        have HRL : Hid (rs.length ≤ i) := by
          have := congrArg List.length hrs
          simp only [List.length_map] at this
          have h2 := List.length_filter_le (inT ta tb) (rows.take i)
          rw [List.length_take] at h2
          show rs.length ≤ i
          omega
        generalize rows[i] = x at *
        have hen2 := hen
        have hbw2 := hbw
        have hk2 := hk
        have kx := hk2.cell 0 _ rfl
        have kx1 := hk2.cell 1 _ rfl
        cases e1 : decide (ta ≤ x.f1)
        · have HF2 : Hid (inT ta tb x = false) := by show _ = _; unfold inT; rw [e1]; rfl
          have HE := Lib.hid (And.intro hen2 (And.intro hk2 hbw2))
          have HRS := Lib.hid hrs
          clear hen hen2 hk hk2 hbw hbw2 hrs
          go_wp2
          go_roundw
          case rel => exact ⟨i + 1, by go_num, by omega, rs, by rw [HNX.out, HF2.out, HRS.out]; simp, HE.out.1, HE.out.2.1, HE.out.2.2⟩
          case measure => simp [intOf]; omega
        cases e2 : decide (x.f1 < tb)
        · have HF2 : Hid (inT ta tb x = false) := by show _ = _; unfold inT; rw [e1, e2]; rfl
          have HE := Lib.hid (And.intro hen2 (And.intro hk2 hbw2))
          have HRS := Lib.hid hrs
          clear hen hen2 hk hk2 hbw hbw2 hrs
          go_wp2
          go_roundw
          case rel => exact ⟨i + 1, by go_num, by omega, rs, by rw [HNX.out, HF2.out, HRS.out]; simp, HE.out.1, HE.out.2.1, HE.out.2.2⟩
          case measure => simp [intOf]; omega
        have HF2 : Hid (inT ta tb x = true) := by show _ = _; unfold inT; rw [e1, e2]; rfl
        have HE := Lib.hid (And.intro hen2 (And.intro hk2 hbw2))
        have HRS := Lib.hid hrs
        have HQ : ∀ w', Below w.heap.size w w' → Blk w' w.heap.size #[.slice A1 ls.length c1, .slice (some ⟨b, o, none⟩) rows.length c2] 50 → (w'.cell? ⟨w.heap.size, 0, none⟩ = some (.slice A1 ls.length c1) ∧ w'.cell? ⟨w.heap.size, 1, none⟩ = some (.slice (some ⟨b, o, none⟩) rows.length c2) ∧ w'.cell? ⟨b, o + i * 3, none⟩ = some (.int .i64 x.f0) ∧ w'.cell? ⟨b, o + i * 3 + 1, none⟩ = some (.int .i64 x.f1) ∧ w'.cell? ⟨b, o + i * 3 + 2, none⟩ = some (.string x.f2)) :=
          fun w' h1 h2 => ⟨h2.cell 0 _ rfl, h2.cell 1 _ rfl, keepc h1 p0, keepc h1 p1, keepc h1 p2⟩
        clear hen hen2 hk hk2 hbw hbw2 hrs p0 p1 p2
        obtain ⟨i0, hi0, hz0, hz1, hz2⟩ := info_parts info33
        go_wp2_with fail
        go_region_held3 (fun w' => w'.cell? ⟨w.heap.size, 0, none⟩ = some (.slice A1 ls.length c1) ∧ w'.cell? ⟨w.heap.size, 1, none⟩ = some (.slice (some ⟨b, o, none⟩) rows.length c2) ∧ w'.cell? ⟨b, o + i * 3, none⟩ = some (.int .i64 x.f0) ∧ w'.cell? ⟨b, o + i * 3 + 1, none⟩ = some (.int .i64 x.f1) ∧ w'.cell? ⟨b, o + i * 3 + 2, none⟩ = some (.string x.f2))
          (first
            | exact HQ _ HE.out.2.2 HE.out.2.1
            | exact HQ _ HE.out.2.2.drew HE.out.2.1.drew
            | exact HQ _ HB2.out HK2.out | exact HQ _ HB2.out.drew HK2.out.drew
            | exact HQ _ HB3.out HK3.out | exact HQ _ HB3.out.drew HK3.out.drew
            | exact HQ _ HB4.out HK4.out | exact HQ _ HB4.out.drew HK4.out.drew)
          (first
            | (go_at_call 102; refine (HEN.out x _ (by first | exact HE.out.2.2 | exact HE.out.2.2.drew)).mono ?_; rintro e w2 ⟨A3, q3, rfl, hq3, ho3, hb3⟩; have hb3' : Below wr.heap.size wr w2 := (by first | exact hb3 | exact undrew hb3); have HB2 := Lib.hid (below_step HE.out.2.2 hb3'); have HK2 := Lib.hid (Blk.below HE.out.2.1 hb3' HE.out.2.1.lt); have HEN3 := Lib.hid ((HE.out.1.below hb3').below ((Below.refl _ _).alloc (Nat.le_refl _) (.cells #[.int .i64 x.f0, .int .i64 x.f1, .slice A3 ls.length q3, .string x.f2] 33))); have HK3 := Lib.hid (HK2.out.alloc (.cells #[.int .i64 x.f0, .int .i64 x.f1, .slice A3 ls.length q3, .string x.f2] 33)); have HB3 := Lib.hid (HB2.out.alloc HB2.out.size (.cells #[.int .i64 x.f0, .int .i64 x.f1, .slice A3 ls.length q3, .string x.f2] 33)); have HO3 := Lib.hid (And.intro hq3 (show w2.ownsRow wr.heap.size 112 2 (.slice A3 ls.length q3) ls.length (lcells ls) from ho3)); clear hb3 hb3' hq3 ho3)
            | (refine step_append_row _ rfl (.tmp 37) (.tmp 46) 22 rfl w.heap.size 33 i0 _ 4 56 Tryd.underlying22 hi0 hz0 hz1 hz2 rfl (by decide) _ rs.length (rs.flatMap RE.cells) rfl
                (by first | exact HEN3.out.own | exact HEN3.out.own.drew2)
                _ 1 1 (RE.cells ⟨entX ls x, A3, q3, 0⟩) rfl (by intro e; cases e) (Nat.le_refl _) rfl
                (by first | exact rowCells_new (cs := #[.int .i64 x.f0, .int .i64 x.f1, .slice A3 ls.length q3, .string x.f2]) rfl | exact rowCells_blk (t := 33) ((Blk.new _ _ _ _ (by simp)).drew) | exact rowCells_blk (t := 33) (Blk.new _ _ _ _ (by simp)))
                (RE.cells_one _) (by have := HRL.out; unfold maxLen; omega) (by have := HRL.out; omega) (by have := HB2.out.size; simp; omega) ?_
               intro v' w3 hown hgrow
               have HG : Hid ((w2.alloc (.cells #[.int .i64 x.f0, .int .i64 x.f1, .slice A3 ls.length q3, .string x.f2] 33)).grownBy w3 (Value.slice A7 rs.length q7).ownBlock) := hgrow
               have HK4 := Lib.hid (Blk.grown HK3.out HG.out (HEN3.out.ne HK3.out (by decide)))
               have HB4 := Lib.hid (HB3.out.grown HG.out HB3.out.size (fun k e => own_ge HEN3.out.own e))
               have HW := Lib.hid hown
               clear hown hgrow))
        go_wp2_with fail
        go_roundw
        case rel =>
          refine ⟨i + 1, by go_num, by omega, rs ++ [⟨entX ls x, A3, q3, 0⟩], ?_, HEN3.out.snoc HW.out HG.out ⟨HO3.out.1, own_below (own_le HO3.out.2 HE.out.2.2.size) ((Below.refl _ _).alloc (Nat.le_refl _) _)⟩, HK4.out, HB4.out⟩
          rw [HNX.out, HF2.out, List.map_append, HRS.out, if_pos rfl, List.map_append]; rfl
        case measure => simp [intOf]; omega
      · have d3 : decide ((i : Int) < (rows.length : Int)) = false := decide_eq_false (by omega)
        obtain rfl : i = rows.length := by omega
        rw [List.take_length] at hrs
        have HE := Lib.hid (And.intro hen hbw)
        have HRS := Lib.hid hrs
        have HA := Lib.hid hlt
        have kx1 := hk.cell 1 _ rfl
        clear hlt hen hbw hk hrs
        go_wp2
        go_ret
        exact ⟨A7, q7, rs, rfl, by rw [HRS.out, HF.out], HE.out.1, HE.out.2⟩
end Go.Proofs.YtojocffjajcdmaaDoor.RF
/- law03.Spoil: it writes into the labels of entries of one's own alone. -/
namespace Go.Proofs.YtojocffjajcdmaaDoor.RF
open Go Go.RowKit Go.Shelf Go.Sort Go.Proofs.YtojocffjajcdmaaDoor Go.Proofs.YtojocffjajcdmaaDoorW.PrintWords Go.Proofs.YtojocffjajcdmaaDoorW.PrintLast Go.Proofs.YtojocffjajcdmaaDoorW.PrintMore PChunkAll
set_option linter.unusedVariables false
set_option linter.unusedSimpArgs false

abbrev SpoE (B : Nat) (v : Value) (rs : List RE) (w0 W : World) : Prop := SpoI 33 4 112 2 RE.cells (fun r => r.A) (fun r => r.x.f2.length) (fun r => r.c) B v rs w0 W
theorem SpoE.lab {B : Nat} {v : Value} {rs : List RE} {w0 W : World} (h : SpoE B v rs w0 W) {i : Nat} (hi : i < rs.length) : ∃ g q, v = .slice (some ⟨g, 0, none⟩) rs.length q ∧ W.cell? ⟨g, i * 4 + 2, none⟩ = some (.slice rs[i].A rs[i].x.f2.length rs[i].c) := by
  obtain ⟨g, q, h1, h2⟩ := h.outer RE.cells_len hi (j := 2) (by decide)
  exact ⟨g, q, h1, h2 _ rfl⟩
set_option maxRecDepth 100000 in
set_option maxHeartbeats 4000000 in
theorem spoil_any (B : Nat) (v : Value) (rs : List RE) (w : World) (h : EntsO B v rs w) (hB : B ≤ w.heap.size) (hm : rs.length ≤ 4611686018427387904) (hl : ∀ r ∈ rs, r.x.f2.length ≤ 4611686018427387904) :
    Calls Tryd.prog 40 #[v] w fun e w' => e = .returned (.tuple #[]) ∧ Below B w w' := by
  have HS : Hid (SpoE B v rs w w) := h.spo hB
  obtain ⟨A, c, rfl, hc⟩ := own_slice h.own
  clear h
  go_enter Tryd.func40, Tryd.ntmps40
  go_wp2
  go_loopw [2, 3] (fun v2 v3 wr => ∃ i : Nat, v2 = .int .i64 (i : Int) ∧ i ≤ rs.length ∧ Hid (SpoE B (.slice A rs.length c) rs w wr)) (fun v2 _ _ => rs.length - (intOf v2).toNat)
  case atStart => exact ⟨0, rfl, Nat.zero_le _, HS⟩
  case round =>
    obtain ⟨i, rfl, hi, HI⟩ := hrel
    by_cases hlt : i < rs.length
    · have hltz : (i : Int) < (rs.length : Int) := by omega
      have HX : Hid (∀ W, SpoE B (.slice A rs.length c) rs w W → ∃ g, A = some ⟨g, 0, none⟩ ∧ W.cell? ⟨g, i * 4 + 2, none⟩ = some (.slice rs[i].A rs[i].x.f2.length rs[i].c)) := Lib.hid (fun W hW => by
        obtain ⟨g, q, h1, h2⟩ := SpoE.lab hW hlt
        injection h1 with a1 a2 a3
        exact ⟨g, a1, h2⟩)
      have HY : Hid (∀ W k, SpoE B (.slice A rs.length c) rs w W → k < rs[i].x.f2.length → ∃ g, rs[i].A = some ⟨g, 0, none⟩ ∧ (∃ u, W.cell? ⟨g, k * 2 + 1, none⟩ = some u) ∧ W.frozen? ⟨g, k * 2 + 1, none⟩ = false ∧ ∀ u, SpoE B (.slice A rs.length c) rs w (W.setCell ⟨g, k * 2 + 1, none⟩ u)) := Lib.hid (fun W k hW hk => by
        obtain ⟨g, h1, h2, ⟨cur, fz, h3⟩, h4, h5⟩ := SpoI.at hW (List.getElem_mem hlt) (j := 1) hk (by decide)
        exact ⟨g, h1, h4, h5, fun u => SpoI.write hW (by decide) h2 h3⟩)
      have hll : rs[i].x.f2.length ≤ 4611686018427387904 := hl _ (List.getElem_mem hlt)
      generalize rs[i].A = A2 at *
      generalize rs[i].x.f2.length = m at *
      generalize rs[i].c = c2 at *
      clear hl HS
      go_wp2_with fail
      go_loopw [3] (fun v3 wi => ∃ k : Nat, v3 = .int .i64 (k : Int) ∧ k ≤ m ∧ Hid (SpoE B (.slice A rs.length c) rs w wi)) (fun v3 _ => m - (intOf v3).toNat)
      case atStart => exact ⟨0, rfl, Nat.zero_le _, HI⟩
      case round =>
        obtain ⟨k, rfl, hk, HK⟩ := hrel
        obtain ⟨g, rfl, x0⟩ := HX.out _ HK.out
        by_cases hkt : k < m
        · have hktz : (k : Int) < (m : Int) := by omega
          obtain ⟨g2, rfl, ⟨u, y0⟩, y1, y2⟩ := HY.out _ k HK.out hkt
          have HW := Lib.hid y2
          clear y2
          go_wp2_with fail
          go_roundw
          case rel => exact ⟨k + 1, by go_num, by omega, HW.out _⟩
          case measure => simp [intOf]; omega
        · have hktz : ¬ (k : Int) < (m : Int) := by omega
          go_wp2_with fail
          go_roundw
          case rel => exact ⟨i + 1, by go_num, by omega, HK⟩
          case measure => simp [intOf]; omega
    · have hltz : ¬ (i : Int) < (rs.length : Int) := by omega
      go_wp2_with fail
      go_end0
      exact ⟨rfl, HI.out.below⟩
end Go.Proofs.YtojocffjajcdmaaDoor.RF
/- law04.Same of equal chunks; the law ChunkLooks holds of whatever chunk and times. -/
namespace Go.Proofs.YtojocffjajcdmaaDoor.RF
open Go Go.RowKit Go.Shelf Go.Sort Go.Proofs.YtojocffjajcdmaaDoor Go.Proofs.YtojocffjajcdmaaDoor.RS Go.Proofs.YtojocffjajcdmaaDoorW.PrintWords Go.Proofs.YtojocffjajcdmaaDoorW.PrintLast Go.Proofs.YtojocffjajcdmaaDoorW.PrintMore PChunkAll
set_option linter.unusedVariables false
set_option linter.unusedSimpArgs false

theorem same02_big (l : List S112) (hl : l.length < 4398046511104) (d : Nat) (n i : Nat) (h : i + n = l.length) : icehouselaw02_Same.l0 (n + d + 1) l l (i : Int) = some true := by
  induction n generalizing i with
  | zero => rw [icehouselaw02_Same.l0, if_neg (by omega)]
  | succ n ih =>
    have hw : wrap64 ((i : Int) + 1) = ((i + 1 : Nat) : Int) := by unfold wrap64; omega
    rw [show n + 1 + d + 1 = (n + d + 1) + 1 by omega, icehouselaw02_Same.l0, if_pos (by omega), if_pos (by omega), if_pos (by omega), if_pos rfl, if_pos rfl, hw]
    exact ih (i + 1) (by omega)
theorem same04_l0 (ls : List S112) (rows : List S71) (hm : rows.length < 4398046511104) (d : Nat) (n k : Nat) (hk : k + n = rows.length) : icehouselaw04_Same.l0 (n + d + 1) (k : Int) ls rows ls (rows.map t93) = some true := by
  induction n generalizing k with
  | zero => rw [icehouselaw04_Same.l0, if_neg (by omega)]
  | succ n ih =>
    have hkl : k < rows.length := by omega
    have hw : wrap64 ((k : Int) + 1) = ((k + 1 : Nat) : Int) := by unfold wrap64; omega
    have e : rd_T93 (rows.map t93) (k : Int) = t93 rows[k] := by unfold rd_T93; rw [Int.toNat_natCast]; simp [hkl]
    have e2 : rd_T71 rows (k : Int) = rows[k] := by unfold rd_T71; rw [Int.toNat_natCast]; simp [hkl]
    rw [show n + 1 + d + 1 = (n + d + 1) + 1 by omega, icehouselaw04_Same.l0, if_pos (by omega), if_pos (by omega), if_pos (by simp; omega), e, e2, if_pos (show rows[k].f0 = (t93 rows[k]).f0 from rfl), if_pos (show rows[k].f1 = (t93 rows[k]).f1 from rfl), if_pos (show rows[k].f2.toList = (t93 rows[k]).f2.toList from rfl), hw]
    exact ih (k + 1) (by omega)
theorem same04_f (ls : List S112) (rows : List S71) (hl : ls.length < 4398046511104) (hm : rows.length < 4398046511104) : icehouselaw04_Same.f (ls.length + rows.length + 2) ls rows ls (rows.map t93) = some true := by
  unfold icehouselaw04_Same.f
  have h1 : icehouselaw02_Same.f (ls.length + rows.length + 2) ls ls = some true := by
    unfold icehouselaw02_Same.f
    rw [if_pos rfl]
    exact same02_big ls hl (rows.length + 1) ls.length 0 (by omega)
  rw [h1]
  have h2 : ((rows.length : Int) != ((rows.map t93).length : Int)) = false := by simp
  rw [h2]
  show icehouselaw04_Same.j0 (ls.length + rows.length + 1 + 1) false ls rows ls (rows.map t93) = _
  rw [icehouselaw04_Same.j0, if_neg (by decide)]
  have := same04_l0 ls rows hm ls.length rows.length 0 (by omega)
  rwa [Nat.add_comm rows.length] at this
theorem same41_any (A1 : Option Addr) (c1 : Nat) (A2 : Option Addr) (c2 : Nat) (A3 : Option Addr) (c3 : Nat) (A4 : Option Addr) (c4 : Nat) (ls : List S112) (rows : List S71) (w : World) (hls : ls.length < 4398046511104) (hm : rows.length < 4398046511104)
    (hL1 : Kd.C k112 w A1 ls.length ls) (h1 : ls.length ≤ c1) (hR2 : RowC w A2 (rcells rows)) (h2 : rows.length ≤ c2) (hL3 : Kd.C k112 w A3 ls.length ls) (h3 : ls.length ≤ c3) (hR4 : RowC w A4 (rcells rows)) (h4 : rows.length ≤ c4) :
    Calls Tryd.prog 41 #[chV A1 ls.length c1 A2 rows.length c2, chV A3 ls.length c3 A4 rows.length c4] w fun e w' => e = .returned (.bool true) ∧ Below w.heap.size w w' := by
  have hc := C93 (by omega) hR4
  have hc2 : Kd.C k93 w A4 (rows.map t93).length (rows.map t93) := by simpa using hc
  have := icehouselaw04_Same.calls (ls.length + rows.length + 2) A1 c1 ls A2 c2 rows A3 c3 ls A4 c4 (rows.map t93) true w hL1 h1 (C71 (by omega) hR2) h2 hL3 h3 hc2 (by simpa using h4) (same04_f ls rows hls hm)
  simpa using this
theorem bndV_four (ls : List S112) (rows : List S71) : ∃ z0 z1 z2 z3 : Int, bndV ls rows = #[.int .i64 z0, .int .i64 z1, .int .i64 z2, .int .i64 z3] := by
  unfold bndV
  split
  · exact ⟨_, _, _, _, rfl⟩
  · exact ⟨_, _, _, _, rfl⟩
/-- A law's two chunks, the argument and one's own, in their boxes. -/
structure LK (w : World) (B1 : Nat) (A1 : Option Addr) (c1 : Nat) (ls : List S112) (A2 : Option Addr) (c2 : Nat) (rows : List S71) (A3 : Option Addr) (c3 : Nat) (A4 : Option Addr) (c4 : Nat) (W : World) : Prop where
  k0 : Blk W w.heap.size #[.slice A1 ls.length c1, .slice A2 rows.length c2] 50
  k1 : Blk W B1 #[.slice A3 ls.length c3, .slice A4 rows.length c4] 53
  L3 : Kd.C k112 W A3 ls.length ls
  R4 : RowC W A4 (rcells rows)
  below : Below w.heap.size w W
section
variable {w : World} {B1 : Nat} {A1 : Option Addr} {c1 : Nat} {ls : List S112} {A2 : Option Addr} {c2 : Nat} {rows : List S71} {A3 : Option Addr} {c3 : Nat} {A4 : Option Addr} {c4 : Nat} {W W' : World}
theorem LK.step (h : LK w B1 A1 c1 ls A2 c2 rows A3 c3 A4 c4 W) (hb : Below W.heap.size W W') : LK w B1 A1 c1 ls A2 c2 rows A3 c3 A4 c4 W' :=
  ⟨Blk.below h.k0 hb h.k0.lt, Blk.below h.k1 hb h.k1.lt, Kd.C_below h.L3 hb, h.R4.below hb, below_step h.below hb⟩
end

theorem EntsO.rd {B n c : Nat} {A : Option Addr} {rs : List RE} {W : World} {ls : List S112} {rows : List S71} {a b : Int} (h : EntsO B (.slice A n c) rs W) (hm : rs.map RE.x = btw ls rows a b) (hls : ls.length < 4398046511104) : Kd.C k33 W A (btw ls rows a b).length (btw ls rows a b) := by
  have h9 := (h.reads (by have := map_len hm; have := btw_len ls rows a b; omega) (fun r hr => by rw [btw_labs hm r hr]; omega)).2.2
  rw [map_len hm, hm] at h9
  exact h9
set_option maxRecDepth 100000 in
set_option maxHeartbeats 4000000 in
theorem looks_any (A1 : Option Addr) (c1 : Nat) (ls : List S112) (A2 : Option Addr) (c2 : Nat) (rows : List S71) (ta tb : Int) (w : World) (hT : Tabs w) (hls : ls.length < 4398046511104) (hm : rows.length < 4398046511104) (hsz : SzOk ls)
    (hL : Kd.C k112 w A1 ls.length ls) (hA1 : A1 = none → c1 = 0) (h1 : ls.length ≤ c1) (hR : RowC w A2 (rcells rows)) (h2 : rows.length ≤ c2) (hwf : ∀ x ∈ rows, (Lit.int .i64 x.f0).wf = true) :
    Calls Tryd.prog 5 #[chV A1 ls.length c1 A2 rows.length c2, .int .i64 ta, .int .i64 tb] w (LawRes w) := by
  have hb0 : Below w.heap.size w (w.alloc (.cells #[.slice A1 ls.length c1, .slice A2 rows.length c2] 50)) := (Below.refl _ _).alloc (Nat.le_refl _) _
  have k0 : Blk (w.alloc (.cells #[.slice A1 ls.length c1, .slice A2 rows.length c2] 50)) w.heap.size #[.slice A1 ls.length c1, .slice A2 rows.length c2] 50 := Blk.new _ _ _ _ rfl
  have c00 := k0.cell 0 _ rfl
  have c01 := k0.cell 1 _ rfl
  obtain ⟨z0, z1, z2, z3, hz⟩ := bndV_four ls rows
  have HKN := Lib.hid (fun W (hb : Below w.heap.size w W) => knows4_any W (hT.below hb))
  have HOW := Lib.hid (own34_any A1 c1 ls A2 c2 rows _ hls hm (Kd.C_below hL hb0) h1 (hR.below hb0) h2)
  have HCB := Lib.hid (fun (A3 : Option Addr) c3 (A4 : Option Addr) c4 W (hb : Below w.heap.size w W) (g1 : Kd.C k112 W A3 ls.length ls) (g2 : RowC W A4 (rcells rows)) => cbounds_any A3 c3 ls A4 c4 rows W (hT.below hb) hls (by omega) g1 g2 hwf)
  have HRB := Lib.hid (fun W (hb : Below w.heap.size w W) => rbounds_any A1 c1 ls A2 c2 rows W hsz (by omega) (Kd.C_below hL hb) (hR.below hb) hwf)
  have HBT := Lib.hid (fun (A3 : Option Addr) c3 (A4 : Option Addr) c4 (x y : Int) W (hb : Below w.heap.size w W) (g1 : Kd.C k112 W A3 ls.length ls) (g2 : RowC W A4 (rcells rows)) => between_any A3 c3 ls A4 c4 rows x y W (hT.below hb) hls (by omega) g1 g2 hwf)
  have HRT := Lib.hid (fun W (hb : Below w.heap.size w W) => rbetween_any A1 c1 ls A2 c2 rows ta tb W hsz hls (by omega) (Kd.C_below hL hb) hA1 h1 (hR.below hb) hwf)
  have HSM := Lib.hid (fun (A3 : Option Addr) c3 (A4 : Option Addr) c4 W (hb : Below w.heap.size w W) (g1 : Kd.C k112 W A3 ls.length ls) (g2 : RowC W A4 (rcells rows)) q1 q2 => same41_any A3 c3 A4 c4 A1 c1 A2 c2 ls rows W hls hm g1 q1 g2 q2 (Kd.C_below hL hb) h1 (hR.below hb) h2)
  have HLE := Lib.hid (btw_lenE rows ta tb hls)
  have HLS : Hid (∀ rs : List RE, rs.map RE.x = btw ls rows ta tb → rs.length ≤ 4611686018427387904 ∧ ∀ r ∈ rs, r.x.f2.length ≤ 4611686018427387904) := Lib.hid (fun rs hrs => ⟨by have := map_len hrs; have := btw_len ls rows ta tb; omega, fun r hr => by rw [btw_labs hrs r hr]; omega⟩)
  rw [hz] at HCB HRB
  clear hT hL hR hwf hz hsz
  go_enter Tryd.func5, Tryd.ntmps5
  go_wp2_with (first
    | (go_at_call 34; refine (HOW.out).mono ?_; rintro e w1 ⟨A3, c3, A4, c4, rfl, hq1, hq2, hL3, hR4, hb⟩; have HQ := Lib.hid (And.intro hq1 hq2); have HB1 := Lib.hid (below_step hb0 hb); have HK1 := Lib.hid (show LK w w1.heap.size A1 c1 ls A2 c2 rows A3 c3 A4 c4 (w1.alloc (.cells #[.slice A3 ls.length c3, .slice A4 rows.length c4] 53)) from ⟨(Blk.below k0 hb k0.lt).alloc _, Blk.new _ _ _ _ rfl, Kd.C_below hL3 ((Below.refl w1.heap.size w1).alloc (Nat.le_refl _) _), hR4.below ((Below.refl w1.heap.size w1).alloc (Nat.le_refl _) _), HB1.out.alloc HB1.out.size _⟩); have x0 := HK1.out.k1.cell 0 _ rfl; have x1 := HK1.out.k1.cell 1 _ rfl; clear hL3 hR4 hb c00 c01)
    | (go_at_call 35; (with_reducible refine (HCB.out A3 c3 A4 c4 _ HK1.out.below HK1.out.L3 HK1.out.R4).mono ?_); rintro e w2 ⟨rfl, hb⟩; have HK2 := Lib.hid (HK1.out.step hb); have y0 := HK2.out.k0.cell 0 _ rfl; have y1 := HK2.out.k0.cell 1 _ rfl; clear hb x0 x1)
    | (go_at_call 36; (with_reducible refine (HRB.out _ HK2.out.below).mono ?_); rintro e w3 ⟨rfl, hb⟩; have HK3 := Lib.hid (HK2.out.step hb); have z0' := HK3.out.k1.cell 0 _ rfl; have z1' := HK3.out.k1.cell 1 _ rfl; clear hb y0 y1)
    | (go_at_call 37; (with_reducible refine (HBT.out A3 c3 A4 c4 ta tb _ HK3.out.below HK3.out.L3 HK3.out.R4).mono ?_); rintro e w4 ⟨A5, c5, rsA, he, hrA, hEA, hb⟩; rw [map_len hrA] at he hEA; subst he; have HK4 := Lib.hid (HK3.out.step hb); have HB4 := Lib.hid hb; have u0 := HK4.out.k0.cell 0 _ rfl; have u1 := HK4.out.k0.cell 1 _ rfl; have HEA := Lib.hid hEA; have HRA := Lib.hid hrA; clear hb z0' z1' hEA hrA)
    | (go_at_call 39; (with_reducible refine (HRT.out _ HK4.out.below).mono ?_); rintro e w5 ⟨A6, c6, rsB, he, hrB, hEB, hb⟩; rw [map_len hrB] at he hEB; subst he; have HK5 := Lib.hid (HK4.out.step hb); have HB5 := Lib.hid (below_step HB4.out hb); have HEA5 := Lib.hid (HEA.out.below hb); have HEB := Lib.hid hEB; have HRB' := Lib.hid hrB; clear hb hEB hrB)
    | (go_at_call 38; (with_reducible refine (sames_any A5 A6 c5 c6 (btw ls rows ta tb) _ (HEA5.out.rd HRA.out hls) (HEB.out.rd HRB'.out hls) HLE.out).mono ?_); rintro e w6 ⟨rfl, hb⟩; have HK6 := Lib.hid (HK5.out.step hb); have HB6 := Lib.hid (below_step HB5.out hb); have HEA6 := Lib.hid (HEA5.out.below hb); clear hb)
    | (go_at_call 40; (with_reducible refine (spoil_any w3.heap.size (.slice A5 (btw ls rows ta tb).length c5) rsA _ HEA6.out HB6.out.size (HLS.out rsA HRA.out).1 (HLS.out rsA HRA.out).2).mono ?_); rintro e w7 ⟨rfl, hb⟩; have HB7 := Lib.hid (HB6.out.trans hb); have HK7 := Lib.hid (HK3.out.step HB7.out); have v0 := HK7.out.k0.cell 0 _ rfl; have v1 := HK7.out.k0.cell 1 _ rfl; have v2 := HK7.out.k1.cell 0 _ rfl; have v3 := HK7.out.k1.cell 1 _ rfl; clear hb)
    | (go_at_call 41; (with_reducible refine (HSM.out A3 c3 A4 c4 _ HK7.out.below HK7.out.L3 HK7.out.R4 HQ.out.1 HQ.out.2).mono ?_); rintro e w8 ⟨rfl, hb⟩; have HB8 := Lib.hid (below_step HK7.out.below hb); clear hb)
    | (go_at_call 42; (with_reducible refine (HKN.out _ HB8.out).mono ?_); rintro e w9 ⟨rfl, hb⟩; have HB9 := Lib.hid (below_step HB8.out hb); clear hb))
  go_ret
  exact ⟨rfl, HB9.out⟩
end Go.Proofs.YtojocffjajcdmaaDoor.RF
