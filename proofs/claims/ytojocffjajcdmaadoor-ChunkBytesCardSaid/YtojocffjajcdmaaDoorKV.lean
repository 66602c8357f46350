/- The reference's Signed; what stands between two rounds of the reference's Get. -/
import Derived.Test.YtojocffjajcdmaaDoorKU
import Derived.Test.YtojocffjajcdmaaDoorKG
namespace Go.Proofs.YtojocffjajcdmaaDoor.RF
open Go Go.RowKit Go.Shelf Go.Sort Go.Proofs.YtojocffjajcdmaaDoor Go.Proofs.YtojocffjajcdmaaDoor.RS Go.Proofs.YtojocffjajcdmaaDoorW.PrintWords Go.Proofs.YtojocffjajcdmaaDoorW.PrintLast Go.Proofs.YtojocffjajcdmaaDoorW.PrintMore PChunkAll
set_option linter.unusedVariables false
set_option linter.unusedSimpArgs false

set_option maxHeartbeats 4000000 in
set_option maxRecDepth 100000 in
theorem rsig_any (g : Nat) (bs : List Int) (er : Int) (w : World) (h : RefAt w g bs er) : Calls Tryd.prog 117 #[.pointer (some ⟨g, 0, none⟩)] w fun e w' => e = .returned (.int .i64 (dzig (numS bs er).1)) ∧ RefAt w' g (numS bs er).2.1 (numS bs er).2.2 ∧ w.grownBy w' (some g) := by
  have HU := Lib.hid (rnum_any g bs er w h)
  have hv := numS_val bs er
  generalize numS bs er = r at *
  obtain ⟨n, bs1, e1⟩ := r
  simp only at hv HU ⊢
  obtain ⟨hv0, hv1⟩ := hv
  clear h
  have hm : Int.tmod n 2 = n % 2 := Int.tmod_eq_emod_of_nonneg hv0
  have hd : Int.tdiv n 2 = n / 2 := Int.tdiv_eq_ediv_of_nonneg hv0
  by_cases h2 : n % 2 = 1
  · have HZ : Hid (dzig n = -(n / 2 + 1)) := Lib.hid (by unfold dzig; rw [if_neg (by omega)]; omega)
    rw [HZ.out]
    have hw1 : wrap64 (n / 2 + 1) = n / 2 + 1 := by unfold wrap64; omega
    have hw2 : wrap64 (-(n / 2 + 1)) = -(n / 2 + 1) := by unfold wrap64; omega
    have hw3 : IntKind.i64.wrap (n / 2 + 1) = n / 2 + 1 := by rw [IntKind.wrap_i64]; omega
    have hw4 : IntKind.i64.wrap (-(n / 2 + 1)) = -(n / 2 + 1) := by rw [IntKind.wrap_i64]; omega
    have hw5 : IntKind.i64.wrap (n / 2) = n / 2 := by rw [IntKind.wrap_i64]; omega
    have hw6 : wrap64 (n / 2) = n / 2 := by unfold wrap64; omega
    go_enter Tryd.func117, Tryd.ntmps117
    go_wp2_with (go_at_call 91; (with_reducible refine (HU.out).mono ?_); rintro e w2 ⟨rfl, hd', hgr⟩; have HD := Lib.hid hd'; have HG := Lib.hid hgr; clear hd' hgr)
    go_ret
    exact ⟨rfl, HD.out, HG.out⟩
  · have HZ : Hid (dzig n = n / 2) := Lib.hid (by unfold dzig; rw [if_pos (by omega)])
    rw [HZ.out]
    have hw5 : IntKind.i64.wrap (n / 2) = n / 2 := by rw [IntKind.wrap_i64]; omega
    have hw6 : wrap64 (n / 2) = n / 2 := by unfold wrap64; omega
    go_enter Tryd.func117, Tryd.ntmps117
    go_wp2_with (go_at_call 91; (with_reducible refine (HU.out).mono ?_); rintro e w2 ⟨rfl, hd', hgr⟩; have HD := Lib.hid hd'; have HG := Lib.hid hgr; clear hd' hgr)
    go_ret
    exact ⟨rfl, HD.out, HG.out⟩
end Go.Proofs.YtojocffjajcdmaaDoor.RF
/- The reference's Get of a chunk: what stands between two rounds. -/
namespace Go.Proofs.YtojocffjajcdmaaDoor.RF
open Go Go.RowKit Go.Shelf Go.Sort Go.Proofs.YtojocffjajcdmaaDoor Go.Proofs.YtojocffjajcdmaaDoor.RS Go.Proofs.YtojocffjajcdmaaDoorW.PrintWords Go.Proofs.YtojocffjajcdmaaDoorW.PrintLast Go.Proofs.YtojocffjajcdmaaDoorW.PrintMore PChunkAll
set_option linter.unusedVariables false
set_option linter.unusedSimpArgs false

structure GR (w : World) (g C R : Nat) (al : Option Addr) (cl : Nat) (ls : List S112) (v : Value) (rows : List S71) (p : S71) (bs : List Int) (er : Int) (W : World) : Prop where
  res : Blk W w.heap.size #[.slice none 0 0, .slice none 0 0] 50
  dec : RefAt W g bs er
  ch : Blk W C #[.slice al ls.length cl, v] 50
  row : Blk W R (rowC p) 93
  labs : W.ownsRow (g + 1) 112 2 (.slice al ls.length cl) ls.length (lcells ls)
  rows : W.ownsRow (R + 1) 93 3 v rows.length (rcells rows)
  low : Below w.heap.size w W
  o1 : w.heap.size < g
  o2 : g < C
  o3 : C < R
/-- .. and within a round: the row that is being read lies in block Q. -/
structure GQ (w : World) (g C R Q : Nat) (al : Option Addr) (cl : Nat) (ls : List S112) (v : Value) (rows : List S71) (p x : S71) (bs : List Int) (er : Int) (W : World) : Prop where
  gr : GR w g C R al cl ls v rows p bs er W
  box : Blk W Q (rowC x) 93
  far : v.ownBlock ≠ some Q
  o4 : R < Q
section
variable {w : World} {g C R Q : Nat} {al : Option Addr} {cl : Nat} {ls : List S112} {v : Value} {rows : List S71} {p x : S71} {bs bs' : List Int} {er er' : Int} {W W' : World}
theorem GR.step (h : GR w g C R al cl ls v rows p bs er W) (hd : RefAt W' g bs' er') (hg : W.grownBy W' (some g)) : GR w g C R al cl ls v rows p bs' er' W' :=
  have o1 := h.o1
  have o2 := h.o2
  have o3 := h.o3
  ⟨Blk.grown h.res hg (fun e => by injection e with e; omega), hd, Blk.grown h.ch hg (fun e => by injection e with e; omega), Blk.grown h.row hg (fun e => by injection e with e; omega),
    own_kept h.labs hg (.inl (fun e => by have := own_ge h.labs e; omega)), own_kept h.rows hg (.inl (fun e => by have := own_ge h.rows e; omega)),
    h.low.grown hg h.low.size (fun k e => by injection e with e; omega), o1, o2, o3⟩
theorem GR.below (h : GR w g C R al cl ls v rows p bs er W) (hb : Below W.heap.size W W') : GR w g C R al cl ls v rows p bs er W' :=
  ⟨Blk.below h.res hb h.res.lt, h.dec.below hb, Blk.below h.ch hb h.ch.lt, Blk.below h.row hb h.row.lt, own_below h.labs hb, own_below h.rows hb, below_step h.low hb, h.o1, h.o2, h.o3⟩
theorem GR.set (h : GR w g C R al cl ls v rows p bs er W) (j : Nat) (u : Value) {p' : S71} (hp : (rowC p).setIfInBounds j u = rowC p') : GR w g C R al cl ls v rows p' bs er (W.setCell ⟨R, j, none⟩ u) :=
  have o1 := h.o1
  have o2 := h.o2
  have o3 := h.o3
  ⟨h.res.far _ _ (by show w.heap.size ≠ R; omega), h.dec.set (Nat.lt_trans o2 o3), h.ch.far _ _ (by show C ≠ R; omega), by have := h.row.set j u; rwa [hp] at this,
    ownsRow_setCell_other h.labs (own_ne_blk h.labs h.row (by decide)) u, ownsRow_setCell_other h.rows (fun e => by have := own_ge h.rows e; simp only at this; omega) u,
    h.low.setCell (p := ⟨R, j, none⟩) (by show w.heap.size ≤ R; omega) u, o1, o2, o3⟩
theorem GR.lt (h : GR w g C R al cl ls v rows p bs er W) : R < W.heap.size := h.row.lt
theorem GQ.step (h : GQ w g C R Q al cl ls v rows p x bs er W) (hd : RefAt W' g bs' er') (hg : W.grownBy W' (some g)) : GQ w g C R Q al cl ls v rows p x bs' er' W' :=
  ⟨h.gr.step hd hg, Blk.grown h.box hg (fun e => by injection e with e; have := h.gr.o2; have := h.gr.o3; have := h.o4; omega), h.far, h.o4⟩
theorem GQ.below (h : GQ w g C R Q al cl ls v rows p x bs er W) (hb : Below W.heap.size W W') : GQ w g C R Q al cl ls v rows p x bs er W' :=
  ⟨h.gr.below hb, Blk.below h.box hb h.box.lt, h.far, h.o4⟩
/-- A store into the row that is being read. -/
theorem GQ.set (h : GQ w g C R Q al cl ls v rows p x bs er W) (j : Nat) (u : Value) {x' : S71} (hp : (rowC x).setIfInBounds j u = rowC x') : GQ w g C R Q al cl ls v rows p x' bs er (W.setCell ⟨Q, j, none⟩ u) :=
  have o1 := h.gr.o1
  have o2 := h.gr.o2
  have o3 := h.gr.o3
  have o4 := h.o4
  ⟨⟨h.gr.res.far _ _ (by show w.heap.size ≠ Q; omega), h.gr.dec.set (by omega), h.gr.ch.far _ _ (by show C ≠ Q; omega), h.gr.row.far _ _ (by show R ≠ Q; omega),
    ownsRow_setCell_other h.gr.labs (own_ne_blk h.gr.labs h.box (by decide)) u, ownsRow_setCell_other h.gr.rows h.far u,
    h.gr.low.setCell (p := ⟨Q, j, none⟩) (by show w.heap.size ≤ Q; omega) u, o1, o2, o3⟩, by have := h.box.set j u; rwa [hp] at this, h.far, o4⟩
/-- A box for the row to be read. -/
theorem GR.box (h : GR w g C R al cl ls v rows p bs er W) (x : S71) : GQ w g C R W.heap.size al cl ls v rows p x bs er (W.alloc (.cells (rowC x) 93)) :=
  ⟨h.below ((Below.refl _ _).alloc (Nat.le_refl _) _), Blk.new _ _ _ _ rfl, fun e => by have := (h.rows.lt _ e).2; omega, h.lt⟩
/-- A row more; the one ahead is the row that was read. -/
theorem GQ.push (h : GQ w g C R Q al cl ls v rows p x bs er W) {W1 W2 : World} {v' : Value} (hb : Below W.heap.size W W1) (hg : W1.grownBy W2 v.ownBlock) (ho : W2.ownsRow (R + 1) 93 3 v' (rows.length + 1) (rcells rows ++ [.int .i64 x.f0, .int .i64 x.f1, .string x.f2])) :
    GR w g C R al cl ls v' (rows ++ [x]) p bs er (W2.setCell ⟨C, 1, none⟩ v') ∧ Blk (W2.setCell ⟨C, 1, none⟩ v') Q (rowC x) 93 :=
  have o1 := h.gr.o1
  have o2 := h.gr.o2
  have o3 := h.gr.o3
  have k := h.below hb
  have hvb : ∀ q, v.ownBlock = some q → R + 1 ≤ q := fun q e => own_ge k.gr.rows e
  have hch : Blk W2 C #[.slice al ls.length cl, v] 50 := Blk.grown k.gr.ch hg (fun e => by have := hvb _ e; omega)
  have hlabs : W2.ownsRow (g + 1) 112 2 (.slice al ls.length cl) ls.length (lcells ls) := own_grown (own_le (B' := g + 1) k.gr.rows (by omega)) hg k.gr.labs (by decide)
  have hdec : RefAt W2 g bs er := k.gr.dec.low (by
    refine ⟨hg.os, hg.tape, hg.output, hg.size, fun q hq => hg.block q (Nat.lt_of_lt_of_le hq (by have := k.gr.dec.lt; omega)) (fun e => ?_)⟩
    have := hvb q e.symm
    omega)
  ⟨⟨(Blk.grown k.gr.res hg (fun e => by have := hvb _ e; omega)).far _ _ (by show w.heap.size ≠ C; omega), hdec.set o2, by have := hch.set 1 v'; simpa using this,
    (Blk.grown k.gr.row hg (fun e => by have := hvb _ e; omega)).far _ _ (by show R ≠ C; omega),
    ownsRow_setCell_other hlabs (own_ne_blk hlabs hch (by decide)) v', by
      have e : rcells (rows ++ [x]) = rcells rows ++ [.int .i64 x.f0, .int .i64 x.f1, .string x.f2] := by unfold rcells; rw [List.flatMap_append]; rfl
      rw [e, List.length_append]
      exact ownsRow_setCell_other ho (own_ne_blk ho hch (by decide)) v',
    (k.gr.low.grown hg k.gr.low.size (fun q e => by have := hvb q e; omega)).setCell (p := ⟨C, 1, none⟩) (by show w.heap.size ≤ C; omega) _, o1, o2, o3⟩,
   (Blk.grown k.box hg h.far).far _ _ (by show Q ≠ C; have := h.o4; omega)⟩
/-- The one ahead is now x. -/
theorem GR.was (h : GR w g C R al cl ls v rows p bs er W) (x : S71) : GR w g C R al cl ls v rows x bs er (((W.setCell ⟨R, 0, none⟩ (.int .i64 x.f0)).setCell ⟨R, 1, none⟩ (.int .i64 x.f1)).setCell ⟨R, 2, none⟩ (.string x.f2)) :=
  ((h.set 0 (.int .i64 x.f0) (p' := ⟨x.f0, p.f1, p.f2⟩) rfl).set 1 (.int .i64 x.f1) (p' := ⟨x.f0, x.f1, p.f2⟩) rfl).set 2 (.string x.f2) (p' := x) rfl
end
theorem numS_err (bs : List Int) (er : Int) (h : (numS bs er).2.2 ≠ 0) : (numS bs er).1 = 0 := by
  unfold numS at h ⊢
  split
  · rfl
  · rename_i hz
    rw [if_neg hz] at h
    exact (numG_err bs h).1
end Go.Proofs.YtojocffjajcdmaaDoor.RF
/- The reference's Get of a chunk: walked. -/
namespace Go.Proofs.YtojocffjajcdmaaDoor.RF
open Go Go.RowKit Go.Shelf Go.Sort Go.Proofs.YtojocffjajcdmaaDoor Go.Proofs.YtojocffjajcdmaaDoor.RS Go.Proofs.YtojocffjajcdmaaDoorW.PrintWords Go.Proofs.YtojocffjajcdmaaDoorW.PrintLast Go.Proofs.YtojocffjajcdmaaDoorW.PrintMore PChunkAll
set_option linter.unusedVariables false
set_option linter.unusedSimpArgs false

theorem info93' : (Tryd.prog.info? 93).map (fun i => (i.zero, i.size, i.bytes)) = some (some (.agg #[(.int .i64 0), (.int .i64 0), (.string ⟨#[]⟩)]), 3, 32) := by kernel_rfl
theorem row_news93 (w2 : World) (n : Nat) (hn : n = w2.heap.size) (x : S71) : ∀ j u, ([.int .i64 x.f0, .int .i64 x.f1, .string x.f2] : List Value)[j]? = some u → (w2.alloc (.cells (rowC x) 93)).cell? (Addr.add ⟨n, 0, none⟩ j) = some u := by
  intro j u hu
  rw [addr_add, Nat.zero_add]
  exact (Blk.new w2 (rowC x) 93 n hn).cell j u (by simpa using hu)
theorem readL_err (bs : List Int) (h : (readL bs).2 ≠ 0) : (readL bs).1 = [] := by
  unfold readL at h ⊢
  split
  · rfl
  · rename_i hz; rw [if_neg hz] at h; exact absurd rfl h
theorem refat_cell2 {W : World} {g : Nat} {bs : List Int} {er : Int} (h : RefAt W g bs er) : W.cell? ⟨g, 2, none⟩ = some (.int .i64 er) := by
  obtain ⟨A, c, all, p, h1, _⟩ := h
  rw [blk_cell h1]; rfl
theorem rel2_next {b5 : List Int} {e5 : Int} {m k : Nat} {l : List S71} {p : S71} {b : List Int} (hk : k < m) (h : rowsG true z71 b5 e5 m = (rowsG (k == 0) p b 0 (m - k)).map (fun r => (l ++ r.1, r.2))) (x : S71) (b' : List Int) (e' : Int) (hx : rowG (k == 0) p b 0 = (x, b', e')) :
    (rowsG true z71 b5 e5 m = (rowsG (k + 1 == 0) x b' e' (m - (k + 1))).map (fun r => ((l ++ [x]) ++ r.1, r.2)) ∧ (k + 1 < m → e' = 0)) ∨ (e' ≠ 0 ∧ rowsG true z71 b5 e5 m = none) := by
  obtain ⟨q, hq⟩ : ∃ q, m - k = q + 1 := ⟨m - k - 1, by omega⟩
  have hq1 : m - (k + 1) = q := by omega
  rw [hq, rowsG, hx] at h
  by_cases he : e' = 0
  · subst he
    rw [if_pos rfl] at h
    exact .inl ⟨by rw [h, hq1]; exact rows_next _ _ _, fun _ => rfl⟩
  · rw [if_neg he] at h
    exact .inr ⟨he, by rw [h]; rfl⟩
def GRel2 (w : World) (g C R : Nat) (al : Option Addr) (cl : Nat) (ls : List S112) (b5 : List Int) (e5 : Int) (m k : Nat) (wr : World) : Prop :=
  ∃ (l : List S71) (p : S71) (b : List Int) (er : Int) (v : Value), GR w g C R al cl ls v l p b er wr ∧ l.length = k ∧
    ((rowsG true z71 b5 e5 m = (rowsG (k == 0) p b er (m - k)).map (fun r => (l ++ r.1, r.2)) ∧ (k < m → er = 0)) ∨ (er ≠ 0 ∧ rowsG true z71 b5 e5 m = none))
set_option maxHeartbeats 8000000 in
set_option maxRecDepth 100000 in
theorem rgetC_any (A : Option Addr) (c : Nat) (bs : List Int) (w : World) (hr : Kd.C KB w A bs.length bs) (hl : bs.length ≤ 140737488355328) (hB : Byt bs) : Calls Tryd.prog 56 #[.slice A bs.length c] w (GotC (getC bs) w) := by
  have hb0 : Below w.heap.size w (w.alloc (.cells #[.slice none 0 0, .slice none 0 0] 50)) := (Below.refl _ _).alloc (Nat.le_refl _) _
  have k0 : Blk (w.alloc (.cells #[.slice none 0 0, .slice none 0 0] 50)) w.heap.size #[.slice none 0 0, .slice none 0 0] 50 := Blk.new _ _ _ _ rfl
  have HK0 := Lib.hid k0
  have HB0 := Lib.hid hb0
  have HNW := Lib.hid (rnew_any A c bs _ (Kd.C_alloc hr (.cells #[.slice none 0 0, .slice none 0 0] 50)) hl hB)
  have hs3 : (textS bs 0).1.size ≤ 65536 := textS_size _ _
  have HC3 : Hid (∀ g W, RefAt W g bs 0 → Calls Tryd.prog 93 #[.pointer (some ⟨g, 0, none⟩)] W fun e w' => e = .returned (.string (textS bs 0).1) ∧ RefAt w' g (textS bs 0).2.1 (textS bs 0).2.2 ∧ W.grownBy w' (some g)) := Lib.hid (fun g W h => rtext_any g _ _ W h)
  have HC4 : Hid (∀ W, Calls Tryd.prog 92 #[.slice (some ⟨W.heap.size, 0, none⟩) (textS bs 0).1.size (grownCap W (textS bs 0).1.size 0 5)] (Lib.bytesWorld W 5 (textS bs 0).1) (LabsBelow (readL (bytesOf (textS bs 0).1)).1 (readL (bytesOf (textS bs 0).1)).2 (Lib.bytesWorld W 5 (textS bs 0).1))) := Lib.hid (fun W => by
    have h := rread_any (some ⟨W.heap.size, 0, none⟩) (grownCap W (textS bs 0).1.size 0 5) (bytesOf (textS bs 0).1) (Lib.bytesWorld W 5 (textS bs 0).1) (str_C W _ hs3) (by rw [bytesOf_length]; omega) (byt_bytesOf _)
    rw [bytesOf_length] at h
    exact h)
  have HC5 : Hid (∀ g W, RefAt W g (textS bs 0).2.1 (textS bs 0).2.2 → Calls Tryd.prog 91 #[.pointer (some ⟨g, 0, none⟩)] W fun e w' => e = .returned (.int .i64 (numS (textS bs 0).2.1 (textS bs 0).2.2).1) ∧ RefAt w' g (numS (textS bs 0).2.1 (textS bs 0).2.2).2.1 (numS (textS bs 0).2.1 (textS bs 0).2.2).2.2 ∧ W.grownBy w' (some g)) := Lib.hid (fun g W h => rnum_any g _ _ W h)
  have KB3 := fun W => print_bytes (P := Tryd.prog) 9 23 5 Tryd.underlying9 Tryd.underlying23 Tryd.underlying5 (textS bs 0).1 W
  have hnv := numS_val (textS bs 0).2.1 (textS bs 0).2.2
  have hne := numS_err (textS bs 0).2.1 (textS bs 0).2.2
  have hre := readL_err (bytesOf (textS bs 0).1)
  have HSZ := Lib.hid (readL_sz (bytesOf (textS bs 0).1))
  have HGC : Hid (getC bs = if 1000 < (numS (textS bs 0).2.1 (textS bs 0).2.2).1 then (([], [], 21) : List S112 × List S71 × Int) else match rowsG true z71 (numS (textS bs 0).2.1 (textS bs 0).2.2).2.1 (numS (textS bs 0).2.1 (textS bs 0).2.2).2.2 (numS (textS bs 0).2.1 (textS bs 0).2.2).1.toNat with
    | none => ([], [], 21)
    | some (rows, b, e) => if doneG b e ≠ 0 ∨ rightC (readL (bytesOf (textS bs 0).1)).1 rows = false then ([], [], 21) else ((readL (bytesOf (textS bs 0).1)).1, rows, 0)) := Lib.hid rfl
  have hln : (readL (bytesOf (textS bs 0).1)).1.length ≤ 17 := readL_len _
  generalize getC bs = GC at *
  generalize readL (bytesOf (textS bs 0).1) = RL at *
  generalize numS (textS bs 0).2.1 (textS bs 0).2.2 = NN at *
  generalize textS bs 0 = TT at *
  obtain ⟨s3, b3, e3⟩ := TT
  obtain ⟨ls, e4⟩ := RL
  obtain ⟨n, b5, e5⟩ := NN
  simp only at HC3 HC4 HC5 KB3 HGC hs3 hnv hln hne hre HSZ
  obtain ⟨hn0, hn1⟩ := hnv
  clear hr hl hB hb0 k0
  by_cases h4 : e4 = 0
  case neg =>
    have h4b : (e4 != 0) = true := by simp [h4]
    have hls := hre h4
    have HF : Hid (GC = ([], [], 21)) := Lib.hid (by
      rw [HGC.out]
      split
      · rfl
      · split
        · rfl
        · rename_i rows b e _
          rw [if_pos (.inr (rightC_lab (by rw [hls]; rfl)))])
    clear HGC h4 hls hre
    go_enter Tryd.func56, Tryd.ntmps56
    go_wp2_with (first
      | (go_at_call 90; (with_reducible refine (HNW.out).mono ?_); rintro e w2 ⟨g, rfl, hg, hd, hb⟩; have HD2 := Lib.hid hd; have HG : Hid (w.heap.size < g) := Lib.hid (by have h1 : (w.alloc (.cells #[.slice none 0 0, .slice none 0 0] 50)).heap.size = w.heap.size + 1 := (by simp); omega); have HB2 := Lib.hid (below_step HB0.out hb); have HK2 := Lib.hid (Blk.below HK0.out hb HK0.out.lt); clear hd hb hg)
      | (go_at_call 93; (with_reducible refine (HC3.out _ _ HD2.out).mono ?_); rintro e w3 ⟨rfl, hd, hgr⟩; have HD3 := Lib.hid hd; have HB3 := Lib.hid (HB2.out.grown hgr HB2.out.size (fun k e => by injection e with e; have := HG.out; omega)); have HK3 := Lib.hid (Blk.grown HK2.out hgr (fun e => by injection e with e; have := HG.out; omega)); clear hd hgr)
      | (go_at_call 92; (with_reducible refine (HC4.out _).mono ?_); rintro e w6 ⟨v, rfl, ho, hb⟩; obtain ⟨al, cl, hv⟩ := Kd.R_slice ho; subst hv; have hb6 := below_then (bytes_below (Below.refl _ w3) (Nat.le_refl _) 5 s3) (bytes_below (Below.refl _ w3) (Nat.le_refl _) 5 s3).size hb; have HO6 := Lib.hid (own_le (B' := g + 1) (labs_own ho) (Nat.le_trans HD3.out.lt (bytes_below (Below.refl _ w3) (Nat.le_refl _) 5 s3).size)); have HK6 := Lib.hid (Blk.below HK3.out hb6 HK3.out.lt); have HD6 := Lib.hid (HD3.out.below hb6); have HB6 := Lib.hid (below_step HB3.out hb6); have HC6 : Hid (Blk (w6.alloc (.cells #[.slice al ls.length cl, .slice none 0 0] 50)) w6.heap.size #[.slice al ls.length cl, .slice none 0 0] 50) := Lib.hid (Blk.new _ _ _ _ rfl); have HGC6 : Hid (g < w6.heap.size) := Lib.hid HD6.out.lt; clear ho hb hb6)
      | (go_at_call 91; (with_reducible refine (HC5.out _ _ (HD6.out.below ((Below.refl _ _).alloc (Nat.le_refl _) _))).mono ?_); rintro e w7 ⟨rfl, hd, hgr⟩; have HD7 := Lib.hid hd; have HC7 := Lib.hid (Blk.grown HC6.out hgr (fun e => by injection e with e; have := HGC6.out; omega)); have HK7 := Lib.hid (Blk.grown (HK6.out.alloc (.cells #[.slice al ls.length cl, .slice none 0 0] 50)) hgr (fun e => by injection e with e; have := HG.out; omega)); have HO7 := Lib.hid (own_kept (own_below HO6.out ((Below.refl _ _).alloc (Nat.le_refl _) (.cells #[.slice al ls.length cl, .slice none 0 0] 50))) hgr (.inl (fun e => by have := own_ge HO6.out e; omega))); have HB7 := Lib.hid ((HB6.out.alloc HB6.out.size (.cells #[.slice al ls.length cl, .slice none 0 0] 50)).grown hgr (HB6.out.alloc HB6.out.size (.cells #[.slice al ls.length cl, .slice none 0 0] 50)).size (fun k e => by injection e with e; have := HG.out; omega)); have g0 := HK7.out.frozen 0; have g1 := HK7.out.frozen 1; have y0 := HK7.out.cell 0 _ rfl; have y1 := HK7.out.cell 1 _ rfl; clear hd hgr))
    have q : Blk ((w7.setCell ⟨w.heap.size, 0, none⟩ (.slice none 0 0)).setCell ⟨w.heap.size, 1, none⟩ (.slice none 0 0)) w.heap.size #[.slice none 0 0, .slice none 0 0] 50 := by
      have := (HK7.out.set 0 (.slice none 0 0)).set 1 (.slice none 0 0)
      simpa using this
    refine bodyPost_ret (results_ct (P := Tryd.prog) rfl _ _ w.heap.size 50 #[.slice none 0 0, .slice none 0 0] (0, 0) _ rfl q.out Tryd.underlying50 rfl (by kernel_rfl)) rfl ?_
    rw [HF.out]
    exact ⟨none, 0, none, 0, rfl, Nat.le_refl _, Nat.le_refl _, Kd.C_nil _ _, cells71 (Kd.C_nil _ _), (HB7.out.setCell (p := ⟨w.heap.size, 0, none⟩) (Nat.le_refl _) _).setCell (p := ⟨w.heap.size, 1, none⟩) (Nat.le_refl _) _⟩
  subst h4
  by_cases hbig : 1000 < n
  · have d1 : decide (1000 < n) = true := decide_eq_true hbig
    have HF : Hid (GC = ([], [], 21)) := Lib.hid (by rw [HGC.out, if_pos hbig])
    clear HGC hre
    go_enter Tryd.func56, Tryd.ntmps56
    go_wp2_with (first
      | (go_at_call 90; (with_reducible refine (HNW.out).mono ?_); rintro e w2 ⟨g, rfl, hg, hd, hb⟩; have HD2 := Lib.hid hd; have HG : Hid (w.heap.size < g) := Lib.hid (by have h1 : (w.alloc (.cells #[.slice none 0 0, .slice none 0 0] 50)).heap.size = w.heap.size + 1 := (by simp); omega); have HB2 := Lib.hid (below_step HB0.out hb); have HK2 := Lib.hid (Blk.below HK0.out hb HK0.out.lt); clear hd hb hg)
      | (go_at_call 93; (with_reducible refine (HC3.out _ _ HD2.out).mono ?_); rintro e w3 ⟨rfl, hd, hgr⟩; have HD3 := Lib.hid hd; have HB3 := Lib.hid (HB2.out.grown hgr HB2.out.size (fun k e => by injection e with e; have := HG.out; omega)); have HK3 := Lib.hid (Blk.grown HK2.out hgr (fun e => by injection e with e; have := HG.out; omega)); clear hd hgr)
      | (go_at_call 92; (with_reducible refine (HC4.out _).mono ?_); rintro e w6 ⟨v, rfl, ho, hb⟩; obtain ⟨al, cl, hv⟩ := Kd.R_slice ho; subst hv; have hb6 := below_then (bytes_below (Below.refl _ w3) (Nat.le_refl _) 5 s3) (bytes_below (Below.refl _ w3) (Nat.le_refl _) 5 s3).size hb; have HO6 := Lib.hid (own_le (B' := g + 1) (labs_own ho) (Nat.le_trans HD3.out.lt (bytes_below (Below.refl _ w3) (Nat.le_refl _) 5 s3).size)); have HK6 := Lib.hid (Blk.below HK3.out hb6 HK3.out.lt); have HD6 := Lib.hid (HD3.out.below hb6); have HB6 := Lib.hid (below_step HB3.out hb6); have HC6 : Hid (Blk (w6.alloc (.cells #[.slice al ls.length cl, .slice none 0 0] 50)) w6.heap.size #[.slice al ls.length cl, .slice none 0 0] 50) := Lib.hid (Blk.new _ _ _ _ rfl); have HGC6 : Hid (g < w6.heap.size) := Lib.hid HD6.out.lt; clear ho hb hb6)
      | (go_at_call 91; (with_reducible refine (HC5.out _ _ (HD6.out.below ((Below.refl _ _).alloc (Nat.le_refl _) _))).mono ?_); rintro e w7 ⟨rfl, hd, hgr⟩; have HD7 := Lib.hid hd; have HC7 := Lib.hid (Blk.grown HC6.out hgr (fun e => by injection e with e; have := HGC6.out; omega)); have HK7 := Lib.hid (Blk.grown (HK6.out.alloc (.cells #[.slice al ls.length cl, .slice none 0 0] 50)) hgr (fun e => by injection e with e; have := HG.out; omega)); have HO7 := Lib.hid (own_kept (own_below HO6.out ((Below.refl _ _).alloc (Nat.le_refl _) (.cells #[.slice al ls.length cl, .slice none 0 0] 50))) hgr (.inl (fun e => by have := own_ge HO6.out e; omega))); have HB7 := Lib.hid ((HB6.out.alloc HB6.out.size (.cells #[.slice al ls.length cl, .slice none 0 0] 50)).grown hgr (HB6.out.alloc HB6.out.size (.cells #[.slice al ls.length cl, .slice none 0 0] 50)).size (fun k e => by injection e with e; have := HG.out; omega)); have g0 := HK7.out.frozen 0; have g1 := HK7.out.frozen 1; have y0 := HK7.out.cell 0 _ rfl; have y1 := HK7.out.cell 1 _ rfl; clear hd hgr))
    have q : Blk ((w7.setCell ⟨w.heap.size, 0, none⟩ (.slice none 0 0)).setCell ⟨w.heap.size, 1, none⟩ (.slice none 0 0)) w.heap.size #[.slice none 0 0, .slice none 0 0] 50 := by
      have := (HK7.out.set 0 (.slice none 0 0)).set 1 (.slice none 0 0)
      simpa using this
    refine bodyPost_ret (results_ct (P := Tryd.prog) rfl _ _ w.heap.size 50 #[.slice none 0 0, .slice none 0 0] (0, 0) _ rfl q.out Tryd.underlying50 rfl (by kernel_rfl)) rfl ?_
    rw [HF.out]
    exact ⟨none, 0, none, 0, rfl, Nat.le_refl _, Nat.le_refl _, Kd.C_nil _ _, cells71 (Kd.C_nil _ _), (HB7.out.setCell (p := ⟨w.heap.size, 0, none⟩) (Nat.le_refl _) _).setCell (p := ⟨w.heap.size, 1, none⟩) (Nat.le_refl _) _⟩
  have d1 : decide (1000 < n) = false := decide_eq_false hbig
  rw [if_neg hbig] at HGC
  obtain ⟨m, rfl⟩ : ∃ m : Nat, n = (m : Int) := ⟨n.toNat, by omega⟩
  rw [Int.toNat_natCast] at HGC
  have hm1 : m ≤ 1000 := by omega
  have HNE : Hid (e5 ≠ 0 → m = 0) := Lib.hid (fun h => by have := hne h; omega)
  clear hre hne
  go_enter Tryd.func56, Tryd.ntmps56
  go_wp2_with (first
    | (go_at_call 90; (with_reducible refine (HNW.out).mono ?_); rintro e w2 ⟨g, rfl, hg, hd, hb⟩; have HD2 := Lib.hid hd; have HG : Hid (w.heap.size < g) := Lib.hid (by have h1 : (w.alloc (.cells #[.slice none 0 0, .slice none 0 0] 50)).heap.size = w.heap.size + 1 := (by simp); omega); have HB2 := Lib.hid (below_step HB0.out hb); have HK2 := Lib.hid (Blk.below HK0.out hb HK0.out.lt); clear hd hb hg)
    | (go_at_call 93; (with_reducible refine (HC3.out _ _ HD2.out).mono ?_); rintro e w3 ⟨rfl, hd, hgr⟩; have HD3 := Lib.hid hd; have HB3 := Lib.hid (HB2.out.grown hgr HB2.out.size (fun k e => by injection e with e; have := HG.out; omega)); have HK3 := Lib.hid (Blk.grown HK2.out hgr (fun e => by injection e with e; have := HG.out; omega)); clear hd hgr)
    | (go_at_call 92; (with_reducible refine (HC4.out _).mono ?_); rintro e w6 ⟨v, rfl, ho, hb⟩; obtain ⟨al, cl, hv⟩ := Kd.R_slice ho; subst hv; have hb6 := below_then (bytes_below (Below.refl _ w3) (Nat.le_refl _) 5 s3) (bytes_below (Below.refl _ w3) (Nat.le_refl _) 5 s3).size hb; have HO6 := Lib.hid (own_le (B' := g + 1) (labs_own ho) (Nat.le_trans HD3.out.lt (bytes_below (Below.refl _ w3) (Nat.le_refl _) 5 s3).size)); have HK6 := Lib.hid (Blk.below HK3.out hb6 HK3.out.lt); have HD6 := Lib.hid (HD3.out.below hb6); have HB6 := Lib.hid (below_step HB3.out hb6); have HC6 : Hid (Blk (w6.alloc (.cells #[.slice al ls.length cl, .slice none 0 0] 50)) w6.heap.size #[.slice al ls.length cl, .slice none 0 0] 50) := Lib.hid (Blk.new _ _ _ _ rfl); have HGC6 : Hid (g < w6.heap.size) := Lib.hid HD6.out.lt; clear ho hb hb6)
    | (go_at_call 91; (with_reducible refine (HC5.out _ _ (HD6.out.below ((Below.refl _ _).alloc (Nat.le_refl _) _))).mono ?_); rintro e w7 ⟨rfl, hd, hgr⟩; have HD7 := Lib.hid hd; have HC7 := Lib.hid (Blk.grown HC6.out hgr (fun e => by injection e with e; have := HGC6.out; omega)); have HK7 := Lib.hid (Blk.grown (HK6.out.alloc (.cells #[.slice al ls.length cl, .slice none 0 0] 50)) hgr (fun e => by injection e with e; have := HG.out; omega)); have HO7 := Lib.hid (own_kept (own_below HO6.out ((Below.refl _ _).alloc (Nat.le_refl _) (.cells #[.slice al ls.length cl, .slice none 0 0] 50))) hgr (.inl (fun e => by have := own_ge HO6.out e; omega))); have HB7 := Lib.hid ((HB6.out.alloc HB6.out.size (.cells #[.slice al ls.length cl, .slice none 0 0] 50)).grown hgr (HB6.out.alloc HB6.out.size (.cells #[.slice al ls.length cl, .slice none 0 0] 50)).size (fun k e => by injection e with e; have := HG.out; omega)); skip; clear hd hgr))
  have HG0 := Lib.hid (show GR w g w6.heap.size w7.heap.size al cl ls (.slice none 0 0) [] z71 b5 e5 (w7.alloc (.cells (rowC z71) 93)) from
    ⟨HK7.out.alloc _, HD7.out.below ((Below.refl _ _).alloc (Nat.le_refl _) _), HC7.out.alloc _, Blk.new _ _ _ _ rfl, own_below HO7.out ((Below.refl _ _).alloc (Nat.le_refl _) _), World.ownsRow_nil _ _ _ _, HB7.out.alloc HB7.out.size _, HG.out, HGC6.out, HC7.out.lt⟩)
  obtain ⟨C, hCC⟩ : ∃ C, C = w6.heap.size := ⟨_, rfl⟩
  obtain ⟨R, hRR⟩ : ∃ R, R = w7.heap.size := ⟨_, rfl⟩
  rw [← hCC, ← hRR] at HG0
  rw [← hCC, ← hRR]
  clear hCC hRR HK0 HB0 HNW HC3 HC4 HC5 KB3 HD2 HG HB2 HK2 HD3 HB3 HK3 HO6 HC6 HK6 HD6 HB6 HD7 HC7 HK7 HO7 d1 hbig hs3 HGC6
  go_loopw [10] (fun v10 wr => ∃ k : Nat, v10 = .int .i64 (k : Int) ∧ k ≤ m ∧ Hid (GRel2 w g C R al cl ls b5 e5 m k wr)) (fun v10 _ => m - (intOf v10).toNat)
  case atStart => exact ⟨0, rfl, Nat.zero_le _, [], z71, b5, e5, .slice none 0 0, HG0.out, rfl, .inl ⟨by simp [Option.map_id'], fun h => Classical.byContradiction (fun h' => by have := HNE.out h'; omega)⟩⟩
  case round =>
    clear HG0
    obtain ⟨k, rfl, hk, HI⟩ := hrel
    obtain ⟨l, p, b, er, v, hG, hlen, hst⟩ := HI.out
    have hll : l.length ≤ 1000 := by omega
    have HLEN := Lib.hid hlen
    clear hlen
    have z2 := refat_cell2 hG.dec
    have HGS := Lib.hid hG
    by_cases hlt : k < m
    · have hlti : (k : Int) < (m : Int) := by omega
      by_cases her : er = 0
      · subst her
        have hrows := (hst.resolve_right (fun h => h.1 rfl)).1
        obtain ⟨A2, c2, rfl, hc2⟩ := own_slice hG.rows
        have HNX := Lib.hid (fun x b' e' hx => rel2_next hlt hrows x b' e' hx)
        have HX : Hid (rowG (k == 0) p b 0 = (⟨if (k == 0) = true then (numS (numS b 0).2.1 (numS b 0).2.2).1 else wrap64 (p.f0 + dzig (numS (numS b 0).2.1 (numS b 0).2.2).1), wrap64 (p.f1 + (numS b 0).1), (textS (numS (numS b 0).2.1 (numS b 0).2.2).2.1 (numS (numS b 0).2.1 (numS b 0).2.2).2.2).1⟩, (textS (numS (numS b 0).2.1 (numS b 0).2.2).2.1 (numS (numS b 0).2.1 (numS b 0).2.2).2.2).2.1, (textS (numS (numS b 0).2.1 (numS b 0).2.2).2.1 (numS (numS b 0).2.1 (numS b 0).2.2).2.2).2.2)) := Lib.hid rfl
        have HN1 : Hid (∀ W, RefAt W g b 0 → Calls Tryd.prog 91 #[.pointer (some ⟨g, 0, none⟩)] W fun e w' => e = .returned (.int .i64 (numS b 0).1) ∧ RefAt w' g (numS b 0).2.1 (numS b 0).2.2 ∧ W.grownBy w' (some g)) := Lib.hid (fun W h => rnum_any g b 0 W h)
        have HN2 : Hid (∀ W, RefAt W g (numS b 0).2.1 (numS b 0).2.2 → Calls Tryd.prog 91 #[.pointer (some ⟨g, 0, none⟩)] W fun e w' => e = .returned (.int .i64 (numS (numS b 0).2.1 (numS b 0).2.2).1) ∧ RefAt w' g (numS (numS b 0).2.1 (numS b 0).2.2).2.1 (numS (numS b 0).2.1 (numS b 0).2.2).2.2 ∧ W.grownBy w' (some g)) := Lib.hid (fun W h => rnum_any g _ _ W h)
        have HN3 : Hid (∀ W, RefAt W g (numS b 0).2.1 (numS b 0).2.2 → Calls Tryd.prog 117 #[.pointer (some ⟨g, 0, none⟩)] W fun e w' => e = .returned (.int .i64 (dzig (numS (numS b 0).2.1 (numS b 0).2.2).1)) ∧ RefAt w' g (numS (numS b 0).2.1 (numS b 0).2.2).2.1 (numS (numS b 0).2.1 (numS b 0).2.2).2.2 ∧ W.grownBy w' (some g)) := Lib.hid (fun W h => rsig_any g _ _ W h)
        clear hst hrows
        generalize numS b 0 = a at *
        obtain ⟨n1, b1, e1⟩ := a
        dsimp only at HX HN1 HN2 HN3
        generalize numS b1 e1 = a at *
        obtain ⟨n2, b2, e2⟩ := a
        dsimp only at HX HN2 HN3
        have HN4 : Hid (∀ W, RefAt W g b2 e2 → Calls Tryd.prog 93 #[.pointer (some ⟨g, 0, none⟩)] W fun e w' => e = .returned (.string (textS b2 e2).1) ∧ RefAt w' g (textS b2 e2).2.1 (textS b2 e2).2.2 ∧ W.grownBy w' (some g)) := Lib.hid (fun W h => rtext_any g b2 e2 W h)
        generalize textS b2 e2 = a at *
        obtain ⟨tx, b3', e3'⟩ := a
        dsimp only at HX HN4
        have x1 : wr.cell? ⟨R, 1, none⟩ = some (.int .i64 p.f1) := hG.row.cell 1 _ rfl
        have x0 : wr.cell? ⟨R, 0, none⟩ = some (.int .i64 p.f0) := hG.row.cell 0 _ rfl
        clear hG HI
        obtain ⟨i0, hi0, hz0, hz1, hz2⟩ := info_parts info93'
        rcases Nat.eq_zero_or_pos k with hk0 | hk0
        · subst hk0
          have hx2 : rowG (0 == 0) p b 0 = (⟨n2, wrap64 (p.f1 + n1), tx⟩, b3', e3') := HX.out
          have HNY := Lib.hid (HNX.out _ _ _ hx2)
          clear HX hx2 HN3 HNX hk
          obtain ⟨T, hT⟩ : ∃ T, T = wrap64 (p.f1 + n1) := ⟨_, rfl⟩
          rw [← hT] at HNY
          have hT1 : IntKind.i64.wrap (p.f1 + n1) = T := by rw [hT, IntKind.wrap_i64]; unfold wrap64; omega
          have hT2 : wrap64 (p.f1 + n1) = T := hT.symm
          clear hT
          have HGD := Lib.hid (HGS.out.below (Below.refl _ _).drew)
          have HBX : Hid (GQ w g C R wr.heap.size al cl ls (.slice A2 l.length c2) l p z71 b 0 (wr.alloc (.cells #[.int .i64 0, .int .i64 0, .string ⟨#[]⟩] 93)).drew) := Lib.hid ((HGS.out.box z71).below (Below.refl _ _).drew)
          have x1a : (wr.alloc (.cells #[.int .i64 0, .int .i64 0, .string ⟨#[]⟩] 93)).cell? ⟨R, 1, none⟩ = some (.int .i64 p.f1) := (HGS.out.box z71).gr.row.cell 1 _ rfl
          go_wp2_with fail
          go_region_with (go_at_call 91; (with_reducible refine (HN1.out _ (by first | exact HGD.out.dec | exact HBX.out.gr.dec)).mono ?_); rintro e w2 ⟨rfl, hd, hgr⟩; (first | (have HG1 := Lib.hid (GR.step HGD.out hd hgr); have y1 : w2.cell? ⟨R, 1, none⟩ = some (.int .i64 p.f1) := HG1.out.row.cell 1 _ rfl; have y1a : (w2.alloc (.cells #[.int .i64 0, .int .i64 0, .string ⟨#[]⟩] 93)).cell? ⟨R, 1, none⟩ = some (.int .i64 p.f1) := (HG1.out.box z71).gr.row.cell 1 _ rfl) | (have HQ1 := Lib.hid (GQ.step HBX.out hd hgr); have y1 : w2.cell? ⟨R, 1, none⟩ = some (.int .i64 p.f1) := HQ1.out.gr.row.cell 1 _ rfl; have b0 : w2.cell? ⟨wr.heap.size, 0, none⟩ = some (.int .i64 0) := HQ1.out.box.cell 0 _ rfl; have b1' : w2.cell? ⟨wr.heap.size, 1, none⟩ = some (.int .i64 0) := HQ1.out.box.cell 1 _ rfl; have b2' : w2.cell? ⟨wr.heap.size, 2, none⟩ = some (.string ⟨#[]⟩) := HQ1.out.box.cell 2 _ rfl; have f0 := HQ1.out.box.frozen 0; have f1 := HQ1.out.box.frozen 1; have f2 := HQ1.out.box.frozen 2)); clear hd hgr)
          all_goals first
            | (have HQ2 : Hid (GQ w g C R w2.heap.size al cl ls (.slice A2 l.length c2) l p ⟨0, T, ⟨#[]⟩⟩ b1 e1 (w2.alloc (.cells #[.int .i64 0, .int .i64 T, .string ⟨#[]⟩] 93))) := Lib.hid (HG1.out.box ⟨0, T, ⟨#[]⟩⟩)
               clear HG1 y1 y1a
               generalize w2.alloc (.cells #[.int .i64 0, .int .i64 T, .string ⟨#[]⟩] 93) = W3 at *
               generalize w2.heap.size = Q at *)
            | (have HQ2 : Hid (GQ w g C R wr.heap.size al cl ls (.slice A2 l.length c2) l p ⟨0, T, ⟨#[]⟩⟩ b1 e1 (((w2.setCell ⟨wr.heap.size, 0, none⟩ (.int .i64 0)).setCell ⟨wr.heap.size, 1, none⟩ (.int .i64 T)).setCell ⟨wr.heap.size, 2, none⟩ (.string ⟨#[]⟩))) := Lib.hid (((HQ1.out.set 0 (.int .i64 0) (x' := ⟨0, 0, ⟨#[]⟩⟩) rfl).set 1 (.int .i64 T) (x' := ⟨0, T, ⟨#[]⟩⟩) rfl).set 2 (.string ⟨#[]⟩) (x' := ⟨0, T, ⟨#[]⟩⟩) rfl)
               clear HQ1 y1 b0 b1' b2' f0 f1 f2 HBX x1a
               generalize (((w2.setCell ⟨wr.heap.size, 0, none⟩ (.int .i64 0)).setCell ⟨wr.heap.size, 1, none⟩ (.int .i64 T)).setCell ⟨wr.heap.size, 2, none⟩ (.string ⟨#[]⟩)) = W3 at *
               generalize wr.heap.size = Q at *)
          all_goals have c0 := HQ2.out.box.cell 0 _ rfl
          all_goals
            go_wp2_with (first
              | (go_at_call 91; (with_reducible refine (HN2.out _ HQ2.out.gr.dec).mono ?_); rintro e w4 ⟨rfl, hd, hgr⟩; have HQ3 := Lib.hid (GQ.step HQ2.out hd hgr); have y3 := HQ3.out.box.cell 0 _ rfl; have f3 := HQ3.out.box.frozen 0; have HQ4 : Hid (GQ w g C R Q al cl ls (.slice A2 l.length c2) l p ⟨n2, T, ⟨#[]⟩⟩ b2 e2 (w4.setCell ⟨Q, 0, none⟩ (.int .i64 n2))) := Lib.hid (HQ3.out.set 0 (.int .i64 n2) (x' := ⟨n2, T, ⟨#[]⟩⟩) rfl); clear hd hgr)
              | (go_at_call 93; (with_reducible refine (HN4.out _ HQ4.out.gr.dec).mono ?_); rintro e w5 ⟨rfl, hd, hgr⟩; have HQ5 := Lib.hid (GQ.step HQ4.out hd hgr); have y5 := HQ5.out.box.cell 2 _ rfl; have f5 := HQ5.out.box.frozen 2; have HQ6 : Hid (GQ w g C R Q al cl ls (.slice A2 l.length c2) l p ⟨n2, T, tx⟩ b3' e3' (w5.setCell ⟨Q, 2, none⟩ (.string tx))) := Lib.hid (HQ5.out.set 2 (.string tx) (x' := ⟨n2, T, tx⟩) rfl); have r0 := HQ6.out.box.cell 0 _ rfl; have r1 := HQ6.out.box.cell 1 _ rfl; have r2 := HQ6.out.box.cell 2 _ rfl; have s1 := HQ6.out.gr.ch.cell 1 _ rfl; clear hd hgr)
              | ((with_reducible refine gate_builtin (b := .append) (xs := #[.tmp 66, .tmp 68]) rfl ?_); at_builtin; refine wpList_append_own _ rfl _ _ 48 rfl (R + 1) 93 i0 _ 3 32 Tryd.underlying48 hi0 hz0 hz1 hz2 rfl (by decide) _ l.length (rcells l) rfl (own_below HQ6.out.gr.rows ((Below.refl _ _).alloc (Nat.le_refl _) (.cells (rowC ⟨n2, T, tx⟩) 93))) ⟨w5.heap.size, 0, none⟩ 1 1 [.int .i64 n2, .int .i64 T, .string tx] rfl rfl (row_news93 _ w5.heap.size (by simp [World.setCell]) ⟨n2, T, tx⟩) (row_one ⟨n2, T, tx⟩) (by unfold maxLen; omega) (by omega) (by have := HQ6.out.gr.row.lt; simp only [World.size_alloc]; omega) ?_; intro v' w8 hown hgrow _; have HOW := Lib.hid hown; have HGR : Hid (((w5.setCell ⟨Q, 2, none⟩ (.string tx)).alloc (.cells (rowC ⟨n2, T, tx⟩) 93)).grownBy w8 (Value.slice A2 l.length c2).ownBlock) := hgrow; have HP := HQ6.out.push ((Below.refl _ _).alloc (Nat.le_refl _) (.cells (rowC ⟨n2, T, tx⟩) 93)) HGR.out HOW.out; have hch := Blk.grown (HQ6.out.gr.ch.alloc (.cells (rowC ⟨n2, T, tx⟩) 93)) HGR.out (fun e => by have h1 := own_ge HQ6.out.gr.rows e; have h2 := HQ6.out.gr.o3; omega); obtain ⟨A3, q3, rfl, hq3⟩ := own_slice hown; have HPH := Lib.hid HP; have t1 := hch.cell 1 _ rfl; have tf := hch.frozen 1; have p0 := HP.2.cell 0 _ rfl; have p1 := HP.2.cell 1 _ rfl; have p2 := HP.2.cell 2 _ rfl; have w0 := HP.1.row.cell 0 _ rfl; have w1 := HP.1.row.cell 1 _ rfl; have w2 := HP.1.row.cell 2 _ rfl; have g0 := HP.1.row.frozen 0; have g1 := HP.1.row.frozen 1; have g2 := HP.1.row.frozen 2; clear hown hgrow hch HP))
          all_goals
            go_roundw
            case rel =>
              refine ⟨0 + 1, by go_num, by omega, Lib.hid ⟨l ++ [⟨n2, T, tx⟩], ⟨n2, T, tx⟩, b3', e3', .slice A3 (l.length + 1) q3, HPH.out.1.was ⟨n2, T, tx⟩, by rw [List.length_append, HLEN.out]; rfl, HNY.out⟩⟩
            case measure => simp [intOf]; omega

        · have hx2 : rowG (k == 0) p b 0 = (⟨wrap64 (p.f0 + dzig n2), wrap64 (p.f1 + n1), tx⟩, b3', e3') := by rw [HX.out, if_neg (by simp; omega)]
          have HNY := Lib.hid (HNX.out _ _ _ hx2)
          have hk1 : decide ((k : Int) = 0) = false := decide_eq_false (by omega)
          have hk2 : ((k : Int) == 0) = false := by simp; omega
          have HK0 := Lib.hid hk0
          clear hk0 HX hx2 HN2 HNX
          obtain ⟨T, hT⟩ : ∃ T, T = wrap64 (p.f1 + n1) := ⟨_, rfl⟩
          rw [← hT] at HNY
          have hT1 : IntKind.i64.wrap (p.f1 + n1) = T := by rw [hT, IntKind.wrap_i64]; unfold wrap64; omega
          have hT2 : wrap64 (p.f1 + n1) = T := hT.symm
          clear hT
          obtain ⟨X, hX⟩ : ∃ X, X = wrap64 (p.f0 + dzig n2) := ⟨_, rfl⟩
          rw [← hX] at HNY
          have hX1 : IntKind.i64.wrap (p.f0 + dzig n2) = X := by rw [hX, IntKind.wrap_i64]; unfold wrap64; omega
          have hX2 : wrap64 (p.f0 + dzig n2) = X := hX.symm
          clear hX
          have HGD := Lib.hid (HGS.out.below (Below.refl _ _).drew)
          have HBX : Hid (GQ w g C R wr.heap.size al cl ls (.slice A2 l.length c2) l p z71 b 0 (wr.alloc (.cells #[.int .i64 0, .int .i64 0, .string ⟨#[]⟩] 93)).drew) := Lib.hid ((HGS.out.box z71).below (Below.refl _ _).drew)
          have x1a : (wr.alloc (.cells #[.int .i64 0, .int .i64 0, .string ⟨#[]⟩] 93)).cell? ⟨R, 1, none⟩ = some (.int .i64 p.f1) := (HGS.out.box z71).gr.row.cell 1 _ rfl
          go_wp2_with fail
          go_region_with (go_at_call 91; (with_reducible refine (HN1.out _ (by first | exact HGD.out.dec | exact HBX.out.gr.dec)).mono ?_); rintro e w2 ⟨rfl, hd, hgr⟩; (first | (have HG1 := Lib.hid (GR.step HGD.out hd hgr); have y1 : w2.cell? ⟨R, 1, none⟩ = some (.int .i64 p.f1) := HG1.out.row.cell 1 _ rfl; have y1a : (w2.alloc (.cells #[.int .i64 0, .int .i64 0, .string ⟨#[]⟩] 93)).cell? ⟨R, 1, none⟩ = some (.int .i64 p.f1) := (HG1.out.box z71).gr.row.cell 1 _ rfl) | (have HQ1 := Lib.hid (GQ.step HBX.out hd hgr); have y1 : w2.cell? ⟨R, 1, none⟩ = some (.int .i64 p.f1) := HQ1.out.gr.row.cell 1 _ rfl; have b0 : w2.cell? ⟨wr.heap.size, 0, none⟩ = some (.int .i64 0) := HQ1.out.box.cell 0 _ rfl; have b1' : w2.cell? ⟨wr.heap.size, 1, none⟩ = some (.int .i64 0) := HQ1.out.box.cell 1 _ rfl; have b2' : w2.cell? ⟨wr.heap.size, 2, none⟩ = some (.string ⟨#[]⟩) := HQ1.out.box.cell 2 _ rfl; have f0 := HQ1.out.box.frozen 0; have f1 := HQ1.out.box.frozen 1; have f2 := HQ1.out.box.frozen 2)); clear hd hgr)
          all_goals first
            | (have HQ2 : Hid (GQ w g C R w2.heap.size al cl ls (.slice A2 l.length c2) l p ⟨0, T, ⟨#[]⟩⟩ b1 e1 (w2.alloc (.cells #[.int .i64 0, .int .i64 T, .string ⟨#[]⟩] 93))) := Lib.hid (HG1.out.box ⟨0, T, ⟨#[]⟩⟩)
               clear HG1 y1 y1a
               generalize w2.alloc (.cells #[.int .i64 0, .int .i64 T, .string ⟨#[]⟩] 93) = W3 at *
               generalize w2.heap.size = Q at *)
            | (have HQ2 : Hid (GQ w g C R wr.heap.size al cl ls (.slice A2 l.length c2) l p ⟨0, T, ⟨#[]⟩⟩ b1 e1 (((w2.setCell ⟨wr.heap.size, 0, none⟩ (.int .i64 0)).setCell ⟨wr.heap.size, 1, none⟩ (.int .i64 T)).setCell ⟨wr.heap.size, 2, none⟩ (.string ⟨#[]⟩))) := Lib.hid (((HQ1.out.set 0 (.int .i64 0) (x' := ⟨0, 0, ⟨#[]⟩⟩) rfl).set 1 (.int .i64 T) (x' := ⟨0, T, ⟨#[]⟩⟩) rfl).set 2 (.string ⟨#[]⟩) (x' := ⟨0, T, ⟨#[]⟩⟩) rfl)
               clear HQ1 y1 b0 b1' b2' f0 f1 f2 HBX x1a
               generalize (((w2.setCell ⟨wr.heap.size, 0, none⟩ (.int .i64 0)).setCell ⟨wr.heap.size, 1, none⟩ (.int .i64 T)).setCell ⟨wr.heap.size, 2, none⟩ (.string ⟨#[]⟩)) = W3 at *
               generalize wr.heap.size = Q at *)
          all_goals have c0 := HQ2.out.box.cell 0 _ rfl
          all_goals have v0 := HQ2.out.gr.row.cell 0 _ rfl
          all_goals go_wp2_with fail
          all_goals go_region_with (go_at_call 117; (with_reducible refine (HN3.out _ (HQ2.out.below (Below.refl _ _).drew).gr.dec).mono ?_); rintro e w4 ⟨rfl, hd, hgr⟩; have HQ3 := Lib.hid (GQ.step (HQ2.out.below (Below.refl _ _).drew) hd hgr); have y3 := HQ3.out.box.cell 0 _ rfl; have f3 := HQ3.out.box.frozen 0; have v3 := HQ3.out.gr.row.cell 0 _ rfl; have HQ4 : Hid (GQ w g C R Q al cl ls (.slice A2 l.length c2) l p ⟨X, T, ⟨#[]⟩⟩ b2 e2 (w4.setCell ⟨Q, 0, none⟩ (.int .i64 X))) := Lib.hid (HQ3.out.set 0 (.int .i64 X) (x' := ⟨X, T, ⟨#[]⟩⟩) rfl); clear hd hgr)
          all_goals
            go_wp2_with (first
              | (go_at_call 93; (with_reducible refine (HN4.out _ HQ4.out.gr.dec).mono ?_); rintro e w5 ⟨rfl, hd, hgr⟩; have HQ5 := Lib.hid (GQ.step HQ4.out hd hgr); have y5 := HQ5.out.box.cell 2 _ rfl; have f5 := HQ5.out.box.frozen 2; have HQ6 : Hid (GQ w g C R Q al cl ls (.slice A2 l.length c2) l p ⟨X, T, tx⟩ b3' e3' (w5.setCell ⟨Q, 2, none⟩ (.string tx))) := Lib.hid (HQ5.out.set 2 (.string tx) (x' := ⟨X, T, tx⟩) rfl); have r0 := HQ6.out.box.cell 0 _ rfl; have r1 := HQ6.out.box.cell 1 _ rfl; have r2 := HQ6.out.box.cell 2 _ rfl; have s1 := HQ6.out.gr.ch.cell 1 _ rfl; clear hd hgr)
              | ((with_reducible refine gate_builtin (b := .append) (xs := #[.tmp 66, .tmp 68]) rfl ?_); at_builtin; refine wpList_append_own _ rfl _ _ 48 rfl (R + 1) 93 i0 _ 3 32 Tryd.underlying48 hi0 hz0 hz1 hz2 rfl (by decide) _ l.length (rcells l) rfl (own_below HQ6.out.gr.rows ((Below.refl _ _).alloc (Nat.le_refl _) (.cells (rowC ⟨X, T, tx⟩) 93))) ⟨w5.heap.size, 0, none⟩ 1 1 [.int .i64 X, .int .i64 T, .string tx] rfl rfl (row_news93 _ w5.heap.size (by simp [World.setCell]) ⟨X, T, tx⟩) (row_one ⟨X, T, tx⟩) (by unfold maxLen; omega) (by omega) (by have := HQ6.out.gr.row.lt; simp only [World.size_alloc]; omega) ?_; intro v' w8 hown hgrow _; have HOW := Lib.hid hown; have HGR : Hid (((w5.setCell ⟨Q, 2, none⟩ (.string tx)).alloc (.cells (rowC ⟨X, T, tx⟩) 93)).grownBy w8 (Value.slice A2 l.length c2).ownBlock) := hgrow; have HP := HQ6.out.push ((Below.refl _ _).alloc (Nat.le_refl _) (.cells (rowC ⟨X, T, tx⟩) 93)) HGR.out HOW.out; have hch := Blk.grown (HQ6.out.gr.ch.alloc (.cells (rowC ⟨X, T, tx⟩) 93)) HGR.out (fun e => by have h1 := own_ge HQ6.out.gr.rows e; have h2 := HQ6.out.gr.o3; omega); obtain ⟨A3, q3, rfl, hq3⟩ := own_slice hown; have HPH := Lib.hid HP; have t1 := hch.cell 1 _ rfl; have tf := hch.frozen 1; have p0 := HP.2.cell 0 _ rfl; have p1 := HP.2.cell 1 _ rfl; have p2 := HP.2.cell 2 _ rfl; have w0 := HP.1.row.cell 0 _ rfl; have w1 := HP.1.row.cell 1 _ rfl; have w2 := HP.1.row.cell 2 _ rfl; have g0 := HP.1.row.frozen 0; have g1 := HP.1.row.frozen 1; have g2 := HP.1.row.frozen 2; clear hown hgrow hch HP))
          all_goals
            go_roundw
            case rel =>
              refine ⟨k + 1, by go_num, by omega, Lib.hid ⟨l ++ [⟨X, T, tx⟩], ⟨X, T, tx⟩, b3', e3', .slice A3 (l.length + 1) q3, HPH.out.1.was ⟨X, T, tx⟩, by rw [List.length_append, HLEN.out]; rfl, HNY.out⟩⟩
            case measure => simp [intOf]; omega

      · have hno : rowsG true z71 b5 e5 m = none := hst.elim (fun h => absurd (h.2 hlt) her) (fun h => h.2)
        have HF : Hid (GC = ([], [], 21)) := Lib.hid (by rw [HGC.out, hno])
        clear hst hno HGC hG HI
        have HN6 : Hid (∀ W, RefAt W g b er → Calls Tryd.prog 94 #[.pointer (some ⟨g, 0, none⟩)] W fun e w' => e = .returned (.int .i64 er) ∧ ∃ n, w' = W.drewN n) := Lib.hid (fun W h => by have := rdone_any g b er W h; rwa [show doneG b er = er by unfold doneG; rw [if_pos her]] at this)
        have hne2 : (er != 0) = true := by simp [her]
        have heq0 : decide (er = 0) = false := decide_eq_false her
        have heq1 : (er == 0) = false := by simp [her]
        have HER := Lib.hid her
        clear her
        go_wp2_with (go_at_call 94; (with_reducible refine (HN6.out _ HGS.out.dec).mono ?_); rintro e w8 ⟨rfl, nq, rfl⟩; have HR9 := Lib.hid (HGS.out.below (pw_below_drewN (Below.refl _ _) nq)); have g0 := HR9.out.res.frozen 0; have g1 := HR9.out.res.frozen 1; have y0 := HR9.out.res.cell 0 _ rfl; have y1 := HR9.out.res.cell 1 _ rfl)
        have q : Blk (((wr.drewN nq).setCell ⟨w.heap.size, 0, none⟩ (.slice none 0 0)).setCell ⟨w.heap.size, 1, none⟩ (.slice none 0 0)) w.heap.size #[.slice none 0 0, .slice none 0 0] 50 := by
          have := (HR9.out.res.set 0 (.slice none 0 0)).set 1 (.slice none 0 0)
          simpa using this
        refine bodyPost_ret (results_ct (P := Tryd.prog) rfl _ _ w.heap.size 50 #[.slice none 0 0, .slice none 0 0] (0, 0) _ rfl q.out Tryd.underlying50 rfl (by kernel_rfl)) rfl ?_
        rw [HF.out]
        exact ⟨none, 0, none, 0, rfl, Nat.le_refl _, Nat.le_refl _, Kd.C_nil _ _, cells71 (Kd.C_nil _ _), (HR9.out.low.setCell (p := ⟨w.heap.size, 0, none⟩) (Nat.le_refl _) _).setCell (p := ⟨w.heap.size, 1, none⟩) (Nat.le_refl _) _⟩
    · obtain rfl : k = m := by omega
      have hkl : ¬ (k : Int) < (k : Int) := by omega
      rcases hst with ⟨hrows, -⟩ | ⟨her, hno⟩
      · rw [Nat.sub_self, rowsG] at hrows
        simp only [Option.map_some, List.append_nil] at hrows
        rw [hrows] at HGC
        dsimp only at HGC
        have hwf := rowsG_wf _ _ _ _ _ _ hrows
        dsimp only at hwf
        obtain ⟨A2, c2, rfl, hc2⟩ := own_slice hG.rows
        have HDN := Lib.hid (rdone_any g b er wr hG.dec)
        have HRC := Lib.hid (fun W (h : GR w g C R al cl ls (.slice A2 l.length c2) l p b er W) => rright58_any al cl ls A2 c2 l W HSZ.out (by omega) (C_lab (by omega) (own_rowC h.labs)) (own_rowC h.rows) hwf)
        have x0 := hG.ch.cell 0 _ rfl
        have x1 := hG.ch.cell 1 _ rfl
        clear hrows hwf hG HI
        generalize doneG b er = dn at *
        by_cases hdn : dn = 0
        · subst hdn
          cases hrc : rightC ls l
          · rw [hrc] at HRC
            have HF : Hid (GC = ([], [], 21)) := Lib.hid (by rw [HGC.out, if_pos (.inr hrc)])
            clear hrc HGC
            go_wp2_with (first
              | (go_at_call 94; (with_reducible refine (HDN.out).mono ?_); rintro e w8 ⟨rfl, nq, rfl⟩; have HG8 := Lib.hid (HGS.out.below (pw_below_drewN (Below.refl _ _) nq)))
              | (go_at_call 58; (with_reducible refine (HRC.out _ HG8.out).mono ?_); rintro e w9 ⟨rfl, hb⟩; have HR9 := Lib.hid (HG8.out.below hb); have g0 := HR9.out.res.frozen 0; have g1 := HR9.out.res.frozen 1; have y0 := HR9.out.res.cell 0 _ rfl; have y1 := HR9.out.res.cell 1 _ rfl; clear hb x0 x1))
            have q : Blk ((w9.setCell ⟨w.heap.size, 0, none⟩ (.slice none 0 0)).setCell ⟨w.heap.size, 1, none⟩ (.slice none 0 0)) w.heap.size #[.slice none 0 0, .slice none 0 0] 50 := by
              have := (HR9.out.res.set 0 (.slice none 0 0)).set 1 (.slice none 0 0)
              simpa using this
            refine bodyPost_ret (results_ct (P := Tryd.prog) rfl _ _ w.heap.size 50 #[.slice none 0 0, .slice none 0 0] (0, 0) _ rfl q.out Tryd.underlying50 rfl (by kernel_rfl)) rfl ?_
            rw [HF.out]
            exact ⟨none, 0, none, 0, rfl, Nat.le_refl _, Nat.le_refl _, Kd.C_nil _ _, cells71 (Kd.C_nil _ _), (HR9.out.low.setCell (p := ⟨w.heap.size, 0, none⟩) (Nat.le_refl _) _).setCell (p := ⟨w.heap.size, 1, none⟩) (Nat.le_refl _) _⟩
          · rw [hrc] at HRC
            have HF : Hid (GC = (ls, l, 0)) := Lib.hid (by rw [HGC.out, if_neg (by simp [hrc])])
            clear hrc HGC
            go_wp2_with (first
              | (go_at_call 94; (with_reducible refine (HDN.out).mono ?_); rintro e w8 ⟨rfl, nq, rfl⟩; have HG8 := Lib.hid (HGS.out.below (pw_below_drewN (Below.refl _ _) nq)))
              | (go_at_call 58; (with_reducible refine (HRC.out _ HG8.out).mono ?_); rintro e w9 ⟨rfl, hb⟩; have HR9 := Lib.hid (HG8.out.below hb); have g0 := HR9.out.res.frozen 0; have g1 := HR9.out.res.frozen 1; have y0 := HR9.out.res.cell 0 _ rfl; have y1 := HR9.out.res.cell 1 _ rfl; have z0 := HR9.out.ch.cell 0 _ rfl; have z1 := HR9.out.ch.cell 1 _ rfl; clear hb x0 x1))
            have q : Blk ((w9.setCell ⟨w.heap.size, 0, none⟩ (.slice al ls.length cl)).setCell ⟨w.heap.size, 1, none⟩ (.slice A2 l.length c2)) w.heap.size #[.slice al ls.length cl, .slice A2 l.length c2] 50 := by
              have := (HR9.out.res.set 0 (.slice al ls.length cl)).set 1 (.slice A2 l.length c2)
              simpa using this
            refine bodyPost_ret (results_ct (P := Tryd.prog) rfl _ _ w.heap.size 50 #[.slice al ls.length cl, .slice A2 l.length c2] (0, 0) _ rfl q.out Tryd.underlying50 rfl (by kernel_rfl)) rfl ?_
            rw [HF.out]
            have o1 := HR9.out.o1
            have o2 := HR9.out.o2
            have o3 := HR9.out.o3
            have hn1 : ∀ u, ((w9.setCell ⟨w.heap.size, 0, none⟩ (.slice al ls.length cl)).setCell ⟨w.heap.size, 1, none⟩ u).ownsRow (g + 1) 112 2 (.slice al ls.length cl) ls.length (lcells ls) := fun u =>
              ownsRow_setCell_other (ownsRow_setCell_other HR9.out.labs (fun e => by have := own_ge HR9.out.labs e; simp only at this; omega) _) (fun e => by have := own_ge HR9.out.labs e; simp only at this; omega) _
            have hn2 : ∀ u, ((w9.setCell ⟨w.heap.size, 0, none⟩ (.slice al ls.length cl)).setCell ⟨w.heap.size, 1, none⟩ u).ownsRow (R + 1) 93 3 (.slice A2 l.length c2) l.length (rcells l) := fun u =>
              ownsRow_setCell_other (ownsRow_setCell_other HR9.out.rows (fun e => by have := own_ge HR9.out.rows e; simp only at this; omega) _) (fun e => by have := own_ge HR9.out.rows e; simp only at this; omega) _
            exact ⟨al, cl, A2, c2, rfl, (RS.own_cap (hn1 (.slice A2 l.length c2))), hc2, C_lab (by show ls.length ≤ _; omega) (own_rowC (hn1 _)), own_rowC (hn2 _), (HR9.out.low.setCell (p := ⟨w.heap.size, 0, none⟩) (Nat.le_refl _) _).setCell (p := ⟨w.heap.size, 1, none⟩) (Nat.le_refl _) _⟩
        · have hne : (dn != 0) = true := by simp [hdn]
          have HF : Hid (GC = ([], [], 21)) := Lib.hid (by rw [HGC.out, if_pos (.inl hdn)])
          clear hdn HGC
          go_wp2_with (go_at_call 94; (with_reducible refine (HDN.out).mono ?_); rintro e w8 ⟨rfl, nq, rfl⟩; have HR9 := Lib.hid (HGS.out.below (pw_below_drewN (Below.refl _ _) nq)); have g0 := HR9.out.res.frozen 0; have g1 := HR9.out.res.frozen 1; have y0 := HR9.out.res.cell 0 _ rfl; have y1 := HR9.out.res.cell 1 _ rfl)
          have q : Blk (((wr.drewN nq).setCell ⟨w.heap.size, 0, none⟩ (.slice none 0 0)).setCell ⟨w.heap.size, 1, none⟩ (.slice none 0 0)) w.heap.size #[.slice none 0 0, .slice none 0 0] 50 := by
            have := (HR9.out.res.set 0 (.slice none 0 0)).set 1 (.slice none 0 0)
            simpa using this
          refine bodyPost_ret (results_ct (P := Tryd.prog) rfl _ _ w.heap.size 50 #[.slice none 0 0, .slice none 0 0] (0, 0) _ rfl q.out Tryd.underlying50 rfl (by kernel_rfl)) rfl ?_
          rw [HF.out]
          exact ⟨none, 0, none, 0, rfl, Nat.le_refl _, Nat.le_refl _, Kd.C_nil _ _, cells71 (Kd.C_nil _ _), (HR9.out.low.setCell (p := ⟨w.heap.size, 0, none⟩) (Nat.le_refl _) _).setCell (p := ⟨w.heap.size, 1, none⟩) (Nat.le_refl _) _⟩
      · have HF : Hid (GC = ([], [], 21)) := Lib.hid (by rw [HGC.out, hno])
        clear hno HGC hG HI
        have HN6 : Hid (∀ W, RefAt W g b er → Calls Tryd.prog 94 #[.pointer (some ⟨g, 0, none⟩)] W fun e w' => e = .returned (.int .i64 er) ∧ ∃ n, w' = W.drewN n) := Lib.hid (fun W h => by have := rdone_any g b er W h; rwa [show doneG b er = er by unfold doneG; rw [if_pos her]] at this)
        have hne2 : (er != 0) = true := by simp [her]
        have heq0 : decide (er = 0) = false := decide_eq_false her
        have heq1 : (er == 0) = false := by simp [her]
        have HER := Lib.hid her
        clear her
        go_wp2_with (go_at_call 94; (with_reducible refine (HN6.out _ HGS.out.dec).mono ?_); rintro e w8 ⟨rfl, nq, rfl⟩; have HR9 := Lib.hid (HGS.out.below (pw_below_drewN (Below.refl _ _) nq)); have g0 := HR9.out.res.frozen 0; have g1 := HR9.out.res.frozen 1; have y0 := HR9.out.res.cell 0 _ rfl; have y1 := HR9.out.res.cell 1 _ rfl)
        have q : Blk (((wr.drewN nq).setCell ⟨w.heap.size, 0, none⟩ (.slice none 0 0)).setCell ⟨w.heap.size, 1, none⟩ (.slice none 0 0)) w.heap.size #[.slice none 0 0, .slice none 0 0] 50 := by
          have := (HR9.out.res.set 0 (.slice none 0 0)).set 1 (.slice none 0 0)
          simpa using this
        refine bodyPost_ret (results_ct (P := Tryd.prog) rfl _ _ w.heap.size 50 #[.slice none 0 0, .slice none 0 0] (0, 0) _ rfl q.out Tryd.underlying50 rfl (by kernel_rfl)) rfl ?_
        rw [HF.out]
        exact ⟨none, 0, none, 0, rfl, Nat.le_refl _, Nat.le_refl _, Kd.C_nil _ _, cells71 (Kd.C_nil _ _), (HR9.out.low.setCell (p := ⟨w.heap.size, 0, none⟩) (Nat.le_refl _) _).setCell (p := ⟨w.heap.size, 1, none⟩) (Nat.le_refl _) _⟩
end Go.Proofs.YtojocffjajcdmaaDoor.RF
